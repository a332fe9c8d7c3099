/- The operations' rule over a program's tables, and its soundness: what it asks suffices for the model's own step. -/
import Derived.Test.YtdolepapmpcpiaaVOps
namespace Go.Proofs.Ytdolepapmpcpiaa
open Go Go.MapKept
set_option linter.unusedSectionVars false
variable [Base]
set_option linter.unusedVariables false
set_option linter.unusedSimpArgs false

def zeroV (P : Program) (t : TypeId) : Option Value := (P.info? t).bind (·.zero)
def lay (P : Program) (t : TypeId) : Option (Option Nat) :=
  match P.info? t, P.underlying t with
  | some i, some d => some (if isAggD d then some i.size else none)
  | _, _ => none
/-- An element type: cells, bytes, the zero value's cells. -/
def elemI (P : Program) (t : TypeId) : Option (Nat × Nat × Array Value) :=
  match P.info? t with
  | some i => match i.zero with
    | some z => some (i.size, i.bytes, z.cells)
    | none => none
  | none => none
def planOf (places : List (Nat × Nat)) : List (Nat × Operand) → Option (List (Nat × Nat × Operand))
  | [] => some []
  | (i, x) :: r => match places[i]?, planOf places r with
    | some (o, s), some l => some ((o, s, x) :: l)
    | _, _ => none
def fieldPlaces (P : Program) : List Field → Option (List (Nat × Nat))
  | [] => some []
  | f :: r => match P.info? f.type, fieldPlaces P r with
    | some i, some l => some ((f.offset, i.size) :: l)
    | _, _ => none
def elPlan (sz len : Nat) : List (Nat × Operand) → List (Nat × Nat × Operand)
  | [] => []
  | (i, x) :: r => (i * sz, sz, x) :: elPlan sz len r
/-- n copies of the zero's cells. -/
def zerosN (z : Array Value) : Nat → List Value
  | 0 => []
  | n + 1 => z.toList ++ zerosN z n
/-- Which cells '==' holds against each other, and of which kinds. -/
def eqPlan (P : Program) : Nat → TypeId → Nat → Option (List (Nat × TypeDesc))
  | 0, _, _ => none
  | d + 1, t, off =>
    match P.underlying t with
    | some (.int k) => some [(off, .int k)]
    | some .string => some [(off, .string)]
    | some .bool => some [(off, .bool)]
    | some (.struct fs) =>
      match P.stoodInHeld t, P.info? t with
      | false, some i => fs.toList.foldr (fun f acc => if f.name ≠ "_" then
          (match P.info? f.type, eqPlan P d f.type (off + f.offset), acc with
            | some j, some l, some r => if f.offset + j.size ≤ i.size ∧ f.offset < i.size then some (l ++ r) else none
            | _, _, _ => none) else acc) (some [])
      | _, _ => none
    | _ => none
def eqPlanTop (P : Program) (t : TypeId) : Option (List (Nat × TypeDesc)) :=
  match P.underlying t with
  | some (.struct _) => if P.eqGuardType P.depth t then none else eqPlan P 20 t 0
  | _ => none
def scal (d : TypeDesc) : Bool :=
  match d with
  | .int _ | .string => true
  | _ => false
def dcls (d : TypeDesc) : Option Nat :=
  match d with
  | .bool => some 0
  | .pointer _ => some 1
  | .slice _ => some 2
  | .map _ _ => some 3
  | .struct _ => some 4
  | _ => none

def aBuiltin (P : Program) (b : Builtin) (ats : List TypeId) (args : List Value) (h : Hp) (K : Kont) : Prop :=
  match b, ats, args with
  | .len, [t], [x] =>
    match P.underlying t with
    | some (.slice _) => oLen 0 x h K
    | some .string => oLen 1 x h K
    | some (.map _ _) => oLen 2 x h K
    | some (.array n _) => K (.int .i64 n) h
    | _ => False
  | .cap, [t], [x] =>
    match P.underlying t with
    | some (.slice _) => oCap x h K
    | _ => False
  | .append, [t, u], [s, x] =>
    match P.underlying t, P.underlying u with
    | some (.slice e), some (.slice _) | some (.slice e), some .string =>
      match elemI P e with
      | some (sz, bytes, z) => if bytes = 0 then False else oAppend sz bytes z s x h K
      | none => False
    | _, _ => False
  | .copy, [t, _], [d, s] =>
    match P.underlying t with
    | some (.slice e) =>
      match elemI P e with
      | some (sz, _, _) => oCopy sz d s h K
      | none => False
    | _ => False
  | .delete, [t, _], [m, k] =>
    match P.underlying t with
    | some (.map kt _) =>
      match P.underlying kt with
      | some d => if keyD d then oDelete d m k h K else False
      | none => False
    | _ => False
  | .clear, [t], [x] =>
    match P.underlying t with
    | some (.map _ _) => oClearMap x h K
    | some (.slice e) =>
      match elemI P e with
      | some (sz, _, z) => oClearSlice sz z x h K
      | none => False
    | _ => False
  | .min, _, args => oMinMax false args h K
  | .max, _, args => oMinMax true args h K
  | _, _, _ => False

def aop (P : Program) (o : Oper) (ρ : Operand → Value) (h : Hp) (K : Kont) : Prop :=
  match o.op with
  | .move x => K (ρ x) h
  | .assign x => K (ρ x) h
  | .pick c a b => oPick (ρ c) (ρ a) (ρ b) h K
  | .alloc t => match zeroV P t with
    | some z => oAlloc z.cells h K
    | none => False
  | .box _ x => oBox (ρ x) h K
  | .build t ps =>
    match zeroV P t, P.underlying t with
    | some z, some (.struct fs) =>
      match fieldPlaces P fs.toList with
      | some places =>
        match planOf places ps.toList with
        | some l => oBuild z.cells (l.map fun p => (p.1, p.2.1, ρ p.2.2)) h K
        | none => False
      | none => False
    | some z, some (.array _ e) =>
      match P.info? e with
      | some i => oBuild z.cells ((elPlan i.size 0 ps.toList).map fun p => (p.1, p.2.1, ρ p.2.2)) h K
      | none => False
    | _, _ => False
  | .buildSlice t n ps =>
    match P.underlying t with
    | some (.slice e) =>
      match elemI P e with
      | some (sz, _, z) => if z.size = sz ∧ n * sz ≤ 16777216 then oBuildSlice (zerosN z n).toArray n ((elPlan sz n ps.toList).map fun p => (p.1, p.2.1, ρ p.2.2)) h K else False
      | none => False
    | _ => False
  | .load t x =>
    match lay P t with
    | some none => oLd1 (ρ x) h K
    | some (some n) => oLdN n (ρ x) h K
    | none => False
  | .store t x v =>
    match P.info? t with
    | some i => oSt i.size (ρ x) (ρ v) h K
    | none => False
  | .nilCheck x => oNilCheck (ρ x) h K
  | .binOp op t x y _ =>
    match op with
    | .eql | .neq =>
      match P.underlying t with
      | some d =>
        if scal d then oBin op (ρ x) (ρ y) h K else
        match dcls d with
        | some c => oEq c (match op with | .neq => true | _ => false) (eqPlanTop P t) (ρ x) (ρ y) h K
        | none => False
      | none => False
    | _ => oBin op (ρ x) (ρ y) h K
  | .unOp op _ x =>
    match op with
    | .not => oNot (ρ x) h K
    | .neg => oNeg (ρ x) h K
    | _ => False
  | .convert s d x =>
    match P.underlying s, P.underlying d with
    | some (.int _), some (.int k) => oConvInt k (ρ x) h K
    | _, _ => False
  | .makeFunc fn first cap => K (.func fn (first.toList.map ρ).toArray (cap.toList.map ρ).toArray) h
  | .makeMap t r =>
    match r with
    | none => oMakeMap h K
    | some _ => False
  | .makeSlice t l c =>
    match P.underlying t with
    | some (.slice e) =>
      match elemI P e with
      | some (sz, bytes, z) => oMakeSlice sz bytes z (ρ l) (ρ c) h K
      | none => False
    | _ => False
  | .slice t x lo hi mx =>
    match P.underlying t with
    | some (.slice e) =>
      match P.info? e with
      | some i => oSlice 0 i.size (ρ x) (lo.map ρ) (hi.map ρ) (mx.map ρ) h K
      | none => False
    | some .string => oSlice 1 1 (ρ x) (lo.map ρ) (hi.map ρ) (mx.map ρ) h K
    | _ => False
  | .fieldAddr s x f =>
    match P.underlying s with
    | some (.struct fs) =>
      match fs[f]? with
      | some fl =>
        match P.info? fl.type with
        | some i => if i.size = 0 then False else oFieldAddr fl.offset (ρ x) h K
        | none => False
      | none => False
    | _ => False
  | .field t x f =>
    match P.underlying t with
    | some (.struct fs) =>
      match fs[f]? with
      | some fl =>
        match lay P fl.type with
        | some n => oField fl.offset n (ρ x) h K
        | none => False
      | none => False
    | _ => False
  | .indexAddr t x i =>
    match P.underlying t with
    | some (.slice e) =>
      match P.info? e with
      | some j => oIdxS j.size (ρ x) (ρ i) h K
      | none => False
    | some (.array n e) =>
      match P.info? e with
      | some j => oIdxA j.size n (ρ x) (ρ i) h K
      | none => False
    | _ => False
  | .index t x i =>
    match P.underlying t with
    | some (.array n e) =>
      match P.info? e, lay P e with
      | some j, some l => oIndexArr j.size n l (ρ x) (ρ i) h K
      | _, _ => False
    | some .string => oIndexStr (ρ x) (ρ i) h K
    | _ => False
  | .lookup t m k ok =>
    match P.underlying t with
    | some (.map kt et) =>
      match P.underlying kt, zeroV P et with
      | some d, some z => if keyD d then oLookup d z (ρ m) (ρ k) ok h K else False
      | _, _ => False
    | _ => False
  | .mapUpdate t m k v =>
    match P.underlying t with
    | some (.map kt _) =>
      match P.underlying kt with
      | some d => if keyD d then oMapUpdate d (ρ m) (ρ k) (ρ v) h K else False
      | none => False
    | _ => False
  | .insert t m k v =>
    match P.underlying t with
    | some (.map kt _) =>
      match P.underlying kt with
      | some d => if keyD d then oMapUpdate d (ρ m) (ρ k) (ρ v) h K else False
      | none => False
    | _ => False
  | .extract x i => oExtract (ρ x) i h K
  | .call c =>
    match c.callee with
    | .value (.func f) => if canEnter P f then AC P f (c.args.toList.map ρ).toArray h K else False
    | .value x => oCallV P (ρ x) (c.args.toList.map ρ) h K
    | .builtin b => aBuiltin P b c.argTypes.toList (c.args.toList.map ρ) h K
    | .invoke _ _ => False
  | _ => False

variable {P : Program}

theorem zipIdx_setL (off : Nat) : ∀ (l : List Value) (cs : Array Value) (j : Nat), (l.zipIdx j).foldl (fun cs (c, j) => cs.setIfInBounds (off + j) c) cs = setL cs (off + j) l
  | [], _, _ => rfl
  | v :: l, cs, j => by
    simp only [List.zipIdx_cons, List.foldl_cons, setL]
    rw [zipIdx_setL off l _ (j + 1)]
    rfl
theorem cells_fold (cs : Array Value) (off : Nat) (v : Value) : v.cells.zipIdx.foldl (fun cs (c, j) => cs.setIfInBounds (off + j) c) cs = setL cs off v.cells.toList := by
  rw [← Array.foldl_toList, Array.toList_zipIdx]
  exact zipIdx_setL off v.cells.toList cs 0

theorem fill_step {place : Nat → Option (Nat × Nat)} {i o s : Nat} {v : Value} {cs : Array Value} {r : List (Nat × Value)} (h1 : place i = some (o, s)) (hc : v.cells.size = s ∧ o + s ≤ cs.size) :
    Instr.fill place cs ((i, v) :: r) = Instr.fill place (setL cs o v.cells.toList) r := by
  simp only [Instr.fill, h1]
  have h2 : (v.cells.size ≠ s || o + v.cells.size > cs.size) = false := by
    simp only [ne_eq, Bool.or_eq_false_iff, decide_eq_false_iff_not, Decidable.not_not, gt_iff_lt, Nat.not_lt]
    omega
  simp only [h2, Bool.false_eq_true, if_false, cells_fold]
theorem fill_plan (ρ : Operand → Value) {places : List (Nat × Nat)} : ∀ {ps : List (Nat × Operand)} {l : List (Nat × Nat × Operand)} {cs cs' : Array Value}, planOf places ps = some l →
    bfill cs (l.map fun p => (p.1, p.2.1, ρ p.2.2)) = some cs' → Instr.fill (places[·]?) cs (ps.map fun p => (p.1, ρ p.2)) = some cs'
  | [], l, cs, cs', h, hb => by simp [planOf] at h; subst h; simpa [bfill, Instr.fill] using hb
  | (i, x) :: r, l, cs, cs', h, hb => by
    simp only [planOf] at h
    split at h
    · rename_i o s l' h1 h2
      cases h
      simp only [List.map_cons, bfill] at hb
      split at hb
      · rename_i hc
        rw [List.map_cons, fill_step h1 hc]
        exact fill_plan ρ h2 hb
      · cases hb
    · cases h
theorem fill_el (ρ : Operand → Value) {sz len : Nat} : ∀ {ps : List (Nat × Operand)} {cs cs' : Array Value},
    bfill cs ((elPlan sz len ps).map fun p => (p.1, p.2.1, ρ p.2.2)) = some cs' → Instr.fill (fun i => some (i * sz, sz)) cs (ps.map fun p => (p.1, ρ p.2)) = some cs'
  | [], cs, cs', hb => by simpa [bfill, Instr.fill, elPlan] using hb
  | (i, x) :: r, cs, cs', hb => by
    simp only [elPlan, List.map_cons, bfill] at hb
    split at hb
    · rename_i hc
      rw [List.map_cons, fill_step (place := fun i => some (i * sz, sz)) rfl hc]
      exact fill_el ρ hb
    · cases hb
theorem run_fieldPlaces {w : World} : ∀ {fs : List Field} {l : List (Nat × Nat)}, fieldPlaces P fs = some l → (fs.mapM fun f => do pure (f.offset, ← sizeOf f.type) : Sem (List (Nat × Nat))).run P w = .ok l w
  | [], l, h => by simp [fieldPlaces] at h; subst h; simp
  | f :: r, l, h => by
    simp only [fieldPlaces] at h
    split at h
    · rename_i i l' h1 h2
      cases h
      simp only [List.mapM_cons, Sem.run_bind, run_sizeOf' h1, Result.andThen, Sem.run_pure, run_fieldPlaces h2]
    · cases h

theorem toList_map_toArray (c : Array Operand) (ρ : Operand → Value) : (c.toList.map ρ).toArray = c.map ρ := by
  apply Array.ext'
  simp

theorem run_placesA {w : World} {fs : Array Field} {l : List (Nat × Nat)} (h : fieldPlaces P fs.toList = some l) : (fs.mapM fun f => do pure (f.offset, ← sizeOf f.type) : Sem (Array (Nat × Nat))).run P w = .ok l.toArray w := by
  rw [Array.mapM_eq_mapM_toList, Sem.run_map, run_fieldPlaces h]
  rfl

theorem eqL_append (xs ys : List Value) : ∀ (l r : List (Nat × TypeDesc)), eqL (l ++ r) xs ys = match eqL l xs ys with | some true => eqL r xs ys | o => o
  | [], r => by simp [eqL]
  | (i, d) :: l, r => by
    simp only [List.cons_append, eqL]
    cases xs[i]? with
    | none => rfl
    | some a =>
      cases ys[i]? with
      | none => rfl
      | some b =>
        simp only
        cases Instr.sameNow d a b with
        | none => rfl
        | some c => cases c <;> simp [eqL_append xs ys l r]
theorem part_sub {w : World} {T : TypeId} {j : TypeInfo} {dT : TypeDesc} (hj : P.info? T = some j) (hd : P.underlying T = some dT) (xs : Array Value) {off n fo : Nat} (h1 : fo + j.size ≤ n) (h2 : fo < n) :
    (part T (xs.extract off (off + n)) fo).run P w = (part T xs (off + fo)).run P w := by
  unfold part
  simp only [Sem.run_bind, run_isAgg' hd, Result.andThen]
  cases isAggD dT with
  | true =>
    simp only [if_true, Sem.run_bind, run_sizeOf' hj, Result.andThen, Sem.run_pure]
    rw [Array.extract_extract]
    congr 3
    omega
  | false =>
    simp only [Bool.false_eq_true, if_false, Array.getElem?_extract]
    have : (if fo < min (off + n) xs.size - off then xs[off + fo]? else none) = xs[off + fo]? := by
      split
      · rfl
      · rename_i hh
        rw [Array.getElem?_eq_none (by omega)]
    rw [this]
theorem underlying_of_info {t : TypeId} {L : List (Nat × TypeDesc)} {d off : Nat} (h : eqPlan P d t off = some L) : ∃ dT, P.underlying t = some dT := by
  cases d with
  | zero => simp [eqPlan] at h
  | succ d =>
    cases hu : P.underlying t with
    | none => simp [eqPlan, hu] at h
    | some dT => exact ⟨dT, rfl⟩
theorem sameNow_equal {w : World} {t : TypeId} {dT : TypeDesc} (hu : P.underlying t = some dT) {a b : Value} {r : Bool} (h : Instr.sameNow dT a b = some r) (d : Nat) : (Op.equalIn (d + 1) t a b).run P w = .ok r w := by
  unfold Instr.sameNow at h
  split at h
  · split at h
    · rename_i e; subst e; cases h; exact run_equalIn_int w d t _ _ _ _ hu
    · cases h
  · cases h; rw [run_equalIn_string w d t _ _ hu, beq_toListBytes]
  · cases h; exact run_equalIn_bool' w d t _ _ hu
  · cases h
theorem eqL_scal {w : World} {t : TypeId} {dT : TypeDesc} (hu : P.underlying t = some dT) (hs : isAggD dT = false) {xs ys : Array Value} {off : Nat} {b : Bool} (he : eqL [(off, dT)] xs.toList ys.toList = some b) (d : Nat) :
    ∃ px py, (part t xs off).run P w = .ok px w ∧ (part t ys off).run P w = .ok py w ∧ (Op.equalIn (d + 1) t px py).run P w = .ok b w := by
  simp only [eqL, Array.getElem?_toList] at he
  cases hx : xs[off]? with
  | none => simp [hx] at he
  | some x =>
    cases hy : ys[off]? with
    | none => simp [hx, hy] at he
    | some y =>
      simp only [hx, hy] at he
      refine ⟨x, y, ?_, ?_, ?_⟩
      · simp [part, run_isAgg' hu, hs, hx]
      · simp [part, run_isAgg' hu, hs, hy]
      · refine sameNow_equal hu ?_ d
        cases hsn : Instr.sameNow dT x y with
        | none => simp [hsn] at he
        | some c => cases c <;> simp [hsn] at he <;> simp [← he]
theorem eqL_run {w : World} (xs ys : Array Value) : ∀ (d : Nat) (t : TypeId) (off : Nat) (L : List (Nat × TypeDesc)) (b : Bool), eqPlan P d t off = some L → eqL L xs.toList ys.toList = some b → ∀ (d' : Nat), d ≤ d' →
    ∃ px py, (part t xs off).run P w = .ok px w ∧ (part t ys off).run P w = .ok py w ∧ (Op.equalIn d' t px py).run P w = .ok b w
  | 0, t, off, L, b, h, _, _, _ => by simp [eqPlan] at h
  | d + 1, t, off, L, b, h, he, d', hd' => by
    obtain ⟨d'', rfl⟩ : ∃ m, d' = m + 1 := ⟨d' - 1, by omega⟩
    obtain ⟨dT, hu⟩ := underlying_of_info h
    simp only [eqPlan, hu] at h
    cases dT <;> simp only [reduceCtorEq] at h
    · cases h; exact eqL_scal hu rfl he d''
    · cases h; exact eqL_scal hu rfl he d''
    · cases h; exact eqL_scal hu rfl he d''
    · rename_i fs
      cases hst : P.stoodInHeld t with
      | true => simp [hst] at h
      | false =>
        cases hi : P.info? t with
        | none => simp [hst, hi] at h
        | some i =>
          simp only [hst, hi] at h
          refine ⟨.agg (xs.extract off (off + i.size)), .agg (ys.extract off (off + i.size)), ?_, ?_, ?_⟩
          · simp [part, run_isAgg' hu, isAggD, run_sizeOf' hi]
          · simp [part, run_isAgg' hu, isAggD, run_sizeOf' hi]
          · have hu' : P.underlying t = some (.struct (P.fieldsOf t)) := by simp [Program.fieldsOf, hu]
            rw [run_equalIn_struct w d'' t _ _ hu' hst]
            have hfs : P.fieldsOf t = fs := by simp [Program.fieldsOf, hu]
            rw [hfs]
            generalize fs.toList = l at h
            clear hfs hu' hu
            induction l generalizing L b with
            | nil => simp at h; subst h; simp [eqL] at he; subst he; simp [Op.eqFields]
            | cons f l ih =>
              simp only [List.foldr_cons] at h
              by_cases hf : f.name ≠ "_"
              · rw [if_pos hf] at h
                cases hj : P.info? f.type with
                | none => simp [hj] at h
                | some j =>
                  cases hl : eqPlan P d f.type (off + f.offset) with
                  | none => simp [hj, hl] at h
                  | some lf =>
                    generalize hr : List.foldr _ (some []) l = acc at h ih
                    cases acc with
                    | none => simp [hj, hl] at h
                    | some r =>
                      simp only [hj, hl] at h
                      split at h
                      · rename_i hc
                        cases h
                        rw [eqL_append] at he
                        obtain ⟨dF, huF⟩ := underlying_of_info hl
                        cases hel : eqL lf xs.toList ys.toList with
                        | none => simp [hel] at he
                        | some bf =>
                          obtain ⟨px, py, h1, h2, h3⟩ := eqL_run (w := w) xs ys d f.type (off + f.offset) lf bf hl hel d'' (by omega)
                          simp only [Op.eqFields, if_pos hf, Sem.run_bind, part_sub hj huF xs hc.1 hc.2, part_sub hj huF ys hc.1 hc.2, h1, h2, h3, Result.andThen]
                          cases bf with
                          | false => simp [hel] at he; subst he; simp
                          | true => simp [hel] at he; simpa using ih r b he rfl
                      · cases h
              · rw [if_neg hf] at h
                simp only [Op.eqFields, if_neg hf]
                exact ih L b he h

/-- The whole. -/
theorem eqTop_run {w : World} {t : TypeId} {fs : Array Field} (hu : P.underlying t = some (.struct fs)) (xs ys : Array Value) {d : Nat} {L : List (Nat × TypeDesc)} {b : Bool} (h : eqPlan P (d + 1) t 0 = some L)
    (he : eqL L xs.toList ys.toList = some b) (d'' : Nat) (hd' : d ≤ d'') : (Op.equalIn (d'' + 1) t (.agg xs) (.agg ys)).run P w = .ok b w := by
  simp only [eqPlan, hu] at h
  cases hst : P.stoodInHeld t with
  | true => simp [hst] at h
  | false =>
    cases hi : P.info? t with
    | none => simp [hst, hi] at h
    | some i =>
      simp only [hst, hi] at h
      have hu' : P.underlying t = some (.struct (P.fieldsOf t)) := by simp [Program.fieldsOf, hu]
      rw [run_equalIn_struct w d'' t _ _ hu' hst]
      have hfs : P.fieldsOf t = fs := by simp [Program.fieldsOf, hu]
      rw [hfs]
      generalize fs.toList = l at h
      clear hfs hu' hu
      induction l generalizing L b with
      | nil => simp at h; subst h; simp [eqL] at he; subst he; simp [Op.eqFields]
      | cons f l ih =>
        simp only [List.foldr_cons] at h
        by_cases hf : f.name ≠ "_"
        · rw [if_pos hf] at h
          cases hj : P.info? f.type with
          | none => simp [hj] at h
          | some j =>
            cases hl : eqPlan P d f.type (0 + f.offset) with
            | none => simp only [hj, hl] at h; cases h
            | some lf =>
              generalize hr : List.foldr _ (some []) l = acc at h ih
              cases acc with
              | none => simp only [hj, hl] at h; cases h
              | some r =>
                simp only [hj, hl] at h
                split at h
                · rename_i hc
                  cases h
                  rw [eqL_append] at he
                  cases hel : eqL lf xs.toList ys.toList with
                  | none => simp [hel] at he
                  | some bf =>
                    obtain ⟨px, py, h1, h2, h3⟩ := eqL_run (w := w) xs ys d f.type (0 + f.offset) lf bf hl hel d'' (by omega)
                    rw [Nat.zero_add] at h1 h2
                    simp only [Op.eqFields, if_pos hf, Sem.run_bind, h1, h2, h3, Result.andThen]
                    cases bf with
                    | false => simp [hel] at he; subst he; simp
                    | true => simp [hel] at he; simpa using ih he rfl
                · cases h
        · rw [if_neg hf] at h
          simp only [Op.eqFields, if_neg hf]
          exact ih he h

theorem eqIn_ptr1 {w : World} {t e : TypeId} (hd : P.underlying t = some (.pointer e)) (a : Option Addr) (d : Nat) : (Op.equalIn (d + 1) t (.pointer a) (.pointer none)).run P w = .ok a.isNone w := by cases a <;> simp [Op.equalIn, run_underlying' hd]
theorem eqIn_ptr2 {w : World} {t e : TypeId} (hd : P.underlying t = some (.pointer e)) (a : Option Addr) (d : Nat) : (Op.equalIn (d + 1) t (.pointer none) (.pointer a)).run P w = .ok a.isNone w := by simp [Op.equalIn, run_underlying' hd]
theorem eqIn_sl {w : World} {t e : TypeId} (hd : P.underlying t = some (.slice e)) (a : Option Addr) (n1 n2 n3 n4 d : Nat) : (Op.equalIn (d + 1) t (.slice a n1 n2) (.slice none n3 n4)).run P w = .ok a.isNone w := by cases a <;> simp [Op.equalIn, run_underlying' hd]
theorem eqIn_map {w : World} {t e k : TypeId} (hd : P.underlying t = some (.map k e)) (a : Option Nat) (d : Nat) : (Op.equalIn (d + 1) t (.map a) (.map none)).run P w = .ok a.isNone w := by cases a <;> simp [Op.equalIn, run_underlying' hd]

end Go.Proofs.Ytdolepapmpcpiaa
