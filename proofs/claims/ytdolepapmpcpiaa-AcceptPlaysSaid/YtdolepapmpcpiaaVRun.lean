/- Runs of the model's small steps, told on the seen heap: cells read and written, maps asked and written. No program in sight. -/
import Derived.Test.YtdolepapmpcpiaaVBase
import Derived.Laws.Sem
import Derived.Laws.Cells
import Derived.Laws.Append
import Derived.Laws.MakeOwn
namespace Go.Proofs.Ytdolepapmpcpiaa
open Go Go.MapKept
set_option linter.unusedSectionVars false
variable [Base]
set_option linter.unusedVariables false
set_option linter.unusedSimpArgs false

variable {P : Program}

theorem add0 (b i j : Nat) : (⟨b, i, none⟩ : Addr).add j = ⟨b, i + j, none⟩ := by
  unfold Addr.add
  split
  · rename_i h; subst h; rfl
  · rfl

theorem rdN_get {h : Hp} {b : Nat} : ∀ (n i : Nat) (vs : List Value), rdN h b i n = some vs → vs.length = n ∧ ∀ j v, vs[j]? = some v → rdC h b (i + j) = some v
  | 0, i, vs, e => by simp [rdN] at e; subst e; simp
  | n + 1, i, vs, e => by
    simp only [rdN, Option.bind_eq_some_iff, Option.map_eq_some_iff] at e
    obtain ⟨v, hv, ws, hw, rfl⟩ := e
    obtain ⟨h1, h2⟩ := rdN_get n (i + 1) ws hw
    refine ⟨by simp [h1], ?_⟩
    intro j u hj
    cases j with
    | zero => simp at hj; subst hj; simpa using hv
    | succ j => simp at hj; have := h2 j u hj; rwa [show i + (j + 1) = i + 1 + j by omega]

theorem run_rdN {w : World} {b i n : Nat} {vs : List Value} (h : rdN (hv w) b i n = some vs) : (loadCells ⟨b, i, none⟩ n).run P w = .ok vs.toArray w := by
  obtain ⟨h1, h2⟩ := rdN_get n i vs h
  rw [← h1]
  refine run_loadCells_list w _ vs fun j v hj => ?_
  rw [add0, ← rdC_hv]
  exact h2 j v hj

theorem one_cell {v : Value} (h : one v = true) : v.oneCell' = true := by cases v <;> simp_all [one, Value.oneCell']

theorem hv_setCell {w : World} {b i : Nat} {c : Array Value} (h : (hv w)[b]? = some (.cells c)) (v : Value) :
    hv (w.setCell ⟨b, i, none⟩ v) = (hv w).setIfInBounds b (.cells (c.setIfInBounds i v)) := by
  obtain ⟨t, ht⟩ := of_cells h
  have hlt : b < w.heap.size := (Array.getElem?_eq_some_iff.1 ht).1
  apply Array.ext_getElem?
  intro r
  by_cases hr : r = b
  · subst hr
    rw [hv_get, World.setCell, Array.getElem?_setIfInBounds_self_of_lt (by simpa [hv_size] using hlt)]
    simp only [Array.getElem?_modify, ht, if_true, Option.map_some, see_new (of_base h), abs_cells0]
    rfl
  · rw [hv_get, World.setCell]
    rw [Array.getElem?_setIfInBounds_ne (fun e => hr e.symm), hv_get]
    simp [Array.getElem?_modify, show ¬ b = r from fun e => hr e.symm]
    rfl

theorem run_storeCells : ∀ (vs : List Value) (w : World) (b i j : Nat) (c : Array Value), (hv w)[b]? = some (.cells c) → i + j + vs.length ≤ c.size → vs.all one = true →
    ∃ w', (storeCells ⟨b, i, none⟩ vs j).run P w = .ok () w' ∧ hv w' = (hv w).setIfInBounds b (.cells (setL c (i + j) vs))
  | [], w, b, i, j, c, h, _, _ => by
    refine ⟨w, by simp [storeCells], ?_⟩
    apply Array.ext_getElem?
    intro r
    by_cases hr : b = r
    · subst hr
      have := (Array.getElem?_eq_some_iff.1 h).1
      rw [Array.getElem?_setIfInBounds_self_of_lt this]
      simp [h, setL]
    · rw [Array.getElem?_setIfInBounds_ne hr]
  | v :: vs, w, b, i, j, c, h, hl, ho => by
    simp only [List.all_cons, Bool.and_eq_true] at ho
    simp only [List.length_cons] at hl
    obtain ⟨t, ht⟩ := of_cells h
    have hc : w.cell? ⟨b, i + j, none⟩ = some (c[i + j]'(by omega)) := by
      simp [World.cell?, ht, show i + j < c.size by omega]
    have hf : w.frozen? ⟨b, i + j, none⟩ = false := by simp [World.frozen?, ht]
    have hh := hv_setCell (i := i + j) h v
    have hb : b < w.heap.size := (Array.getElem?_eq_some_iff.1 ht).1
    have h' : (hv (w.setCell ⟨b, i + j, none⟩ v))[b]? = some (.cells (c.setIfInBounds (i + j) v)) := by
      rw [hh]; simp [Array.getElem?_setIfInBounds_self_of_lt, hv_size, hb]
    obtain ⟨w', hr, hw⟩ := run_storeCells vs (w.setCell ⟨b, i + j, none⟩ v) b i (j + 1) _ h' (by simp; omega) ho.2
    refine ⟨w', ?_, ?_⟩
    · simp only [storeCells, Sem.run_bind, add0, run_store P w _ v _ (one_cell ho.1), hc, hf, Bool.false_eq_true, if_false, Result.andThen]
      exact hr
    · rw [hw, hh, Array.setIfInBounds_setIfInBounds]
      rfl

theorem run_underlying' {w : World} {t : TypeId} {d : TypeDesc} (h : P.underlying t = some d) : (underlying t).run P w = .ok d w := by simp [underlying, h]
theorem run_typeInfo' {w : World} {t : TypeId} {i : TypeInfo} (h : P.info? t = some i) : (typeInfo t).run P w = .ok i w := by simp [typeInfo, h]
theorem run_sizeOf' {w : World} {t : TypeId} {i : TypeInfo} (h : P.info? t = some i) : (sizeOf t).run P w = .ok i.size w := by simp [sizeOf, typeInfo, h]
theorem run_zero' {w : World} {t : TypeId} {i : TypeInfo} {z : Value} (h : P.info? t = some i) (hz : i.zero = some z) : (zeroValue t).run P w = .ok z w := by simp [zeroValue, typeInfo, h, hz]

def isAggD : TypeDesc → Bool
  | .struct _ | .array _ _ => true
  | _ => false
theorem run_isAgg' {w : World} {t : TypeId} {d : TypeDesc} (h : P.underlying t = some d) : (isAgg t).run P w = .ok (isAggD d) w := by
  simp only [isAgg, Sem.run_bind, run_underlying' h, Result.andThen]
  cases d <;> rfl

/-! ### Maps -/

/-- Which entry has key k: its number, and what lies there. -/
def kvFind (d : TypeDesc) (k : Value) : List (Value × Value) → Nat → Option (Option (Nat × Value))
  | [], _ => some none
  | (k', v) :: r, i =>
    match Instr.sameNow d k k' with
    | some true => some (some (i, v))
    | some false => kvFind d k r (i + 1)
    | none => none

theorem findNow_kv (d : TypeDesc) (k : Value) : ∀ (es : List MapEntry) (i : Nat), Instr.findNow d k es i = kvFind d k (es.map fun e => (e.key, e.val)) i
  | [], i => rfl
  | e :: es, i => by
    simp only [Instr.findNow, List.map_cons, kvFind]
    cases Instr.sameNow d k e.key with
    | none => rfl
    | some b => cases b <;> simp [findNow_kv d k es]

theorem ba_eq (a b : ByteArray) : ((a == b) = true) ↔ a = b := by
  constructor
  · intro h
    have : a.data == b.data := h
    cases a; cases b; simp at this; simp [this]
  · rintro rfl
    show (a.data == a.data) = true
    simp
theorem sameNow_true {d : TypeDesc} {k k' : Value} (h : Instr.sameNow d k k' = some true) : k = k' := by
  unfold Instr.sameNow at h
  split at h
  · split at h
    · rename_i e; simp at h; simp [e, h]
    · cases h
  · simp only [Option.some.injEq, ba_eq] at h; rw [h]
  · simp only [Option.some.injEq, beq_iff_eq] at h; rw [h]
  · cases h
theorem sameNow_false {d : TypeDesc} {k k' : Value} (h : Instr.sameNow d k k' = some false) : k ≠ k' := by
  rintro rfl
  unfold Instr.sameNow at h
  split at h
  · split at h <;> simp at h
  · simp only [Option.some.injEq] at h; rw [(ba_eq _ _).2 rfl] at h; cases h
  · simp at h
  · cases h
theorem kvFind_none {d : TypeDesc} {k : Value} : ∀ {kv : List (Value × Value)} {i : Nat}, kvFind d k kv i = some none → ∀ p ∈ kv, p.1 ≠ k
  | [], _, _ => by simp
  | (k', v) :: r, i, h => by
    simp only [kvFind] at h
    split at h
    · cases h
    · rename_i hs
      intro p hp
      cases hp with
      | head => exact (sameNow_false hs).symm
      | tail _ hp => exact kvFind_none h p hp
    · cases h
theorem kvFind_some {d : TypeDesc} {k : Value} : ∀ {kv : List (Value × Value)} {i j : Nat} {v : Value}, kvFind d k kv i = some (some (j, v)) → i ≤ j ∧ kv[j - i]? = some (k, v)
  | [], _, _, _, h => by simp [kvFind] at h
  | (k', u) :: r, i, j, v, h => by
    simp only [kvFind] at h
    split at h
    · rename_i hs
      cases h
      simp [sameNow_true hs]
    · obtain ⟨h1, h2⟩ := kvFind_some h
      refine ⟨by omega, ?_⟩
      rw [show j - i = (j - (i + 1)) + 1 by omega]
      simpa using h2
    · cases h

/-- A kind of keys that are held against each other at once. -/
def keyD : TypeDesc → Bool
  | .int _ | .string | .bool => true
  | _ => false
theorem run_checkKey' {w : World} {e : Bool} {t : TypeId} {d : TypeDesc} (h : P.underlying t = some d) (hd : keyD d = true) (k : Value) : (Instr.checkKey e 10000 t k).run P w = .ok () w := by
  unfold Instr.checkKey
  simp only [Sem.run_bind, run_underlying' h, Result.andThen]
  cases d <;> simp_all [keyD]

theorem run_findKey' {w : World} {t : TypeId} {d : TypeDesc} (h : P.underlying t = some d) {k : Value} {es : List MapEntry} {r : Option (Nat × Value)}
    (hf : kvFind d k (es.map fun e => (e.key, e.val)) 0 = some r) : (Instr.findKey t k es).run P w = .ok r w := by
  unfold Instr.findKey
  simp only [Sem.run_bind, run_underlying' h, Result.andThen, findNow_kv, hf]
  rfl

theorem sameBits_self {d : TypeDesc} {k k' : Value} (h : Instr.sameNow d k k' = some true) : Instr.sameBits 10000 k' k = true := by
  unfold Instr.sameNow at h
  split at h
  · split at h
    · rename_i e; subst e; simp at h; subst h; simp [Instr.sameBits]
    · cases h
  · simp only [Option.some.injEq, ba_eq] at h; subst h; simp only [Instr.sameBits]; exact (ba_eq _ _).2 rfl
  · simp only [Option.some.injEq, beq_iff_eq] at h; subst h; simp [Instr.sameBits]
  · cases h
theorem kvFind_same {d : TypeDesc} {k : Value} : ∀ {kv : List (Value × Value)} {i j : Nat} {v : Value}, kvFind d k kv i = some (some (j, v)) → ∃ k', kv[j - i]? = some (k', v) ∧ Instr.sameNow d k k' = some true
  | [], _, _, _, h => by simp [kvFind] at h
  | (k', u) :: r, i, j, v, h => by
    simp only [kvFind] at h
    split at h
    · rename_i hs
      cases h
      exact ⟨k', by simp, hs⟩
    · obtain ⟨k'', h2, h3⟩ := kvFind_same h
      obtain ⟨h1, _⟩ := kvFind_some h
      refine ⟨k'', ?_, h3⟩
      rw [show j - i = (j - (i + 1)) + 1 by omega]
      simpa using h2
    · cases h

theorem hv_setObj {w : World} {r : Nat} (hb : Base.b ≤ r) (o : Obj) : hv { w with heap := w.heap.setIfInBounds r o } = (hv w).setIfInBounds r (absObj o) := by
  apply Array.ext_getElem?
  intro i
  rw [hv_get]
  simp only [Array.getElem?_setIfInBounds, hv_size]
  split
  · rename_i e
    subst e
    split
    · simp [see_new hb]
    · simp
  · rw [hv_get]; rfl

theorem run_setObj' {w : World} {r : Nat} {es : Array MapEntry} {k : Nat} (h : w.heap[r]? = some (.map es k)) (o : Obj) :
    (setObj r o).run P w = .ok () { w with heap := w.heap.setIfInBounds r o } := by
  simp [setObj, Sem.run, h]
theorem run_getObj' {w : World} {r : Nat} {es : Array MapEntry} {k : Nat} (h : w.heap[r]? = some (.map es k)) : (getObj r).run P w = .ok (.map es k) w := by
  simp [getObj, Sem.run, h]

theorem abs_map {es : Array MapEntry} {k : Nat} (h : Stamped es k) : absObj (.map es k) = .map (kvOf es) := by simp [absObj, h]

/-- 'm[k]', with ok or without. -/
theorem run_lookup' {w : World} {xt kt et : TypeId} {d : TypeDesc} {i : TypeInfo} {z : Value} (hx : P.underlying xt = some (.map kt et)) (hk : P.underlying kt = some d) (hd : keyD d = true)
    (hi : P.info? et = some i) (hz : i.zero = some z) {r : Nat} {kv : List (Value × Value)} (hm : (hv w)[r]? = some (.map kv)) {k : Value} {f : Option (Nat × Value)} (hf : kvFind d k kv 0 = some f) (ok : Bool) :
    (Instr.lookup xt (.map (some r)) k ok).run P w = .ok (match f with | some (_, v) => if ok then .tuple #[v, .bool true] else v | none => if ok then .tuple #[z, .bool false] else z) w := by
  obtain ⟨es, ck, hb, hs, rfl⟩ := of_map hm
  unfold Instr.lookup
  have hf' := run_findKey' (P := P) (w := w) (t := kt) hk (es := es.toList) (k := k) (r := f) (by simpa [kvOf] using hf)
  simp only [Sem.run_bind, run_underlying' hx, Result.andThen, run_getObj' hb, run_checkKey' hk hd, Sem.run_pure, hf']
  cases f with
  | none => simp [run_zero' hi hz]
  | some p => rfl
theorem run_lookup_nil {w : World} {xt kt et : TypeId} {d : TypeDesc} {i : TypeInfo} {z : Value} (hx : P.underlying xt = some (.map kt et)) (hk : P.underlying kt = some d) (hd : keyD d = true)
    (hi : P.info? et = some i) (hz : i.zero = some z) (k : Value) (ok : Bool) :
    (Instr.lookup xt (.map none) k ok).run P w = .ok (if ok then .tuple #[z, .bool false] else z) w := by
  unfold Instr.lookup
  have hf' := run_findKey' (P := P) (w := w) (t := kt) hk (es := []) (k := k) (r := none) rfl
  simp [run_underlying' hx, run_checkKey' hk hd, hf', run_zero' hi hz]

/-- The entries with k's set. -/
def kvPut (kv : List (Value × Value)) (f : Option (Nat × Value)) (k v : Value) : List (Value × Value) :=
  match f with
  | some (i, _) => kv.set i (k, v)
  | none => kv ++ [(k, v)]

theorem run_mapUpdate' {w : World} {xt kt et : TypeId} {d : TypeDesc} (hx : P.underlying xt = some (.map kt et)) (hk : P.underlying kt = some d) (hd : keyD d = true)
    {r : Nat} {kv : List (Value × Value)} (hm : (hv w)[r]? = some (.map kv)) {k : Value} {f : Option (Nat × Value)} (hf : kvFind d k kv 0 = some f) (v : Value) :
    ∃ w', (Instr.mapUpdate xt (.map (some r)) k v).run P w = .ok () w' ∧ hv w' = (hv w).setIfInBounds r (.map (kvPut kv f k v)) := by
  obtain ⟨es, ck, hb, hs, rfl⟩ := of_map hm
  have hf' := run_findKey' (P := P) (w := w) (t := kt) hk (es := es.toList) (k := k) (r := f) (by simpa [kvOf] using hf)
  unfold Instr.mapUpdate
  simp only [Sem.run_bind, run_underlying' hx, Result.andThen, run_getObj' hb, run_checkKey' hk hd, hf']
  cases f with
  | none =>
    refine ⟨_, run_setObj' hb _, ?_⟩
    rw [hv_setObj (of_baseM hm), abs_map]
    · simp [kvOf, kvPut]
    · exact stamped_push hs fun x hx => kvFind_none hf (x.key, x.val) (List.mem_map.2 ⟨x, hx, rfl⟩)
  | some p =>
    obtain ⟨i, u⟩ := p
    obtain ⟨k', hk1, hk2⟩ := kvFind_same hf
    simp only [Nat.sub_zero, kvOf, List.getElem?_map, Option.map_eq_some_iff, Array.getElem?_toList] at hk1
    obtain ⟨e, he, hke⟩ := hk1
    simp only [Prod.mk.injEq] at hke
    obtain ⟨rfl, rfl⟩ := hke
    have hst : (Instr.keyThatStays (((es[i]?).map (·.key)).getD k) k).run P w = .ok k w := by
      simp [Instr.keyThatStays, he, sameBits_self hk2]
    simp only [Sem.run_bind, hst, Result.andThen]
    refine ⟨_, run_setObj' hb _, ?_⟩
    have hkk := sameNow_true hk2
    rw [hv_setObj (of_baseM hm), abs_map]
    · congr 2
      apply List.ext_getElem?
      intro j
      simp only [kvOf, kvPut, Array.toList_modify, List.getElem?_map, List.getElem?_modify, List.getElem?_set, List.length_map, Array.length_toList, Array.getElem?_toList]
      by_cases hij : i = j
      · subst hij
        have hlt := (Array.getElem?_eq_some_iff.1 he).1
        simp [he, hlt]
      · simp [hij]
    · refine stamped_modify hs i _ (fun e _ => rfl) (fun e' _ he' => ?_)
      rw [he] at he'; cases he'; exact hkk

theorem run_delete' {w : World} {xt kt et ty : TypeId} {d : TypeDesc} (hx : P.underlying xt = some (.map kt et)) (hk : P.underlying kt = some d) (hd : keyD d = true)
    {r : Nat} {kv : List (Value × Value)} (hm : (hv w)[r]? = some (.map kv)) {k : Value} {f : Option (Nat × Value)} (hf : kvFind d k kv 0 = some f) (ats : Array TypeId) (ha : ats[0]? = some xt) :
    ∃ w', (Builtin.delete_ ats ty #[.map (some r), k]).run P w = .ok (.tuple #[]) w' ∧ hv w' = (hv w).setIfInBounds r (.map (match f with | some (i, _) => kv.eraseIdx i | none => kv)) := by
  obtain ⟨es, ck, hb, hs, rfl⟩ := of_map hm
  have hf' := run_findKey' (P := P) (w := w) (t := kt) hk (es := es.toList) (k := k) (r := f) (by simpa [kvOf] using hf)
  unfold Builtin.delete_
  simp only [ha, List.getElem?_toArray, List.getElem?_cons_zero, List.getElem?_cons_succ, Sem.run_bind, run_underlying' hx, Result.andThen, run_getObj' hb, run_checkKey' hk hd, hf']
  cases f with
  | none =>
    exact ⟨_, by simp only [Sem.run_bind, run_setObj' hb, Result.andThen, Sem.run_pure]; rfl, by rw [hv_setObj (of_baseM hm), abs_map hs]⟩
  | some p =>
    obtain ⟨i, u⟩ := p
    refine ⟨_, by simp only [Sem.run_bind, run_setObj' hb, Result.andThen, Sem.run_pure]; rfl, ?_⟩
    rw [hv_setObj (of_baseM hm), abs_map (stamped_erase hs i)]
    congr 2
    obtain ⟨_, hg⟩ := kvFind_some hf
    simp only [Nat.sub_zero, kvOf, List.getElem?_map, Option.map_eq_some_iff] at hg
    obtain ⟨e, he, _⟩ := hg
    have hlt : i < es.size := by simpa using (List.getElem?_eq_some_iff.1 he).1
    simp [kvOf, Array.eraseIdxIfInBounds, hlt, List.eraseIdx_eq_take_drop_succ, List.map_take, List.map_drop]

end Go.Proofs.Ytdolepapmpcpiaa
