/- Lemmas for the theorem of the last text; no condition. -/
import Derived.Calls
import Derived.Orders
import Derived.OrdersHeld
import Derived.LoopN
import Derived.KernelRfl
import Derived.MapKept
import Derived.Below
import Derived.Laws.Sem
import Derived.Laws.Cells
import Derived.Laws.Append
import Derived.Laws.MakeOwn
import Derived.Laws.StructEq
namespace Go.Proofs.Ytdolepapmpcpiaa
open Go Go.MapKept
set_option linter.unusedVariables false
set_option linter.unusedSectionVars false
/-- What lies at a block: a row of cells that may be written, a map's entries in the order in which they came, or something else. -/
inductive AObj where
  | cells (c : Array Value)
  | map (kv : List (Value × Value))
  | other (o : Obj)
  | old (o : Obj) (os : Os) (out : Array (Nat × ByteArray))
def kvOf (es : Array MapEntry) : List (Value × Value) := es.toList.map fun e => (e.key, e.val)
open Classical in
noncomputable def absObj : Obj → AObj
  | .cells c t f => if f = (0, 0) then .cells c else .other (.cells c t f)
  | .map es k => if Stamped es k then .map (kvOf es) else .other (.map es k)
  | o => .other o
abbrev Hp := Array AObj
/-- Below b lies what lay when the call that is spoken of began: it is seen whole, with the streams. -/
class Base where
  b : Nat
variable [Base]
noncomputable def see (w : World) (r : Nat) (o : Obj) : AObj := if r < Base.b then .old o w.os w.output else absObj o
noncomputable def hv (w : World) : Hp := w.heap.mapIdx (see w)
theorem hv_size (w : World) : (hv w).size = w.heap.size := by simp [hv]
theorem hv_get (w : World) (r : Nat) : (hv w)[r]? = (w.heap[r]?).map (see w r) := by simp [hv]
theorem see_eq {w w' : World} (h1 : w'.os = w.os) (h2 : w'.output = w.output) : see w' = see w := by funext r o; simp [see, h1, h2]
theorem see_new {w : World} {r : Nat} (hb : Base.b ≤ r) (o : Obj) : see w r o = absObj o := by simp [see, Nat.not_lt.2 hb]
theorem hv_push {w : World} (hb : Base.b ≤ w.heap.size) (o : Obj) : hv { w with heap := w.heap.push o } = (hv w).push (absObj o) := by
  unfold hv
  rw [Array.mapIdx_push, see_eq (w := w) (w' := { w with heap := w.heap.push o }) rfl rfl, see_new hb]
theorem abs_cells (c : Array Value) (t : TypeId) : absObj (.cells c t) = .cells c := by simp [absObj]
theorem abs_cells0 (c : Array Value) (t : TypeId) : absObj (.cells c t (0, 0)) = .cells c := by simp [absObj]
theorem of_cells {w : World} {b : Nat} {c : Array Value} (h : (hv w)[b]? = some (.cells c)) : ∃ t, w.heap[b]? = some (.cells c t (0, 0)) := by
  rw [hv_get] at h
  cases ho : w.heap[b]? with
  | none => simp [ho] at h
  | some o =>
    rw [ho] at h
    simp only [Option.map_some, Option.some.injEq, see] at h
    split at h
    · cases h
    cases o <;> simp only [absObj] at h <;> try (cases h; done)
    · split at h
      · rename_i hf; cases h; exact ⟨_, by rw [hf]⟩
      · cases h
    · split at h <;> cases h
theorem of_base {w : World} {b : Nat} {c : Array Value} (h : (hv w)[b]? = some (.cells c)) : Base.b ≤ b := by
  rw [hv_get] at h
  cases ho : w.heap[b]? with
  | none => simp [ho] at h
  | some o =>
    rw [ho] at h
    simp only [Option.map_some, Option.some.injEq, see] at h
    split at h
    · cases h
    · omega
theorem of_baseM {w : World} {b : Nat} {c : List (Value × Value)} (h : (hv w)[b]? = some (.map c)) : Base.b ≤ b := by
  rw [hv_get] at h
  cases ho : w.heap[b]? with
  | none => simp [ho] at h
  | some o =>
    rw [ho] at h
    simp only [Option.map_some, Option.some.injEq, see] at h
    split at h
    · cases h
    · omega
theorem of_map {w : World} {b : Nat} {kv : List (Value × Value)} (h : (hv w)[b]? = some (.map kv)) : ∃ es k, w.heap[b]? = some (.map es k) ∧ Stamped es k ∧ kvOf es = kv := by
  rw [hv_get] at h
  cases ho : w.heap[b]? with
  | none => simp [ho] at h
  | some o =>
    rw [ho] at h
    simp only [Option.map_some, Option.some.injEq, see] at h
    split at h
    · cases h
    cases o <;> simp only [absObj] at h <;> try (cases h; done)
    · split at h <;> cases h
    · split at h
      · rename_i hf; cases h; exact ⟨_, _, rfl, hf, rfl⟩
      · cases h
/-- The cell i of block b. -/
def rdC (h : Hp) (b i : Nat) : Option Value :=
  match h[b]? with
  | some (.cells c) => c[i]?
  | some (.other (.cells c _ _)) => c[i]?
  | some (.old (.cells c _ _) _ _) => c[i]?
  | _ => none
theorem rdC_hv (w : World) (b i : Nat) : rdC (hv w) b i = w.cell? ⟨b, i, none⟩ := by
  unfold rdC World.cell?
  rw [hv_get]
  cases ho : w.heap[b]? with
  | none => simp
  | some o =>
    by_cases hb : b < Base.b
    · simp only [Option.map_some, see, if_pos hb]
      cases o <;> simp
    simp only [Option.map_some, see, if_neg hb]
    cases o <;> simp [absObj]
    · split <;> rename_i h <;> (try split at h) <;> simp_all
    · split <;> rename_i h <;> (try split at h) <;> simp_all
/-- n cells from i on. -/
def rdN (h : Hp) (b : Nat) : Nat → Nat → Option (List Value)
  | _, 0 => some []
  | i, n + 1 => (rdC h b i).bind fun v => (rdN h b (i + 1) n).map (v :: ·)
/-- Cells from i on are set. -/
def setL (c : Array Value) (i : Nat) : List Value → Array Value
  | [] => c
  | v :: vs => setL (c.setIfInBounds i v) (i + 1) vs
theorem setL_size (vs : List Value) : ∀ (c : Array Value) (i : Nat), (setL c i vs).size = c.size := by
  induction vs with
  | nil => intro c i; rfl
  | cons v vs ih => intro c i; simp [setL, ih]
def one (v : Value) : Bool := match v with | .agg _ | .tuple _ => false | _ => true
/-- Nothing that lay has turned, but for the blocks in S; there may be more. -/
def Upd (S : Nat → Prop) (h h' : Hp) : Prop := h.size ≤ h'.size ∧ ∀ r, r < h.size → ¬ S r → h'[r]? = h[r]?
abbrev Ext (h h' : Hp) : Prop := Upd (fun _ => False) h h'
end Go.Proofs.Ytdolepapmpcpiaa

namespace Go.Proofs.Ytdolepapmpcpiaa
open Go Go.MapKept
set_option linter.unusedSectionVars false
variable [Base]
set_option linter.unusedVariables false
set_option linter.unusedSimpArgs false
variable {P : Program}
theorem add0 (b i j : Nat) : (⟨b, i, none⟩ : Addr).add j = ⟨b, i + j, none⟩ := by
  unfold Addr.add
  split
  · rename_i h; subst h; rfl
  · rfl
theorem rdN_get {h : Hp} {b : Nat} : ∀ (n i : Nat) (vs : List Value), rdN h b i n = some vs → vs.length = n ∧ ∀ j v, vs[j]? = some v → rdC h b (i + j) = some v
  | 0, i, vs, e => by simp [rdN] at e; subst e; simp
  | n + 1, i, vs, e => by
    simp only [rdN, Option.bind_eq_some_iff, Option.map_eq_some_iff] at e
    obtain ⟨v, hv, ws, hw, rfl⟩ := e
    obtain ⟨h1, h2⟩ := rdN_get n (i + 1) ws hw
    refine ⟨by simp [h1], ?_⟩
    intro j u hj
    cases j with
    | zero => simp at hj; subst hj; simpa using hv
    | succ j => simp at hj; have := h2 j u hj; rwa [show i + (j + 1) = i + 1 + j by omega]
theorem run_rdN {w : World} {b i n : Nat} {vs : List Value} (h : rdN (hv w) b i n = some vs) : (loadCells ⟨b, i, none⟩ n).run P w = .ok vs.toArray w := by
  obtain ⟨h1, h2⟩ := rdN_get n i vs h
  rw [← h1]
  refine run_loadCells_list w _ vs fun j v hj => ?_
  rw [add0, ← rdC_hv]
  exact h2 j v hj
theorem one_cell {v : Value} (h : one v = true) : v.oneCell' = true := by cases v <;> simp_all [one, Value.oneCell']
theorem hv_setCell {w : World} {b i : Nat} {c : Array Value} (h : (hv w)[b]? = some (.cells c)) (v : Value) :
    hv (w.setCell ⟨b, i, none⟩ v) = (hv w).setIfInBounds b (.cells (c.setIfInBounds i v)) := by
  obtain ⟨t, ht⟩ := of_cells h
  have hlt : b < w.heap.size := (Array.getElem?_eq_some_iff.1 ht).1
  apply Array.ext_getElem?
  intro r
  by_cases hr : r = b
  · subst hr
    rw [hv_get, World.setCell, Array.getElem?_setIfInBounds_self_of_lt (by simpa [hv_size] using hlt)]
    simp only [Array.getElem?_modify, ht, if_true, Option.map_some, see_new (of_base h), abs_cells0]
    rfl
  · rw [hv_get, World.setCell]
    rw [Array.getElem?_setIfInBounds_ne (fun e => hr e.symm), hv_get]
    simp [Array.getElem?_modify, show ¬ b = r from fun e => hr e.symm]
    rfl
theorem run_storeCells : ∀ (vs : List Value) (w : World) (b i j : Nat) (c : Array Value), (hv w)[b]? = some (.cells c) → i + j + vs.length ≤ c.size → vs.all one = true →
    ∃ w', (storeCells ⟨b, i, none⟩ vs j).run P w = .ok () w' ∧ hv w' = (hv w).setIfInBounds b (.cells (setL c (i + j) vs))
  | [], w, b, i, j, c, h, _, _ => by
    refine ⟨w, by simp [storeCells], ?_⟩
    apply Array.ext_getElem?
    intro r
    by_cases hr : b = r
    · subst hr
      have := (Array.getElem?_eq_some_iff.1 h).1
      rw [Array.getElem?_setIfInBounds_self_of_lt this]
      simp [h, setL]
    · rw [Array.getElem?_setIfInBounds_ne hr]
  | v :: vs, w, b, i, j, c, h, hl, ho => by
    simp only [List.all_cons, Bool.and_eq_true] at ho
    simp only [List.length_cons] at hl
    obtain ⟨t, ht⟩ := of_cells h
    have hc : w.cell? ⟨b, i + j, none⟩ = some (c[i + j]'(by omega)) := by
      simp [World.cell?, ht, show i + j < c.size by omega]
    have hf : w.frozen? ⟨b, i + j, none⟩ = false := by simp [World.frozen?, ht]
    have hh := hv_setCell (i := i + j) h v
    have hb : b < w.heap.size := (Array.getElem?_eq_some_iff.1 ht).1
    have h' : (hv (w.setCell ⟨b, i + j, none⟩ v))[b]? = some (.cells (c.setIfInBounds (i + j) v)) := by
      rw [hh]; simp [Array.getElem?_setIfInBounds_self_of_lt, hv_size, hb]
    obtain ⟨w', hr, hw⟩ := run_storeCells vs (w.setCell ⟨b, i + j, none⟩ v) b i (j + 1) _ h' (by simp; omega) ho.2
    refine ⟨w', ?_, ?_⟩
    · simp only [storeCells, Sem.run_bind, add0, run_store P w _ v _ (one_cell ho.1), hc, hf, Bool.false_eq_true, if_false, Result.andThen]
      exact hr
    · rw [hw, hh, Array.setIfInBounds_setIfInBounds]
      rfl
theorem run_underlying' {w : World} {t : TypeId} {d : TypeDesc} (h : P.underlying t = some d) : (underlying t).run P w = .ok d w := by simp [underlying, h]
theorem run_typeInfo' {w : World} {t : TypeId} {i : TypeInfo} (h : P.info? t = some i) : (typeInfo t).run P w = .ok i w := by simp [typeInfo, h]
theorem run_sizeOf' {w : World} {t : TypeId} {i : TypeInfo} (h : P.info? t = some i) : (sizeOf t).run P w = .ok i.size w := by simp [sizeOf, typeInfo, h]
theorem run_zero' {w : World} {t : TypeId} {i : TypeInfo} {z : Value} (h : P.info? t = some i) (hz : i.zero = some z) : (zeroValue t).run P w = .ok z w := by simp [zeroValue, typeInfo, h, hz]
def isAggD : TypeDesc → Bool
  | .struct _ | .array _ _ => true
  | _ => false
theorem run_isAgg' {w : World} {t : TypeId} {d : TypeDesc} (h : P.underlying t = some d) : (isAgg t).run P w = .ok (isAggD d) w := by
  simp only [isAgg, Sem.run_bind, run_underlying' h, Result.andThen]
  cases d <;> rfl
/-- Which entry has key k: its number, and what lies there. -/
def kvFind (d : TypeDesc) (k : Value) : List (Value × Value) → Nat → Option (Option (Nat × Value))
  | [], _ => some none
  | (k', v) :: r, i =>
    match Instr.sameNow d k k' with
    | some true => some (some (i, v))
    | some false => kvFind d k r (i + 1)
    | none => none
theorem findNow_kv (d : TypeDesc) (k : Value) : ∀ (es : List MapEntry) (i : Nat), Instr.findNow d k es i = kvFind d k (es.map fun e => (e.key, e.val)) i
  | [], i => rfl
  | e :: es, i => by
    simp only [Instr.findNow, List.map_cons, kvFind]
    cases Instr.sameNow d k e.key with
    | none => rfl
    | some b => cases b <;> simp [findNow_kv d k es]
theorem ba_eq (a b : ByteArray) : ((a == b) = true) ↔ a = b := by
  constructor
  · intro h
    have : a.data == b.data := h
    cases a; cases b; simp at this; simp [this]
  · rintro rfl
    show (a.data == a.data) = true
    simp
theorem sameNow_true {d : TypeDesc} {k k' : Value} (h : Instr.sameNow d k k' = some true) : k = k' := by
  unfold Instr.sameNow at h
  split at h
  · split at h
    · rename_i e; simp at h; simp [e, h]
    · cases h
  · simp only [Option.some.injEq, ba_eq] at h; rw [h]
  · simp only [Option.some.injEq, beq_iff_eq] at h; rw [h]
  · cases h
theorem sameNow_false {d : TypeDesc} {k k' : Value} (h : Instr.sameNow d k k' = some false) : k ≠ k' := by
  rintro rfl
  unfold Instr.sameNow at h
  split at h
  · split at h <;> simp at h
  · simp only [Option.some.injEq] at h; rw [(ba_eq _ _).2 rfl] at h; cases h
  · simp at h
  · cases h
theorem kvFind_none {d : TypeDesc} {k : Value} : ∀ {kv : List (Value × Value)} {i : Nat}, kvFind d k kv i = some none → ∀ p ∈ kv, p.1 ≠ k
  | [], _, _ => by simp
  | (k', v) :: r, i, h => by
    simp only [kvFind] at h
    split at h
    · cases h
    · rename_i hs
      intro p hp
      cases hp with
      | head => exact (sameNow_false hs).symm
      | tail _ hp => exact kvFind_none h p hp
    · cases h
theorem kvFind_some {d : TypeDesc} {k : Value} : ∀ {kv : List (Value × Value)} {i j : Nat} {v : Value}, kvFind d k kv i = some (some (j, v)) → i ≤ j ∧ kv[j - i]? = some (k, v)
  | [], _, _, _, h => by simp [kvFind] at h
  | (k', u) :: r, i, j, v, h => by
    simp only [kvFind] at h
    split at h
    · rename_i hs
      cases h
      simp [sameNow_true hs]
    · obtain ⟨h1, h2⟩ := kvFind_some h
      refine ⟨by omega, ?_⟩
      rw [show j - i = (j - (i + 1)) + 1 by omega]
      simpa using h2
    · cases h
/-- A kind of keys that are held against each other at once. -/
def keyD : TypeDesc → Bool
  | .int _ | .string | .bool => true
  | _ => false
theorem run_checkKey' {w : World} {e : Bool} {t : TypeId} {d : TypeDesc} (h : P.underlying t = some d) (hd : keyD d = true) (k : Value) : (Instr.checkKey e 10000 t k).run P w = .ok () w := by
  unfold Instr.checkKey
  simp only [Sem.run_bind, run_underlying' h, Result.andThen]
  cases d <;> simp_all [keyD]
theorem run_findKey' {w : World} {t : TypeId} {d : TypeDesc} (h : P.underlying t = some d) {k : Value} {es : List MapEntry} {r : Option (Nat × Value)}
    (hf : kvFind d k (es.map fun e => (e.key, e.val)) 0 = some r) : (Instr.findKey t k es).run P w = .ok r w := by
  unfold Instr.findKey
  simp only [Sem.run_bind, run_underlying' h, Result.andThen, findNow_kv, hf]
  rfl
theorem sameBits_self {d : TypeDesc} {k k' : Value} (h : Instr.sameNow d k k' = some true) : Instr.sameBits 10000 k' k = true := by
  unfold Instr.sameNow at h
  split at h
  · split at h
    · rename_i e; subst e; simp at h; subst h; simp [Instr.sameBits]
    · cases h
  · simp only [Option.some.injEq, ba_eq] at h; subst h; simp only [Instr.sameBits]; exact (ba_eq _ _).2 rfl
  · simp only [Option.some.injEq, beq_iff_eq] at h; subst h; simp [Instr.sameBits]
  · cases h
theorem kvFind_same {d : TypeDesc} {k : Value} : ∀ {kv : List (Value × Value)} {i j : Nat} {v : Value}, kvFind d k kv i = some (some (j, v)) → ∃ k', kv[j - i]? = some (k', v) ∧ Instr.sameNow d k k' = some true
  | [], _, _, _, h => by simp [kvFind] at h
  | (k', u) :: r, i, j, v, h => by
    simp only [kvFind] at h
    split at h
    · rename_i hs
      cases h
      exact ⟨k', by simp, hs⟩
    · obtain ⟨k'', h2, h3⟩ := kvFind_same h
      obtain ⟨h1, _⟩ := kvFind_some h
      refine ⟨k'', ?_, h3⟩
      rw [show j - i = (j - (i + 1)) + 1 by omega]
      simpa using h2
    · cases h
theorem hv_setObj {w : World} {r : Nat} (hb : Base.b ≤ r) (o : Obj) : hv { w with heap := w.heap.setIfInBounds r o } = (hv w).setIfInBounds r (absObj o) := by
  apply Array.ext_getElem?
  intro i
  rw [hv_get]
  simp only [Array.getElem?_setIfInBounds, hv_size]
  split
  · rename_i e
    subst e
    split
    · simp [see_new hb]
    · simp
  · rw [hv_get]; rfl
theorem run_setObj' {w : World} {r : Nat} {es : Array MapEntry} {k : Nat} (h : w.heap[r]? = some (.map es k)) (o : Obj) :
    (setObj r o).run P w = .ok () { w with heap := w.heap.setIfInBounds r o } := by
  simp [setObj, Sem.run, h]
theorem run_getObj' {w : World} {r : Nat} {es : Array MapEntry} {k : Nat} (h : w.heap[r]? = some (.map es k)) : (getObj r).run P w = .ok (.map es k) w := by
  simp [getObj, Sem.run, h]
theorem abs_map {es : Array MapEntry} {k : Nat} (h : Stamped es k) : absObj (.map es k) = .map (kvOf es) := by simp [absObj, h]
/-- 'm[k]', with ok or without. -/
theorem run_lookup' {w : World} {xt kt et : TypeId} {d : TypeDesc} {i : TypeInfo} {z : Value} (hx : P.underlying xt = some (.map kt et)) (hk : P.underlying kt = some d) (hd : keyD d = true)
    (hi : P.info? et = some i) (hz : i.zero = some z) {r : Nat} {kv : List (Value × Value)} (hm : (hv w)[r]? = some (.map kv)) {k : Value} {f : Option (Nat × Value)} (hf : kvFind d k kv 0 = some f) (ok : Bool) :
    (Instr.lookup xt (.map (some r)) k ok).run P w = .ok (match f with | some (_, v) => if ok then .tuple #[v, .bool true] else v | none => if ok then .tuple #[z, .bool false] else z) w := by
  obtain ⟨es, ck, hb, hs, rfl⟩ := of_map hm
  unfold Instr.lookup
  have hf' := run_findKey' (P := P) (w := w) (t := kt) hk (es := es.toList) (k := k) (r := f) (by simpa [kvOf] using hf)
  simp only [Sem.run_bind, run_underlying' hx, Result.andThen, run_getObj' hb, run_checkKey' hk hd, Sem.run_pure, hf']
  cases f with
  | none => simp [run_zero' hi hz]
  | some p => rfl
theorem run_lookup_nil {w : World} {xt kt et : TypeId} {d : TypeDesc} {i : TypeInfo} {z : Value} (hx : P.underlying xt = some (.map kt et)) (hk : P.underlying kt = some d) (hd : keyD d = true)
    (hi : P.info? et = some i) (hz : i.zero = some z) (k : Value) (ok : Bool) :
    (Instr.lookup xt (.map none) k ok).run P w = .ok (if ok then .tuple #[z, .bool false] else z) w := by
  unfold Instr.lookup
  have hf' := run_findKey' (P := P) (w := w) (t := kt) hk (es := []) (k := k) (r := none) rfl
  simp [run_underlying' hx, run_checkKey' hk hd, hf', run_zero' hi hz]
/-- The entries with k's set. -/
def kvPut (kv : List (Value × Value)) (f : Option (Nat × Value)) (k v : Value) : List (Value × Value) :=
  match f with
  | some (i, _) => kv.set i (k, v)
  | none => kv ++ [(k, v)]
theorem run_mapUpdate' {w : World} {xt kt et : TypeId} {d : TypeDesc} (hx : P.underlying xt = some (.map kt et)) (hk : P.underlying kt = some d) (hd : keyD d = true)
    {r : Nat} {kv : List (Value × Value)} (hm : (hv w)[r]? = some (.map kv)) {k : Value} {f : Option (Nat × Value)} (hf : kvFind d k kv 0 = some f) (v : Value) :
    ∃ w', (Instr.mapUpdate xt (.map (some r)) k v).run P w = .ok () w' ∧ hv w' = (hv w).setIfInBounds r (.map (kvPut kv f k v)) := by
  obtain ⟨es, ck, hb, hs, rfl⟩ := of_map hm
  have hf' := run_findKey' (P := P) (w := w) (t := kt) hk (es := es.toList) (k := k) (r := f) (by simpa [kvOf] using hf)
  unfold Instr.mapUpdate
  simp only [Sem.run_bind, run_underlying' hx, Result.andThen, run_getObj' hb, run_checkKey' hk hd, hf']
  cases f with
  | none =>
    refine ⟨_, run_setObj' hb _, ?_⟩
    rw [hv_setObj (of_baseM hm), abs_map]
    · simp [kvOf, kvPut]
    · exact stamped_push hs fun x hx => kvFind_none hf (x.key, x.val) (List.mem_map.2 ⟨x, hx, rfl⟩)
  | some p =>
    obtain ⟨i, u⟩ := p
    obtain ⟨k', hk1, hk2⟩ := kvFind_same hf
    simp only [Nat.sub_zero, kvOf, List.getElem?_map, Option.map_eq_some_iff, Array.getElem?_toList] at hk1
    obtain ⟨e, he, hke⟩ := hk1
    simp only [Prod.mk.injEq] at hke
    obtain ⟨rfl, rfl⟩ := hke
    have hst : (Instr.keyThatStays (((es[i]?).map (·.key)).getD k) k).run P w = .ok k w := by
      simp [Instr.keyThatStays, he, sameBits_self hk2]
    simp only [Sem.run_bind, hst, Result.andThen]
    refine ⟨_, run_setObj' hb _, ?_⟩
    have hkk := sameNow_true hk2
    rw [hv_setObj (of_baseM hm), abs_map]
    · congr 2
      apply List.ext_getElem?
      intro j
      simp only [kvOf, kvPut, Array.toList_modify, List.getElem?_map, List.getElem?_modify, List.getElem?_set, List.length_map, Array.length_toList, Array.getElem?_toList]
      by_cases hij : i = j
      · subst hij
        have hlt := (Array.getElem?_eq_some_iff.1 he).1
        simp [he, hlt]
      · simp [hij]
    · refine stamped_modify hs i _ (fun e _ => rfl) (fun e' _ he' => ?_)
      rw [he] at he'; cases he'; exact hkk
theorem run_delete' {w : World} {xt kt et ty : TypeId} {d : TypeDesc} (hx : P.underlying xt = some (.map kt et)) (hk : P.underlying kt = some d) (hd : keyD d = true)
    {r : Nat} {kv : List (Value × Value)} (hm : (hv w)[r]? = some (.map kv)) {k : Value} {f : Option (Nat × Value)} (hf : kvFind d k kv 0 = some f) (ats : Array TypeId) (ha : ats[0]? = some xt) :
    ∃ w', (Builtin.delete_ ats ty #[.map (some r), k]).run P w = .ok (.tuple #[]) w' ∧ hv w' = (hv w).setIfInBounds r (.map (match f with | some (i, _) => kv.eraseIdx i | none => kv)) := by
  obtain ⟨es, ck, hb, hs, rfl⟩ := of_map hm
  have hf' := run_findKey' (P := P) (w := w) (t := kt) hk (es := es.toList) (k := k) (r := f) (by simpa [kvOf] using hf)
  unfold Builtin.delete_
  simp only [ha, List.getElem?_toArray, List.getElem?_cons_zero, List.getElem?_cons_succ, Sem.run_bind, run_underlying' hx, Result.andThen, run_getObj' hb, run_checkKey' hk hd, hf']
  cases f with
  | none =>
    exact ⟨_, by simp only [Sem.run_bind, run_setObj' hb, Result.andThen, Sem.run_pure]; rfl, by rw [hv_setObj (of_baseM hm), abs_map hs]⟩
  | some p =>
    obtain ⟨i, u⟩ := p
    refine ⟨_, by simp only [Sem.run_bind, run_setObj' hb, Result.andThen, Sem.run_pure]; rfl, ?_⟩
    rw [hv_setObj (of_baseM hm), abs_map (stamped_erase hs i)]
    congr 2
    obtain ⟨_, hg⟩ := kvFind_some hf
    simp only [Nat.sub_zero, kvOf, List.getElem?_map, Option.map_eq_some_iff] at hg
    obtain ⟨e, he, _⟩ := hg
    have hlt : i < es.size := by simpa using (List.getElem?_eq_some_iff.1 he).1
    simp [kvOf, Array.eraseIdxIfInBounds, hlt, List.eraseIdx_eq_take_drop_succ, List.map_take, List.map_drop]
end Go.Proofs.Ytdolepapmpcpiaa

namespace Go.Proofs.Ytdolepapmpcpiaa
open Go Go.MapKept
set_option linter.unusedSectionVars false
variable [Base]
set_option linter.unusedVariables false
set_option linter.unusedSimpArgs false
abbrev Kont := Value → Hp → Prop
/-- Called in whatever world that is seen as h, function f answers, and K holds of its answer and of the heap behind. -/
def AC (P : Program) (f : FuncId) (args : Array Value) (h : Hp) (K : Kont) : Prop :=
  ∀ w, hv w = h → Calls P f args w fun e w' => ∃ v, e = .returned v ∧ K v (hv w')
theorem AC.mono {P : Program} {f : FuncId} {args : Array Value} {h : Hp} {K K' : Kont} (a : AC P f args h K) (hk : ∀ v h', K v h' → K' v h') : AC P f args h K' :=
  fun w hw => (a w hw).mono fun e w' ⟨v, he, hv⟩ => ⟨v, he, hk _ _ hv⟩
def canEnter (P : Program) (f : FuncId) : Bool :=
  match P.funcs[f]? with
  | some fn => fn.body.isSome && !(fn.name == "runtime.NumGoroutine")
  | none => false
def OpOk (P : Program) (r : Result Next) (K : Kont) : Prop :=
  match r with
  | .ok (.value v) w' => K v (hv w')
  | .ok .skip w' => K undef (hv w')
  | .ok (.enter f args) w' => AC P f args (hv w') K
  | _ => False
def oPick (c a b : Value) (h : Hp) (K : Kont) : Prop :=
  match c with
  | .bool true => K a h
  | .bool false => K b h
  | _ => False
def oAlloc (z : Array Value) (h : Hp) (K : Kont) : Prop := Base.b ≤ h.size ∧ K (.pointer (some ⟨h.size, 0, none⟩)) (h.push (.cells z))
def oBox (v : Value) (h : Hp) (K : Kont) : Prop := Base.b ≤ h.size ∧ K (.pointer (some ⟨h.size, 0, none⟩)) (h.push (.cells v.cells))
/-- Parts are laid into cells: where, how many cells, what. -/
def bfill (cs : Array Value) : List (Nat × Nat × Value) → Option (Array Value)
  | [] => some cs
  | (off, sz, v) :: r => if v.cells.size = sz ∧ off + sz ≤ cs.size then bfill (setL cs off v.cells.toList) r else none
def oBuild (z : Array Value) (parts : List (Nat × Nat × Value)) (h : Hp) (K : Kont) : Prop := ∃ cs, bfill z parts = some cs ∧ K (.agg cs) h
def oBuildSlice (z : Array Value) (len : Nat) (parts : List (Nat × Nat × Value)) (h : Hp) (K : Kont) : Prop :=
  ∃ cs, bfill z parts = some cs ∧ Base.b ≤ h.size ∧ K (.slice (some ⟨h.size, 0, none⟩) len len) (h.push (.cells cs))
def oLd1 (x : Value) (h : Hp) (K : Kont) : Prop :=
  match x with
  | .pointer (some ⟨b, i, none⟩) => ∃ v, rdC h b i = some v ∧ K v h
  | _ => False
def oLdN (n : Nat) (x : Value) (h : Hp) (K : Kont) : Prop :=
  match x with
  | .pointer (some ⟨b, i, none⟩) => ∃ vs, rdN h b i n = some vs ∧ K (.agg vs.toArray) h
  | _ => False
def oSt (n : Nat) (x v : Value) (h : Hp) (K : Kont) : Prop :=
  match x with
  | .pointer (some ⟨b, i, none⟩) => ∃ c, h[b]? = some (.cells c) ∧ v.cells.size = n ∧ i + n ≤ c.size ∧ v.cells.toList.all one = true ∧
      K undef (h.setIfInBounds b (.cells (setL c i v.cells.toList)))
  | _ => False
def oNilCheck (x : Value) (h : Hp) (K : Kont) : Prop :=
  match x with
  | .pointer (some _) | .func (.func _) _ _ | .iface _ _ => K x h
  | _ => False
def intBin (op : BinOp) (k : IntKind) (a b : Int) : Option Value :=
  match op with
  | .add => some (.int k (k.wrap (a + b)))
  | .sub => some (.int k (k.wrap (a - b)))
  | .mul => some (.int k (k.wrap (a * b)))
  | .quo => if b = 0 then none else some (.int k (k.wrap (a.tdiv b)))
  | .rem => if b = 0 then none else some (.int k (a.tmod b))
  | .and => some (.int k (k.wrap (BitVec.ofInt k.bits a &&& BitVec.ofInt k.bits b).toNat))
  | .or => some (.int k (k.wrap (BitVec.ofInt k.bits a ||| BitVec.ofInt k.bits b).toNat))
  | .xor => some (.int k (k.wrap (BitVec.ofInt k.bits a ^^^ BitVec.ofInt k.bits b).toNat))
  | .andNot => some (.int k (k.wrap (BitVec.ofInt k.bits a &&& ~~~BitVec.ofInt k.bits b).toNat))
  | .eql => some (.bool (a == b))
  | .neq => some (.bool (a != b))
  | .lss => some (.bool (decide (a < b)))
  | .leq => some (.bool (decide (a ≤ b)))
  | .gtr => some (.bool (decide (a > b)))
  | .geq => some (.bool (decide (a ≥ b)))
  | _ => none
def strBin (op : BinOp) (a b : ByteArray) : Option Value :=
  match op with
  | .add => if a.size + b.size ≤ 9223372036854775807 then some (.string (a ++ b)) else none
  | .eql => some (.bool (a.toList == b.toList))
  | .neq => some (.bool (!(a.toList == b.toList)))
  | .lss => some (.bool (Op.bytesLess a.toList b.toList))
  | _ => none
def binV (op : BinOp) (x y : Value) : Option Value :=
  match x, y with
  | .int k a, .int k' b =>
    match op with
    | .shl => if b < 0 then none else some (.int k (k.wrap (a * 2 ^ (min b.toNat k.bits))))
    | .shr => if b < 0 then none else some (.int k (a.fdiv (2 ^ (min b.toNat k.bits))))
    | _ => if k = k' then intBin op k a b else none
  | .string a, .string b => strBin op a b
  | _, _ => none
def oBin (op : BinOp) (x y : Value) (h : Hp) (K : Kont) : Prop := ∃ v, binV op x y = some v ∧ K v h
def eqL : List (Nat × TypeDesc) → List Value → List Value → Option Bool
  | [], _, _ => some true
  | (i, d) :: r, xs, ys =>
    match xs[i]?, ys[i]? with
    | some a, some b =>
      match Instr.sameNow d a b with
      | some true => eqL r xs ys
      | some false => some false
      | none => none
    | _, _ => none
/-- '==' of two values that are no numbers and no texts; c: of which class (bool, pointer, slice, map, struct). -/
def eqV (c : Nat) (p : Option (List (Nat × TypeDesc))) (x y : Value) : Option Bool :=
  match c, x, y with
  | 0, .bool a, .bool b => some (a == b)
  | 1, .pointer a, .pointer none => some a.isNone
  | 1, .pointer none, .pointer b => some b.isNone
  | 2, .slice a _ _, .slice none _ _ => some a.isNone
  | 3, .map a, .map none => some a.isNone
  | 4, .agg xs, .agg ys => p.bind fun p => eqL p xs.toList ys.toList
  | _, _, _ => none
def oEq (c : Nat) (neq : Bool) (p : Option (List (Nat × TypeDesc))) (x y : Value) (h : Hp) (K : Kont) : Prop :=
  ∃ b, eqV c p x y = some b ∧ K (.bool (if neq then !b else b)) h
def oNot (x : Value) (h : Hp) (K : Kont) : Prop :=
  match x with
  | .bool b => K (.bool !b) h
  | _ => False
def oNeg (x : Value) (h : Hp) (K : Kont) : Prop :=
  match x with
  | .int k a => K (.int k (k.wrap (0 - a))) h
  | _ => False
def oConvInt (k : IntKind) (x : Value) (h : Hp) (K : Kont) : Prop :=
  match x with
  | .int _ n => K (.int k (k.wrap n)) h
  | _ => False
def oMakeMap (h : Hp) (K : Kont) : Prop := Base.b ≤ h.size ∧ K (.map (some h.size)) (h.push (.map []))
def oMakeSlice (sz bytes : Nat) (z : Array Value) (l c : Value) (h : Hp) (K : Kont) : Prop :=
  match l, c with
  | .int _ l, .int _ c => 0 ≤ l ∧ l ≤ c ∧ (bytes : Int) * c ≤ 281474976710656 ∧ c ≤ 9223372036854775807 ∧ Base.b ≤ h.size ∧
      K (.slice (some ⟨h.size, 0, none⟩) l.toNat c.toNat) (h.push (.cells (madeCells z (c.toNat * sz))))
  | _, _ => False
def bnd (v : Option Value) (dflt most : Nat) : Option Nat :=
  match v with
  | none => some dflt
  | some (.int _ i) => if 0 ≤ i ∧ i ≤ most then some i.toNat else none
  | _ => none
def oSlice (c : Nat) (sz : Nat) (x : Value) (lo hi mx : Option Value) (h : Hp) (K : Kont) : Prop :=
  match c, x with
  | 0, .slice a len cap => ∃ m hh l, bnd mx cap cap = some m ∧ bnd hi len m = some hh ∧ (hi = none → mx = none) ∧ bnd lo 0 hh = some l ∧
      K (.slice (if m = l then a else a.map (·.add (l * sz))) (hh - l) (m - l)) h
  | 1, .string s => ∃ hh l, bnd hi s.size s.size = some hh ∧ mx = none ∧ bnd lo 0 hh = some l ∧ K (.string (s.extract l hh)) h
  | _, _ => False
def oFieldAddr (off : Nat) (x : Value) (h : Hp) (K : Kont) : Prop :=
  match x with
  | .pointer (some ⟨b, i, none⟩) => K (.pointer (some ⟨b, i + off, none⟩)) h
  | _ => False
def partV (cs : Array Value) (off : Nat) (n : Option Nat) : Option Value :=
  match n with
  | none => cs[off]?
  | some n => some (.agg (cs.extract off (off + n)))
def oField (off : Nat) (n : Option Nat) (x : Value) (h : Hp) (K : Kont) : Prop :=
  match x with
  | .agg cs => ∃ v, partV cs off n = some v ∧ K v h
  | _ => False
def oIdxS (sz : Nat) (x i : Value) (h : Hp) (K : Kont) : Prop :=
  match x, i with
  | .slice (some ⟨b, o, none⟩) len _, .int _ n => 0 ≤ n ∧ n < len ∧ K (.pointer (some ⟨b, o + n.toNat * sz, none⟩)) h
  | _, _ => False
def oIdxA (sz len : Nat) (x i : Value) (h : Hp) (K : Kont) : Prop :=
  match x, i with
  | .pointer (some ⟨b, o, none⟩), .int _ n => 0 ≤ n ∧ n < len ∧ K (.pointer (some ⟨b, o + n.toNat * sz, none⟩)) h
  | _, _ => False
def oIndexArr (sz len : Nat) (ag : Option Nat) (x i : Value) (h : Hp) (K : Kont) : Prop :=
  match x, i with
  | .agg cs, .int _ n => 0 ≤ n ∧ n < len ∧ ∃ v, partV cs (n.toNat * sz) ag = some v ∧ K v h
  | _, _ => False
def oIndexStr (x i : Value) (h : Hp) (K : Kont) : Prop :=
  match x, i with
  | .string s, .int _ n => 0 ≤ n ∧ ∃ c, s[n.toNat]? = some c ∧ K (.int .u8 c.toNat) h
  | _, _ => False
def lookRes (z : Value) (ok : Bool) (f : Option (Nat × Value)) : Value :=
  match f with
  | some (_, v) => if ok then .tuple #[v, .bool true] else v
  | none => if ok then .tuple #[z, .bool false] else z
def oLookup (d : TypeDesc) (z : Value) (m k : Value) (ok : Bool) (h : Hp) (K : Kont) : Prop :=
  match m with
  | .map none => K (lookRes z ok none) h
  | .map (some r) => ∃ kv f, h[r]? = some (.map kv) ∧ kvFind d k kv 0 = some f ∧ K (lookRes z ok f) h
  | _ => False
def oMapUpdate (d : TypeDesc) (m k v : Value) (h : Hp) (K : Kont) : Prop :=
  match m with
  | .map (some r) => ∃ kv f, h[r]? = some (.map kv) ∧ kvFind d k kv 0 = some f ∧ K undef (h.setIfInBounds r (.map (kvPut kv f k v)))
  | _ => False
def oDelete (d : TypeDesc) (m k : Value) (h : Hp) (K : Kont) : Prop :=
  match m with
  | .map (some r) => ∃ kv f, h[r]? = some (.map kv) ∧ kvFind d k kv 0 = some f ∧
      K (.tuple #[]) (h.setIfInBounds r (.map (match f with | some (i, _) => kv.eraseIdx i | none => kv)))
  | _ => False
def oClearMap (m : Value) (h : Hp) (K : Kont) : Prop :=
  match m with
  | .map none => K (.tuple #[]) h
  | .map (some r) => ∃ kv, h[r]? = some (.map kv) ∧ K (.tuple #[]) (h.setIfInBounds r (.map []))
  | _ => False
def oClearSlice (sz : Nat) (z : Array Value) (x : Value) (h : Hp) (K : Kont) : Prop :=
  match x with
  | .slice none _ _ => K (.tuple #[]) h
  | .slice (some ⟨b, i, none⟩) n _ => ∃ c, h[b]? = some (.cells c) ∧ i + n * sz ≤ c.size ∧ z.size = sz ∧ z.toList.all one = true ∧
      K (.tuple #[]) (h.setIfInBounds b (.cells (setL c i (Builtin.zeroCells z n).toList)))
  | _ => False
def oLen (c : Nat) (x : Value) (h : Hp) (K : Kont) : Prop :=
  match c, x with
  | 0, .slice _ n _ => K (.int .i64 n) h
  | 1, .string s => K (.int .i64 s.size) h
  | 2, .map none => K (.int .i64 0) h
  | 2, .map (some r) => ∃ kv, h[r]? = some (.map kv) ∧ K (.int .i64 kv.length) h
  | _, _ => False
def oCap (x : Value) (h : Hp) (K : Kont) : Prop :=
  match x with
  | .slice _ _ c => K (.int .i64 c) h
  | _ => False
/-- The cells of a slice or a text, and how many elements. -/
def srcCells (sz : Nat) (x : Value) (h : Hp) : Option (Nat × List Value) :=
  match x with
  | .slice none n _ => if n = 0 then some (0, []) else none
  | .slice (some ⟨b, i, none⟩) n _ => (rdN h b i (n * sz)).map fun l => (n, l)
  | .slice (some ⟨_, _, some _⟩) n _ => if n = 0 then some (0, []) else none
  | .string s => if sz = 1 then some (s.size, s.data.toList.map fun c => .int .u8 c.toNat) else none
  | _ => none
def oAppend (sz bytes : Nat) (z : Array Value) (s x : Value) (h : Hp) (K : Kont) : Prop :=
  match s with
  | .slice base n cap => ∃ m vs, srcCells sz x h = some (m, vs) ∧
      (n + m ≤ cap → (vs = [] ∧ K (.slice base (n + m) cap) h) ∨
        (∃ b i c, base = some ⟨b, i, none⟩ ∧ h[b]? = some (.cells c) ∧ i + n * sz + vs.length ≤ c.size ∧ vs.all one = true ∧
          K (.slice base (n + m) cap) (h.setIfInBounds b (.cells (setL c (i + n * sz) vs))))) ∧
      (cap < n + m → ∃ old, srcCells sz s h = some (n, old) ∧ (n + m) * bytes ≤ 140737488355328 ∧ Base.b ≤ h.size ∧
        ∀ nc, n + m ≤ nc → K (.slice (some ⟨h.size, 0, none⟩) (n + m) nc) (h.push (.cells (old.toArray ++ vs.toArray ++ Builtin.zeroCells z (nc - (n + m))))))
  | _ => False
def oCopy (sz : Nat) (d s : Value) (h : Hp) (K : Kont) : Prop :=
  match d with
  | .slice none n _ => n = 0 ∧ (∃ m vs, srcCells sz s h = some (m, vs)) ∧ K (.int .i64 0) h
  | .slice (some ⟨b, i, none⟩) n _ => ∃ m vs c, srcCells sz s h = some (m, vs) ∧ h[b]? = some (.cells c) ∧ i + n * sz ≤ c.size ∧ vs.all one = true ∧
      K (.int .i64 (min m n : Nat)) (h.setIfInBounds b (.cells (setL c i (vs.take (min m n * sz)))))
  | _ => False
def oMinMax (mx : Bool) (args : List Value) (h : Hp) (K : Kont) : Prop :=
  match args with
  | [.int k a, .int k' b] => K (.int k (if mx then (if b > a then b else a) else (if b < a then b else a))) h
  | _ => False
def oExtract (x : Value) (i : Nat) (h : Hp) (K : Kont) : Prop :=
  match x with
  | .tuple vs => ∃ v, vs[i]? = some v ∧ K v h
  | _ => False
/-- A function value is called. -/
def oCallV (P : Program) (f : Value) (args : List Value) (h : Hp) (K : Kont) : Prop :=
  match f with
  | .func (.func g) fst cap => canEnter P g = true ∧ AC P g (fst ++ args.toArray ++ cap) h K
  | _ => False
end Go.Proofs.Ytdolepapmpcpiaa

namespace Go.Proofs.Ytdolepapmpcpiaa
open Go Go.MapKept
set_option linter.unusedSectionVars false
variable [Base]
set_option linter.unusedVariables false
set_option linter.unusedSimpArgs false
def zeroV (P : Program) (t : TypeId) : Option Value := (P.info? t).bind (·.zero)
def lay (P : Program) (t : TypeId) : Option (Option Nat) :=
  match P.info? t, P.underlying t with
  | some i, some d => some (if isAggD d then some i.size else none)
  | _, _ => none
/-- An element type: cells, bytes, the zero value's cells. -/
def elemI (P : Program) (t : TypeId) : Option (Nat × Nat × Array Value) :=
  match P.info? t with
  | some i => match i.zero with
    | some z => some (i.size, i.bytes, z.cells)
    | none => none
  | none => none
def planOf (places : List (Nat × Nat)) : List (Nat × Operand) → Option (List (Nat × Nat × Operand))
  | [] => some []
  | (i, x) :: r => match places[i]?, planOf places r with
    | some (o, s), some l => some ((o, s, x) :: l)
    | _, _ => none
def fieldPlaces (P : Program) : List Field → Option (List (Nat × Nat))
  | [] => some []
  | f :: r => match P.info? f.type, fieldPlaces P r with
    | some i, some l => some ((f.offset, i.size) :: l)
    | _, _ => none
def elPlan (sz len : Nat) : List (Nat × Operand) → List (Nat × Nat × Operand)
  | [] => []
  | (i, x) :: r => (i * sz, sz, x) :: elPlan sz len r
/-- n copies of the zero's cells. -/
def zerosN (z : Array Value) : Nat → List Value
  | 0 => []
  | n + 1 => z.toList ++ zerosN z n
/-- Which cells '==' holds against each other, and of which kinds. -/
def eqPlan (P : Program) : Nat → TypeId → Nat → Option (List (Nat × TypeDesc))
  | 0, _, _ => none
  | d + 1, t, off =>
    match P.underlying t with
    | some (.int k) => some [(off, .int k)]
    | some .string => some [(off, .string)]
    | some .bool => some [(off, .bool)]
    | some (.struct fs) =>
      match P.stoodInHeld t, P.info? t with
      | false, some i => fs.toList.foldr (fun f acc => if f.name ≠ "_" then
          (match P.info? f.type, eqPlan P d f.type (off + f.offset), acc with
            | some j, some l, some r => if f.offset + j.size ≤ i.size ∧ f.offset < i.size then some (l ++ r) else none
            | _, _, _ => none) else acc) (some [])
      | _, _ => none
    | _ => none
def eqPlanTop (P : Program) (t : TypeId) : Option (List (Nat × TypeDesc)) :=
  match P.underlying t with
  | some (.struct _) => if P.eqGuardType P.depth t then none else eqPlan P 20 t 0
  | _ => none
def scal (d : TypeDesc) : Bool :=
  match d with
  | .int _ | .string => true
  | _ => false
def dcls (d : TypeDesc) : Option Nat :=
  match d with
  | .bool => some 0
  | .pointer _ => some 1
  | .slice _ => some 2
  | .map _ _ => some 3
  | .struct _ => some 4
  | _ => none
def aBuiltin (P : Program) (b : Builtin) (ats : List TypeId) (args : List Value) (h : Hp) (K : Kont) : Prop :=
  match b, ats, args with
  | .len, [t], [x] =>
    match P.underlying t with
    | some (.slice _) => oLen 0 x h K
    | some .string => oLen 1 x h K
    | some (.map _ _) => oLen 2 x h K
    | some (.array n _) => K (.int .i64 n) h
    | _ => False
  | .cap, [t], [x] =>
    match P.underlying t with
    | some (.slice _) => oCap x h K
    | _ => False
  | .append, [t, u], [s, x] =>
    match P.underlying t, P.underlying u with
    | some (.slice e), some (.slice _) | some (.slice e), some .string =>
      match elemI P e with
      | some (sz, bytes, z) => if bytes = 0 then False else oAppend sz bytes z s x h K
      | none => False
    | _, _ => False
  | .copy, [t, _], [d, s] =>
    match P.underlying t with
    | some (.slice e) =>
      match elemI P e with
      | some (sz, _, _) => oCopy sz d s h K
      | none => False
    | _ => False
  | .delete, [t, _], [m, k] =>
    match P.underlying t with
    | some (.map kt _) =>
      match P.underlying kt with
      | some d => if keyD d then oDelete d m k h K else False
      | none => False
    | _ => False
  | .clear, [t], [x] =>
    match P.underlying t with
    | some (.map _ _) => oClearMap x h K
    | some (.slice e) =>
      match elemI P e with
      | some (sz, _, z) => oClearSlice sz z x h K
      | none => False
    | _ => False
  | .min, _, args => oMinMax false args h K
  | .max, _, args => oMinMax true args h K
  | _, _, _ => False
def aop (P : Program) (o : Oper) (ρ : Operand → Value) (h : Hp) (K : Kont) : Prop :=
  match o.op with
  | .move x => K (ρ x) h
  | .assign x => K (ρ x) h
  | .pick c a b => oPick (ρ c) (ρ a) (ρ b) h K
  | .alloc t => match zeroV P t with
    | some z => oAlloc z.cells h K
    | none => False
  | .box _ x => oBox (ρ x) h K
  | .build t ps =>
    match zeroV P t, P.underlying t with
    | some z, some (.struct fs) =>
      match fieldPlaces P fs.toList with
      | some places =>
        match planOf places ps.toList with
        | some l => oBuild z.cells (l.map fun p => (p.1, p.2.1, ρ p.2.2)) h K
        | none => False
      | none => False
    | some z, some (.array _ e) =>
      match P.info? e with
      | some i => oBuild z.cells ((elPlan i.size 0 ps.toList).map fun p => (p.1, p.2.1, ρ p.2.2)) h K
      | none => False
    | _, _ => False
  | .buildSlice t n ps =>
    match P.underlying t with
    | some (.slice e) =>
      match elemI P e with
      | some (sz, _, z) => if z.size = sz ∧ n * sz ≤ 16777216 then oBuildSlice (zerosN z n).toArray n ((elPlan sz n ps.toList).map fun p => (p.1, p.2.1, ρ p.2.2)) h K else False
      | none => False
    | _ => False
  | .load t x =>
    match lay P t with
    | some none => oLd1 (ρ x) h K
    | some (some n) => oLdN n (ρ x) h K
    | none => False
  | .store t x v =>
    match P.info? t with
    | some i => oSt i.size (ρ x) (ρ v) h K
    | none => False
  | .nilCheck x => oNilCheck (ρ x) h K
  | .binOp op t x y _ =>
    match op with
    | .eql | .neq =>
      match P.underlying t with
      | some d =>
        if scal d then oBin op (ρ x) (ρ y) h K else
        match dcls d with
        | some c => oEq c (match op with | .neq => true | _ => false) (eqPlanTop P t) (ρ x) (ρ y) h K
        | none => False
      | none => False
    | _ => oBin op (ρ x) (ρ y) h K
  | .unOp op _ x =>
    match op with
    | .not => oNot (ρ x) h K
    | .neg => oNeg (ρ x) h K
    | _ => False
  | .convert s d x =>
    match P.underlying s, P.underlying d with
    | some (.int _), some (.int k) => oConvInt k (ρ x) h K
    | _, _ => False
  | .makeFunc fn first cap => K (.func fn (first.toList.map ρ).toArray (cap.toList.map ρ).toArray) h
  | .makeMap t r =>
    match r with
    | none => oMakeMap h K
    | some _ => False
  | .makeSlice t l c =>
    match P.underlying t with
    | some (.slice e) =>
      match elemI P e with
      | some (sz, bytes, z) => oMakeSlice sz bytes z (ρ l) (ρ c) h K
      | none => False
    | _ => False
  | .slice t x lo hi mx =>
    match P.underlying t with
    | some (.slice e) =>
      match P.info? e with
      | some i => oSlice 0 i.size (ρ x) (lo.map ρ) (hi.map ρ) (mx.map ρ) h K
      | none => False
    | some .string => oSlice 1 1 (ρ x) (lo.map ρ) (hi.map ρ) (mx.map ρ) h K
    | _ => False
  | .fieldAddr s x f =>
    match P.underlying s with
    | some (.struct fs) =>
      match fs[f]? with
      | some fl =>
        match P.info? fl.type with
        | some i => if i.size = 0 then False else oFieldAddr fl.offset (ρ x) h K
        | none => False
      | none => False
    | _ => False
  | .field t x f =>
    match P.underlying t with
    | some (.struct fs) =>
      match fs[f]? with
      | some fl =>
        match lay P fl.type with
        | some n => oField fl.offset n (ρ x) h K
        | none => False
      | none => False
    | _ => False
  | .indexAddr t x i =>
    match P.underlying t with
    | some (.slice e) =>
      match P.info? e with
      | some j => oIdxS j.size (ρ x) (ρ i) h K
      | none => False
    | some (.array n e) =>
      match P.info? e with
      | some j => oIdxA j.size n (ρ x) (ρ i) h K
      | none => False
    | _ => False
  | .index t x i =>
    match P.underlying t with
    | some (.array n e) =>
      match P.info? e, lay P e with
      | some j, some l => oIndexArr j.size n l (ρ x) (ρ i) h K
      | _, _ => False
    | some .string => oIndexStr (ρ x) (ρ i) h K
    | _ => False
  | .lookup t m k ok =>
    match P.underlying t with
    | some (.map kt et) =>
      match P.underlying kt, zeroV P et with
      | some d, some z => if keyD d then oLookup d z (ρ m) (ρ k) ok h K else False
      | _, _ => False
    | _ => False
  | .mapUpdate t m k v =>
    match P.underlying t with
    | some (.map kt _) =>
      match P.underlying kt with
      | some d => if keyD d then oMapUpdate d (ρ m) (ρ k) (ρ v) h K else False
      | none => False
    | _ => False
  | .insert t m k v =>
    match P.underlying t with
    | some (.map kt _) =>
      match P.underlying kt with
      | some d => if keyD d then oMapUpdate d (ρ m) (ρ k) (ρ v) h K else False
      | none => False
    | _ => False
  | .extract x i => oExtract (ρ x) i h K
  | .call c =>
    match c.callee with
    | .value (.func f) => if canEnter P f then AC P f (c.args.toList.map ρ).toArray h K else False
    | .value x => oCallV P (ρ x) (c.args.toList.map ρ) h K
    | .builtin b => aBuiltin P b c.argTypes.toList (c.args.toList.map ρ) h K
    | .invoke _ _ => False
  | _ => False
variable {P : Program}
theorem zipIdx_setL (off : Nat) : ∀ (l : List Value) (cs : Array Value) (j : Nat), (l.zipIdx j).foldl (fun cs (c, j) => cs.setIfInBounds (off + j) c) cs = setL cs (off + j) l
  | [], _, _ => rfl
  | v :: l, cs, j => by
    simp only [List.zipIdx_cons, List.foldl_cons, setL]
    rw [zipIdx_setL off l _ (j + 1)]
    rfl
theorem cells_fold (cs : Array Value) (off : Nat) (v : Value) : v.cells.zipIdx.foldl (fun cs (c, j) => cs.setIfInBounds (off + j) c) cs = setL cs off v.cells.toList := by
  rw [← Array.foldl_toList, Array.toList_zipIdx]
  exact zipIdx_setL off v.cells.toList cs 0
theorem fill_step {place : Nat → Option (Nat × Nat)} {i o s : Nat} {v : Value} {cs : Array Value} {r : List (Nat × Value)} (h1 : place i = some (o, s)) (hc : v.cells.size = s ∧ o + s ≤ cs.size) :
    Instr.fill place cs ((i, v) :: r) = Instr.fill place (setL cs o v.cells.toList) r := by
  simp only [Instr.fill, h1]
  have h2 : (v.cells.size ≠ s || o + v.cells.size > cs.size) = false := by
    simp only [ne_eq, Bool.or_eq_false_iff, decide_eq_false_iff_not, Decidable.not_not, gt_iff_lt, Nat.not_lt]
    omega
  simp only [h2, Bool.false_eq_true, if_false, cells_fold]
theorem fill_plan (ρ : Operand → Value) {places : List (Nat × Nat)} : ∀ {ps : List (Nat × Operand)} {l : List (Nat × Nat × Operand)} {cs cs' : Array Value}, planOf places ps = some l →
    bfill cs (l.map fun p => (p.1, p.2.1, ρ p.2.2)) = some cs' → Instr.fill (places[·]?) cs (ps.map fun p => (p.1, ρ p.2)) = some cs'
  | [], l, cs, cs', h, hb => by simp [planOf] at h; subst h; simpa [bfill, Instr.fill] using hb
  | (i, x) :: r, l, cs, cs', h, hb => by
    simp only [planOf] at h
    split at h
    · rename_i o s l' h1 h2
      cases h
      simp only [List.map_cons, bfill] at hb
      split at hb
      · rename_i hc
        rw [List.map_cons, fill_step h1 hc]
        exact fill_plan ρ h2 hb
      · cases hb
    · cases h
theorem fill_el (ρ : Operand → Value) {sz len : Nat} : ∀ {ps : List (Nat × Operand)} {cs cs' : Array Value},
    bfill cs ((elPlan sz len ps).map fun p => (p.1, p.2.1, ρ p.2.2)) = some cs' → Instr.fill (fun i => some (i * sz, sz)) cs (ps.map fun p => (p.1, ρ p.2)) = some cs'
  | [], cs, cs', hb => by simpa [bfill, Instr.fill, elPlan] using hb
  | (i, x) :: r, cs, cs', hb => by
    simp only [elPlan, List.map_cons, bfill] at hb
    split at hb
    · rename_i hc
      rw [List.map_cons, fill_step (place := fun i => some (i * sz, sz)) rfl hc]
      exact fill_el ρ hb
    · cases hb
theorem run_fieldPlaces {w : World} : ∀ {fs : List Field} {l : List (Nat × Nat)}, fieldPlaces P fs = some l → (fs.mapM fun f => do pure (f.offset, ← sizeOf f.type) : Sem (List (Nat × Nat))).run P w = .ok l w
  | [], l, h => by simp [fieldPlaces] at h; subst h; simp
  | f :: r, l, h => by
    simp only [fieldPlaces] at h
    split at h
    · rename_i i l' h1 h2
      cases h
      simp only [List.mapM_cons, Sem.run_bind, run_sizeOf' h1, Result.andThen, Sem.run_pure, run_fieldPlaces h2]
    · cases h
theorem toList_map_toArray (c : Array Operand) (ρ : Operand → Value) : (c.toList.map ρ).toArray = c.map ρ := by
  apply Array.ext'
  simp
theorem run_placesA {w : World} {fs : Array Field} {l : List (Nat × Nat)} (h : fieldPlaces P fs.toList = some l) : (fs.mapM fun f => do pure (f.offset, ← sizeOf f.type) : Sem (Array (Nat × Nat))).run P w = .ok l.toArray w := by
  rw [Array.mapM_eq_mapM_toList, Sem.run_map, run_fieldPlaces h]
  rfl
theorem eqL_append (xs ys : List Value) : ∀ (l r : List (Nat × TypeDesc)), eqL (l ++ r) xs ys = match eqL l xs ys with | some true => eqL r xs ys | o => o
  | [], r => by simp [eqL]
  | (i, d) :: l, r => by
    simp only [List.cons_append, eqL]
    cases xs[i]? with
    | none => rfl
    | some a =>
      cases ys[i]? with
      | none => rfl
      | some b =>
        simp only
        cases Instr.sameNow d a b with
        | none => rfl
        | some c => cases c <;> simp [eqL_append xs ys l r]
theorem part_sub {w : World} {T : TypeId} {j : TypeInfo} {dT : TypeDesc} (hj : P.info? T = some j) (hd : P.underlying T = some dT) (xs : Array Value) {off n fo : Nat} (h1 : fo + j.size ≤ n) (h2 : fo < n) :
    (part T (xs.extract off (off + n)) fo).run P w = (part T xs (off + fo)).run P w := by
  unfold part
  simp only [Sem.run_bind, run_isAgg' hd, Result.andThen]
  cases isAggD dT with
  | true =>
    simp only [if_true, Sem.run_bind, run_sizeOf' hj, Result.andThen, Sem.run_pure]
    rw [Array.extract_extract]
    congr 3
    omega
  | false =>
    simp only [Bool.false_eq_true, if_false, Array.getElem?_extract]
    have : (if fo < min (off + n) xs.size - off then xs[off + fo]? else none) = xs[off + fo]? := by
      split
      · rfl
      · rename_i hh
        rw [Array.getElem?_eq_none (by omega)]
    rw [this]
theorem underlying_of_info {t : TypeId} {L : List (Nat × TypeDesc)} {d off : Nat} (h : eqPlan P d t off = some L) : ∃ dT, P.underlying t = some dT := by
  cases d with
  | zero => simp [eqPlan] at h
  | succ d =>
    cases hu : P.underlying t with
    | none => simp [eqPlan, hu] at h
    | some dT => exact ⟨dT, rfl⟩
theorem sameNow_equal {w : World} {t : TypeId} {dT : TypeDesc} (hu : P.underlying t = some dT) {a b : Value} {r : Bool} (h : Instr.sameNow dT a b = some r) (d : Nat) : (Op.equalIn (d + 1) t a b).run P w = .ok r w := by
  unfold Instr.sameNow at h
  split at h
  · split at h
    · rename_i e; subst e; cases h; exact run_equalIn_int w d t _ _ _ _ hu
    · cases h
  · cases h; rw [run_equalIn_string w d t _ _ hu, beq_toListBytes]
  · cases h; exact run_equalIn_bool' w d t _ _ hu
  · cases h
theorem eqL_scal {w : World} {t : TypeId} {dT : TypeDesc} (hu : P.underlying t = some dT) (hs : isAggD dT = false) {xs ys : Array Value} {off : Nat} {b : Bool} (he : eqL [(off, dT)] xs.toList ys.toList = some b) (d : Nat) :
    ∃ px py, (part t xs off).run P w = .ok px w ∧ (part t ys off).run P w = .ok py w ∧ (Op.equalIn (d + 1) t px py).run P w = .ok b w := by
  simp only [eqL, Array.getElem?_toList] at he
  cases hx : xs[off]? with
  | none => simp [hx] at he
  | some x =>
    cases hy : ys[off]? with
    | none => simp [hx, hy] at he
    | some y =>
      simp only [hx, hy] at he
      refine ⟨x, y, ?_, ?_, ?_⟩
      · simp [part, run_isAgg' hu, hs, hx]
      · simp [part, run_isAgg' hu, hs, hy]
      · refine sameNow_equal hu ?_ d
        cases hsn : Instr.sameNow dT x y with
        | none => simp [hsn] at he
        | some c => cases c <;> simp [hsn] at he <;> simp [← he]
theorem eqL_run {w : World} (xs ys : Array Value) : ∀ (d : Nat) (t : TypeId) (off : Nat) (L : List (Nat × TypeDesc)) (b : Bool), eqPlan P d t off = some L → eqL L xs.toList ys.toList = some b → ∀ (d' : Nat), d ≤ d' →
    ∃ px py, (part t xs off).run P w = .ok px w ∧ (part t ys off).run P w = .ok py w ∧ (Op.equalIn d' t px py).run P w = .ok b w
  | 0, t, off, L, b, h, _, _, _ => by simp [eqPlan] at h
  | d + 1, t, off, L, b, h, he, d', hd' => by
    obtain ⟨d'', rfl⟩ : ∃ m, d' = m + 1 := ⟨d' - 1, by omega⟩
    obtain ⟨dT, hu⟩ := underlying_of_info h
    simp only [eqPlan, hu] at h
    cases dT <;> simp only [reduceCtorEq] at h
    · cases h; exact eqL_scal hu rfl he d''
    · cases h; exact eqL_scal hu rfl he d''
    · cases h; exact eqL_scal hu rfl he d''
    · rename_i fs
      cases hst : P.stoodInHeld t with
      | true => simp [hst] at h
      | false =>
        cases hi : P.info? t with
        | none => simp [hst, hi] at h
        | some i =>
          simp only [hst, hi] at h
          refine ⟨.agg (xs.extract off (off + i.size)), .agg (ys.extract off (off + i.size)), ?_, ?_, ?_⟩
          · simp [part, run_isAgg' hu, isAggD, run_sizeOf' hi]
          · simp [part, run_isAgg' hu, isAggD, run_sizeOf' hi]
          · have hu' : P.underlying t = some (.struct (P.fieldsOf t)) := by simp [Program.fieldsOf, hu]
            rw [run_equalIn_struct w d'' t _ _ hu' hst]
            have hfs : P.fieldsOf t = fs := by simp [Program.fieldsOf, hu]
            rw [hfs]
            generalize fs.toList = l at h
            clear hfs hu' hu
            induction l generalizing L b with
            | nil => simp at h; subst h; simp [eqL] at he; subst he; simp [Op.eqFields]
            | cons f l ih =>
              simp only [List.foldr_cons] at h
              by_cases hf : f.name ≠ "_"
              · rw [if_pos hf] at h
                cases hj : P.info? f.type with
                | none => simp [hj] at h
                | some j =>
                  cases hl : eqPlan P d f.type (off + f.offset) with
                  | none => simp [hj, hl] at h
                  | some lf =>
                    generalize hr : List.foldr _ (some []) l = acc at h ih
                    cases acc with
                    | none => simp [hj, hl] at h
                    | some r =>
                      simp only [hj, hl] at h
                      split at h
                      · rename_i hc
                        cases h
                        rw [eqL_append] at he
                        obtain ⟨dF, huF⟩ := underlying_of_info hl
                        cases hel : eqL lf xs.toList ys.toList with
                        | none => simp [hel] at he
                        | some bf =>
                          obtain ⟨px, py, h1, h2, h3⟩ := eqL_run (w := w) xs ys d f.type (off + f.offset) lf bf hl hel d'' (by omega)
                          simp only [Op.eqFields, if_pos hf, Sem.run_bind, part_sub hj huF xs hc.1 hc.2, part_sub hj huF ys hc.1 hc.2, h1, h2, h3, Result.andThen]
                          cases bf with
                          | false => simp [hel] at he; subst he; simp
                          | true => simp [hel] at he; simpa using ih r b he rfl
                      · cases h
              · rw [if_neg hf] at h
                simp only [Op.eqFields, if_neg hf]
                exact ih L b he h
/-- The whole. -/
theorem eqTop_run {w : World} {t : TypeId} {fs : Array Field} (hu : P.underlying t = some (.struct fs)) (xs ys : Array Value) {d : Nat} {L : List (Nat × TypeDesc)} {b : Bool} (h : eqPlan P (d + 1) t 0 = some L)
    (he : eqL L xs.toList ys.toList = some b) (d'' : Nat) (hd' : d ≤ d'') : (Op.equalIn (d'' + 1) t (.agg xs) (.agg ys)).run P w = .ok b w := by
  simp only [eqPlan, hu] at h
  cases hst : P.stoodInHeld t with
  | true => simp [hst] at h
  | false =>
    cases hi : P.info? t with
    | none => simp [hst, hi] at h
    | some i =>
      simp only [hst, hi] at h
      have hu' : P.underlying t = some (.struct (P.fieldsOf t)) := by simp [Program.fieldsOf, hu]
      rw [run_equalIn_struct w d'' t _ _ hu' hst]
      have hfs : P.fieldsOf t = fs := by simp [Program.fieldsOf, hu]
      rw [hfs]
      generalize fs.toList = l at h
      clear hfs hu' hu
      induction l generalizing L b with
      | nil => simp at h; subst h; simp [eqL] at he; subst he; simp [Op.eqFields]
      | cons f l ih =>
        simp only [List.foldr_cons] at h
        by_cases hf : f.name ≠ "_"
        · rw [if_pos hf] at h
          cases hj : P.info? f.type with
          | none => simp [hj] at h
          | some j =>
            cases hl : eqPlan P d f.type (0 + f.offset) with
            | none => simp only [hj, hl] at h; cases h
            | some lf =>
              generalize hr : List.foldr _ (some []) l = acc at h ih
              cases acc with
              | none => simp only [hj, hl] at h; cases h
              | some r =>
                simp only [hj, hl] at h
                split at h
                · rename_i hc
                  cases h
                  rw [eqL_append] at he
                  cases hel : eqL lf xs.toList ys.toList with
                  | none => simp [hel] at he
                  | some bf =>
                    obtain ⟨px, py, h1, h2, h3⟩ := eqL_run (w := w) xs ys d f.type (0 + f.offset) lf bf hl hel d'' (by omega)
                    rw [Nat.zero_add] at h1 h2
                    simp only [Op.eqFields, if_pos hf, Sem.run_bind, h1, h2, h3, Result.andThen]
                    cases bf with
                    | false => simp [hel] at he; subst he; simp
                    | true => simp [hel] at he; simpa using ih he rfl
                · cases h
        · rw [if_neg hf] at h
          simp only [Op.eqFields, if_neg hf]
          exact ih he h
theorem eqIn_ptr1 {w : World} {t e : TypeId} (hd : P.underlying t = some (.pointer e)) (a : Option Addr) (d : Nat) : (Op.equalIn (d + 1) t (.pointer a) (.pointer none)).run P w = .ok a.isNone w := by cases a <;> simp [Op.equalIn, run_underlying' hd]
theorem eqIn_ptr2 {w : World} {t e : TypeId} (hd : P.underlying t = some (.pointer e)) (a : Option Addr) (d : Nat) : (Op.equalIn (d + 1) t (.pointer none) (.pointer a)).run P w = .ok a.isNone w := by simp [Op.equalIn, run_underlying' hd]
theorem eqIn_sl {w : World} {t e : TypeId} (hd : P.underlying t = some (.slice e)) (a : Option Addr) (n1 n2 n3 n4 d : Nat) : (Op.equalIn (d + 1) t (.slice a n1 n2) (.slice none n3 n4)).run P w = .ok a.isNone w := by cases a <;> simp [Op.equalIn, run_underlying' hd]
theorem eqIn_map {w : World} {t e k : TypeId} (hd : P.underlying t = some (.map k e)) (a : Option Nat) (d : Nat) : (Op.equalIn (d + 1) t (.map a) (.map none)).run P w = .ok a.isNone w := by cases a <;> simp [Op.equalIn, run_underlying' hd]
end Go.Proofs.Ytdolepapmpcpiaa

namespace Go.Proofs.Ytdolepapmpcpiaa
open Go Go.MapKept
set_option linter.unusedSectionVars false
variable [Base]
set_option linter.unusedVariables false
set_option linter.unusedSimpArgs false
variable {P : Program}
theorem ok_value {s : Sem Value} {w w' : World} {v : Value} {K : Kont} (h : s.run P w = .ok v w') (hk : K v (hv w')) : OpOk P ((do pure (Next.value (← s)) : Sem Next).run P w) K := by
  simp only [Sem.run_bind, h, Result.andThen, Sem.run_pure, OpOk]
  exact hk
theorem ok_unit {s : Sem Unit} {w w' : World} {K : Kont} (h : s.run P w = .ok () w') (hk : K undef (hv w')) : OpOk P ((do s; pure Next.skip : Sem Next).run P w) K := by
  simp only [Sem.run_bind, h, Result.andThen, Sem.run_pure, OpOk]
  exact hk
theorem snd_newVar {w : World} {t : TypeId} {c : Array Value} : (newRow t c).run P w = .ok ⟨w.heap.size, 0, none⟩ { w with heap := w.heap.push (.cells c t) } := by
  simp [newRow]
theorem hv_new {w : World} (hb : Base.b ≤ w.heap.size) (c : Array Value) (t : TypeId) : hv { w with heap := w.heap.push (.cells c t) } = (hv w).push (.cells c) := by
  rw [hv_push hb, abs_cells]
theorem snd_storeVar {w : World} {t : TypeId} {i : TypeInfo} (hi : P.info? t = some i) {b o : Nat} {v : Value} {c : Array Value} (hc : (hv w)[b]? = some (.cells c)) (hn : v.cells.size = i.size) (hl : o + i.size ≤ c.size)
    (h1 : v.cells.toList.all one = true) : ∃ w', (storeVar t ⟨b, o, none⟩ v).run P w = .ok () w' ∧ hv w' = (hv w).setIfInBounds b (.cells (setL c o v.cells.toList)) := by
  obtain ⟨w', hr, hw⟩ := run_storeCells (P := P) v.cells.toList w b o 0 c hc (by simp; omega) h1
  refine ⟨w', ?_, by simpa using hw⟩
  simp only [storeVar, Sem.run_bind, run_sizeOf' hi, Result.andThen, Sem.run_ite, hn, ne_eq, not_true_eq_false, if_false, Sem.run_pure]
  exact hr
theorem lay_none {t : TypeId} (h : lay P t = some none) : ∃ d, P.underlying t = some d ∧ isAggD d = false := by
  unfold lay at h
  split at h
  · rename_i i d hi hd
    refine ⟨d, hd, ?_⟩
    cases ha : isAggD d <;> simp [ha] at h ⊢
  · cases h
theorem lay_some {t : TypeId} {n : Nat} (h : lay P t = some (some n)) : ∃ d i, P.underlying t = some d ∧ isAggD d = true ∧ P.info? t = some i ∧ i.size = n := by
  unfold lay at h
  split at h
  · rename_i i d hi hd
    refine ⟨d, i, hd, ?_⟩
    cases ha : isAggD d <;> simp [ha] at h ⊢
    exact ⟨hi, h⟩
  · cases h
theorem snd_part {w : World} {t : TypeId} {n : Option Nat} (hl : lay P t = some n) {cs : Array Value} {off : Nat} {v : Value} (h : partV cs off n = some v) : (part t cs off).run P w = .ok v w := by
  cases n with
  | none =>
    obtain ⟨d, hd, ha⟩ := lay_none hl
    simp only [partV] at h
    simp [part, run_isAgg' hd, ha, h]
  | some n =>
    obtain ⟨d, i, hd, ha, hi, rfl⟩ := lay_some hl
    simp only [partV] at h
    cases h
    simp [part, run_isAgg' hd, ha, run_sizeOf' hi]
theorem zeroV_run {w : World} {t : TypeId} {z : Value} (h : zeroV P t = some z) : (zeroValue t).run P w = .ok z w := by
  unfold zeroV at h
  simp only [Option.bind_eq_some_iff] at h
  obtain ⟨i, hi, hz⟩ := h
  exact run_zero' hi hz
theorem elemI_run {t : TypeId} {sz bytes : Nat} {z : Array Value} (h : elemI P t = some (sz, bytes, z)) : ∃ i zv, P.info? t = some i ∧ i.zero = some zv ∧ i.size = sz ∧ i.bytes = bytes ∧ zv.cells = z := by
  unfold elemI at h
  split at h
  · rename_i i hi
    split at h
    · rename_i zv hz
      simp only [Option.some.injEq, Prod.mk.injEq] at h
      exact ⟨i, zv, hi, hz, h.1, h.2.1, h.2.2⟩
    · cases h
  · cases h
theorem snd_binV {w : World} {op : BinOp} {t : TypeId} {x y : Value} {v : Value} (h : binV op x y = some v) : (binOp op t x y).run P w = .ok v w := by
  unfold binV at h
  split at h
  · rename_i k a k' b
    cases op <;> simp only at h
    case shl =>
      split at h
      · cases h
      · rename_i hb; cases h; simp [binOp, Op.shift, hb]
    case shr =>
      split at h
      · cases h
      · rename_i hb; cases h; simp [binOp, Op.shift, hb]
    all_goals
      split at h
      · rename_i hk
        subst hk
        simp only [intBin] at h
        first
          | (cases h; simp [binOp, Op.intArith, Op.intBits, Op.intCmp]; done)
          | (split at h
             · cases h
             · rename_i hb; cases h; simp [binOp, Op.intDiv, hb])
      · cases h
  · rename_i a b
    cases op <;> simp only [strBin] at h <;> first
      | (cases h; done)
      | (cases h; simp [binOp, Op.stringOp]; done)
      | (split at h
         · rename_i hs; cases h; simp [binOp, Op.stringOp, IntKind.max_i64]; omega
         · cases h)
  · cases h
theorem guard_plain {w : World} {op : BinOp} {t : TypeId} {x y : Operand} {a b : Value} (h : binV op a b ≠ none ∨ (op ≠ .eql ∧ op ≠ .neq)) : (eqGuard op t x y a b).run P w = .ok () w := by
  rcases h with h | ⟨h1, h2⟩
  · cases op <;> first
      | rfl
      | (unfold binV at h
         split at h
         · simp [eqGuard]
         · simp [eqGuard]
         · exact absurd rfl h)
  · cases op <;> first | rfl | exact absurd rfl h1 | exact absurd rfl h2
theorem snd_eqV {w : World} {t : TypeId} {d : TypeDesc} {x y : Value} {b : Bool} {c : Nat} (hd : P.underlying t = some d) (h0 : dcls d = some c) (h : eqV c (eqPlanTop P t) x y = some b) :
    (Op.equalIn 10000 t x y).run P w = .ok b w ∧ ∀ (o1 o2 : Operand) (neq : Bool), (eqGuard (if neq then .neq else .eql) t o1 o2 x y).run P w = .ok () w ∧
      (binOp (if neq then .neq else .eql) t x y).run P w = .ok (.bool (if neq then !b else b)) w := by
  have key : ∀ (hx : (Op.equalIn 10000 t x y).run P w = .ok b w), (∀ k a k' c, x = .int k a → y = .int k' c → False) → (∀ a c, x = .string a → y = .string c → False) → (∀ k a k' c, x = .float k a → y = .float k' c → False) →
      (∀ k a a' k' c c', x = .complex k a a' → y = .complex k' c c' → False) → ∀ (neq : Bool),
      (binOp (if neq then .neq else .eql) t x y).run P w = .ok (.bool (if neq then !b else b)) w := by
    intro hx h1 h2 h3 h4 neq
    cases neq
    all_goals
      simp only [Bool.false_eq_true, if_false, if_true]
      unfold binOp
      split <;> first
        | exact (h1 _ _ _ _ rfl rfl).elim
        | exact (h2 _ _ rfl rfl).elim
        | exact (h3 _ _ _ _ rfl rfl).elim
        | exact (h4 _ _ _ _ _ _ rfl rfl).elim
        | (simp only [Sem.run_bind, Op.equal, Op.maxDepth, hx, Result.andThen, Sem.run_pure]; done)
        | simp_all
  unfold eqV at h
  split at h
  · rename_i a c
    cases d <;> simp [dcls] at h0
    cases h
    have e := run_equalIn_bool' w 9999 t a c hd
    exact ⟨e, fun o1 o2 neq => ⟨by cases neq <;> simp [eqGuard], key e (by simp) (by simp) (by simp) (by simp) neq⟩⟩
  · cases d <;> simp [dcls] at h0
    cases h
    exact ⟨eqIn_ptr1 hd _ 9999, fun o1 o2 neq => ⟨by cases neq <;> simp [eqGuard], key (eqIn_ptr1 hd _ 9999) (by simp) (by simp) (by simp) (by simp) neq⟩⟩
  · cases d <;> simp [dcls] at h0
    cases h
    exact ⟨eqIn_ptr2 hd _ 9999, fun o1 o2 neq => ⟨by cases neq <;> simp [eqGuard], key (eqIn_ptr2 hd _ 9999) (by simp) (by simp) (by simp) (by simp) neq⟩⟩
  · cases d <;> simp [dcls] at h0
    cases h
    exact ⟨eqIn_sl hd _ _ _ _ _ 9999, fun o1 o2 neq => ⟨by cases neq <;> simp [eqGuard], key (eqIn_sl hd _ _ _ _ _ 9999) (by simp) (by simp) (by simp) (by simp) neq⟩⟩
  · cases d <;> simp [dcls] at h0
    cases h
    exact ⟨eqIn_map hd _ 9999, fun o1 o2 neq => ⟨by cases neq <;> simp [eqGuard], key (eqIn_map hd _ 9999) (by simp) (by simp) (by simp) (by simp) neq⟩⟩
  · rename_i xs ys
    cases d <;> simp [dcls] at h0
    rename_i fs
    simp only [Option.bind_eq_some_iff] at h
    obtain ⟨L, hL, he⟩ := h
    unfold eqPlanTop at hL
    simp only [hd] at hL
    split at hL
    · cases hL
    · rename_i hg
      have hg' : P.eqGuardType P.depth t = false := by simpa using hg
      have e := eqTop_run (w := w) hd xs ys hL he 9999 (by omega)
      exact ⟨e, fun o1 o2 neq => ⟨run_eqGuard_agg w _ t o1 o2 xs ys hg', key e (by simp) (by simp) (by simp) (by simp) neq⟩⟩
  · cases h
end Go.Proofs.Ytdolepapmpcpiaa

namespace Go.Proofs.Ytdolepapmpcpiaa
open Go Go.MapKept
set_option linter.unusedSectionVars false
variable [Base]
set_option linter.unusedVariables false
set_option linter.unusedSimpArgs false
variable {P : Program}
theorem snd_load {w : World} {t : TypeId} {x : Value} {K : Kont} {l : Option Nat} (hl : lay P t = some l) (hk : (match l with | none => oLd1 x (hv w) K | some n => oLdN n x (hv w) K)) :
    ∃ v, (Instr.loadAt t x).run P w = .ok v w ∧ K v (hv w) := by
  cases l with
  | none =>
    obtain ⟨d, hd, ha⟩ := lay_none hl
    simp only [oLd1] at hk
    split at hk
    · obtain ⟨v, hr, hk⟩ := hk
      rw [rdC_hv] at hr
      refine ⟨v, ?_, hk⟩
      simp [Instr.loadAt, Instr.sureAddr, loadVar, run_isAgg' hd, ha, hr]
    · exact hk.elim
  | some n =>
    obtain ⟨d, i, hd, ha, hi, rfl⟩ := lay_some hl
    simp only [oLdN] at hk
    split at hk
    · obtain ⟨vs, hr, hk⟩ := hk
      refine ⟨_, ?_, hk⟩
      simp [Instr.loadAt, Instr.sureAddr, loadVar, run_isAgg' hd, ha, run_sizeOf' hi, run_rdN hr]
    · exact hk.elim
theorem snd_store {w : World} {t : TypeId} {i : TypeInfo} (hi : P.info? t = some i) {x v : Value} {K : Kont} (hk : oSt i.size x v (hv w) K) : ∃ w', (Instr.storeAt t x v).run P w = .ok () w' ∧ K undef (hv w') := by
  simp only [oSt] at hk
  split at hk
  · obtain ⟨c, hc, hn, hl, h1, hk⟩ := hk
    obtain ⟨w', hr, hw⟩ := snd_storeVar hi hc hn hl h1
    exact ⟨w', by simp [Instr.storeAt, Instr.sureAddr, hr], by rw [hw]; exact hk⟩
  · exact hk.elim
theorem bnd_some {w : World} {v : Value} {d y n : Nat} (h : bnd (some v) d y = some n) (c : BoundsCode) : (Instr.sliceBound v y c).run P w = .ok n w ∧ n ≤ y := by
  unfold bnd at h
  split at h
  · cases ‹some v = none›
  · rename_i k i hv
    simp only [Option.some.injEq] at hv
    subst hv
    split at h
    · rename_i hc
      cases h
      refine ⟨?_, by omega⟩
      simp [Instr.sliceBound, asIntOf, hc]
    · cases h
  · cases h
theorem snd_bounds {w : World} {isS : Bool} {len cap : Nat} {lo hi mx : Option Value} {m hh l : Nat} (h1 : bnd mx cap cap = some m) (h2 : bnd hi len m = some hh) (h3 : hi = none → mx = none) (h4 : bnd lo 0 hh = some l) :
    (Instr.sliceBounds isS len cap lo hi mx).run P w = .ok (l, hh, m) w := by
  unfold Instr.sliceBounds
  cases mx with
  | none =>
    simp only [bnd] at h1; cases h1
    cases hi with
    | none =>
      simp only [bnd] at h2; cases h2
      cases lo with
      | none => simp only [bnd] at h4; cases h4; simp
      | some v => simp [(bnd_some h4 _).1]
    | some u =>
      simp only [Sem.run_bind, Sem.run_pure, Result.andThen, (bnd_some h2 _).1]
      cases lo with
      | none => simp only [bnd] at h4; cases h4; simp
      | some v => simp [(bnd_some h4 _).1]
  | some z =>
    simp only [Sem.run_bind, (bnd_some h1 _).1, Result.andThen]
    cases hi with
    | none => cases h3 rfl
    | some u =>
      simp only [Sem.run_bind, Sem.run_pure, Result.andThen, (bnd_some h2 _).1]
      cases lo with
      | none => simp only [bnd] at h4; cases h4; simp
      | some v => simp [(bnd_some h4 _).1]
theorem src_run {w : World} {sz m : Nat} {x : Value} {vs : List Value} (h : srcCells sz x (hv w) = some (m, vs)) :
    (Builtin.lenOf x).run P w = .ok m w ∧ vs.length = m * sz ∧ ∀ n, n ≤ m → (Builtin.firstCells sz n x).run P w = .ok (vs.take (n * sz)).toArray w := by
  unfold srcCells at h
  split at h
  · split at h
    · rename_i hn; cases h; subst hn; exact ⟨by simp [Builtin.lenOf], by rw [Nat.zero_mul]; rfl, fun n hn => by simp [Builtin.firstCells]⟩
    · cases h
  · rename_i b i n _
    simp only [Option.map_eq_some_iff, Prod.mk.injEq] at h
    obtain ⟨l, hl, rfl, rfl⟩ := h
    obtain ⟨h1, h2⟩ := rdN_get _ _ _ hl
    refine ⟨by simp [Builtin.lenOf], h1, fun k hk => ?_⟩
    simp only [Builtin.firstCells]
    have hlen : (l.take (k * sz)).length = k * sz := by rw [List.length_take, h1]; exact Nat.min_eq_left (Nat.mul_le_mul_right _ hk)
    rw [← hlen]
    have := run_loadCells_list (P := P) w ⟨b, i, none⟩ (l.take (k * sz)) (fun j v hj => by
      rw [add0, ← rdC_hv]
      refine h2 j v ?_
      rw [List.getElem?_take] at hj
      split at hj
      · exact hj
      · cases hj)
    rw [this, hlen]
  · split at h
    · rename_i hn; cases h; subst hn
      refine ⟨by simp [Builtin.lenOf], by rw [Nat.zero_mul]; rfl, fun n hn => ?_⟩
      have h0 : n = 0 := by omega
      subst h0
      simp [Builtin.firstCells, loadCells, loadCellsFrom]
    · cases h
  · rename_i s
    split at h
    · rename_i hz
      cases h
      subst hz
      refine ⟨by simp only [Builtin.lenOf, Sem.run_pure], by rw [List.length_map, Nat.mul_one]; rfl, fun n hn => ?_⟩
      simp only [Builtin.firstCells, Sem.run_pure]
      congr 1
      apply Array.ext'
      simp only [Array.toList_map, Nat.mul_one, ByteArray.data_extract, Array.toList_extract, List.extract_eq_take_drop, List.drop_zero, Nat.sub_zero, List.map_take]
    · cases h
  · cases h
theorem run_choose_cap (w : World) (need old : Nat) (e : TypeId) : ∃ nc, need ≤ nc ∧ (choose (.appendCap need old e)).run P w = .ok nc { w with drawn := w.drawn + 1 } := by
  refine ⟨_, ?_, by simp [Question.forced]; rfl⟩
  simp only [Question.cut]
  omega
theorem snd_append {w : World} {t u e : TypeId} {sz bytes : Nat} {z : Array Value} (ht : P.underlying t = some (.slice e)) (hu : ∃ d, P.underlying u = some d ∧ ((∃ e', d = .slice e') ∨ d = .string))
    (he : elemI P e = some (sz, bytes, z)) (hb : bytes ≠ 0) {s x : Value} {K : Kont} (hk : oAppend sz bytes z s x (hv w) K) (ty : TypeId) :
    ∃ v w', (Builtin.append_ #[t, u] ty #[s, x]).run P w = .ok v w' ∧ K v (hv w') := by
  obtain ⟨i, zv, hi, hz, rfl, rfl, rfl⟩ := elemI_run he
  simp only [oAppend] at hk
  split at hk
  · rename_i base n cap
    obtain ⟨m, vs, hs, hfit, hgrow⟩ := hk
    obtain ⟨hlen, hvl, hfirst⟩ := src_run (P := P) hs
    have hvs : ∀ w2, hv w2 = hv w → (Builtin.firstCells i.size m x).run P w2 = .ok vs.toArray w2 := fun w2 hw2 => by
      have h2 := (src_run (P := P) (w := w2) (by rw [hw2]; exact hs)).2.2 m (Nat.le_refl _)
      rw [h2, List.take_of_length_le (by omega)]
    obtain ⟨d, hd, hd2⟩ := hu
    have hz0 : (match d with | .int _ => true | _ => false) = false := by
      rcases hd2 with ⟨e', rfl⟩ | rfl <;> rfl
    have hz1 : ∀ k, d ≠ .int k := by
      rcases hd2 with ⟨e', rfl⟩ | rfl <;> simp
    by_cases hc : n + m ≤ cap
    · have hpre : ∀ v w', (do (match base with | some a => storeCells (a.add (n * i.size)) vs | none => pure ()); pure (Value.slice base (n + m) cap) : Sem Value).run P w = .ok v w' →
          (Builtin.append_ #[t, u] ty #[.slice base n cap, x]).run P w = .ok v w' := by
        intro v w' hr
        unfold Builtin.append_
        simp only [Sem.run_bind] at hr
        rcases hd2 with ⟨e', rfl⟩ | rfl <;> cases base <;>
          simpa only [List.getElem?_toArray, List.getElem?_cons_zero, List.getElem?_cons_succ, Sem.run_bind, run_underlying' ht, run_underlying' hd, Result.andThen, Sem.run_pure, run_sizeOf' hi, Bool.false_eq_true, if_false, Bool.not_false, if_true, hlen, hc, hvs w rfl] using hr
      rcases hfit hc with ⟨rfl, hk⟩ | ⟨b, o, c, rfl, hb', hl, h1, hk⟩
      · refine ⟨_, w, hpre _ _ ?_, hk⟩
        cases base <;> simp [storeCells]
      · obtain ⟨w', hr, hw⟩ := run_storeCells (P := P) vs w b (o + n * i.size) 0 c hb' (by omega) h1
        refine ⟨_, w', hpre _ _ ?_, by rw [hw]; exact hk⟩
        simp only [add0, Sem.run_bind, hr, Result.andThen, Sem.run_pure]
    · obtain ⟨old, ho, hsz, hbs, hk⟩ := hgrow (by omega)
      obtain ⟨nc, hnc, hch⟩ := run_choose_cap (P := P) w (n + m) cap e
      have hold := (src_run (P := P) (w := { w with drawn := w.drawn + 1 }) (show srcCells i.size (.slice base n cap) (hv { w with drawn := w.drawn + 1 }) = some (n, old) from ho)).2
      have hold2 := hold.2 n (Nat.le_refl _)
      rw [List.take_of_length_le (by have := hold.1; omega)] at hold2
      have hfit := growslice_fits (need := n + m) (old := cap) (bytes := i.bytes) (by omega) hsz
      have hg1 : ¬ ((((n + m : Nat) : Int) > IntKind.i64.max) ∧ (False ∨ i.bytes = 0)) := fun h => by
        rcases h.2 with h | h
        · exact h
        · exact hb h
      have hg2 : ¬ (Builtin.nextslicecap (n + m) cap * i.bytes > 281474976710656) := by omega
      refine ⟨.slice (some ⟨w.heap.size, 0, none⟩) (n + m) nc, { w with drawn := w.drawn + 1, heap := w.heap.push (.cells (old.toArray ++ vs.toArray ++ Builtin.zeroCells zv.cells (nc - (n + m))) e) }, ?_, ?_⟩
      rotate_left
      · have := hk nc hnc
        rw [hv_size] at hbs
        rw [← hv_new hbs _ e, hv_size] at this
        exact this
      · unfold Builtin.append_
        rcases hd2 with ⟨e', rfl⟩ | rfl
        all_goals
          simp only [List.getElem?_toArray, List.getElem?_cons_zero, List.getElem?_cons_succ, Sem.run_bind, run_underlying' ht, run_underlying' hd, Result.andThen, Sem.run_pure, run_sizeOf' hi, Bool.false_eq_true, if_false, Bool.not_false, if_true, hlen, hc,
            run_typeInfo' hi, Sem.run_ite, hg1, hg2, hch, run_askRoom, hold2, hvs _ rfl, zeroV_run (show zeroV P e = some zv by simp [zeroV, hi, hz]), snd_newVar]
          rw [hvs { w with drawn := w.drawn + 1 } rfl]
  · exact hk.elim
end Go.Proofs.Ytdolepapmpcpiaa

namespace Go.Proofs.Ytdolepapmpcpiaa
open Go Go.MapKept
set_option linter.unusedSectionVars false
variable [Base]
set_option linter.unusedVariables false
set_option linter.unusedSimpArgs false
variable {P : Program}
theorem all_cells_zero {z : Array Value} {n : Nat} (h : z.toList.all one = true) : (Builtin.zeroCells z n).toList.all one = true := by
  rw [List.all_eq_true]
  intro v hv
  simp only [Builtin.zeroCells, Array.toList_map, List.mem_map] at hv
  obtain ⟨i, hi, rfl⟩ := hv
  rw [List.all_eq_true] at h
  simp only [Array.toList_range, List.mem_range] at hi
  have hz : 0 < z.size := by
    rcases Nat.eq_zero_or_pos z.size with h0 | h0
    · rw [h0] at hi; omega
    · exact h0
  have hm : i % z.size < z.size := Nat.mod_lt _ hz
  rw [getElem!_pos z _ hm]
  exact h _ (by simp)
theorem snd_clear {w : World} {t e : TypeId} {sz bytes : Nat} {z : Array Value} (ht : P.underlying t = some (.slice e)) (he : elemI P e = some (sz, bytes, z)) {x : Value} {K : Kont} (hk : oClearSlice sz z x (hv w) K) (ty : TypeId) :
    ∃ v w', (Builtin.clear_ #[t] ty #[x]).run P w = .ok v w' ∧ K v (hv w') := by
  obtain ⟨i, zv, hi, hz, rfl, rfl, rfl⟩ := elemI_run he
  simp only [oClearSlice] at hk
  split at hk
  · refine ⟨_, w, ?_, hk⟩
    simp [Builtin.clear_, run_underlying' ht]
  · rename_i b o n _
    obtain ⟨c, hc, hl, hzs, h1, hk⟩ := hk
    have hsz : (Builtin.zeroCells zv.cells n).toList.length = n * i.size := by simp [Builtin.zeroCells, hzs]
    by_cases hn : n = 0
    · subst hn
      refine ⟨.tuple #[], w, ?_, ?_⟩
      rotate_left
      · have e0 : (Builtin.zeroCells zv.cells 0).toList = [] := List.eq_nil_of_length_eq_zero (by rw [hsz]; simp)
        rw [e0] at hk
        simp only [setL] at hk
        have : (hv w).setIfInBounds b (.cells c) = hv w := by
          apply Array.ext_getElem?
          intro r
          rw [Array.getElem?_setIfInBounds]
          split
          · rename_i hr; subst hr
            have hlt := (Array.getElem?_eq_some_iff.1 hc).1
            rw [if_pos hlt, hc]
          · rfl
        rw [this] at hk
        exact hk
      · simp [Builtin.clear_, run_underlying' ht]
    · obtain ⟨w', hr, hw⟩ := run_storeCells (P := P) (Builtin.zeroCells zv.cells n).toList w b o 0 c hc (by rw [hsz]; omega) (all_cells_zero h1)
      refine ⟨_, w', ?_, by rw [hw]; exact hk⟩
      obtain ⟨m, rfl⟩ : ∃ m, n = m + 1 := ⟨n - 1, by omega⟩
      simp only [Builtin.clear_, List.getElem?_toArray, List.getElem?_cons_zero, Sem.run_bind, run_underlying' ht, Result.andThen, zeroV_run (show zeroV P e = some zv by simp [zeroV, hi, hz]), hr, Sem.run_pure]
  · exact hk.elim
theorem snd_clearMap {w : World} {t k e : TypeId} (ht : P.underlying t = some (.map k e)) {x : Value} {K : Kont} (hk : oClearMap x (hv w) K) (ty : TypeId) :
    ∃ v w', (Builtin.clear_ #[t] ty #[x]).run P w = .ok v w' ∧ K v (hv w') := by
  simp only [oClearMap] at hk
  split at hk
  · exact ⟨_, w, by simp [Builtin.clear_, run_underlying' ht], hk⟩
  · rename_i r
    obtain ⟨kv, hm, hk⟩ := hk
    obtain ⟨es, ck, hb, hs, rfl⟩ := of_map hm
    refine ⟨_, _, by simp only [Builtin.clear_, List.getElem?_toArray, List.getElem?_cons_zero, Sem.run_bind, run_underlying' ht, Result.andThen, run_getObj' hb, run_setObj' hb, Sem.run_pure]; rfl, ?_⟩
    rw [hv_setObj (of_baseM hm), abs_map (stamped_empty ck)]
    exact hk
  · exact hk.elim
theorem snd_copy {w : World} {t u e : TypeId} {sz bytes : Nat} {z : Array Value} (ht : P.underlying t = some (.slice e)) (he : elemI P e = some (sz, bytes, z)) {d s : Value} {K : Kont} (hk : oCopy sz d s (hv w) K) (ty : TypeId) :
    ∃ v w', (Builtin.copy_ #[t, u] ty #[d, s]).run P w = .ok v w' ∧ K v (hv w') := by
  obtain ⟨i, zv, hi, hz, rfl, rfl, rfl⟩ := elemI_run he
  simp only [oCopy] at hk
  split at hk
  · rename_i n c
    obtain ⟨rfl, ⟨m, vs, hs⟩, hk⟩ := hk
    obtain ⟨hlen, hvl, hfirst⟩ := src_run (P := P) hs
    have hf := hfirst 0 (Nat.zero_le _)
    refine ⟨.int .i64 0, w, ?_, hk⟩
    have hm : Nat.min m 0 = 0 := Nat.min_zero m
    simp only [Builtin.copy_, List.getElem?_toArray, List.getElem?_cons_zero, List.getElem?_cons_succ, Sem.run_bind, run_underlying' ht, Result.andThen, hlen, run_sizeOf' hi, hm, hf, Sem.run_pure, goInt]
    rfl
  · rename_i b o n _
    obtain ⟨m, vs, c, hs, hc, hl, h1, hk⟩ := hk
    obtain ⟨hlen, hvl, hfirst⟩ := src_run (P := P) hs
    have hf := hfirst (min m n) (Nat.min_le_left _ _)
    have hlen2 : (vs.take (min m n * i.size)).length = min m n * i.size := by
      rw [List.length_take, hvl]
      exact Nat.min_eq_left (Nat.mul_le_mul_right _ (Nat.min_le_left _ _))
    have hle : min m n * i.size ≤ n * i.size := Nat.mul_le_mul_right _ (Nat.min_le_right _ _)
    obtain ⟨w', hr, hw⟩ := run_storeCells (P := P) (vs.take (min m n * i.size)) w b o 0 c hc (by rw [hlen2]; omega) (by
      rw [List.all_eq_true] at h1 ⊢
      exact fun v hv => h1 v (List.mem_of_mem_take hv))
    refine ⟨.int .i64 (min m n : Nat), w', ?_, by rw [hw]; exact hk⟩
    simp only [Builtin.copy_, List.getElem?_toArray, List.getElem?_cons_zero, List.getElem?_cons_succ, Sem.run_bind, run_underlying' ht, Result.andThen, hlen, run_sizeOf' hi]
    have hmm : Nat.min m n = min m n := rfl
    simp only [hmm, hf, hr, Result.andThen, Sem.run_pure, Sem.run_bind, goInt]
  · exact hk.elim
end Go.Proofs.Ytdolepapmpcpiaa

