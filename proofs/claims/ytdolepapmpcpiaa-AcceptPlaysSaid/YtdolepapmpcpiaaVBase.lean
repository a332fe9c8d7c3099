/- The heap of a world seen without types of blocks and stamps of maps; readings and writings of it. No program in sight. -/
import Derived.Calls
import Derived.Orders
import Derived.OrdersHeld
import Derived.LoopN
import Derived.KernelRfl
import Derived.MapKept
import Derived.Below
namespace Go.Proofs.Ytdolepapmpcpiaa
open Go Go.MapKept
set_option linter.unusedVariables false
set_option linter.unusedSectionVars false

/-- What lies at a block: a row of cells that may be written, a map's entries in the order in which they came, or something else. -/
inductive AObj where
  | cells (c : Array Value)
  | map (kv : List (Value × Value))
  | other (o : Obj)
  | old (o : Obj) (os : Os) (out : Array (Nat × ByteArray))

def kvOf (es : Array MapEntry) : List (Value × Value) := es.toList.map fun e => (e.key, e.val)

open Classical in
noncomputable def absObj : Obj → AObj
  | .cells c t f => if f = (0, 0) then .cells c else .other (.cells c t f)
  | .map es k => if Stamped es k then .map (kvOf es) else .other (.map es k)
  | o => .other o

abbrev Hp := Array AObj
/-- Below b lies what lay when the call that is spoken of began: it is seen whole, with the streams. -/
class Base where
  b : Nat
variable [Base]
noncomputable def see (w : World) (r : Nat) (o : Obj) : AObj := if r < Base.b then .old o w.os w.output else absObj o
noncomputable def hv (w : World) : Hp := w.heap.mapIdx (see w)

theorem hv_size (w : World) : (hv w).size = w.heap.size := by simp [hv]
theorem hv_get (w : World) (r : Nat) : (hv w)[r]? = (w.heap[r]?).map (see w r) := by simp [hv]
theorem hv_drawn (w : World) (n : Nat) : hv { w with drawn := n } = hv w := rfl
theorem see_eq {w w' : World} (h1 : w'.os = w.os) (h2 : w'.output = w.output) : see w' = see w := by funext r o; simp [see, h1, h2]
theorem see_new {w : World} {r : Nat} (hb : Base.b ≤ r) (o : Obj) : see w r o = absObj o := by simp [see, Nat.not_lt.2 hb]
theorem hv_push {w : World} (hb : Base.b ≤ w.heap.size) (o : Obj) : hv { w with heap := w.heap.push o } = (hv w).push (absObj o) := by
  unfold hv
  rw [Array.mapIdx_push, see_eq (w := w) (w' := { w with heap := w.heap.push o }) rfl rfl, see_new hb]
theorem abs_cells (c : Array Value) (t : TypeId) : absObj (.cells c t) = .cells c := by simp [absObj]
theorem abs_cells0 (c : Array Value) (t : TypeId) : absObj (.cells c t (0, 0)) = .cells c := by simp [absObj]

theorem of_cells {w : World} {b : Nat} {c : Array Value} (h : (hv w)[b]? = some (.cells c)) : ∃ t, w.heap[b]? = some (.cells c t (0, 0)) := by
  rw [hv_get] at h
  cases ho : w.heap[b]? with
  | none => simp [ho] at h
  | some o =>
    rw [ho] at h
    simp only [Option.map_some, Option.some.injEq, see] at h
    split at h
    · cases h
    cases o <;> simp only [absObj] at h <;> try (cases h; done)
    · split at h
      · rename_i hf; cases h; exact ⟨_, by rw [hf]⟩
      · cases h
    · split at h <;> cases h

theorem of_base {w : World} {b : Nat} {c : Array Value} (h : (hv w)[b]? = some (.cells c)) : Base.b ≤ b := by
  rw [hv_get] at h
  cases ho : w.heap[b]? with
  | none => simp [ho] at h
  | some o =>
    rw [ho] at h
    simp only [Option.map_some, Option.some.injEq, see] at h
    split at h
    · cases h
    · omega
theorem of_baseM {w : World} {b : Nat} {c : List (Value × Value)} (h : (hv w)[b]? = some (.map c)) : Base.b ≤ b := by
  rw [hv_get] at h
  cases ho : w.heap[b]? with
  | none => simp [ho] at h
  | some o =>
    rw [ho] at h
    simp only [Option.map_some, Option.some.injEq, see] at h
    split at h
    · cases h
    · omega

theorem of_map {w : World} {b : Nat} {kv : List (Value × Value)} (h : (hv w)[b]? = some (.map kv)) : ∃ es k, w.heap[b]? = some (.map es k) ∧ Stamped es k ∧ kvOf es = kv := by
  rw [hv_get] at h
  cases ho : w.heap[b]? with
  | none => simp [ho] at h
  | some o =>
    rw [ho] at h
    simp only [Option.map_some, Option.some.injEq, see] at h
    split at h
    · cases h
    cases o <;> simp only [absObj] at h <;> try (cases h; done)
    · split at h <;> cases h
    · split at h
      · rename_i hf; cases h; exact ⟨_, _, rfl, hf, rfl⟩
      · cases h

/-- The cell i of block b. -/
def rdC (h : Hp) (b i : Nat) : Option Value :=
  match h[b]? with
  | some (.cells c) => c[i]?
  | some (.other (.cells c _ _)) => c[i]?
  | some (.old (.cells c _ _) _ _) => c[i]?
  | _ => none

theorem rdC_hv (w : World) (b i : Nat) : rdC (hv w) b i = w.cell? ⟨b, i, none⟩ := by
  unfold rdC World.cell?
  rw [hv_get]
  cases ho : w.heap[b]? with
  | none => simp
  | some o =>
    by_cases hb : b < Base.b
    · simp only [Option.map_some, see, if_pos hb]
      cases o <;> simp
    simp only [Option.map_some, see, if_neg hb]
    cases o <;> simp [absObj]
    · split <;> rename_i h <;> (try split at h) <;> simp_all
    · split <;> rename_i h <;> (try split at h) <;> simp_all

/-- n cells from i on. -/
def rdN (h : Hp) (b : Nat) : Nat → Nat → Option (List Value)
  | _, 0 => some []
  | i, n + 1 => (rdC h b i).bind fun v => (rdN h b (i + 1) n).map (v :: ·)

/-- Cells from i on are set. -/
def setL (c : Array Value) (i : Nat) : List Value → Array Value
  | [] => c
  | v :: vs => setL (c.setIfInBounds i v) (i + 1) vs

theorem setL_size (vs : List Value) : ∀ (c : Array Value) (i : Nat), (setL c i vs).size = c.size := by
  induction vs with
  | nil => intro c i; rfl
  | cons v vs ih => intro c i; simp [setL, ih]

def one (v : Value) : Bool := match v with | .agg _ | .tuple _ => false | _ => true

/-! ### What may be behind a step -/

/-- Nothing that lay has turned, but for the blocks in S; there may be more. -/
def Upd (S : Nat → Prop) (h h' : Hp) : Prop := h.size ≤ h'.size ∧ ∀ r, r < h.size → ¬ S r → h'[r]? = h[r]?
abbrev Ext (h h' : Hp) : Prop := Upd (fun _ => False) h h'

end Go.Proofs.Ytdolepapmpcpiaa
