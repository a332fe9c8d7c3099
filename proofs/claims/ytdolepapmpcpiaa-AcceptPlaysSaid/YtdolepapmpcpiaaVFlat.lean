/- What came in, of a type whose cells are integers alone: its cells. -/
import Derived.Test.YtdolepapmpcpiaaVRow0
namespace Go.Proofs.Ytdolepapmpcpiaa
open Go
set_option linter.unusedSectionVars false
set_option linter.unusedVariables false

def flatGo (P : Program) (rec : TypeId → Option (List IntKind)) (all : Nat) : Nat → List Field → Option (List IntKind)
  | off, [] => if off = all then some [] else none
  | off, f :: r =>
    if f.offset = off then
      match rec f.type with
      | some a => if a.length = P.cellsOf f.type then (flatGo P rec all (off + a.length) r).map (a ++ ·) else none
      | none => none
    else none
def flatK (P : Program) : Nat → TypeId → Option (List IntKind)
  | 0, _ => none
  | n + 1, t =>
    match P.underlying t with
    | some (.int k) => some [k]
    | some (.struct fs) => flatGo P (flatK P n) (P.cellsOf t) 0 fs.toList
    | _ => none
def IntCells : List IntKind → List Value → Prop
  | [], [] => True
  | k :: ks, c :: cs => (∃ a, c = .int k a ∧ (Lit.int k a).wf = true) ∧ IntCells ks cs
  | _, _ => False
theorem IntCells.append : ∀ {a b : List IntKind} {x y : List Value}, IntCells a x → IntCells b y → IntCells (a ++ b) (x ++ y)
  | [], _, [], _, _, h => h
  | _ :: _, _, _ :: _, _, h, h' => ⟨h.1, IntCells.append h.2 h'⟩
  | [], _, _ :: _, _, h, _ => h.elim
  | _ :: _, _, [], _, h, _ => h.elim

theorem IntCells.length : ∀ {a : List IntKind} {x : List Value}, IntCells a x → a.length = x.length
  | [], [], _ => rfl
  | _ :: _, _ :: _, h => by simp [IntCells.length h.2]
  | [], _ :: _, h => h.elim
  | _ :: _, [], h => h.elim

theorem flat_go {H : Type} {enc : TypeId × Value → H} {P : Program} {w : World} {base : Nat} {sp : Nat → Bool} {held : Bool} {rec : TypeId → Option (List IntKind)} {fuel : Nat}
    (hrec : ∀ (t : TypeId) (ks : List IntKind) (cs : List Value) (x : DataW H × List MemPlace), rec t = some ks → DataW.trod enc P w base sp held fuel t cs = some x → IntCells ks cs) : ∀ (all off : Nat) (fs : List Field) (ks : List IntKind) (cs : List Value),
    flatGo P rec all off fs = some ks → cs.length = all → off ≤ all → (∀ f ∈ fs, ∃ y, DataW.trod enc P w base sp held fuel f.type ((cs.drop f.offset).take (P.cellsOf f.type)) = some y) → IntCells ks (cs.drop off)
  | all, off, [], ks, cs, h, hl, ho, e => by
    simp only [flatGo] at h
    split at h
    · cases h
      rename_i heq
      rw [List.drop_eq_nil_of_le (by omega)]
      trivial
    · cases h
  | all, off, f :: r, ks, cs, h, hl, ho, e => by
    simp only [flatGo] at h
    split at h
    · rename_i hof
      split at h
      · rename_i a ha
        split at h
        · rename_i hal
          simp only [Option.map_eq_some_iff] at h
          obtain ⟨b, hb, rfl⟩ := h
          obtain ⟨y, hy⟩ := e f (List.mem_cons_self ..)
          have i1 := hrec f.type a _ y ha hy
          have hlen := i1.length
          rw [hof, List.length_take, List.length_drop, ← hal] at hlen
          have hle : off + a.length ≤ all := by omega
          have i2 := flat_go hrec all (off + a.length) r b cs hb hl hle (fun g hg => e g (List.mem_cons_of_mem _ hg))
          rw [hof, ← hal] at i1
          have := i1.append i2
          rwa [← List.drop_drop, List.take_append_drop] at this
        · cases h
      · cases h
    · cases h

theorem trod_flat {H : Type} {enc : TypeId × Value → H} {P : Program} {w : World} {base : Nat} {sp : Nat → Bool} {held : Bool} : ∀ (n : Nat) (t : TypeId) (ks : List IntKind) (fuel : Nat) (cs : List Value) (x : DataW H × List MemPlace),
    flatK P n t = some ks → DataW.trod enc P w base sp held fuel t cs = some x → IntCells ks cs
  | 0, _, _, _, _, _, h, _ => by simp [flatK] at h
  | n + 1, t, ks, fuel, cs, x, h, e => by
    simp only [flatK] at h
    split at h
    · rename_i k hu
      cases h
      obtain ⟨a, rfl, _, hw⟩ := DataW.trod_int hu e
      exact ⟨⟨a, rfl, hw⟩, trivial⟩
    · rename_i fs hu
      obtain ⟨xs, m, rfl, _, hl, hxl, hf⟩ := DataW.trod_struct hu e
      have := flat_go (fun t ks cs x h1 h2 => trod_flat n t ks m cs x h1 h2) (P.cellsOf t) 0 fs.toList ks cs h hl (Nat.zero_le _) (fun f hm => by
        obtain ⟨i, hi, rfl⟩ := List.getElem_of_mem hm
        have h1 : fs[i]? = some fs.toList[i] := by simp at hi ⊢
        exact ⟨xs[i]'(by simp at hi; omega), by rw [hf i _ h1]; exact List.getElem?_eq_getElem _⟩)
      simpa using this
    · cases h

end Go.Proofs.Ytdolepapmpcpiaa
