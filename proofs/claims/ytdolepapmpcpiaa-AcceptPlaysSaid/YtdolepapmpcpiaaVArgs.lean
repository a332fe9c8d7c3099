/- How arguments read: out of the data that the row hands over, kind by kind. -/
import Derived.Test.YtdolepapmpcpiaaVRow
namespace Go.Proofs.Ytdolepapmpcpiaa
open Go
open Go.ChangeShapes Go.WideShapes Go.RowKit
set_option linter.unusedVariables false
set_option linter.unusedSectionVars false

section
variable {H : Type} {enc : TypeId × Value → H} {P : Program} {W : World}
/-- Cells that read at type t are Q. -/
def Rd (enc : TypeId × Value → H) (P : Program) (W : World) (t : TypeId) (Q : List Value → Prop) : Prop :=
  ∀ (fuel : Nat) (cs : List Value) (x : DataW H × List MemPlace), DataW.trod enc P W 0 (fun _ => true) true fuel t cs = some x → Q cs
theorem Rd.mono {t : TypeId} {Q Q' : List Value → Prop} (r : Rd enc P W t Q) (h : ∀ cs, Q cs → Q' cs) : Rd enc P W t Q' := fun f cs x e => h cs (r f cs x e)
theorem Rd.int {t : TypeId} {k : IntKind} (hu : P.underlying t = some (.int k)) : Rd enc P W t (fun cs => ∃ a, cs = [.int k a] ∧ k.min ≤ a ∧ a ≤ k.max) := by
  intro f cs x e
  obtain ⟨a, rfl, _, hw⟩ := DataW.trod_int hu e
  simp only [Lit.wf, Bool.and_eq_true, decide_eq_true_eq] at hw
  exact ⟨a, rfl, hw.1, hw.2⟩
theorem Rd.bool {t : TypeId} (hu : P.underlying t = some .bool) : Rd enc P W t (fun cs => ∃ a, cs = [.bool a]) := by
  intro f cs x e
  obtain ⟨a, rfl, _⟩ := DataW.trod_bool hu e
  exact ⟨a, rfl⟩
theorem Rd.string {t : TypeId} (hu : P.underlying t = some .string) : Rd enc P W t (fun cs => ∃ a, cs = [.string a] ∧ a.size ≤ maxLen) := by
  intro f cs x e
  obtain ⟨a, rfl, _, h⟩ := DataW.trod_string hu e
  exact ⟨a, rfl, h⟩
def contig (P : Program) : Nat → List Field → Nat → Bool
  | off, [], all => off == all
  | off, f :: r, all => f.offset == off && contig P (off + P.cellsOf f.type) r all
/-- Cells in parts. -/
def Parts : List (List Value → Prop) → List Value → Prop
  | [], cs => cs = []
  | Q :: r, cs => ∃ a b, cs = a ++ b ∧ Q a ∧ Parts r b
inductive AllRd (enc : TypeId × Value → H) (P : Program) (W : World) : List TypeId → List (List Value → Prop) → Prop
  | nil : AllRd enc P W [] []
  | cons {f : TypeId} {fs : List TypeId} {Q : List Value → Prop} {Qs : List (List Value → Prop)} : Rd enc P W f Q → AllRd enc P W fs Qs → AllRd enc P W (f :: fs) (Q :: Qs)
theorem parts_of {n : Nat} : ∀ {fs : List Field} {Qs : List (List Value → Prop)} {off all : Nat} {cs : List Value}, AllRd enc P W (fs.map (·.type)) Qs → contig P off fs all = true → cs.length = all →
    (∀ f ∈ fs, ∃ y, DataW.trod enc P W 0 (fun _ => true) true n f.type ((cs.drop f.offset).take (P.cellsOf f.type)) = some y) → Parts Qs (cs.drop off)
  | [], _, off, all, cs, .nil, hc, hl, _ => by
    simp only [contig, beq_iff_eq] at hc
    exact List.drop_eq_nil_of_le (by omega)
  | f :: fs, _, off, all, cs, .cons h1 h2, hc, hl, he => by
    simp only [contig, Bool.and_eq_true, beq_iff_eq] at hc
    obtain ⟨y, hy⟩ := he f (List.mem_cons_self ..)
    refine ⟨_, _, ?_, h1 n _ y hy, parts_of (off := off + P.cellsOf f.type) h2 hc.2 hl (fun g hg => he g (List.mem_cons_of_mem _ hg))⟩
    rw [hc.1, ← List.drop_drop, List.take_append_drop]
theorem Rd.struct {t : TypeId} {fs : Array Field} {ts : List TypeId} {Qs : List (List Value → Prop)} (hu : P.underlying t = some (.struct fs)) (hts : fs.toList.map (·.type) = ts) (hc : contig P 0 fs.toList (P.cellsOf t) = true) (h : AllRd enc P W ts Qs) : Rd enc P W t (Parts Qs) := by
  subst hts
  intro fuel cs x e
  obtain ⟨xs, m, rfl, _, hl, hxl, hf⟩ := DataW.trod_struct hu e
  have := parts_of (n := m) h hc hl (fun f hm => by
    obtain ⟨i, hi, rfl⟩ := List.getElem_of_mem hm
    have h1 : fs[i]? = some fs.toList[i] := by simp at hi ⊢
    exact ⟨xs[i]'(by simp at hi; omega), by rw [hf i _ h1]; exact List.getElem?_eq_getElem _⟩)
  simpa using this

theorem cells_rd {W : World} {a : Addr} {n : Nat} {cs : List Value} (hb : a.block < W.heap.size ∨ True) (h : W.cells? 0 a n = some cs) : (0 < n → a.spot = none) ∧ @rdN (@hv ⟨W.heap.size⟩ W) a.block a.off n = some cs := by
  unfold World.cells? at h
  simp only [Nat.zero_le, if_true] at h
  have key : ∀ (n k : Nat) (cs : List Value), ((List.range' k n).mapM fun i => W.cell? (a.add i)) = some cs → (0 < n → k = 0 → a.spot = none) ∧ @rdN (@hv ⟨W.heap.size⟩ W) a.block (a.off + k) n = some cs := by
    intro n
    induction n with
    | zero => intro k cs h; simp at h; subst h; exact ⟨fun h => absurd h (by omega), rfl⟩
    | succ n ih =>
      intro k cs h
      rw [List.range'_succ, List.mapM_cons] at h
      simp only [Option.bind_eq_bind, Option.bind_eq_some_iff, Option.pure_def, Option.some.injEq] at h
      obtain ⟨v, hv', r, hr, rfl⟩ := h
      obtain ⟨_, h2⟩ := ih (k + 1) r hr
      have hspot : k = 0 → a.spot = none := by
        rintro rfl
        simp only [Addr.add, if_true] at hv'
        unfold World.cell? at hv'
        split at hv'
        · split at hv'
          · cases hv'
          · rename_i hs; simpa using hs
        · cases hv'
      refine ⟨fun _ => hspot, ?_⟩
      have he : a.add k = ⟨a.block, a.off + k, none⟩ := by
        by_cases hk : k = 0
        · have := hspot hk
          subst hk
          simp only [Addr.add, if_true, Nat.add_zero]
          cases a; simp_all
        · simp [Addr.add, hk]
      rw [he, ← @rdC_hv ⟨W.heap.size⟩] at hv'
      simp only [rdN, hv', Option.bind_some]
      rw [show a.off + k + 1 = a.off + (k + 1) by omega, h2]
      rfl
  rw [List.range_eq_range'] at h
  obtain ⟨h1, h2⟩ := key n 0 cs h
  exact ⟨fun hn => h1 hn rfl, by simpa using h2⟩

theorem rd_rows [Base] {h : Hp} {b : Nat} {sz : Nat} : ∀ (l : List (List Value)) (i : Nat), (∀ j, (hj : j < l.length) → rdN h b (i + j * sz) sz = some l[j]) → rdN h b i (l.length * sz) = some l.flatten
  | [], i, _ => by simp [rdN]
  | r :: l, i, hr => by
    have h0 := hr 0 (by simp)
    have ih := rd_rows (h := h) (b := b) (sz := sz) l (i + sz) (fun j hj => by
      have := hr (j + 1) (by simpa using hj)
      rw [Nat.add_mul, Nat.one_mul] at this
      rw [show i + sz + j * sz = i + (j * sz + sz) by omega]
      simpa using this)
    rw [List.length_cons, Nat.add_mul, Nat.one_mul, Nat.add_comm, rdN_add]
    simp only [Nat.zero_mul, Nat.add_zero, List.getElem_cons_zero] at h0
    rw [h0, Option.bind_some, ih]
    rfl

theorem list_pick {α : Type} {ok : α → Prop} {en : α → List Value} : ∀ {l : List (List Value)}, (∀ r ∈ l, ∃ a, r = en a ∧ ok a) → ∃ as : List α, l = as.map en ∧ ∀ a ∈ as, ok a
  | [], _ => ⟨[], rfl, by simp⟩
  | r :: l, h => by
    obtain ⟨a, rfl, ha⟩ := h r (List.mem_cons_self ..)
    obtain ⟨as, rfl, has⟩ := list_pick (fun r hr => h r (List.mem_cons_of_mem _ hr))
    exact ⟨a :: as, rfl, by intro b hb; cases hb with | head => exact ha | tail _ hb => exact has b hb⟩

theorem Rd.slice {t e : TypeId} {sz : Nat} {α : Type} {en : α → List Value} {ok : α → Prop} (hu : P.underlying t = some (.slice e)) (he : P.cellsOf e = sz) (hsz : 0 < sz) (hen : ∀ a, (en a).length = sz)
    (hr : Rd enc P W e (fun cs => ∃ a, cs = en a ∧ ok a)) : Rd enc P W t (fun cs => ∃ v l, cs = [v] ∧ Sl (@hv ⟨W.heap.size⟩ W) sz en v l ∧ (∀ a ∈ l, ok a) ∧ l.length ≤ maxLen) := by
  letI : Base := ⟨W.heap.size⟩
  intro fuel cs x e'
  rcases DataW.trod_slice hu e' with ⟨rfl, _⟩ | ⟨a, len, cap, elems, rest, n, rfl, rfl, _, _, hlc, hcm, hel, hrd, _⟩
  · exact ⟨_, [], rfl, Sl.nil, by simp, by simp [maxLen]⟩
  · have hrow : ∀ i, i < len → ∃ cs : List Value, W.cells? 0 (a.add (i * sz)) sz = some cs ∧ ∃ b, cs = en b ∧ ok b := by
      intro i hi
      have := hrd i hi
      rw [he] at this
      rw [List.getElem?_eq_getElem (by omega)] at this
      simp only [Option.bind_eq_some_iff] at this
      obtain ⟨cs, hcs, ht⟩ := this
      exact ⟨cs, hcs, hr _ _ _ ht⟩
    let f : Nat → List Value := fun i => (W.cells? 0 (a.add (i * sz)) sz).getD []
    have hf : ∀ i, i < len → W.cells? 0 (a.add (i * sz)) sz = some (f i) := by
      intro i hi
      obtain ⟨cs, hcs, _⟩ := hrow i hi
      simp only [f, hcs, Option.getD_some]
    obtain ⟨as, has, hok⟩ := list_pick (l := (List.range len).map f) (en := en) (ok := ok) (by
      intro r hr'
      obtain ⟨i, hi, rfl⟩ := List.mem_map.1 hr'
      obtain ⟨cs, hcs, b, hb, hb2⟩ := hrow i (List.mem_range.1 hi)
      rw [hf i (List.mem_range.1 hi)] at hcs
      cases hcs
      exact ⟨b, hb, hb2⟩)
    have hlen : as.length = len := by have := congrArg List.length has; simpa using this.symm
    refine ⟨_, as, rfl, ⟨some a, cap, by rw [hlen], by rw [hlen]; exact hlc, ?_⟩, hok, by omega⟩
    cases hl : len with
    | zero =>
      have : as = [] := List.eq_nil_of_length_eq_zero (by omega)
      subst this
      obtain ⟨b, o, sp⟩ := a
      cases sp with
      | none => simp [srcCells, rdN]
      | some _ => simp [srcCells]
    | succ m =>
      have h0 := hf 0 (by omega)
      have hsp : a.spot = none := by
        have := (cells_rd (.inr trivial) h0).1 hsz
        simpa [Addr.add] using this
      obtain ⟨b, o, sp⟩ := a
      cases hsp
      have hrows := rd_rows (h := @hv ⟨W.heap.size⟩ W) (b := b) (sz := sz) (as.map en) o (fun j hj => by
        rw [List.length_map, hlen] at hj
        have := (cells_rd (.inr trivial) (hf j hj)).2
        rw [add0] at this
        rw [this]
        congr 1
        have h2 : (as.map en)[j]? = some (f j) := by
          rw [← has, List.getElem?_map, List.getElem?_range hj]; rfl
        exact (List.getElem_eq_iff _).2 h2 |>.symm)
      rw [List.length_map] at hrows
      rw [hlen, hl] at hrows ⊢
      simp only [srcCells, hrows, Option.map_some]
      rw [List.flatMap_def]

theorem arg_struct {t : TypeId} {fs : Array Field} {v : Value} {d : DataW H} {ps : List MemPlace} {b : Nat} {Q : List Value → Prop} (hu : P.underlying t = some (.struct fs)) (hv : Value.okWide P W .any b t v)
    (r : Rd enc P W t Q) (h : DataW.Trod enc P W 0 (fun _ => true) true t v d ps) : ∃ cs, v = .agg cs ∧ Q cs.toList := by
  unfold Value.okWide at hv
  rw [hu] at hv
  obtain ⟨cs, rfl, _⟩ := hv
  obtain ⟨f, hf⟩ := h
  exact ⟨cs, rfl, r f _ _ hf⟩
theorem arg_int {t : TypeId} {k : IntKind} {v : Value} {d : DataW H} {ps : List MemPlace} {b : Nat} (hu : P.underlying t = some (.int k)) (hv : Value.okWide P W .any b t v)
    (h : DataW.Trod enc P W 0 (fun _ => true) true t v d ps) : ∃ a, v = .int k a ∧ k.min ≤ a ∧ a ≤ k.max := by
  unfold Value.okWide at hv
  rw [hu] at hv
  obtain ⟨f, hf⟩ := h
  obtain ⟨a, ha, h1, h2⟩ := Rd.int hu f _ _ hf
  refine ⟨a, ?_, h1, h2⟩
  cases v <;> simp_all [Cell.okWide, Cell.ok, Value.cells]
theorem arg_slice {t e : TypeId} {v : Value} {d : DataW H} {ps : List MemPlace} {b : Nat} {Q : List Value → Prop} (hu : P.underlying t = some (.slice e)) (hv : Value.okWide P W .any b t v)
    (r : Rd enc P W t Q) (h : DataW.Trod enc P W 0 (fun _ => true) true t v d ps) : Q [v] := by
  unfold Value.okWide at hv
  rw [hu] at hv
  obtain ⟨f, hf⟩ := h
  have := r f _ _ hf
  cases v <;> first | exact this | (simp [Cell.okWide, Cell.ok, hu] at hv)
end
end Go.Proofs.Ytdolepapmpcpiaa
