/- Votes by slots: a map of the program's and a rising list of the document's are one function. Plain Lean: no program in sight. -/
import Derived.Test.YtdolepapmpcpiaaVRef3
namespace Go.Proofs.Ytdolepapmpcpiaa
open Go
set_option linter.unusedSectionVars false
variable [Base]
set_option linter.unusedVariables false

/-- Rising by slots. -/
def Rising (l : List Vote) : Prop := l.Pairwise (fun a b => a.slot < b.slot)
theorem atL_cons (a : Vote) (l : List Vote) (s : Int) : atL (a :: l) s = if a.slot = s then some a else atL l s := by
  unfold atL; rw [List.find?_cons]; split <;> simp_all
theorem atL_mem {l : List Vote} {s : Int} {v : Vote} (h : atL l s = some v) : v ∈ l ∧ v.slot = s := by
  unfold atL at h
  exact ⟨List.mem_of_find?_eq_some h, by simpa using List.find?_some h⟩
theorem atL_of_mem {l : List Vote} (hr : Rising l) {v : Vote} (h : v ∈ l) : atL l v.slot = some v := by
  induction l with
  | nil => cases h
  | cons a l ih =>
    unfold Rising at hr
    rw [List.pairwise_cons] at hr
    rw [atL_cons]
    cases h with
    | head => simp
    | tail _ h => rw [if_neg (by have := hr.1 v h; omega)]; exact ih hr.2 h
/-- Two rising lists of the same votes are one. -/
theorem rising_ext : ∀ {a b : List Vote}, Rising a → Rising b → (∀ s, atL a s = atL b s) → a = b
  | [], [], _, _, _ => rfl
  | [], y :: b, _, _, h => by have := h y.slot; rw [atL_cons, if_pos rfl] at this; cases this
  | x :: a, [], _, _, h => by have := h x.slot; rw [atL_cons, if_pos rfl] at this; cases this
  | x :: a, y :: b, ha, hb, h => by
    unfold Rising at ha hb
    rw [List.pairwise_cons] at ha hb
    have hx := h x.slot
    have hy := h y.slot
    rw [atL_cons, atL_cons, if_pos rfl] at hx hy
    have e : x.slot = y.slot := by
      split at hx
      · rename_i e; exact e.symm
      · split at hy
        · rename_i e; exact e
        · have h1 := hb.1 _ (atL_mem hx.symm).1
          have h2 := ha.1 _ (atL_mem hy).1
          omega
    rw [if_pos e.symm] at hx
    cases hx
    congr 1
    refine rising_ext ha.2 hb.2 fun s => ?_
    have hs := h s
    rw [atL_cons, atL_cons] at hs
    by_cases e : x.slot = s
    · have h1 : atL a s = none := by
        cases h3 : atL a s with
        | none => rfl
        | some v => have := ha.1 v (atL_mem h3).1; have := (atL_mem h3).2; omega
      have h2 : atL b s = none := by
        cases h3 : atL b s with
        | none => rfl
        | some v => have := hb.1 v (atL_mem h3).1; have := (atL_mem h3).2; omega
      rw [h1, h2]
    · rw [if_neg e, if_neg e] at hs; exact hs
theorem putL_mem (v : Vote) : ∀ {l : List Vote} {x : Vote}, x ∈ putL v l → x = v ∨ x ∈ l
  | [], x, h => by simp [putL] at h; exact .inl h
  | a :: l, x, h => by
    unfold putL at h
    split at h
    · cases h with
      | head => exact .inr (List.mem_cons_self ..)
      | tail _ h => rcases putL_mem v h with h | h; exact .inl h; exact .inr (List.mem_cons_of_mem _ h)
    · split at h
      · cases h with
        | head => exact .inl rfl
        | tail _ h => exact .inr (List.mem_cons_of_mem _ h)
      · cases h with
        | head => exact .inl rfl
        | tail _ h => exact .inr h
theorem putL_rising (v : Vote) : ∀ {l : List Vote}, Rising l → Rising (putL v l)
  | [], _ => by simp [putL, Rising]
  | a :: l, h => by
    unfold Rising at h ⊢
    rw [List.pairwise_cons] at h
    unfold putL
    split
    · rw [List.pairwise_cons]
      refine ⟨fun x hx => ?_, putL_rising v h.2⟩
      rcases putL_mem v hx with rfl | hx
      · assumption
      · exact h.1 x hx
    · split
      · rename_i e
        rw [List.pairwise_cons]
        exact ⟨fun x hx => by rw [← e]; exact h.1 x hx, h.2⟩
      · rw [List.pairwise_cons, List.pairwise_cons]
        refine ⟨fun x hx => ?_, h⟩
        cases hx with
        | head => omega
        | tail _ hx => have := h.1 x hx; omega
theorem atL_putL (v : Vote) : ∀ {l : List Vote} (hr : Rising l) (s : Int), atL (putL v l) s = if v.slot = s then some v else atL l s
  | [], _, s => by simp [putL, atL_cons]
  | a :: l, h, s => by
    unfold Rising at h
    rw [List.pairwise_cons] at h
    unfold putL
    split
    · rw [atL_cons, atL_putL v h.2 s, atL_cons]
      split
      · rw [if_neg (by omega)]
      · rfl
    · split
      · rw [atL_cons, atL_cons]
        split
        · rfl
        · rw [if_neg (by omega)]
      · rw [atL_cons]
theorem fromL_rising {l : List Vote} (h : Rising l) (f : Int) : Rising (fromL l f) := List.Pairwise.filter _ h
theorem atL_fromL {l : List Vote} (f s : Int) : atL (fromL l f) s = if f ≤ s then atL l s else none := by
  induction l with
  | nil => simp [fromL, atL]
  | cons a l ih =>
    unfold fromL at ih ⊢
    rw [List.filter_cons]
    by_cases h : f ≤ a.slot
    · rw [if_pos (by simpa using h), atL_cons, ih, atL_cons]
      split
      · rw [if_pos (by omega)]
      · rfl
    · rw [if_neg (by simpa using h), ih, atL_cons]
      by_cases e : a.slot = s
      · rw [if_neg (by omega), if_neg (by omega)]
      · rw [if_neg e]

/-- Each vote of a map is of its key. -/
def slotsOk (m : List (Int × Vote)) : Prop := ∀ s v, mget m s = some v → v.slot = s
theorem slotsOk_nil : slotsOk [] := fun s v h => by cases h
theorem slotsOk_mset {m : List (Int × Vote)} (h : slotsOk m) (v : Vote) : slotsOk (mset m v.slot v) := by
  intro s w hw
  rw [mget_mset] at hw
  split at hw
  · rename_i e; cases hw; exact e.symm
  · exact h s w hw
theorem mem_keys {m : List (Int × Vote)} (hk : keysOk m) {s : Int} : s ∈ m.map (·.1) ↔ ∃ v, mget m s = some v := by
  constructor
  · intro h
    obtain ⟨p, hp, rfl⟩ := List.mem_map.1 h
    exact ⟨p.2, mget_of_mem hk hp⟩
  · rintro ⟨v, hv⟩
    exact List.mem_map.2 ⟨_, mget_mem hv, rfl⟩
theorem sortI_sorted (l : List Int) : (sortI l).Pairwise (fun a b => a ≤ b) := by
  have := List.pairwise_mergeSort (le := fun x y => decide (x ≤ y)) (by intro a b c h1 h2; simp at *; omega) (by intro a b; simp; omega) l
  exact this.imp (by intro a b h; simpa using h)
theorem sortI_lt {l : List Int} (h : l.Nodup) : (sortI l).Pairwise (fun a b => a < b) := by
  have h1 := sortI_sorted l
  have h2 : (sortI l).Nodup := (List.mergeSort_perm l _).nodup_iff.2 h
  unfold List.Nodup at h2
  exact (h1.and h2).imp (by intro a b h; have := h.1; have := h.2; omega)
theorem sortI_mem {l : List Int} {x : Int} : x ∈ sortI l ↔ x ∈ l := List.mem_mergeSort
theorem pick_rising {m : List (Int × Vote)} (hs : slotsOk m) (f : Int) : ∀ {ks : List Int}, ks.Pairwise (fun a b => a < b) → Rising (pick m f ks)
  | [], _ => List.Pairwise.nil
  | k :: ks, h => by
    rw [List.pairwise_cons] at h
    have ih := pick_rising hs f h.2
    unfold pick at ih ⊢
    rw [List.filterMap_cons]
    split
    · exact ih
    · rename_i v hv
      unfold Rising
      rw [List.pairwise_cons]
      refine ⟨fun x hx => ?_, ih⟩
      obtain ⟨k', hk', hx'⟩ := List.mem_filterMap.1 hx
      have h1 : v.slot = k := by split at hv; exact hs _ _ hv; cases hv
      have h2 : x.slot = k' := by split at hx'; exact hs _ _ hx'; cases hx'
      have := h.1 k' hk'
      omega
theorem atL_pick {m : List (Int × Vote)} (hs : slotsOk m) (f s : Int) : ∀ (ks : List Int), atL (pick m f ks) s = if s ∈ ks ∧ f ≤ s then mget m s else none
  | [] => by simp [pick, atL]
  | k :: ks => by
    have ih := atL_pick hs f s ks
    unfold pick at ih ⊢
    rw [List.filterMap_cons]
    split
    · rename_i hn
      rw [ih]
      by_cases e : s = k
      · subst e
        by_cases hf : f ≤ s
        · rw [if_pos hf] at hn
          simp [hn]
        · simp [hf]
      · simp [e]
    · rename_i v hv
      rw [atL_cons, ih]
      have h1 : v.slot = k := by split at hv; exact hs _ _ hv; cases hv
      by_cases e : k = s
      · subst e
        by_cases hf : f ≤ k
        · rw [if_pos hf] at hv
          simp [h1, hf, hv]
        · rw [if_neg hf] at hv; cases hv
      · rw [if_neg (by omega)]
        have : ¬ s = k := fun h => e h.symm
        simp [this]
theorem risingL_rising {m : List (Int × Vote)} (hk : keysOk m) (hs : slotsOk m) (f : Int) : Rising (risingL m f) := pick_rising hs f (sortI_lt hk)
theorem atL_risingL {m : List (Int × Vote)} (hk : keysOk m) (hs : slotsOk m) (f s : Int) : atL (risingL m f) s = if f ≤ s then mget m s else none := by
  unfold risingL
  rw [atL_pick hs]
  have e : s ∈ sortI (m.map (·.1)) ↔ ∃ v, mget m s = some v := sortI_mem.trans (mem_keys hk)
  by_cases h : f ≤ s
  · rw [if_pos h]
    cases hg : mget m s with
    | none => split <;> rfl
    | some v => rw [if_pos ⟨e.2 ⟨v, hg⟩, h⟩]
  · rw [if_neg h, if_neg (fun x => h x.2)]
theorem filterMap_len {α β : Type} {f : α → Option β} : ∀ {l : List α}, (∀ x ∈ l, (f x).isSome) → (l.filterMap f).length = l.length
  | [], _ => rfl
  | x :: l, h => by
    have h1 := h x (List.mem_cons_self ..)
    rw [List.filterMap_cons]
    cases hx : f x with
    | none => rw [hx] at h1; cases h1
    | some y => simp only [List.length_cons, filterMap_len (fun z hz => h z (List.mem_cons_of_mem _ hz))]
theorem risingL_len {m : List (Int × Vote)} (hk : keysOk m) {f : Int} (hf : ∀ k ∈ m.map (·.1), f ≤ k) : (risingL m f).length = m.length := by
  unfold risingL pick
  rw [filterMap_len]
  · simp
  · intro x hx
    rw [sortI_mem] at hx
    rw [if_pos (hf x hx)]
    obtain ⟨v, hv⟩ := (mem_keys hk).1 hx
    simp [hv]
theorem risingL_le (m : List (Int × Vote)) (f : Int) : (risingL m f).length ≤ m.length := by
  unfold risingL pick
  have := List.length_filterMap_le (fun k => if f ≤ k then mget m k else none) (sortI (m.map (·.1)))
  simpa using this
/-- The document's list and the program's map hold the same votes. -/
structure Both (l : List Vote) (m : List (Int × Vote)) : Prop where
  rise : Rising l
  keys : keysOk m
  slots : slotsOk m
  same : ∀ s, atL l s = mget m s
theorem Both.nil : Both [] [] := ⟨List.Pairwise.nil, List.nodup_nil, slotsOk_nil, fun _ => rfl⟩
theorem Both.put {l : List Vote} {m : List (Int × Vote)} (b : Both l m) (v : Vote) : Both (putL v l) (mset m v.slot v) :=
  ⟨putL_rising v b.rise, keysOk_mset b.keys _ _, slotsOk_mset b.slots v, fun s => by
    rw [atL_putL v b.rise, mget_mset, b.same]
    by_cases e : v.slot = s
    · rw [if_pos e, if_pos e.symm]
    · rw [if_neg e, if_neg (fun h => e h.symm)]⟩
theorem Both.from {l : List Vote} {m : List (Int × Vote)} (b : Both l m) (f : Int) : risingL m f = fromL l f :=
  rising_ext (risingL_rising b.keys b.slots f) (fromL_rising b.rise f) fun s => by rw [atL_risingL b.keys b.slots, atL_fromL, b.same]
theorem Both.all {l : List Vote} {m : List (Int × Vote)} (b : Both l m) {f : Int} (hf : ∀ k ∈ m.map (·.1), f ≤ k) : risingL m f = l :=
  rising_ext (risingL_rising b.keys b.slots f) b.rise fun s => by
    rw [atL_risingL b.keys b.slots, b.same]
    split
    · rfl
    · cases hg : mget m s with
      | none => rfl
      | some v => exact absurd (hf s ((mem_keys b.keys).2 ⟨v, hg⟩)) (by assumption)
theorem Both.len {l : List Vote} {m : List (Int × Vote)} (b : Both l m) {f : Int} (hf : ∀ k ∈ m.map (·.1), f ≤ k) : m.length = l.length := by
  rw [← b.all hf, risingL_len b.keys hf]
end Go.Proofs.Ytdolepapmpcpiaa
