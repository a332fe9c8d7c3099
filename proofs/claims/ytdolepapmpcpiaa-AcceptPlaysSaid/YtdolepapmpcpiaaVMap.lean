/- Maps keyed by whole numbers, as lists of pairs. -/
import Derived.Test.YtdolepapmpcpiaaVSpec
namespace Go.Proofs.Ytdolepapmpcpiaa
open Go
set_option linter.unusedSectionVars false
variable [Base]
set_option linter.unusedVariables false
set_option linter.unusedSimpArgs false

variable {α β : Type}

def encM (e : α → Value) (m : List (Int × α)) : List (Value × Value) := m.map fun p => (.int .i64 p.1, e p.2)
def mfind : List (Int × α) → Int → Nat → Option (Nat × α)
  | [], _, _ => none
  | (j, x) :: r, i, n => if i = j then some (n, x) else mfind r i (n + 1)
def mget (m : List (Int × α)) (i : Int) : Option α := (mfind m i 0).map (·.2)
def mset (m : List (Int × α)) (i : Int) (x : α) : List (Int × α) :=
  match mfind m i 0 with
  | some (n, _) => m.set n (i, x)
  | none => m ++ [(i, x)]
def mdel (m : List (Int × α)) (i : Int) : List (Int × α) :=
  match mfind m i 0 with
  | some (n, _) => m.eraseIdx n
  | none => m
theorem kvFind_enc (e : α → Value) (i : Int) : ∀ (m : List (Int × α)) (n : Nat), kvFind (.int .i64) (.int .i64 i) (encM e m) n = some ((mfind m i n).map fun p => (p.1, e p.2))
  | [], n => rfl
  | (j, x) :: r, n => by
    have ih := kvFind_enc e i r (n + 1)
    unfold encM at ih
    simp only [encM, List.map_cons, kvFind, Instr.sameNow, if_true, mfind]
    by_cases h : i = j
    · subst h; simp
    · have : (i == j) = false := by simpa using h
      simp only [this, if_neg h]
      exact ih
theorem mfind_get {m : List (Int × α)} {i : Int} : ∀ {n k : Nat} {x : α}, mfind m i n = some (k, x) → n ≤ k ∧ m[k - n]? = some (i, x) := by
  induction m with
  | nil => intro n k x h; simp [mfind] at h
  | cons p r ih =>
    intro n k x h
    obtain ⟨j, y⟩ := p
    simp only [mfind] at h
    split at h
    · rename_i e; cases h; simp [e]
    · obtain ⟨h1, h2⟩ := ih h
      refine ⟨by omega, ?_⟩
      rw [show k - n = (k - (n + 1)) + 1 by omega]
      simpa using h2
theorem mfind_none {m : List (Int × α)} {i : Int} : ∀ {n : Nat}, mfind m i n = none → ∀ p ∈ m, p.1 ≠ i := by
  induction m with
  | nil => intro n _ p hp; cases hp
  | cons q r ih =>
    intro n h p hp
    obtain ⟨j, y⟩ := q
    simp only [mfind] at h
    split at h
    · cases h
    · rename_i hne
      cases hp with
      | head => exact fun e => hne e.symm
      | tail _ hp => exact ih h p hp
theorem kvPut_enc (e : α → Value) (m : List (Int × α)) (i : Int) (x : α) : kvPut (encM e m) ((mfind m i 0).map fun p => (p.1, e p.2)) (.int .i64 i) (e x) = encM e (mset m i x) := by
  unfold kvPut mset encM
  cases h : mfind m i 0 with
  | none => simp
  | some p => obtain ⟨n, y⟩ := p; simp [List.map_set]
theorem kvDel_enc (e : α → Value) (m : List (Int × α)) (i : Int) : (match (mfind m i 0).map (fun p => (p.1, e p.2)) with | some (n, _) => (encM e m).eraseIdx n | none => encM e m) = encM e (mdel m i) := by
  unfold mdel encM
  cases h : mfind m i 0 with
  | none => simp
  | some p => obtain ⟨n, y⟩ := p; simp [List.eraseIdx_eq_take_drop_succ, List.map_take, List.map_drop]
theorem encM_length (e : α → Value) (m : List (Int × α)) : (encM e m).length = m.length := by simp [encM]

/-- No key twice. -/
def keysOk (m : List (Int × α)) : Prop := (m.map (·.1)).Nodup
theorem mfind_shift (m : List (Int × α)) (i : Int) : ∀ (n : Nat), mfind m i n = (mfind m i 0).map fun p => (p.1 + n, p.2) := by
  induction m with
  | nil => intro n; rfl
  | cons q r ih =>
    intro n
    obtain ⟨j, y⟩ := q
    simp only [mfind]
    split
    · simp
    · rw [ih (n + 1), ih (0 + 1)]
      simp only [Option.map_map]
      congr 1
      funext p
      simp only [Function.comp, Prod.mk.injEq, and_true]
      omega
theorem mget_cons (j : Int) (y : α) (r : List (Int × α)) (i : Int) : mget ((j, y) :: r) i = if i = j then some y else mget r i := by
  unfold mget
  simp only [mfind]
  split
  · simp
  · rw [mfind_shift r i (0 + 1)]
    rw [Option.map_map]
    rfl
theorem mget_nil (i : Int) : mget ([] : List (Int × α)) i = none := rfl
theorem mget_append (m r : List (Int × α)) (i : Int) : mget (m ++ r) i = (mget m i).or (mget r i) := by
  induction m with
  | nil => simp [mget_nil]
  | cons q m ih =>
    obtain ⟨j, y⟩ := q
    simp only [List.cons_append, mget_cons, ih]
    split <;> simp
theorem mget_mset (m : List (Int × α)) (i : Int) (x : α) (k : Int) : mget (mset m i x) k = if k = i then some x else mget m k := by
  unfold mset
  cases h : mfind m i 0 with
  | none =>
    simp only [mget_append, mget_cons, mget_nil]
    have hn := mfind_none h
    by_cases hk : k = i
    · subst hk
      have : mget m k = none := by unfold mget; rw [h]; rfl
      simp [this]
    · simp [hk]
  | some p =>
    obtain ⟨n, y⟩ := p
    have gen : ∀ (m : List (Int × α)) (n s : Nat), mfind m i s = some (n, y) → mget (m.set (n - s) (i, x)) k = if k = i then some x else mget m k := by
      intro m
      induction m with
      | nil => intro n s h; simp [mfind] at h
      | cons q r ih =>
        intro n s h
        obtain ⟨j, z⟩ := q
        simp only [mfind] at h
        split at h
        · rename_i e; cases h; subst e
          simp only [Nat.sub_self, List.set_cons_zero, mget_cons]
          split <;> simp_all
        · rename_i e
          obtain ⟨h1, _⟩ := mfind_get h
          have := ih n (s + 1) h
          rw [show n - s = (n - (s + 1)) + 1 by omega]
          simp only [List.set_cons_succ, mget_cons, this]
          by_cases hk : k = i
          · subst hk; simp [e]
          · simp [hk]
    exact gen m n 0 h
theorem keysOk_mset {m : List (Int × α)} (h : keysOk m) (i : Int) (x : α) : keysOk (mset m i x) := by
  unfold mset
  cases hf : mfind m i 0 with
  | none =>
    unfold keysOk at *
    simp only [List.map_append, List.map_cons, List.map_nil]
    rw [List.nodup_append]
    refine ⟨h, by simp, ?_⟩
    intro a ha b hb
    simp only [List.mem_singleton] at hb
    subst hb
    simp only [List.mem_map] at ha
    obtain ⟨p, hp, rfl⟩ := ha
    exact mfind_none hf p hp
  | some p =>
    obtain ⟨n, y⟩ := p
    obtain ⟨_, hg⟩ := mfind_get hf
    unfold keysOk at *
    simp only [List.map_set]
    have : (m.map (·.1)).set n i = m.map (·.1) := by
      apply List.ext_getElem?
      intro j
      rw [List.getElem?_set]
      split
      · rename_i e; subst e
        simp only [Nat.sub_zero] at hg
        have hl := (List.getElem?_eq_some_iff.1 hg).1
        have : m[n] = (i, y) := by rw [List.getElem?_eq_getElem hl] at hg; exact Option.some.inj hg
        simp [hl, this]
      · rfl
    rw [this]
    exact h
theorem mget_mem {m : List (Int × α)} {i : Int} {x : α} (h : mget m i = some x) : (i, x) ∈ m := by
  unfold mget at h
  cases hf : mfind m i 0 with
  | none => simp [hf] at h
  | some p =>
    obtain ⟨n, y⟩ := p
    simp [hf] at h
    subst h
    exact List.mem_of_getElem? (mfind_get hf).2
theorem mget_of_mem {m : List (Int × α)} (hk : keysOk m) {i : Int} {x : α} (h : (i, x) ∈ m) : mget m i = some x := by
  induction m with
  | nil => cases h
  | cons q r ih =>
    obtain ⟨j, y⟩ := q
    unfold keysOk at hk
    simp only [List.map_cons, List.nodup_cons] at hk
    rw [mget_cons]
    cases h with
    | head => simp
    | tail _ h =>
      rw [if_neg, ih hk.2 h]
      rintro rfl
      exact hk.1 (List.mem_map.2 ⟨_, h, rfl⟩)
theorem mset_length (m : List (Int × α)) (i : Int) (x : α) : (mset m i x).length ≤ m.length + 1 := by
  unfold mset
  split <;> simp

end Go.Proofs.Ytdolepapmpcpiaa
