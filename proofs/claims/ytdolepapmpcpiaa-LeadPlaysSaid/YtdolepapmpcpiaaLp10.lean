/- Lemmas for the theorem of the last text; no condition. -/
import Derived.Test.YtdolepapmpcpiaaLp0
import Derived.Test.YtdolepapmpcpiaaLp1
import Derived.Test.YtdolepapmpcpiaaLp2
import Derived.Test.YtdolepapmpcpiaaLp3
import Derived.Test.YtdolepapmpcpiaaLp4
import Derived.Test.YtdolepapmpcpiaaLp5
import Derived.Test.YtdolepapmpcpiaaLp6
import Derived.Test.YtdolepapmpcpiaaLp7
import Derived.Test.YtdolepapmpcpiaaLp8
import Derived.Test.YtdolepapmpcpiaaLp9
namespace Go.Proofs.Ytdolepapmpcpiaa
open Go
set_option linter.unusedSectionVars false
variable [Base]
set_option linter.unusedVariables false
set_option linter.unusedSimpArgs false
set_option maxRecDepth 10000
/-- A function value that tells f of each vote, wherever it is called from a heap that has grown. -/
def Asks (h : Hp) (fv : Value) (f : Vote → Bool) : Prop :=
  ∀ (x : Vote) (h' : Hp) (K : Kont), Ext h h' → (∀ h'', Ext h' h'' → K (.bool (f x)) h'') → oCallV Try.prog fv [voteV x] h' K
theorem Asks.ext {h h' : Hp} {fv : Value} {f : Vote → Bool} (t : Asks h fv f) (x : Ext h h') : Asks h' fv f := fun v h2 K y hk => t v h2 K (x.trans y) hk
def idxI (f : Vote → Bool) : List Vote → Nat → Int
  | [], _ => -1
  | a :: l, i => if f a then i else idxI f l (i + 1)
theorem idxI_none {f : Vote → Bool} : ∀ {l : List Vote} {i : Nat}, idxI f l i = -1 → ∀ x ∈ l, f x = false
  | [], _, _ => by simp
  | a :: l, i, h => by
    unfold idxI at h
    split at h
    · omega
    · rename_i ha
      intro x hx
      cases hx with
      | head => simpa using ha
      | tail _ hx => exact idxI_none h x hx
theorem idxI_some {f : Vote → Bool} : ∀ {l : List Vote} {i : Nat}, idxI f l i ≠ -1 → ∃ k : Nat, idxI f l i = ((i + k : Nat) : Int) ∧ k < l.length ∧ (∀ x ∈ l.take k, f x = false) ∧ f (nth l k) = true
  | [], _, h => absurd rfl h
  | a :: l, i, h => by
    unfold idxI at h ⊢
    by_cases ha : f a = true
    · rw [if_pos ha]
      exact ⟨0, rfl, by simp, by simp, ha⟩
    · rw [if_neg ha] at h ⊢
      obtain ⟨k, h1, h2, h3, h4⟩ := idxI_some h
      refine ⟨k + 1, by rw [h1]; congr 1; omega, by simpa using h2, ?_, h4⟩
      intro x hx
      rw [List.take_succ_cons] at hx
      cases hx with
      | head => simpa using ha
      | tail _ hx => exact h3 x hx
set_option maxHeartbeats 1000000 in
theorem sp_IndexFunc {h : Hp} {a fv : Value} {l : List Vote} {f : Vote → Bool} (hS : Sl h 6 vcells a l) (hl : l.length ≤ 4611686018427387904) (hf : Asks h fv f) {K : Kont} (hK : ∀ h', Ext h h' → K (.int .i64 (idxI f l 0)) h') : C_q11 [a, fv] h K := by
  refine ok_q11 ?_
  unfold G_q11
  simp (disch := (first | omega | (simp only [sz]; done) | (simp only [lz, Nat.reduceAdd, Nat.reduceLeDiff, Nat.le_refl]; done) | (simp only [sz]; omega))) only [↓xa, xb, xl, Option.bind_some, Option.map_some, implies_true, imp_self, true_and, and_true, if_true, if_false, decide_true, decide_false, Int.cast_ofNat_Int, Int.reduceLT, Int.reduceLE, Int.reduceEq, Nat.reduceAdd, Nat.reduceMul, Nat.reduceLeDiff, setL, bfill, eqV, lookRes, ↓hS.len']
  refine rule_q11_1 (fun v8 h' => ∃ i : Nat, v8 = .int .i64 i ∧ i ≤ l.length ∧ Ext h h' ∧ idxI f l 0 = idxI f (l.drop i) i) (fun v8 h' => l.length - ival v8) ?_ _ _ _ ⟨0, rfl, Nat.zero_le _, Upd.refl _, rfl⟩
  rintro self v8 d h' ⟨i, rfl, hi, x, hq⟩ hself
  unfold B_q11_1
  have hS' := hS.ext x
  by_cases hlt : i < l.length
  · rw [drop_nth hlt] at hq
    simp (disch := (first | omega | (simp only [sz]; done) | (simp only [lz, Nat.reduceAdd, Nat.reduceLeDiff, Nat.le_refl]; done) | (simp only [sz]; omega))) only [↓xa, xb, xl, Option.bind_some, Option.map_some, implies_true, imp_self, true_and, and_true, if_true, if_false, decide_true, decide_false, Int.cast_ofNat_Int, Int.reduceLT, Int.reduceLE, Int.reduceEq, Nat.reduceAdd, Nat.reduceMul, Nat.reduceLeDiff, setL, bfill, eqV, lookRes, decide_eq_true (Int.ofNat_lt.2 hlt), ↓hS'.idx, hS'.row vcells_len]
    refine hf (nth l i) h' _ x ?_
    intro h2 x2
    cases hfi : f (nth l i) with
    | true =>
      (try simp (disch := (first | omega | (simp only [sz]; done) | (simp only [lz, Nat.reduceAdd, Nat.reduceLeDiff, Nat.le_refl]; done) | (simp only [sz]; omega))) only [↓xa, xb, xl, Option.bind_some, Option.map_some, implies_true, imp_self, true_and, and_true, if_true, if_false, decide_true, decide_false, Int.cast_ofNat_Int, Int.reduceLT, Int.reduceLE, Int.reduceEq, Nat.reduceAdd, Nat.reduceMul, Nat.reduceLeDiff, setL, bfill, eqV, lookRes])
      have e : idxI f l 0 = i := by rw [hq]; simp [idxI, hfi]
      rw [e] at hK
      exact hK _ (x.trans x2)
    | false =>
      (try simp (disch := (first | omega | (simp only [sz]; done) | (simp only [lz, Nat.reduceAdd, Nat.reduceLeDiff, Nat.le_refl]; done) | (simp only [sz]; omega))) only [↓xa, xb, xl, Option.bind_some, Option.map_some, implies_true, imp_self, true_and, and_true, if_true, if_false, decide_true, decide_false, Int.cast_ofNat_Int, Int.reduceLT, Int.reduceLE, Int.reduceEq, Nat.reduceAdd, Nat.reduceMul, Nat.reduceLeDiff, setL, bfill, eqV, lookRes])
      exact hself _ _ _ ⟨i + 1, rfl, hlt, x.trans x2, by rw [hq]; simp [idxI, hfi]⟩ (by simp only [ival_nat, show ((i : Int) + 1) = ((i + 1 : Nat) : Int) from rfl]; omega)
  · simp (disch := (first | omega | (simp only [sz]; done) | (simp only [lz, Nat.reduceAdd, Nat.reduceLeDiff, Nat.le_refl]; done) | (simp only [sz]; omega))) only [↓xa, xb, xl, Option.bind_some, Option.map_some, implies_true, imp_self, true_and, and_true, if_true, if_false, decide_true, decide_false, Int.cast_ofNat_Int, Int.reduceLT, Int.reduceLE, Int.reduceEq, Nat.reduceAdd, Nat.reduceMul, Nat.reduceLeDiff, setL, bfill, eqV, lookRes, decide_eq_false (show ¬ (i : Int) < (l.length : Int) by omega)]
    rw [List.drop_eq_nil_of_le (by omega)] at hq
    have e : idxI f l 0 = -1 := by rw [hq]; rfl
    rw [e] at hK
    exact hK _ x
theorem sp_ContainsFunc {h : Hp} {a fv : Value} {l : List Vote} {f : Vote → Bool} (hS : Sl h 6 vcells a l) (hl : l.length ≤ 4611686018427387904) (hf : Asks h fv f) {K : Kont} (hK : ∀ h', Ext h h' → K (.bool (l.any f)) h') : C_q8 [a, fv] h K := by
  refine ok_q8 ?_
  unfold G_q8
  refine sp_IndexFunc hS hl hf ?_
  intro h' x
  (try simp (disch := (first | omega | (simp only [sz]; done) | (simp only [lz, Nat.reduceAdd, Nat.reduceLeDiff, Nat.le_refl]; done) | (simp only [sz]; omega))) only [↓xa, xb, xl, Option.bind_some, Option.map_some, implies_true, imp_self, true_and, and_true, if_true, if_false, decide_true, decide_false, Int.cast_ofNat_Int, Int.reduceLT, Int.reduceLE, Int.reduceEq, Nat.reduceAdd, Nat.reduceMul, Nat.reduceLeDiff, setL, bfill, eqV, lookRes])
  refine k_cast (hK _ x) ?_
  congr 1
  by_cases e : idxI f l 0 = -1
  · have h1 := idxI_none e
    rw [e]
    simp only [show ¬ (0 : Int) ≤ -1 by omega, decide_false, List.any_eq_false]
    intro x hx
    simp [h1 x hx]
  · obtain ⟨k, h1, h2, _, h4⟩ := idxI_some e
    rw [h1]
    have : (0 : Int) ≤ ((0 + k : Nat) : Int) := by omega
    simp only [this, decide_true, List.any_eq_true]
    exact ⟨_, nth_mem h2, h4⟩
theorem sp_Clone {h : Hp} (hB : Base.b ≤ h.size) {a : Value} {l : List Vote} (hS : Sl h 6 vcells a l) (hl : l.length ≤ 1048576) {K : Kont} (hK : ∀ v h', Ext h h' → Own h' h.size 6 vcells v l → K v h') : C_q13 [a] h K := by
  refine ok_q13 ?_
  unfold G_q13
  obtain ⟨p, cap, rfl, hcap, e⟩ := hS
  cases p with
  | none =>
    (try simp (disch := (first | omega | (simp only [sz]; done) | (simp only [lz, Nat.reduceAdd, Nat.reduceLeDiff, Nat.le_refl]; done) | (simp only [sz]; omega))) only [↓xa, xb, xl, Option.bind_some, Option.map_some, implies_true, imp_self, true_and, and_true, if_true, if_false, decide_true, decide_false, Int.cast_ofNat_Int, Int.reduceLT, Int.reduceLE, Int.reduceEq, Nat.reduceAdd, Nat.reduceMul, Nat.reduceLeDiff, setL, bfill, eqV, lookRes])
    have : l = [] := by
      simp only [srcCells] at e
      split at e
      · rename_i h0; exact List.eq_nil_of_length_eq_zero h0
      · cases e
    subst this
    exact hK _ _ (Upd.refl _) Own.nil
  | some q =>
    (try simp (disch := (first | omega | (simp only [sz]; done) | (simp only [lz, Nat.reduceAdd, Nat.reduceLeDiff, Nat.le_refl]; done) | (simp only [sz]; omega))) only [↓xa, xb, xl, Option.bind_some, Option.map_some, implies_true, imp_self, true_and, and_true, if_true, if_false, decide_true, decide_false, Int.cast_ofNat_Int, Int.reduceLT, Int.reduceLE, Int.reduceEq, Nat.reduceAdd, Nat.reduceMul, Nat.reduceLeDiff, setL, bfill, eqV, lookRes])
    have x1 : Ext h (h.push (.cells #[])) := (by repeat' (first | with_reducible exact Upd.refl _ | with_reducible refine Upd.push ?_ _ | with_reducible refine Upd.set ?_ _ _ ?_ | exact .inl (by (first | omega | (simp only [sz]; done) | (simp only [lz, Nat.reduceAdd, Nat.reduceLeDiff, Nat.le_refl]; done) | (simp only [sz]; omega))) | exact .inr rfl | exact .inr (by simp; done)))
    have o : Own (h.push (.cells #[])) h.size 6 vcells (.slice (some ⟨h.size, 0, none⟩) 0 0) [] := .inr ⟨h.size, 0, #[], rfl, Nat.le_refl _, g_push_eq rfl, Nat.le_refl _, rfl, rfl⟩
    refine Own.append o vcells_len vcells_one (x1.hB hB) (by rfl) (Sl.ext ⟨_, cap, rfl, hcap, e⟩ x1) (by simp) (by simp; omega) ?_
    intro v' h' o' u
    exact hK _ _ (x1.ext u (Nat.le_refl _)) o'
theorem setL_drop (vs : List Value) : ∀ (c : Array Value) (i k : Nat), i + vs.length ≤ k → (setL c i vs).toList.drop k = c.toList.drop k := by
  induction vs with
  | nil => intro c i k _; rfl
  | cons v vs ih =>
    intro c i k hk
    simp only [List.length_cons] at hk
    simp only [setL]
    rw [ih _ _ _ (by omega), Array.toList_setIfInBounds, List.drop_set_of_lt (by omega)]
theorem setL_takeLe (vs : List Value) : ∀ (c : Array Value) (i k : Nat), k ≤ i → (setL c i vs).toList.take k = c.toList.take k := by
  induction vs with
  | nil => intro c i k _; rfl
  | cons v vs ih =>
    intro c i k hk
    simp only [setL]
    rw [ih _ _ _ (by omega), Array.toList_setIfInBounds, List.take_set_of_le (by omega)]
set_option maxHeartbeats 2000000 in
theorem sp_DeleteFunc {h : Hp} (hB : Base.b ≤ h.size) {base : Nat} {a fv : Value} {l : List Vote} {f : Vote → Bool} (hO : Own h base 6 vcells a l) (hl : l.length ≤ 1048576) {K : Kont}
    (hf : ∀ h', Upd (fun r => base ≤ r) h h' → Asks h' fv f)
    (hK : ∀ v h', Upd (fun r => base ≤ r) h h' → Own h' base 6 vcells v (l.filter fun x => !f x) → K v h') : C_q10 [a, fv] h K := by
  refine ok_q10 ?_
  unfold G_q10
  refine sp_IndexFunc hO.sl (by omega) (hf h (Upd.refl _)) ?_
  intro h1 x1
  have hO1 := hO.ext x1
  by_cases e : idxI f l 0 = -1
  · simp (disch := (first | omega | (simp only [sz]; done) | (simp only [lz, Nat.reduceAdd, Nat.reduceLeDiff, Nat.le_refl]; done) | (simp only [sz]; omega))) only [↓xa, xb, xl, Option.bind_some, Option.map_some, implies_true, imp_self, true_and, and_true, if_true, if_false, decide_true, decide_false, Int.cast_ofNat_Int, Int.reduceLT, Int.reduceLE, Int.reduceEq, Nat.reduceAdd, Nat.reduceMul, Nat.reduceLeDiff, setL, bfill, eqV, lookRes, decide_eq_true e]
    have h2 := idxI_none e
    have : l.filter (fun x => !f x) = l := List.filter_eq_self.2 (fun x hx => by simp [h2 x hx])
    rw [this] at hK
    exact hK _ _ x1.lift hO1
  obtain ⟨k, hk, hkl, hk1, hk2⟩ := idxI_some e
  rw [Nat.zero_add] at hk
  rw [hk]
  rcases hO1 with ⟨rfl, rfl⟩ | ⟨g, cap, c, rfl, hg, hgc, hlc, hcs, hct⟩
  · simp at hkl
  have hk0 : ¬ (k : Int) = -1 := by omega
  simp (disch := (first | omega | (simp only [sz]; done) | (simp only [lz, Nat.reduceAdd, Nat.reduceLeDiff, Nat.le_refl]; done) | (simp only [sz]; omega))) only [↓xa, xb, xl, Option.bind_some, Option.map_some, implies_true, imp_self, true_and, and_true, if_true, if_false, decide_true, decide_false, Int.cast_ofNat_Int, Int.reduceLT, Int.reduceLE, Int.reduceEq, Nat.reduceAdd, Nat.reduceMul, Nat.reduceLeDiff, setL, bfill, eqV, lookRes, decide_eq_false hk0]
  refine rule_q10_1 (fun v5 v6 h' => ∃ (i j : Nat) (c' : Array Value), v5 = .int .i64 i ∧ v6 = .int .i64 j ∧ i < j ∧ j ≤ l.length ∧ Upd (fun r => base ≤ r) h h' ∧ h'[g]? = some (.cells c') ∧ c'.size = cap * 6 ∧
      i = ((l.take j).filter fun x => !f x).length ∧ c'.toList.take (i * 6) = ((l.take j).filter fun x => !f x).flatMap vcells ∧ c'.toList.drop (j * 6) = c.toList.drop (j * 6)) (fun v5 v6 h' => l.length - ival v6) ?_ _ _ _ _
    ⟨k, k + 1, c, rfl, rfl, by omega, by omega, x1.lift, hgc, hcs, ?_, ?_, rfl⟩
  rotate_left
  · have h3 : (l.take (k + 1)).filter (fun x => !f x) = l.take k := by
      rw [take_nth hkl, List.filter_append, List.filter_eq_self.2 (fun x hx => by simp [hk1 x hx])]
      simp [hk2]
    rw [h3]; simp; omega
  · have h3 : (l.take (k + 1)).filter (fun x => !f x) = l.take k := by
      rw [take_nth hkl, List.filter_append, List.filter_eq_self.2 (fun x hx => by simp [hk1 x hx])]
      simp [hk2]
    rw [h3]
    have := congrArg (List.take (k * 6)) hct
    rw [List.take_take, Nat.min_eq_left (by omega)] at this
    rw [this]
    have := flat_sub vcells_len l 0 k
    simpa using this
  rintro self v5 v6 d h' ⟨i, j, c', rfl, rfl, hij, hj, u, hg', hcs', hi, hti, htj⟩ hself
  unfold B_q10_1
  have hB' := u.hB hB
  have lg := lt_of_get hg'
  by_cases hlt : j < l.length
  · have hrow : rdN h' g (j * 6) 6 = some (vcells (nth l j)) := by
      rw [rdN_of hg' (by rw [hcs']; omega), htj]
      have h1 : (c.toList.take (l.length * 6)).drop (j * 6) = (l.flatMap vcells).drop (j * 6) := by rw [hct]
      have h2 := flat_part vcells_len l j hlt
      rw [← h1, List.drop_take, List.take_take, Nat.min_eq_left (by omega)] at h2
      rw [h2, nth_get hlt]
    have htk := take_nth hlt
    have e0 : ∀ v : Vote, setL #[.int .i64 0, .int .u64 0, .int .i64 0, .int .i64 0, .int .u64 0, .int .i64 0] 0 (vcells v) = (vcells v).toArray := fun _ => rfl
    simp (disch := (first | omega | (simp only [sz]; done) | (simp only [lz, Nat.reduceAdd, Nat.reduceLeDiff, Nat.le_refl]; done) | (simp only [sz]; omega))) only [↓xa, xb, xl, Option.bind_some, Option.map_some, implies_true, imp_self, true_and, and_true, if_true, if_false, decide_true, decide_false, Int.cast_ofNat_Int, Int.reduceLT, Int.reduceLE, Int.reduceEq, Nat.reduceAdd, Nat.reduceMul, Nat.reduceLeDiff, setL, bfill, eqV, lookRes, decide_eq_true (Int.ofNat_lt.2 hlt), hrow, e0, vcells_len, vcells_one]
    refine ⟨by omega, by omega, ?_⟩
    generalize nth l j = x at hrow htk
    have hin : i + 1 ≤ j := hij
    have uH : Upd (fun r => base ≤ r) h (Array.setIfInBounds (h'.push (.cells #[.int .i64 0, .int .u64 0, .int .i64 0, .int .i64 0, .int .u64 0, .int .i64 0])) h'.size (.cells (vcells x).toArray)) := Upd.set (Upd.push u _) _ _ (.inl u.1)
    have hgH : (Array.setIfInBounds (h'.push (.cells #[.int .i64 0, .int .u64 0, .int .i64 0, .int .i64 0, .int .u64 0, .int .i64 0])) h'.size (.cells (vcells x).toArray))[g]? = some (.cells c') := by rw [g_set_ne (by omega), g_push_lt lg]; exact hg'
    have hbH : (Array.setIfInBounds (h'.push (.cells #[.int .i64 0, .int .u64 0, .int .i64 0, .int .i64 0, .int .u64 0, .int .i64 0])) h'.size (.cells (vcells x).toArray))[h'.size]? = some (.cells (vcells x).toArray) := g_set_eq (by simp) rfl
    have lH : (Array.setIfInBounds (h'.push (.cells #[.int .i64 0, .int .u64 0, .int .i64 0, .int .i64 0, .int .u64 0, .int .i64 0])) h'.size (.cells (vcells x).toArray)).size = h'.size + 1 := by simp
    generalize Array.setIfInBounds (h'.push (.cells #[.int .i64 0, .int .u64 0, .int .i64 0, .int .i64 0, .int .u64 0, .int .i64 0])) h'.size (.cells (vcells x).toArray) = H at uH hgH hbH lH ⊢
    have hrb : rdN H h'.size 0 6 = some (vcells x) := rdN_all hbH rfl
    simp (disch := (first | omega | (simp only [sz]; done) | (simp only [lz, Nat.reduceAdd, Nat.reduceLeDiff, Nat.le_refl]; done) | (simp only [sz]; omega))) only [↓xa, xb, xl, Option.bind_some, Option.map_some, implies_true, imp_self, true_and, and_true, if_true, if_false, decide_true, decide_false, Int.cast_ofNat_Int, Int.reduceLT, Int.reduceLE, Int.reduceEq, Nat.reduceAdd, Nat.reduceMul, Nat.reduceLeDiff, setL, bfill, eqV, lookRes, hrb]
    refine hf H uH x H _ (Upd.refl _) ?_
    intro H2 y
    have hg2 := y.get hgH id
    have hb2 := y.get hbH id
    have lg2 := lt_of_get hg2
    have u2 : Upd (fun r => base ≤ r) h H2 := uH.trans y.lift
    cases hfx : f x with
    | true =>
      (try simp (disch := (first | omega | (simp only [sz]; done) | (simp only [lz, Nat.reduceAdd, Nat.reduceLeDiff, Nat.le_refl]; done) | (simp only [sz]; omega))) only [↓xa, xb, xl, Option.bind_some, Option.map_some, implies_true, imp_self, true_and, and_true, if_true, if_false, decide_true, decide_false, Int.cast_ofNat_Int, Int.reduceLT, Int.reduceLE, Int.reduceEq, Nat.reduceAdd, Nat.reduceMul, Nat.reduceLeDiff, setL, bfill, eqV, lookRes])
      rw [req_q10_2]
      unfold R_q10_2
      (try simp (disch := (first | omega | (simp only [sz]; done) | (simp only [lz, Nat.reduceAdd, Nat.reduceLeDiff, Nat.le_refl]; done) | (simp only [sz]; omega))) only [↓xa, xb, xl, Option.bind_some, Option.map_some, implies_true, imp_self, true_and, and_true, if_true, if_false, decide_true, decide_false, Int.cast_ofNat_Int, Int.reduceLT, Int.reduceLE, Int.reduceEq, Nat.reduceAdd, Nat.reduceMul, Nat.reduceLeDiff, setL, bfill, eqV, lookRes])
      have hfl : (l.take (j + 1)).filter (fun x => !f x) = (l.take j).filter (fun x => !f x) := by rw [htk, List.filter_append]; simp [hfx]
      refine hself _ _ _ _ ⟨i, j + 1, c', rfl, rfl, by omega, hlt, u2, hg2, hcs', by rw [hfl]; exact hi, by rw [hfl]; exact hti, ?_⟩ (by simp only [ival_nat, show ((j : Int) + 1) = ((j + 1 : Nat) : Int) from rfl]; omega)
      have := congrArg (List.drop 6) htj
      rw [List.drop_drop, List.drop_drop] at this
      rw [show (j + 1) * 6 = j * 6 + 6 by omega]
      exact this
    | false =>
      have hrb2 : rdN H2 h'.size 0 6 = some (vcells x) := rdN_all hb2 rfl
      simp (disch := (first | omega | (simp only [sz]; done) | (simp only [lz, Nat.reduceAdd, Nat.reduceLeDiff, Nat.le_refl]; done) | (simp only [sz]; omega))) only [↓xa, xb, xl, Option.bind_some, Option.map_some, implies_true, imp_self, true_and, and_true, if_true, if_false, decide_true, decide_false, Int.cast_ofNat_Int, Int.reduceLT, Int.reduceLE, Int.reduceEq, Nat.reduceAdd, Nat.reduceMul, Nat.reduceLeDiff, setL, bfill, eqV, lookRes, hrb2, b_blk hg2, List.toList_toArray, vcells_len, vcells_one]
      refine ⟨by omega, by omega, ?_⟩
      refine ⟨by omega, ?_⟩
      rw [req_q10_2]
      unfold R_q10_2
      (try simp (disch := (first | omega | (simp only [sz]; done) | (simp only [lz, Nat.reduceAdd, Nat.reduceLeDiff, Nat.le_refl]; done) | (simp only [sz]; omega))) only [↓xa, xb, xl, Option.bind_some, Option.map_some, implies_true, imp_self, true_and, and_true, if_true, if_false, decide_true, decide_false, Int.cast_ofNat_Int, Int.reduceLT, Int.reduceLE, Int.reduceEq, Nat.reduceAdd, Nat.reduceMul, Nat.reduceLeDiff, setL, bfill, eqV, lookRes])
      have hfl : (l.take (j + 1)).filter (fun x => !f x) = (l.take j).filter (fun x => !f x) ++ [x] := by rw [htk, List.filter_append]; simp [hfx]
      refine hself _ _ _ _ ⟨i + 1, j + 1, setL c' (i * 6) (vcells x), rfl, rfl, by omega, hlt, Upd.set u2 _ _ (.inr hg), g_set_eq lg2 rfl, by rw [setL_size]; exact hcs', by rw [hfl]; simp; exact hi, ?_, ?_⟩ (by simp only [ival_nat, show ((j : Int) + 1) = ((j + 1 : Nat) : Int) from rfl]; omega)
      · rw [hfl, List.flatMap_append, ← hti, show (i + 1) * 6 = i * 6 + (vcells x).length by rw [vcells_len]; omega, setL_take _ _ _ (by rw [vcells_len, hcs']; omega)]
        simp
      · rw [setL_drop _ _ _ _ (by rw [vcells_len]; omega)]
        have := congrArg (List.drop 6) htj
        rw [List.drop_drop, List.drop_drop] at this
        rw [show (j + 1) * 6 = j * 6 + 6 by omega]
        exact this
  · have ej : j = l.length := by omega
    subst ej
    rw [List.take_length] at hi hti
    simp (disch := (first | omega | (simp only [sz]; done) | (simp only [lz, Nat.reduceAdd, Nat.reduceLeDiff, Nat.le_refl]; done) | (simp only [sz]; omega))) only [↓xa, xb, xl, Option.bind_some, Option.map_some, implies_true, imp_self, true_and, and_true, if_true, if_false, decide_true, decide_false, Int.cast_ofNat_Int, Int.reduceLT, Int.reduceLE, Int.reduceEq, Nat.reduceAdd, Nat.reduceMul, Nat.reduceLeDiff, setL, bfill, eqV, lookRes, decide_eq_false (show ¬ (l.length : Int) < (l.length : Int) by omega)]
    have hci : ¬ cap = i := by omega
    refine ⟨cap, l.length, i, rfl, rfl, fun _ => rfl, bnd_int (by omega) (by omega), ?_⟩
    simp only [if_neg hci, Option.map_some, add0, Nat.zero_add]
    refine ⟨c', hg', by omega, rfl, rfl, ?_⟩
    refine ⟨cap, i, 0, rfl, bnd_int (by omega) (by omega), fun h => rfl, rfl, ?_⟩
    have h0 : (if cap = 0 then some (⟨g, 0, none⟩ : Addr) else Option.map (fun x : Addr => x.add (0 * 6)) (some ⟨g, 0, none⟩)) = some ⟨g, 0, none⟩ := by split <;> rfl
    rw [h0]
    refine hK _ _ (Upd.set u _ _ (.inr hg)) (.inr ⟨g, cap, _, ?_, hg, g_set_eq lg rfl, by omega, by rw [setL_size]; exact hcs', ?_⟩)
    · rw [← hi]; rfl
    · rw [← hi, setL_takeLe _ _ _ _ (Nat.le_refl _), hti]
end Go.Proofs.Ytdolepapmpcpiaa

namespace Go.Proofs.Ytdolepapmpcpiaa
open Go Go.RowKit Go.Maps Go.Shelf
set_option linter.unusedSectionVars false
variable [Base]
set_option linter.unusedVariables false
set_option linter.unusedSimpArgs false
set_option maxRecDepth 10000
structure Prp where
  cmd : Cmd
  who : Int → Bool
def prpV (p : Prp) : Value := .agg #[.int .i64 p.cmd.kind, .int .i64 p.cmd.chain, .int .u64 p.cmd.epoch, .int .i64 p.cmd.node, .int .u64 (bitsOf p.who)]
def lvV (a : LV) : Value := a.1
/-- A leader's numbers. -/
structure LS where
  me : Int
  masters : Int
  state : Int
  ballot : Int
  frm : Int
  next : Int
def lcells (x : LS) (cm om : Option Nat) : Array Value := #[.int .i64 x.me, .int .i64 x.masters, .int .i64 x.state, .int .u64 x.ballot, .int .i64 x.frm, .int .i64 x.next, .map cm, .map om]
/-- A leader that has started, at block p, its maps at rc and ro. -/
structure Lead (h : Hp) (p rc ro : Nat) (x : LS) (came : List (Int × LV)) (opn : List (Int × Prp)) : Prop where
  blk : h[p]? = some (.cells (lcells x (some rc) (some ro)))
  came : h[rc]? = some (.map (encM lvV came))
  opn : h[ro]? = some (.map (encM prpV opn))
  ne : rc ≠ ro
theorem Lead.ext {h h' : Hp} {p rc ro : Nat} {x : LS} {came : List (Int × LV)} {opn : List (Int × Prp)} (a : Lead h p rc ro x came opn) (y : Ext h h') : Lead h' p rc ro x came opn :=
  ⟨y.get a.blk id, y.get a.came id, y.get a.opn id, a.ne⟩
theorem sp_lNew {h : Hp} (hB : Base.b ≤ h.size) (me masters : Int) {K : Kont} (hbad : ¬ (1 ≤ masters ∧ masters ≤ 5 ∧ 1 ≤ me ∧ me ≤ masters) → K (.tuple #[.pointer none, .int .i64 1]) h)
    (hok : 1 ≤ masters ∧ masters ≤ 5 ∧ 1 ≤ me ∧ me ≤ masters → K (.tuple #[pt h.size 0, .int .i64 0]) (h.push (.cells (lcells ⟨me, masters, 0, 0, 0, 0⟩ none none)))) : C_q171 [.int .i64 me, .int .i64 masters] h K := by
  refine ok_q171 ?_
  unfold G_q171
  (repeat' (first | (simp (disch := (first | omega | (simp only [sz]; done) | (simp only [lz, Nat.reduceAdd, Nat.reduceLeDiff, Nat.le_refl]; done) | (simp only [sz]; omega))) only [↓xa, xb, xl, Option.bind_some, Option.map_some, implies_true, imp_self, true_and, and_true, if_true, if_false, decide_true, decide_false, Int.cast_ofNat_Int, Int.reduceLT, Int.reduceLE, Int.reduceEq, Nat.reduceAdd, Nat.reduceMul, Nat.reduceLeDiff, setL, bfill, eqV, lookRes]) | ((refine e_ifd _ _ _ (fun hc => ?_) (fun hc => ?_)) <;> first | (exfalso; omega) | (simp (disch := (first | omega | (simp only [sz]; done) | (simp only [lz, Nat.reduceAdd, Nat.reduceLeDiff, Nat.le_refl]; done) | (simp only [sz]; omega))) only [↓xa, xb, xl, Option.bind_some, Option.map_some, implies_true, imp_self, true_and, and_true, if_true, if_false, decide_true, decide_false, Int.cast_ofNat_Int, Int.reduceLT, Int.reduceLE, Int.reduceEq, Nat.reduceAdd, Nat.reduceMul, Nat.reduceLeDiff, setL, bfill, eqV, lookRes, hc]) | skip) | ((refine e_ifn _ _ _ (fun hc => ?_) (fun hc => ?_)) <;> first | (exfalso; omega) | (simp (disch := (first | omega | (simp only [sz]; done) | (simp only [lz, Nat.reduceAdd, Nat.reduceLeDiff, Nat.le_refl]; done) | (simp only [sz]; omega))) only [↓xa, xb, xl, Option.bind_some, Option.map_some, implies_true, imp_self, true_and, and_true, if_true, if_false, decide_true, decide_false, Int.cast_ofNat_Int, Int.reduceLT, Int.reduceLE, Int.reduceEq, Nat.reduceAdd, Nat.reduceMul, Nat.reduceLeDiff, setL, bfill, eqV, lookRes, hc]) | skip) | ((refine e_gd _ _ _ _ _ (fun hc => ?_) (fun hc => ?_)) <;> first | (exfalso; omega) | (simp (disch := (first | omega | (simp only [sz]; done) | (simp only [lz, Nat.reduceAdd, Nat.reduceLeDiff, Nat.le_refl]; done) | (simp only [sz]; omega))) only [↓xa, xb, xl, Option.bind_some, Option.map_some, implies_true, imp_self, true_and, and_true, if_true, if_false, decide_true, decide_false, Int.cast_ofNat_Int, Int.reduceLT, Int.reduceLE, Int.reduceEq, Nat.reduceAdd, Nat.reduceMul, Nat.reduceLeDiff, setL, bfill, eqV, lookRes, hc]) | skip) | ((refine e_gn _ _ _ _ _ (fun hc => ?_) (fun hc => ?_)) <;> first | (exfalso; omega) | (simp (disch := (first | omega | (simp only [sz]; done) | (simp only [lz, Nat.reduceAdd, Nat.reduceLeDiff, Nat.le_refl]; done) | (simp only [sz]; omega))) only [↓xa, xb, xl, Option.bind_some, Option.map_some, implies_true, imp_self, true_and, and_true, if_true, if_false, decide_true, decide_false, Int.cast_ofNat_Int, Int.reduceLT, Int.reduceLE, Int.reduceEq, Nat.reduceAdd, Nat.reduceMul, Nat.reduceLeDiff, setL, bfill, eqV, lookRes, hc]) | skip) | ((refine e_pd _ _ _ _ _ (fun hc => ?_) (fun hc => ?_)) <;> first | (exfalso; omega) | (simp (disch := (first | omega | (simp only [sz]; done) | (simp only [lz, Nat.reduceAdd, Nat.reduceLeDiff, Nat.le_refl]; done) | (simp only [sz]; omega))) only [↓xa, xb, xl, Option.bind_some, Option.map_some, implies_true, imp_self, true_and, and_true, if_true, if_false, decide_true, decide_false, Int.cast_ofNat_Int, Int.reduceLT, Int.reduceLE, Int.reduceEq, Nat.reduceAdd, Nat.reduceMul, Nat.reduceLeDiff, setL, bfill, eqV, lookRes, hc]) | skip) | ((refine e_pn _ _ _ _ _ (fun hc => ?_) (fun hc => ?_)) <;> first | (exfalso; omega) | (simp (disch := (first | omega | (simp only [sz]; done) | (simp only [lz, Nat.reduceAdd, Nat.reduceLeDiff, Nat.le_refl]; done) | (simp only [sz]; omega))) only [↓xa, xb, xl, Option.bind_some, Option.map_some, implies_true, imp_self, true_and, and_true, if_true, if_false, decide_true, decide_false, Int.cast_ofNat_Int, Int.reduceLT, Int.reduceLE, Int.reduceEq, Nat.reduceAdd, Nat.reduceMul, Nat.reduceLeDiff, setL, bfill, eqV, lookRes, hc]) | skip) | ((refine e_if2 _ _ _ (fun hc => ?_) (fun hc => ?_)) <;> first | (exfalso; omega) | (simp (disch := (first | omega | (simp only [sz]; done) | (simp only [lz, Nat.reduceAdd, Nat.reduceLeDiff, Nat.le_refl]; done) | (simp only [sz]; omega))) only [↓xa, xb, xl, Option.bind_some, Option.map_some, implies_true, imp_self, true_and, and_true, if_true, if_false, decide_true, decide_false, Int.cast_ofNat_Int, Int.reduceLT, Int.reduceLE, Int.reduceEq, Nat.reduceAdd, Nat.reduceMul, Nat.reduceLeDiff, setL, bfill, eqV, lookRes, hc]) | skip) | ((refine e_g2 _ _ _ _ _ (fun hc => ?_) (fun hc => ?_)) <;> first | (exfalso; omega) | (simp (disch := (first | omega | (simp only [sz]; done) | (simp only [lz, Nat.reduceAdd, Nat.reduceLeDiff, Nat.le_refl]; done) | (simp only [sz]; omega))) only [↓xa, xb, xl, Option.bind_some, Option.map_some, implies_true, imp_self, true_and, and_true, if_true, if_false, decide_true, decide_false, Int.cast_ofNat_Int, Int.reduceLT, Int.reduceLE, Int.reduceEq, Nat.reduceAdd, Nat.reduceMul, Nat.reduceLeDiff, setL, bfill, eqV, lookRes, hc]) | skip)))
  all_goals first
    | exact hbad (by omega)
    | exact hok (by omega)
/-- Any of a leader's numbers, started or not. -/
theorem sp_lmaster {h : Hp} {p : Nat} {x : LS} {cm om : Option Nat} (hb : h[p]? = some (.cells (lcells x cm om))) (w : Int) {K : Kont} (hK : K (.bool (decide (1 ≤ w ∧ w ≤ x.masters))) h) : C_q74 [pt p 0, .int .i64 w] h K := by
  refine ok_q74 ?_
  unfold G_q74
  (repeat' (first | (simp (disch := (first | omega | (simp only [sz]; done) | (simp only [lz, Nat.reduceAdd, Nat.reduceLeDiff, Nat.le_refl]; done) | (simp only [sz]; omega))) only [↓xa, xb, xl, Option.bind_some, Option.map_some, implies_true, imp_self, true_and, and_true, if_true, if_false, decide_true, decide_false, Int.cast_ofNat_Int, Int.reduceLT, Int.reduceLE, Int.reduceEq, Nat.reduceAdd, Nat.reduceMul, Nat.reduceLeDiff, setL, bfill, eqV, lookRes, rdC_blk hb, lcells]) | ((refine e_ifd _ _ _ (fun hc => ?_) (fun hc => ?_)) <;> first | (exfalso; omega) | (simp (disch := (first | omega | (simp only [sz]; done) | (simp only [lz, Nat.reduceAdd, Nat.reduceLeDiff, Nat.le_refl]; done) | (simp only [sz]; omega))) only [↓xa, xb, xl, Option.bind_some, Option.map_some, implies_true, imp_self, true_and, and_true, if_true, if_false, decide_true, decide_false, Int.cast_ofNat_Int, Int.reduceLT, Int.reduceLE, Int.reduceEq, Nat.reduceAdd, Nat.reduceMul, Nat.reduceLeDiff, setL, bfill, eqV, lookRes, rdC_blk hb, lcells, hc]) | skip) | ((refine e_ifn _ _ _ (fun hc => ?_) (fun hc => ?_)) <;> first | (exfalso; omega) | (simp (disch := (first | omega | (simp only [sz]; done) | (simp only [lz, Nat.reduceAdd, Nat.reduceLeDiff, Nat.le_refl]; done) | (simp only [sz]; omega))) only [↓xa, xb, xl, Option.bind_some, Option.map_some, implies_true, imp_self, true_and, and_true, if_true, if_false, decide_true, decide_false, Int.cast_ofNat_Int, Int.reduceLT, Int.reduceLE, Int.reduceEq, Nat.reduceAdd, Nat.reduceMul, Nat.reduceLeDiff, setL, bfill, eqV, lookRes, rdC_blk hb, lcells, hc]) | skip) | ((refine e_gd _ _ _ _ _ (fun hc => ?_) (fun hc => ?_)) <;> first | (exfalso; omega) | (simp (disch := (first | omega | (simp only [sz]; done) | (simp only [lz, Nat.reduceAdd, Nat.reduceLeDiff, Nat.le_refl]; done) | (simp only [sz]; omega))) only [↓xa, xb, xl, Option.bind_some, Option.map_some, implies_true, imp_self, true_and, and_true, if_true, if_false, decide_true, decide_false, Int.cast_ofNat_Int, Int.reduceLT, Int.reduceLE, Int.reduceEq, Nat.reduceAdd, Nat.reduceMul, Nat.reduceLeDiff, setL, bfill, eqV, lookRes, rdC_blk hb, lcells, hc]) | skip) | ((refine e_gn _ _ _ _ _ (fun hc => ?_) (fun hc => ?_)) <;> first | (exfalso; omega) | (simp (disch := (first | omega | (simp only [sz]; done) | (simp only [lz, Nat.reduceAdd, Nat.reduceLeDiff, Nat.le_refl]; done) | (simp only [sz]; omega))) only [↓xa, xb, xl, Option.bind_some, Option.map_some, implies_true, imp_self, true_and, and_true, if_true, if_false, decide_true, decide_false, Int.cast_ofNat_Int, Int.reduceLT, Int.reduceLE, Int.reduceEq, Nat.reduceAdd, Nat.reduceMul, Nat.reduceLeDiff, setL, bfill, eqV, lookRes, rdC_blk hb, lcells, hc]) | skip) | ((refine e_pd _ _ _ _ _ (fun hc => ?_) (fun hc => ?_)) <;> first | (exfalso; omega) | (simp (disch := (first | omega | (simp only [sz]; done) | (simp only [lz, Nat.reduceAdd, Nat.reduceLeDiff, Nat.le_refl]; done) | (simp only [sz]; omega))) only [↓xa, xb, xl, Option.bind_some, Option.map_some, implies_true, imp_self, true_and, and_true, if_true, if_false, decide_true, decide_false, Int.cast_ofNat_Int, Int.reduceLT, Int.reduceLE, Int.reduceEq, Nat.reduceAdd, Nat.reduceMul, Nat.reduceLeDiff, setL, bfill, eqV, lookRes, rdC_blk hb, lcells, hc]) | skip) | ((refine e_pn _ _ _ _ _ (fun hc => ?_) (fun hc => ?_)) <;> first | (exfalso; omega) | (simp (disch := (first | omega | (simp only [sz]; done) | (simp only [lz, Nat.reduceAdd, Nat.reduceLeDiff, Nat.le_refl]; done) | (simp only [sz]; omega))) only [↓xa, xb, xl, Option.bind_some, Option.map_some, implies_true, imp_self, true_and, and_true, if_true, if_false, decide_true, decide_false, Int.cast_ofNat_Int, Int.reduceLT, Int.reduceLE, Int.reduceEq, Nat.reduceAdd, Nat.reduceMul, Nat.reduceLeDiff, setL, bfill, eqV, lookRes, rdC_blk hb, lcells, hc]) | skip) | ((refine e_if2 _ _ _ (fun hc => ?_) (fun hc => ?_)) <;> first | (exfalso; omega) | (simp (disch := (first | omega | (simp only [sz]; done) | (simp only [lz, Nat.reduceAdd, Nat.reduceLeDiff, Nat.le_refl]; done) | (simp only [sz]; omega))) only [↓xa, xb, xl, Option.bind_some, Option.map_some, implies_true, imp_self, true_and, and_true, if_true, if_false, decide_true, decide_false, Int.cast_ofNat_Int, Int.reduceLT, Int.reduceLE, Int.reduceEq, Nat.reduceAdd, Nat.reduceMul, Nat.reduceLeDiff, setL, bfill, eqV, lookRes, rdC_blk hb, lcells, hc]) | skip) | ((refine e_g2 _ _ _ _ _ (fun hc => ?_) (fun hc => ?_)) <;> first | (exfalso; omega) | (simp (disch := (first | omega | (simp only [sz]; done) | (simp only [lz, Nat.reduceAdd, Nat.reduceLeDiff, Nat.le_refl]; done) | (simp only [sz]; omega))) only [↓xa, xb, xl, Option.bind_some, Option.map_some, implies_true, imp_self, true_and, and_true, if_true, if_false, decide_true, decide_false, Int.cast_ofNat_Int, Int.reduceLT, Int.reduceLE, Int.reduceEq, Nat.reduceAdd, Nat.reduceMul, Nat.reduceLeDiff, setL, bfill, eqV, lookRes, rdC_blk hb, lcells, hc]) | skip)))
  all_goals exact k_cast hK (by congr 1; simp; omega)
theorem sp_lis {h : Hp} {p : Nat} {x : LS} {cm om : Option Nat} (hb : h[p]? = some (.cells (lcells x cm om))) (s b : Int) {K : Kont} (hK : K (.bool (decide (x.state = s ∧ x.ballot = b))) h) : C_q126 [pt p 0, .int .i64 s, .int .u64 b] h K := by
  refine ok_q126 ?_
  unfold G_q126
  (repeat' (first | (simp (disch := (first | omega | (simp only [sz]; done) | (simp only [lz, Nat.reduceAdd, Nat.reduceLeDiff, Nat.le_refl]; done) | (simp only [sz]; omega))) only [↓xa, xb, xl, Option.bind_some, Option.map_some, implies_true, imp_self, true_and, and_true, if_true, if_false, decide_true, decide_false, Int.cast_ofNat_Int, Int.reduceLT, Int.reduceLE, Int.reduceEq, Nat.reduceAdd, Nat.reduceMul, Nat.reduceLeDiff, setL, bfill, eqV, lookRes, rdC_blk hb, lcells]) | ((refine e_ifd _ _ _ (fun hc => ?_) (fun hc => ?_)) <;> first | (exfalso; omega) | (simp (disch := (first | omega | (simp only [sz]; done) | (simp only [lz, Nat.reduceAdd, Nat.reduceLeDiff, Nat.le_refl]; done) | (simp only [sz]; omega))) only [↓xa, xb, xl, Option.bind_some, Option.map_some, implies_true, imp_self, true_and, and_true, if_true, if_false, decide_true, decide_false, Int.cast_ofNat_Int, Int.reduceLT, Int.reduceLE, Int.reduceEq, Nat.reduceAdd, Nat.reduceMul, Nat.reduceLeDiff, setL, bfill, eqV, lookRes, rdC_blk hb, lcells, hc]) | skip) | ((refine e_ifn _ _ _ (fun hc => ?_) (fun hc => ?_)) <;> first | (exfalso; omega) | (simp (disch := (first | omega | (simp only [sz]; done) | (simp only [lz, Nat.reduceAdd, Nat.reduceLeDiff, Nat.le_refl]; done) | (simp only [sz]; omega))) only [↓xa, xb, xl, Option.bind_some, Option.map_some, implies_true, imp_self, true_and, and_true, if_true, if_false, decide_true, decide_false, Int.cast_ofNat_Int, Int.reduceLT, Int.reduceLE, Int.reduceEq, Nat.reduceAdd, Nat.reduceMul, Nat.reduceLeDiff, setL, bfill, eqV, lookRes, rdC_blk hb, lcells, hc]) | skip) | ((refine e_gd _ _ _ _ _ (fun hc => ?_) (fun hc => ?_)) <;> first | (exfalso; omega) | (simp (disch := (first | omega | (simp only [sz]; done) | (simp only [lz, Nat.reduceAdd, Nat.reduceLeDiff, Nat.le_refl]; done) | (simp only [sz]; omega))) only [↓xa, xb, xl, Option.bind_some, Option.map_some, implies_true, imp_self, true_and, and_true, if_true, if_false, decide_true, decide_false, Int.cast_ofNat_Int, Int.reduceLT, Int.reduceLE, Int.reduceEq, Nat.reduceAdd, Nat.reduceMul, Nat.reduceLeDiff, setL, bfill, eqV, lookRes, rdC_blk hb, lcells, hc]) | skip) | ((refine e_gn _ _ _ _ _ (fun hc => ?_) (fun hc => ?_)) <;> first | (exfalso; omega) | (simp (disch := (first | omega | (simp only [sz]; done) | (simp only [lz, Nat.reduceAdd, Nat.reduceLeDiff, Nat.le_refl]; done) | (simp only [sz]; omega))) only [↓xa, xb, xl, Option.bind_some, Option.map_some, implies_true, imp_self, true_and, and_true, if_true, if_false, decide_true, decide_false, Int.cast_ofNat_Int, Int.reduceLT, Int.reduceLE, Int.reduceEq, Nat.reduceAdd, Nat.reduceMul, Nat.reduceLeDiff, setL, bfill, eqV, lookRes, rdC_blk hb, lcells, hc]) | skip) | ((refine e_pd _ _ _ _ _ (fun hc => ?_) (fun hc => ?_)) <;> first | (exfalso; omega) | (simp (disch := (first | omega | (simp only [sz]; done) | (simp only [lz, Nat.reduceAdd, Nat.reduceLeDiff, Nat.le_refl]; done) | (simp only [sz]; omega))) only [↓xa, xb, xl, Option.bind_some, Option.map_some, implies_true, imp_self, true_and, and_true, if_true, if_false, decide_true, decide_false, Int.cast_ofNat_Int, Int.reduceLT, Int.reduceLE, Int.reduceEq, Nat.reduceAdd, Nat.reduceMul, Nat.reduceLeDiff, setL, bfill, eqV, lookRes, rdC_blk hb, lcells, hc]) | skip) | ((refine e_pn _ _ _ _ _ (fun hc => ?_) (fun hc => ?_)) <;> first | (exfalso; omega) | (simp (disch := (first | omega | (simp only [sz]; done) | (simp only [lz, Nat.reduceAdd, Nat.reduceLeDiff, Nat.le_refl]; done) | (simp only [sz]; omega))) only [↓xa, xb, xl, Option.bind_some, Option.map_some, implies_true, imp_self, true_and, and_true, if_true, if_false, decide_true, decide_false, Int.cast_ofNat_Int, Int.reduceLT, Int.reduceLE, Int.reduceEq, Nat.reduceAdd, Nat.reduceMul, Nat.reduceLeDiff, setL, bfill, eqV, lookRes, rdC_blk hb, lcells, hc]) | skip) | ((refine e_if2 _ _ _ (fun hc => ?_) (fun hc => ?_)) <;> first | (exfalso; omega) | (simp (disch := (first | omega | (simp only [sz]; done) | (simp only [lz, Nat.reduceAdd, Nat.reduceLeDiff, Nat.le_refl]; done) | (simp only [sz]; omega))) only [↓xa, xb, xl, Option.bind_some, Option.map_some, implies_true, imp_self, true_and, and_true, if_true, if_false, decide_true, decide_false, Int.cast_ofNat_Int, Int.reduceLT, Int.reduceLE, Int.reduceEq, Nat.reduceAdd, Nat.reduceMul, Nat.reduceLeDiff, setL, bfill, eqV, lookRes, rdC_blk hb, lcells, hc]) | skip) | ((refine e_g2 _ _ _ _ _ (fun hc => ?_) (fun hc => ?_)) <;> first | (exfalso; omega) | (simp (disch := (first | omega | (simp only [sz]; done) | (simp only [lz, Nat.reduceAdd, Nat.reduceLeDiff, Nat.le_refl]; done) | (simp only [sz]; omega))) only [↓xa, xb, xl, Option.bind_some, Option.map_some, implies_true, imp_self, true_and, and_true, if_true, if_false, decide_true, decide_false, Int.cast_ofNat_Int, Int.reduceLT, Int.reduceLE, Int.reduceEq, Nat.reduceAdd, Nat.reduceMul, Nat.reduceLeDiff, setL, bfill, eqV, lookRes, rdC_blk hb, lcells, hc]) | skip)))
  all_goals exact k_cast hK (by congr 1; simp; omega)
theorem sp_lState {h : Hp} {p : Nat} {x : LS} {cm om : Option Nat} (hb : h[p]? = some (.cells (lcells x cm om))) {K : Kont} (hK : K (.int .i64 x.state) h) : C_q83 [pt p 0] h K := by
  refine ok_q83 ?_
  unfold G_q83
  simp (disch := (first | omega | (simp only [sz]; done) | (simp only [lz, Nat.reduceAdd, Nat.reduceLeDiff, Nat.le_refl]; done) | (simp only [sz]; omega))) only [↓xa, xb, xl, Option.bind_some, Option.map_some, implies_true, imp_self, true_and, and_true, if_true, if_false, decide_true, decide_false, Int.cast_ofNat_Int, Int.reduceLT, Int.reduceLE, Int.reduceEq, Nat.reduceAdd, Nat.reduceMul, Nat.reduceLeDiff, setL, bfill, eqV, lookRes, rdC_blk hb, lcells]
  exact hK
theorem sp_lBallot {h : Hp} {p : Nat} {x : LS} {cm om : Option Nat} (hb : h[p]? = some (.cells (lcells x cm om))) {K : Kont} (hK : K (.int .u64 x.ballot) h) : C_q70 [pt p 0] h K := by
  refine ok_q70 ?_
  unfold G_q70
  simp (disch := (first | omega | (simp only [sz]; done) | (simp only [lz, Nat.reduceAdd, Nat.reduceLeDiff, Nat.le_refl]; done) | (simp only [sz]; omega))) only [↓xa, xb, xl, Option.bind_some, Option.map_some, implies_true, imp_self, true_and, and_true, if_true, if_false, decide_true, decide_false, Int.cast_ofNat_Int, Int.reduceLT, Int.reduceLE, Int.reduceEq, Nat.reduceAdd, Nat.reduceMul, Nat.reduceLeDiff, setL, bfill, eqV, lookRes, rdC_blk hb, lcells]
  exact hK
theorem sp_lFrom {h : Hp} {p : Nat} {x : LS} {cm om : Option Nat} (hb : h[p]? = some (.cells (lcells x cm om))) {K : Kont} (hK : K (.int .i64 x.frm) h) : C_q92 [pt p 0] h K := by
  refine ok_q92 ?_
  unfold G_q92
  simp (disch := (first | omega | (simp only [sz]; done) | (simp only [lz, Nat.reduceAdd, Nat.reduceLeDiff, Nat.le_refl]; done) | (simp only [sz]; omega))) only [↓xa, xb, xl, Option.bind_some, Option.map_some, implies_true, imp_self, true_and, and_true, if_true, if_false, decide_true, decide_false, Int.cast_ofNat_Int, Int.reduceLT, Int.reduceLE, Int.reduceEq, Nat.reduceAdd, Nat.reduceMul, Nat.reduceLeDiff, setL, bfill, eqV, lookRes, rdC_blk hb, lcells]
  exact hK
theorem sp_lNext {h : Hp} {p : Nat} {x : LS} {cm om : Option Nat} (hb : h[p]? = some (.cells (lcells x cm om))) {K : Kont} (hK : K (.int .i64 x.next) h) : C_q93 [pt p 0] h K := by
  refine ok_q93 ?_
  unfold G_q93
  simp (disch := (first | omega | (simp only [sz]; done) | (simp only [lz, Nat.reduceAdd, Nat.reduceLeDiff, Nat.le_refl]; done) | (simp only [sz]; omega))) only [↓xa, xb, xl, Option.bind_some, Option.map_some, implies_true, imp_self, true_and, and_true, if_true, if_false, decide_true, decide_false, Int.cast_ofNat_Int, Int.reduceLT, Int.reduceLE, Int.reduceEq, Nat.reduceAdd, Nat.reduceMul, Nat.reduceLeDiff, setL, bfill, eqV, lookRes, rdC_blk hb, lcells]
  exact hK
def maxI (a b : Int) : Int := if b > a then b else a
def startE (x : LS) (above f : Int) : Int := if f < 0 ∨ 512 < f then 1 else nextE (maxI above x.ballot) x.me
def startB (x : LS) (above f : Int) : Int := if startE x above f = 0 then nextB (maxI above x.ballot) x.me else 0
def startX (x : LS) (above f : Int) : LS := if startE x above f = 0 then { x with state := 1, ballot := nextB (maxI above x.ballot) x.me, frm := f, next := f } else x
set_option maxHeartbeats 2000000 in
theorem sp_lStart {h : Hp} (hB : Base.b ≤ h.size) {p : Nat} {x : LS} {cm om : Option Nat} (hb : h[p]? = some (.cells (lcells x cm om))) (hm : i64ok x.me) (hxb : u64ok x.ballot) {above : Int} (ha : u64ok above) (f : Int) {K : Kont}
    (hbad : startE x above f ≠ 0 → K (.tuple #[.int .u64 0, .int .i64 (startE x above f)]) h)
    (hok : startE x above f = 0 → ∀ h', Upd (fun r => r = p) h h' → Lead h' p h.size (h.size + 1) (startX x above f) [] [] → K (.tuple #[.int .u64 (startB x above f), .int .i64 0]) h') : C_q82 [pt p 0, .int .u64 above, .int .i64 f] h K := by
  refine ok_q82 ?_
  unfold G_q82
  have lp := lt_of_get hb
  have hmax : u64ok (maxI above x.ballot) := by unfold maxI; split <;> assumption
  unfold startB startX startE at *
  (repeat' (first | (simp (disch := (first | omega | (simp only [sz]; done) | (simp only [lz, Nat.reduceAdd, Nat.reduceLeDiff, Nat.le_refl]; done) | (simp only [sz]; omega))) only [↓xa, xb, xl, Option.bind_some, Option.map_some, implies_true, imp_self, true_and, and_true, if_true, if_false, decide_true, decide_false, Int.cast_ofNat_Int, Int.reduceLT, Int.reduceLE, Int.reduceEq, Nat.reduceAdd, Nat.reduceMul, Nat.reduceLeDiff, setL, bfill, eqV, lookRes, rdC_blk hb, lcells]) | ((refine e_ifd _ _ _ (fun hc => ?_) (fun hc => ?_)) <;> first | (exfalso; omega) | (simp (disch := (first | omega | (simp only [sz]; done) | (simp only [lz, Nat.reduceAdd, Nat.reduceLeDiff, Nat.le_refl]; done) | (simp only [sz]; omega))) only [↓xa, xb, xl, Option.bind_some, Option.map_some, implies_true, imp_self, true_and, and_true, if_true, if_false, decide_true, decide_false, Int.cast_ofNat_Int, Int.reduceLT, Int.reduceLE, Int.reduceEq, Nat.reduceAdd, Nat.reduceMul, Nat.reduceLeDiff, setL, bfill, eqV, lookRes, rdC_blk hb, lcells, hc]) | skip) | ((refine e_ifn _ _ _ (fun hc => ?_) (fun hc => ?_)) <;> first | (exfalso; omega) | (simp (disch := (first | omega | (simp only [sz]; done) | (simp only [lz, Nat.reduceAdd, Nat.reduceLeDiff, Nat.le_refl]; done) | (simp only [sz]; omega))) only [↓xa, xb, xl, Option.bind_some, Option.map_some, implies_true, imp_self, true_and, and_true, if_true, if_false, decide_true, decide_false, Int.cast_ofNat_Int, Int.reduceLT, Int.reduceLE, Int.reduceEq, Nat.reduceAdd, Nat.reduceMul, Nat.reduceLeDiff, setL, bfill, eqV, lookRes, rdC_blk hb, lcells, hc]) | skip) | ((refine e_gd _ _ _ _ _ (fun hc => ?_) (fun hc => ?_)) <;> first | (exfalso; omega) | (simp (disch := (first | omega | (simp only [sz]; done) | (simp only [lz, Nat.reduceAdd, Nat.reduceLeDiff, Nat.le_refl]; done) | (simp only [sz]; omega))) only [↓xa, xb, xl, Option.bind_some, Option.map_some, implies_true, imp_self, true_and, and_true, if_true, if_false, decide_true, decide_false, Int.cast_ofNat_Int, Int.reduceLT, Int.reduceLE, Int.reduceEq, Nat.reduceAdd, Nat.reduceMul, Nat.reduceLeDiff, setL, bfill, eqV, lookRes, rdC_blk hb, lcells, hc]) | skip) | ((refine e_gn _ _ _ _ _ (fun hc => ?_) (fun hc => ?_)) <;> first | (exfalso; omega) | (simp (disch := (first | omega | (simp only [sz]; done) | (simp only [lz, Nat.reduceAdd, Nat.reduceLeDiff, Nat.le_refl]; done) | (simp only [sz]; omega))) only [↓xa, xb, xl, Option.bind_some, Option.map_some, implies_true, imp_self, true_and, and_true, if_true, if_false, decide_true, decide_false, Int.cast_ofNat_Int, Int.reduceLT, Int.reduceLE, Int.reduceEq, Nat.reduceAdd, Nat.reduceMul, Nat.reduceLeDiff, setL, bfill, eqV, lookRes, rdC_blk hb, lcells, hc]) | skip) | ((refine e_pd _ _ _ _ _ (fun hc => ?_) (fun hc => ?_)) <;> first | (exfalso; omega) | (simp (disch := (first | omega | (simp only [sz]; done) | (simp only [lz, Nat.reduceAdd, Nat.reduceLeDiff, Nat.le_refl]; done) | (simp only [sz]; omega))) only [↓xa, xb, xl, Option.bind_some, Option.map_some, implies_true, imp_self, true_and, and_true, if_true, if_false, decide_true, decide_false, Int.cast_ofNat_Int, Int.reduceLT, Int.reduceLE, Int.reduceEq, Nat.reduceAdd, Nat.reduceMul, Nat.reduceLeDiff, setL, bfill, eqV, lookRes, rdC_blk hb, lcells, hc]) | skip) | ((refine e_pn _ _ _ _ _ (fun hc => ?_) (fun hc => ?_)) <;> first | (exfalso; omega) | (simp (disch := (first | omega | (simp only [sz]; done) | (simp only [lz, Nat.reduceAdd, Nat.reduceLeDiff, Nat.le_refl]; done) | (simp only [sz]; omega))) only [↓xa, xb, xl, Option.bind_some, Option.map_some, implies_true, imp_self, true_and, and_true, if_true, if_false, decide_true, decide_false, Int.cast_ofNat_Int, Int.reduceLT, Int.reduceLE, Int.reduceEq, Nat.reduceAdd, Nat.reduceMul, Nat.reduceLeDiff, setL, bfill, eqV, lookRes, rdC_blk hb, lcells, hc]) | skip) | ((refine e_if2 _ _ _ (fun hc => ?_) (fun hc => ?_)) <;> first | (exfalso; omega) | (simp (disch := (first | omega | (simp only [sz]; done) | (simp only [lz, Nat.reduceAdd, Nat.reduceLeDiff, Nat.le_refl]; done) | (simp only [sz]; omega))) only [↓xa, xb, xl, Option.bind_some, Option.map_some, implies_true, imp_self, true_and, and_true, if_true, if_false, decide_true, decide_false, Int.cast_ofNat_Int, Int.reduceLT, Int.reduceLE, Int.reduceEq, Nat.reduceAdd, Nat.reduceMul, Nat.reduceLeDiff, setL, bfill, eqV, lookRes, rdC_blk hb, lcells, hc]) | skip) | ((refine e_g2 _ _ _ _ _ (fun hc => ?_) (fun hc => ?_)) <;> first | (exfalso; omega) | (simp (disch := (first | omega | (simp only [sz]; done) | (simp only [lz, Nat.reduceAdd, Nat.reduceLeDiff, Nat.le_refl]; done) | (simp only [sz]; omega))) only [↓xa, xb, xl, Option.bind_some, Option.map_some, implies_true, imp_self, true_and, and_true, if_true, if_false, decide_true, decide_false, Int.cast_ofNat_Int, Int.reduceLT, Int.reduceLE, Int.reduceEq, Nat.reduceAdd, Nat.reduceMul, Nat.reduceLeDiff, setL, bfill, eqV, lookRes, rdC_blk hb, lcells, hc]) | skip)))
  · rw [if_pos (by omega)] at hbad
    exact hbad (by decide)
  · rw [if_pos (by omega)] at hbad
    exact hbad (by decide)
  · rw [if_neg (by omega)] at hbad hok
    refine sp_Next hmax hm ?_
    by_cases he : nextE (maxI above x.ballot) x.me = 0
    · simp only [he, if_true, true_implies] at hok
      simp (disch := (first | omega | (simp only [sz]; done) | (simp only [lz, Nat.reduceAdd, Nat.reduceLeDiff, Nat.le_refl]; done) | (simp only [sz]; omega))) only [↓xa, xb, xl, Option.bind_some, Option.map_some, implies_true, imp_self, true_and, and_true, if_true, if_false, decide_true, decide_false, Int.cast_ofNat_Int, Int.reduceLT, Int.reduceLE, Int.reduceEq, Nat.reduceAdd, Nat.reduceMul, Nat.reduceLeDiff, setL, bfill, eqV, lookRes, he, b_blk hb, rdC_blk hb, lcells]
      refine hok _ ?_ ⟨?_, ?_, ?_, by omega⟩
      · exact (by repeat' (first | with_reducible exact Upd.refl _ | with_reducible refine Upd.push ?_ _ | with_reducible refine Upd.set ?_ _ _ ?_ | exact .inl (by (first | omega | (simp only [sz]; done) | (simp only [lz, Nat.reduceAdd, Nat.reduceLeDiff, Nat.le_refl]; done) | (simp only [sz]; omega))) | exact .inr rfl | exact .inr (by simp; done)))
      · simp (disch := (first | omega | (simp only [sz]; done) | (simp only [lz, Nat.reduceAdd, Nat.reduceLeDiff, Nat.le_refl]; done) | (simp only [sz]; omega))) only [g_push_lt, g_push_eq, g_set_eq, g_set_ne]
        rfl
      · simp (disch := (first | omega | (simp only [sz]; done) | (simp only [lz, Nat.reduceAdd, Nat.reduceLeDiff, Nat.le_refl]; done) | (simp only [sz]; omega))) only [g_push_lt, g_push_eq, g_set_eq, g_set_ne]
        rfl
      · simp (disch := (first | omega | (simp only [sz]; done) | (simp only [lz, Nat.reduceAdd, Nat.reduceLeDiff, Nat.le_refl]; done) | (simp only [sz]; omega))) only [g_push_lt, g_push_eq, g_set_eq, g_set_ne]
        rfl
    · simp (disch := (first | omega | (simp only [sz]; done) | (simp only [lz, Nat.reduceAdd, Nat.reduceLeDiff, Nat.le_refl]; done) | (simp only [sz]; omega))) only [↓xa, xb, xl, Option.bind_some, Option.map_some, implies_true, imp_self, true_and, and_true, if_true, if_false, decide_true, decide_false, Int.cast_ofNat_Int, Int.reduceLT, Int.reduceLE, Int.reduceEq, Nat.reduceAdd, Nat.reduceMul, Nat.reduceLeDiff, setL, bfill, eqV, lookRes, decide_eq_false he, rdC_blk hb, lcells]
      have e0 : nextB (maxI above x.ballot) x.me = 0 := by unfold nextB; rw [if_neg he]
      exact hbad he
theorem sp_keysB {h : Hp} (hB : Base.b ≤ h.size) {r : Nat} {K : Kont} (hK : K (.func (.func 80) #[] #[pt h.size 0]) (h.push (.cells #[.map (some r)]))) : C_q4 [.map (some r)] h K := by
  refine ok_q4 ?_
  unfold G_q4
  (try simp (disch := (first | omega | (simp only [sz]; done) | (simp only [lz, Nat.reduceAdd, Nat.reduceLeDiff, Nat.le_refl]; done) | (simp only [sz]; omega))) only [↓xa, xb, xl, Option.bind_some, Option.map_some, implies_true, imp_self, true_and, and_true, if_true, if_false, decide_true, decide_false, Int.cast_ofNat_Int, Int.reduceLT, Int.reduceLE, Int.reduceEq, Nat.reduceAdd, Nat.reduceMul, Nat.reduceLeDiff, setL, bfill, eqV, lookRes])
  exact hK
theorem sp_keysC {h : Hp} (hB : Base.b ≤ h.size) {r : Nat} {K : Kont} (hK : K (.func (.func 87) #[] #[pt h.size 0]) (h.push (.cells #[.map (some r)]))) : C_q1 [.map (some r)] h K := by
  refine ok_q1 ?_
  unfold G_q1
  (try simp (disch := (first | omega | (simp only [sz]; done) | (simp only [lz, Nat.reduceAdd, Nat.reduceLeDiff, Nat.le_refl]; done) | (simp only [sz]; omega))) only [↓xa, xb, xl, Option.bind_some, Option.map_some, implies_true, imp_self, true_and, and_true, if_true, if_false, decide_true, decide_false, Int.cast_ofNat_Int, Int.reduceLT, Int.reduceLE, Int.reduceEq, Nat.reduceAdd, Nat.reduceMul, Nat.reduceLeDiff, setL, bfill, eqV, lookRes])
  exact hK
/-- Keys that may be, not too many. -/
def KeysFine {α : Type} (m : List (Int × α)) : Prop := keysOk m ∧ (∀ k ∈ m.map (·.1), i64ok k) ∧ m.length ≤ 100000
/-- slices.Sorted(maps.Keys(m)) of the votes by masters. -/
theorem sp_sortedB {h : Hp} (hB : Base.b ≤ h.size) {r : Nat} {m : List (Int × LV)} (hm : h[r]? = some (.map (encM lvV m))) (hk : KeysFine m) {K : Value → Kont}
    (hK : ∀ t v h', Ext h h' → Own h' h.size 1 icell v (sortI (m.map (·.1))) → K t v h') : C_q4 [.map (some r)] h (fun t h1 => C_q61 [t] h1 (K t)) := by
  have lr := lt_of_get hm
  refine sp_keysB hB ?_
  refine sorted_of (ks := m.map (·.1)) (by simp; omega) en80 (by have := hk.2.2; simp; omega) (seqB (g_push_eq rfl) (by rw [g_push_lt lr]; exact hm) (encM_keys _ _) hk.2.1 (by have := hk.2.2; simp; omega)) ?_
  intro v h2 x hrow _
  have x0 : Ext h h2 := Ext.trans (by repeat' (first | with_reducible exact Upd.refl _ | with_reducible refine Upd.push ?_ _ | with_reducible refine Upd.set ?_ _ _ ?_ | exact .inl (by (first | omega | (simp only [sz]; done) | (simp only [lz, Nat.reduceAdd, Nat.reduceLeDiff, Nat.le_refl]; done) | (simp only [sz]; omega))) | exact .inr rfl | exact .inr (by simp; done))) x
  have o := Row.own (xs := sortI (m.map (·.1))) hrow (by simp)
  exact hK _ v h2 x0 (o.low (by simp))
theorem sp_sortedC {h : Hp} (hB : Base.b ≤ h.size) {r : Nat} {m : List (Int × Prp)} (hm : h[r]? = some (.map (encM prpV m))) (hk : KeysFine m) {K : Value → Kont}
    (hK : ∀ t v h', Ext h h' → Own h' h.size 1 icell v (sortI (m.map (·.1))) → K t v h') : C_q1 [.map (some r)] h (fun t h1 => C_q61 [t] h1 (K t)) := by
  have lr := lt_of_get hm
  refine sp_keysC hB ?_
  refine sorted_of (ks := m.map (·.1)) (by simp; omega) en87 (by have := hk.2.2; simp; omega) (seqC (g_push_eq rfl) (by rw [g_push_lt lr]; exact hm) (encM_keys _ _) hk.2.1 (by have := hk.2.2; simp; omega)) ?_
  intro v h2 x hrow _
  have x0 : Ext h h2 := Ext.trans (by repeat' (first | with_reducible exact Upd.refl _ | with_reducible refine Upd.push ?_ _ | with_reducible refine Upd.set ?_ _ _ ?_ | exact .inl (by (first | omega | (simp only [sz]; done) | (simp only [lz, Nat.reduceAdd, Nat.reduceLeDiff, Nat.le_refl]; done) | (simp only [sz]; omega))) | exact .inr rfl | exact .inr (by simp; done))) x
  have o := Row.own (xs := sortI (m.map (·.1))) hrow (by simp)
  exact hK _ v h2 x0 (o.low (by simp))
theorem sp_collectB {h : Hp} (hB : Base.b ≤ h.size) {r : Nat} {m : List (Int × LV)} (hm : h[r]? = some (.map (encM lvV m))) (hk : KeysFine m) {K : Value → Kont}
    (hK : ∀ t v h' ks, ks.Perm (m.map (·.1)) → Ext h h' → Own h' h.size 1 icell v ks → K t v h') : C_q4 [.map (some r)] h (fun t h1 => C_q51 [t] h1 (K t)) := by
  have lr := lt_of_get hm
  refine sp_keysB hB ?_
  refine collect_of (ks := m.map (·.1)) (by simp; omega) en80 (by have := hk.2.2; simp; omega) (seqB (g_push_eq rfl) (by rw [g_push_lt lr]; exact hm) (encM_keys _ _) hk.2.1 (by have := hk.2.2; simp; omega)) ?_
  intro v h2 ss hp x hrow _
  have x0 : Ext h h2 := Ext.trans (by repeat' (first | with_reducible exact Upd.refl _ | with_reducible refine Upd.push ?_ _ | with_reducible refine Upd.set ?_ _ _ ?_ | exact .inl (by (first | omega | (simp only [sz]; done) | (simp only [lz, Nat.reduceAdd, Nat.reduceLeDiff, Nat.le_refl]; done) | (simp only [sz]; omega))) | exact .inr rfl | exact .inr (by simp; done))) x
  have o := Row.own (xs := ss) hrow (by rw [hp.length_eq])
  exact hK _ v h2 ss hp x0 (o.low (by simp))
theorem n_field (o n : Nat) (cs : Array Value) (h : Hp) (K : Kont) : oField o (some n) (.agg cs) h K = K (.agg ((cs.toList.drop o).take n).toArray) h := by
  unfold oField partV
  simp only [Option.some.injEq, exists_eq_left']
  have e : cs.extract o (o + n) = ((cs.toList.drop o).take n).toArray := by
    apply Array.ext'
    simp only [Array.toList_extract, List.extract_eq_take_drop, List.toList_toArray, Nat.add_sub_cancel_left]
  rw [e]
def voteP (x : LS) (s : Int) (c : Cmd) : Vote := ⟨s, x.ballot, c⟩
theorem sp_lvote {h : Hp} (hB : Base.b ≤ h.size) {p rc ro : Nat} {x : LS} {came : List (Int × LV)} {opn : List (Int × Prp)} (hL : Lead h p rc ro x came opn) (s : Int) {q : Prp} (hq : mget opn s = some q) {K : Kont}
    (hK : ∀ h', Ext h h' → K (voteV (voteP x s q.cmd)) h') : C_q96 [pt p 0, .int .i64 s] h K := by
  refine ok_q96 ?_
  unfold G_q96
  have hb := hL.blk
  have lp := lt_of_get hL.blk
  have lo := lt_of_get hL.opn
  obtain ⟨⟨n, q'⟩, hf, rfl⟩ : ∃ z, mfind opn s 0 = some z ∧ z.2 = q := by simpa [mget] using hq
  obtain ⟨⟨c1, c2, c3, c4⟩, w⟩ := q'
  simp (disch := (first | omega | (simp only [sz]; done) | (simp only [lz, Nat.reduceAdd, Nat.reduceLeDiff, Nat.le_refl]; done) | (simp only [sz]; omega))) only [↓xa, xb, xl, Option.bind_some, Option.map_some, implies_true, imp_self, true_and, and_true, if_true, if_false, decide_true, decide_false, Int.cast_ofNat_Int, Int.reduceLT, Int.reduceLE, Int.reduceEq, Nat.reduceAdd, Nat.reduceMul, Nat.reduceLeDiff, setL, bfill, eqV, lookRes, rdC_blk hb, lcells, m_blk hL.opn, kvFind_enc, hf, prpV, ↓n_field]
  exact hK _ (by repeat' (first | with_reducible exact Upd.refl _ | with_reducible refine Upd.push ?_ _ | with_reducible refine Upd.set ?_ _ _ ?_ | exact .inl (by (first | omega | (simp only [sz]; done) | (simp only [lz, Nat.reduceAdd, Nat.reduceLeDiff, Nat.le_refl]; done) | (simp only [sz]; omega))) | exact .inr rfl | exact .inr (by simp; done)))
/-- lay: a proposal in the next slot. -/
def layX (x : LS) : LS := { x with next := x.next + 1 }
def noneQ : Int → Bool := fun _ => false
theorem bits_none : bitsOf noneQ = 0 := rfl
theorem sp_llay {h : Hp} (hB : Base.b ≤ h.size) {p rc ro : Nat} {x : LS} {came : List (Int × LV)} {opn : List (Int × Prp)} (hL : Lead h p rc ro x came opn) (hn : -9223372036854775808 ≤ x.next ∧ x.next < 9223372036854775807) (c : Cmd) {K : Kont}
    (hK : ∀ h', Upd (fun r => r = p ∨ r = ro) h h' → Lead h' p rc ro (layX x) came (mset opn x.next ⟨c, noneQ⟩) → K (.int .i64 x.next) h') : C_q111 [pt p 0, cmdV c] h K := by
  refine ok_q111 ?_
  unfold G_q111
  have hb := hL.blk
  have lp := lt_of_get hL.blk
  have lo := lt_of_get hL.opn
  have lc := lt_of_get hL.came
  have hpo : p ≠ ro := by intro e; have := hL.opn; rw [← e, hL.blk] at this; cases this
  have hpc : p ≠ rc := by intro e; have := hL.came; rw [← e, hL.blk] at this; cases this
  obtain ⟨c1, c2, c3, c4⟩ := c
  unfold cmdV
  obtain ⟨f, hf⟩ : ∃ f, mfind opn x.next 0 = f := ⟨_, rfl⟩
  simp (disch := (first | omega | (simp only [sz]; done) | (simp only [lz, Nat.reduceAdd, Nat.reduceLeDiff, Nat.le_refl]; done) | (simp only [sz]; omega))) only [↓xa, xb, xl, Option.bind_some, Option.map_some, implies_true, imp_self, true_and, and_true, if_true, if_false, decide_true, decide_false, Int.cast_ofNat_Int, Int.reduceLT, Int.reduceLE, Int.reduceEq, Nat.reduceAdd, Nat.reduceMul, Nat.reduceLeDiff, setL, bfill, eqV, lookRes, rdC_blk hb, b_blk hb, lcells, m_blk hL.opn, kvFind_enc]
  have hput : kvPut (encM prpV opn) (Option.map (fun p => (p.fst, prpV p.snd)) (mfind opn x.next 0)) (.int .i64 x.next) (.agg #[.int .i64 c1, .int .i64 c2, .int .u64 c3, .int .i64 c4, .int .u64 0]) = encM prpV (mset opn x.next ⟨⟨c1, c2, c3, c4⟩, noneQ⟩) := kvPut_enc prpV opn x.next ⟨⟨c1, c2, c3, c4⟩, noneQ⟩
  rw [hput]
  refine hK _ (by repeat' (first | with_reducible exact Upd.refl _ | with_reducible refine Upd.push ?_ _ | with_reducible refine Upd.set ?_ _ _ ?_ | exact .inl (by (first | omega | (simp only [sz]; done) | (simp only [lz, Nat.reduceAdd, Nat.reduceLeDiff, Nat.le_refl]; done) | (simp only [sz]; omega))) | exact .inr rfl | exact .inr (by simp; done))) ⟨?_, ?_, ?_, hL.ne⟩
  · rw [g_set_eq (by simp; omega) rfl]; rfl
  · rw [g_set_ne hpc, g_set_ne (Ne.symm hL.ne), g_push_lt lc]; exact hL.came
  · rw [g_set_ne hpo, g_set_eq (by simp; omega) rfl]
end Go.Proofs.Ytdolepapmpcpiaa

namespace Go.Proofs.Ytdolepapmpcpiaa
open Go Go.RowKit Go.Maps Go.Shelf
set_option linter.unusedSectionVars false
variable [Base]
set_option linter.unusedVariables false
set_option linter.unusedSimpArgs false
set_option maxRecDepth 10000
def openKs (x : LS) (opn : List (Int × Prp)) (ks : List Int) : List Vote := ks.filterMap fun k => (mget opn k).map fun q => voteP x k q.cmd
def openL (x : LS) (opn : List (Int × Prp)) : List Vote := openKs x opn (sortI (opn.map (·.1)))
theorem openKs_snoc (x : LS) (opn : List (Int × Prp)) (a : List Int) (k : Int) : openKs x opn (a ++ [k]) = openKs x opn a ++ ((mget opn k).map fun q => voteP x k q.cmd).toList := by
  unfold openKs
  rw [List.filterMap_append]
  cases h : mget opn k <;> simp [h]
theorem mget_key {α : Type} {m : List (Int × α)} (hk : keysOk m) {k : Int} (h : k ∈ m.map (·.1)) : ∃ q, mget m k = some q := by
  obtain ⟨p, hp, rfl⟩ := List.mem_map.1 h
  exact ⟨p.2, mget_of_mem hk hp⟩
theorem openKs_len (x : LS) (opn : List (Int × Prp)) (ks : List Int) : (openKs x opn ks).length ≤ ks.length := List.length_filterMap_le ..
set_option maxHeartbeats 1000000 in
theorem sp_lOpen {h : Hp} (hB : Base.b ≤ h.size) {p rc ro : Nat} {x : LS} {came : List (Int × LV)} {opn : List (Int × Prp)} (hL : Lead h p rc ro x came opn) (hk : KeysFine opn) {K : Kont}
    (hK : ∀ v h', Ext h h' → Own h' h.size 6 vcells v (openL x opn) → K v h') : C_q94 [pt p 0] h K := by
  refine ok_q94 ?_
  unfold G_q94
  have hb := hL.blk
  simp (disch := (first | omega | (simp only [sz]; done) | (simp only [lz, Nat.reduceAdd, Nat.reduceLeDiff, Nat.le_refl]; done) | (simp only [sz]; omega))) only [↓xa, xb, xl, Option.bind_some, Option.map_some, implies_true, imp_self, true_and, and_true, if_true, if_false, decide_true, decide_false, Int.cast_ofNat_Int, Int.reduceLT, Int.reduceLE, Int.reduceEq, Nat.reduceAdd, Nat.reduceMul, Nat.reduceLeDiff, setL, bfill, eqV, lookRes, rdC_blk hb, lcells]
  refine sp_sortedC hB hL.opn hk ?_
  intro _ v1 h1 x1 o1
  have sl1 := o1.sl
  generalize hks : sortI (opn.map (·.1)) = ks at o1 sl1
  have hlen : ks.length ≤ 100000 := by rw [← hks]; have := hk.2.2; simpa using this
  simp (disch := (first | omega | (simp only [sz]; done) | (simp only [lz, Nat.reduceAdd, Nat.reduceLeDiff, Nat.le_refl]; done) | (simp only [sz]; omega))) only [↓xa, xb, xl, Option.bind_some, Option.map_some, implies_true, imp_self, true_and, and_true, if_true, if_false, decide_true, decide_false, Int.cast_ofNat_Int, Int.reduceLT, Int.reduceLE, Int.reduceEq, Nat.reduceAdd, Nat.reduceMul, Nat.reduceLeDiff, setL, bfill, eqV, lookRes, ↓sl1.len']
  refine rule_q94_1 (fun v3 v11 h' => ∃ i : Nat, v11 = .int .i64 i ∧ i ≤ ks.length ∧ Ext h1 h' ∧ Own h' h1.size 6 vcells v3 (openKs x opn (ks.take i))) (fun v3 v11 h' => ks.length - ival v11) ?_ _ _ _ _ ⟨0, rfl, Nat.zero_le _, Upd.refl _, Own.nil⟩
  rintro self v3 v11 d h' ⟨i, rfl, hi, y, ho⟩ hself
  unfold B_q94_1
  have sl2 := sl1.ext y
  have hB' := (x1.trans y).hB hB
  by_cases hlt : i < ks.length
  · have hmem := nth_mem hlt
    rw [← hks, sortI_mem] at hmem
    obtain ⟨q, hq⟩ := mget_key hk.1 hmem
    rw [hks] at hq
    simp (disch := (first | omega | (simp only [sz]; done) | (simp only [lz, Nat.reduceAdd, Nat.reduceLeDiff, Nat.le_refl]; done) | (simp only [sz]; omega))) only [↓xa, xb, xl, Option.bind_some, Option.map_some, implies_true, imp_self, true_and, and_true, if_true, if_false, decide_true, decide_false, Int.cast_ofNat_Int, Int.reduceLT, Int.reduceLE, Int.reduceEq, Nat.reduceAdd, Nat.reduceMul, Nat.reduceLeDiff, setL, bfill, eqV, lookRes, decide_eq_true (Int.ofNat_lt.2 hlt), ↓sl2.idx, sl2.cell0 icell_len, Go.encZ]
    have htk : openKs x opn (ks.take (i + 1)) = openKs x opn (ks.take i) ++ [voteP x (nth ks i) q.cmd] := by
      rw [take_nth hlt, openKs_snoc, hq]; rfl
    have hle := Nat.le_trans (openKs_len x opn (ks.take i)) (List.length_take_le ..)
    refine sp_lvote hB' (hL.ext (x1.trans y)) _ hq ?_
    intro h2 y2
    have hy2 := y2.1
    have hy := y.1
    generalize voteP x (nth ks i) q.cmd = w at htk
    simp (disch := (first | omega | (simp only [sz]; done) | (simp only [lz, Nat.reduceAdd, Nat.reduceLeDiff, Nat.le_refl]; done) | (simp only [sz]; omega))) only [↓xa, xb, xl, Option.bind_some, Option.map_some, implies_true, imp_self, true_and, and_true, if_true, if_false, decide_true, decide_false, Int.cast_ofNat_Int, Int.reduceLT, Int.reduceLE, Int.reduceEq, Nat.reduceAdd, Nat.reduceMul, Nat.reduceLeDiff, setL, bfill, eqV, lookRes, voteV_eq, List.toList_toArray, vcells_len, vcells_one]
    refine Own.push1 (ho.ext y2) vcells_len vcells_one w ?_ (y2.hB hB') ?_ (by omega) ?_ ?_
    · rfl
    · rfl
    · omega
    intro v' h3 o3 u3
    (try simp (disch := (first | omega | (simp only [sz]; done) | (simp only [lz, Nat.reduceAdd, Nat.reduceLeDiff, Nat.le_refl]; done) | (simp only [sz]; omega))) only [↓xa, xb, xl, Option.bind_some, Option.map_some, implies_true, imp_self, true_and, and_true, if_true, if_false, decide_true, decide_false, Int.cast_ofNat_Int, Int.reduceLT, Int.reduceLE, Int.reduceEq, Nat.reduceAdd, Nat.reduceMul, Nat.reduceLeDiff, setL, bfill, eqV, lookRes])
    exact hself _ _ _ _ ⟨i + 1, rfl, hlt, (y.trans y2).ext u3 (Nat.le_refl _), by rw [htk]; exact o3⟩ (by simp only [ival_nat, show ((i : Int) + 1) = ((i + 1 : Nat) : Int) from rfl]; omega)
  · simp (disch := (first | omega | (simp only [sz]; done) | (simp only [lz, Nat.reduceAdd, Nat.reduceLeDiff, Nat.le_refl]; done) | (simp only [sz]; omega))) only [↓xa, xb, xl, Option.bind_some, Option.map_some, implies_true, imp_self, true_and, and_true, if_true, if_false, decide_true, decide_false, Int.cast_ofNat_Int, Int.reduceLT, Int.reduceLE, Int.reduceEq, Nat.reduceAdd, Nat.reduceMul, Nat.reduceLeDiff, setL, bfill, eqV, lookRes, decide_eq_false (show ¬ (i : Int) < (ks.length : Int) by omega)]
    rw [List.take_of_length_le (by omega)] at ho
    refine hK _ _ (x1.trans y) ?_
    unfold openL
    rw [hks]
    exact ho.low x1.1
end Go.Proofs.Ytdolepapmpcpiaa

namespace Go.Proofs.Ytdolepapmpcpiaa
open Go Go.RowKit Go.Maps Go.Shelf
set_option linter.unusedSectionVars false
variable [Base]
set_option linter.unusedVariables false
set_option linter.unusedSimpArgs false
set_option maxRecDepth 10000
def allKs (came : List (Int × LV)) (ks : List Int) : List LV := ks.filterMap (mget came)
def allL (came : List (Int × LV)) : List LV := allKs came (sortI (came.map (·.1)))
theorem allKs_snoc (came : List (Int × LV)) (a : List Int) (k : Int) : allKs came (a ++ [k]) = allKs came a ++ (mget came k).toList := by
  unfold allKs
  rw [List.filterMap_append]
  cases h : mget came k <;> simp [h]
/-- Whatever came is read in this heap. -/
def CameIn (h : Hp) (came : List (Int × LV)) : Prop := ∀ e ∈ came, Sl h 6 vcells e.2.1 e.2.2
theorem CameIn.ext {h h' : Hp} {came : List (Int × LV)} (c : CameIn h came) (x : Ext h h') : CameIn h' came := fun e he => (c e he).ext x
theorem allKs_mem {came : List (Int × LV)} {ks : List Int} {a : LV} (h : a ∈ allKs came ks) : ∃ k, (k, a) ∈ came := by
  obtain ⟨k, _, hk⟩ := List.mem_filterMap.1 h
  exact ⟨k, mget_mem hk⟩
/-- append of one cell, whatever value of one cell it is. -/
theorem Own.pushV {α : Type} {h : Hp} {base sz : Nat} {enc : α → List Value} {v : Value} {l : List α} (o : Own h base sz enc v l) (he : ∀ a, (enc a).length = sz) (a : α) (ho : ∀ b ∈ l ++ [a], (enc b).all one = true) {z c : Array Value} {bytes : Nat}
    (hc : c.toList = enc a) (hB : Base.b ≤ h.size) (hz : z.size = sz) (hb : base ≤ h.size) (hbytes : (l.length + 1) * bytes ≤ 140737488355328) {K : Kont}
    (hK : ∀ v' h', Own h' base sz enc v' (l ++ [a]) → Upd (fun b => base ≤ b) h h' → K v' h') :
    oAppend sz bytes z v (.slice (some ⟨h.size, 0, none⟩) 1 1) (h.push (.cells c)) K := by
  have hcs : c.size = sz := by rw [← Array.length_toList, hc, he]
  have hl := flat_len he l
  have hsrc : srcCells sz (.slice (some ⟨h.size, 0, none⟩) 1 1) (h.push (.cells c)) = some (1, enc a) := by
    simp only [srcCells, Nat.one_mul]
    rw [rdN_blk (g_push_eq rfl) (by omega), List.drop_zero, hc, List.take_of_length_le (by rw [he]; exact Nat.le_refl _)]
    rfl
  have hoa : (enc a).all one = true := ho a (by simp)
  have x1 : Ext h (h.push (.cells c)) := (by repeat' (first | with_reducible exact Upd.refl _ | with_reducible refine Upd.push ?_ _ | with_reducible refine Upd.set ?_ _ _ ?_ | exact .inl (by (first | omega | (simp only [sz]; done) | (simp only [lz, Nat.reduceAdd, Nat.reduceLeDiff, Nat.le_refl]; done) | (simp only [sz]; omega))) | exact .inr rfl | exact .inr (by simp; done)))
  rcases o with ⟨rfl, rfl⟩ | ⟨g, cap, c', rfl, hbase, hg, hn, hsz, ht⟩
  · refine ⟨1, enc a, hsrc, fun h => by omega, fun _ => ⟨[], rfl, by simpa using hbytes, x1.hB hB, fun nc hnc => hK _ _ (.inr ⟨(h.push (.cells c)).size, nc, _, by simp, by simp; omega, g_push_eq rfl, by simpa using hnc, ?_, ?_⟩) (Upd.push (Upd.push (Upd.refl _) _) _)⟩⟩
    · simp only [Array.size_append, List.size_toArray, List.length_nil, Nat.zero_add, he, zeroCells_size, hz]
      simp at hnc
      rw [show nc - (0 + 1) = nc - 1 by omega, Nat.sub_mul, Nat.one_mul]
      have : sz ≤ nc * sz := Nat.le_mul_of_pos_left _ hnc
      omega
    · simp only [List.nil_append, Array.toList_append, List.length_singleton, Nat.one_mul, List.flatMap_singleton]
      simp [he]
  · have hg1 := x1.get hg id
    have lg := lt_of_get hg
    refine ⟨1, enc a, hsrc, fun hc2 => .inr ⟨g, 0, c', rfl, hg1, ?_, hoa, ?_⟩, fun hc2 => ?_⟩
    · rw [he, hsz, Nat.zero_add]
      have := Nat.mul_le_mul_right sz hc2
      rw [Nat.add_mul, Nat.one_mul] at this
      exact this
    · refine hK _ _ (.inr ⟨g, cap, _, by simp, hbase, g_set_eq (x1.lt lg) rfl, by simpa using hc2, by rw [setL_size]; exact hsz, ?_⟩) (Upd.set (Upd.push (Upd.refl _) _) _ _ (.inr hbase))
      have := Nat.mul_le_mul_right sz hc2
      rw [Nat.add_mul, Nat.one_mul] at this
      rw [List.length_append, List.length_singleton, Nat.add_mul, Nat.one_mul, Nat.zero_add, show l.length * sz + sz = l.length * sz + (enc a).length by rw [he], setL_take _ _ _ (by rw [he, hsz]; exact this), ht, List.flatMap_append]
      simp
    · have hself : srcCells sz (.slice (some ⟨g, 0, none⟩) l.length cap) (h.push (.cells c)) = some (l.length, l.flatMap enc) := by
        have : Sl h sz enc (.slice (some ⟨g, 0, none⟩) l.length cap) l := Own.sl (base := base) (.inr ⟨g, cap, c', rfl, hbase, hg, hn, hsz, ht⟩)
        obtain ⟨_, _, hh, _, e⟩ := this.ext x1
        cases hh; exact e
      refine ⟨_, hself, hbytes, x1.hB hB, fun nc hnc => hK _ _ (.inr ⟨(h.push (.cells c)).size, nc, _, by simp, by simp; omega, g_push_eq rfl, by simpa using hnc, ?_, ?_⟩) (Upd.push (Upd.push (Upd.refl _) _) _)⟩
      · simp only [Array.size_append, List.size_toArray, hl, he, zeroCells_size, hz]
        rw [Nat.sub_mul, Nat.add_mul, Nat.one_mul]
        have := Nat.mul_le_mul_right sz hnc
        rw [Nat.add_mul, Nat.one_mul] at this
        omega
      · simp only [Array.toList_append, List.length_append, List.length_singleton, Nat.add_mul, Nat.one_mul, List.flatMap_append, List.flatMap_singleton]
        rw [List.take_append_of_le_length (by simp [hl, he]), List.take_of_length_le (by simp [hl, he])]
set_option maxHeartbeats 1000000 in
theorem sp_lall {h : Hp} (hB : Base.b ≤ h.size) {p rc ro : Nat} {x : LS} {came : List (Int × LV)} {opn : List (Int × Prp)} (hL : Lead h p rc ro x came opn) (hk : KeysFine came) (hc : CameIn h came) {K : Kont}
    (hK : ∀ v h', Ext h h' → Own h' h.size 1 lvc v (allL came) → K v h') : C_q110 [pt p 0] h K := by
  refine ok_q110 ?_
  unfold G_q110
  have hb := hL.blk
  simp (disch := (first | omega | (simp only [sz]; done) | (simp only [lz, Nat.reduceAdd, Nat.reduceLeDiff, Nat.le_refl]; done) | (simp only [sz]; omega))) only [↓xa, xb, xl, Option.bind_some, Option.map_some, implies_true, imp_self, true_and, and_true, if_true, if_false, decide_true, decide_false, Int.cast_ofNat_Int, Int.reduceLT, Int.reduceLE, Int.reduceEq, Nat.reduceAdd, Nat.reduceMul, Nat.reduceLeDiff, setL, bfill, eqV, lookRes, rdC_blk hb, lcells]
  refine sp_sortedB hB hL.came hk ?_
  intro _ v1 h1 x1 o1
  have sl1 := o1.sl
  generalize hks : sortI (came.map (·.1)) = ks at o1 sl1
  have hlen : ks.length ≤ 100000 := by rw [← hks]; have := hk.2.2; simpa using this
  simp (disch := (first | omega | (simp only [sz]; done) | (simp only [lz, Nat.reduceAdd, Nat.reduceLeDiff, Nat.le_refl]; done) | (simp only [sz]; omega))) only [↓xa, xb, xl, Option.bind_some, Option.map_some, implies_true, imp_self, true_and, and_true, if_true, if_false, decide_true, decide_false, Int.cast_ofNat_Int, Int.reduceLT, Int.reduceLE, Int.reduceEq, Nat.reduceAdd, Nat.reduceMul, Nat.reduceLeDiff, setL, bfill, eqV, lookRes, ↓sl1.len']
  refine rule_q110_1 (fun v3 v11 h' => ∃ i : Nat, v11 = .int .i64 i ∧ i ≤ ks.length ∧ Ext h1 h' ∧ Own h' h1.size 1 lvc v3 (allKs came (ks.take i))) (fun v3 v11 h' => ks.length - ival v11) ?_ _ _ _ _ ⟨0, rfl, Nat.zero_le _, Upd.refl _, Own.nil⟩
  rintro self v3 v11 d h' ⟨i, rfl, hi, y, ho⟩ hself
  unfold B_q110_1
  have sl2 := sl1.ext y
  have hB' := (x1.trans y).hB hB
  have hL2 := hL.ext (x1.trans y)
  have hb2 := hL2.blk
  by_cases hlt : i < ks.length
  · have hmem := nth_mem hlt
    rw [← hks, sortI_mem] at hmem
    obtain ⟨q, hq⟩ := mget_key hk.1 hmem
    rw [hks] at hq
    have htk : allKs came (ks.take (i + 1)) = allKs came (ks.take i) ++ [q] := by
      rw [take_nth hlt, allKs_snoc, hq]; rfl
    have hle := Nat.le_trans (List.length_filterMap_le (mget came) (ks.take i)) (List.length_take_le ..)
    have hle' : (allKs came (ks.take i)).length ≤ i := hle
    obtain ⟨⟨n, q'⟩, hf, rfl⟩ : ∃ z, mfind came (nth ks i) 0 = some z ∧ z.2 = q := by simpa [mget] using hq
    have h1v : ∀ b ∈ allKs came (ks.take i) ++ [q'], (lvc b).all one = true := by
      intro b hb
      rw [← htk] at hb
      obtain ⟨k, hk'⟩ := allKs_mem hb
      have := sl_one (hc _ hk')
      simpa using this
    have hq1 : one q'.1 = true := by have := h1v q' (by simp); simpa using this
    have hqc := one_cells hq1
    have hy := y.1
    simp (disch := (first | omega | (simp only [sz]; done) | (simp only [lz, Nat.reduceAdd, Nat.reduceLeDiff, Nat.le_refl]; done) | (simp only [sz]; omega))) only [↓xa, xb, xl, Option.bind_some, Option.map_some, implies_true, imp_self, true_and, and_true, if_true, if_false, decide_true, decide_false, Int.cast_ofNat_Int, Int.reduceLT, Int.reduceLE, Int.reduceEq, Nat.reduceAdd, Nat.reduceMul, Nat.reduceLeDiff, setL, bfill, eqV, lookRes, decide_eq_true (Int.ofNat_lt.2 hlt), ↓sl2.idx, sl2.cell0 icell_len, Go.encZ, rdC_blk hb2, lcells, m_blk hL2.came, kvFind_enc, hf, lvV, hqc]
    refine Own.pushV ho lvc_len q' h1v ?_ hB' ?_ (by omega) ?_ ?_
    · rfl
    · rfl
    · omega
    intro v' h3 o3 u3
    (try simp (disch := (first | omega | (simp only [sz]; done) | (simp only [lz, Nat.reduceAdd, Nat.reduceLeDiff, Nat.le_refl]; done) | (simp only [sz]; omega))) only [↓xa, xb, xl, Option.bind_some, Option.map_some, implies_true, imp_self, true_and, and_true, if_true, if_false, decide_true, decide_false, Int.cast_ofNat_Int, Int.reduceLT, Int.reduceLE, Int.reduceEq, Nat.reduceAdd, Nat.reduceMul, Nat.reduceLeDiff, setL, bfill, eqV, lookRes])
    exact hself _ _ _ _ ⟨i + 1, rfl, hlt, y.ext u3 (Nat.le_refl _), by rw [htk]; exact o3⟩ (by simp only [ival_nat, show ((i : Int) + 1) = ((i + 1 : Nat) : Int) from rfl]; omega)
  · simp (disch := (first | omega | (simp only [sz]; done) | (simp only [lz, Nat.reduceAdd, Nat.reduceLeDiff, Nat.le_refl]; done) | (simp only [sz]; omega))) only [↓xa, xb, xl, Option.bind_some, Option.map_some, implies_true, imp_self, true_and, and_true, if_true, if_false, decide_true, decide_false, Int.cast_ofNat_Int, Int.reduceLT, Int.reduceLE, Int.reduceEq, Nat.reduceAdd, Nat.reduceMul, Nat.reduceLeDiff, setL, bfill, eqV, lookRes, decide_eq_false (show ¬ (i : Int) < (ks.length : Int) by omega)]
    rw [List.take_of_length_le (by omega)] at ho
    refine hK _ _ (x1.trans y) ?_
    unfold allL
    rw [hks]
    exact ho.low x1.1
end Go.Proofs.Ytdolepapmpcpiaa

namespace Go.Proofs.Ytdolepapmpcpiaa
open Go Go.RowKit Go.Maps Go.Shelf
set_option linter.unusedSectionVars false
variable [Base]
set_option linter.unusedVariables false
set_option linter.unusedSimpArgs false
set_option maxRecDepth 10000
/-- What is proposed in the first n slots from f on. -/
def fillM (f : Int) (best : List Vote) (n : Nat) : List (Int × Prp) := (List.range n).map fun (j : Nat) => (f + (j : Int), ⟨((atL best (f + (j : Int))).getD vote0).cmd, noneQ⟩)
theorem fillM_keys (f : Int) (best : List Vote) (n : Nat) : (fillM f best n).map (·.1) = (List.range n).map fun (j : Nat) => f + (j : Int) := by simp [fillM]
theorem fillM_len (f : Int) (best : List Vote) (n : Nat) : (fillM f best n).length = n := by simp [fillM]
theorem fillM_succ (f : Int) (best : List Vote) (n : Nat) : fillM f best (n + 1) = fillM f best n ++ [(f + n, ⟨((atL best (f + n)).getD vote0).cmd, noneQ⟩)] := by
  unfold fillM
  rw [List.range_succ, List.map_append]
  rfl
theorem mset_new {α : Type} {m : List (Int × α)} {k : Int} (h : k ∉ m.map (·.1)) (x : α) : mset m k x = m ++ [(k, x)] := by
  unfold mset
  cases hf : mfind m k 0 with
  | none => rfl
  | some p =>
    obtain ⟨n, y⟩ := p
    exact absurd (List.mem_map.2 ⟨_, List.mem_of_getElem? (mfind_get hf).2, rfl⟩) h
theorem fillM_lay (f : Int) (best : List Vote) (n : Nat) {c : Cmd} (hc : ((atL best (f + n)).getD vote0).cmd = c) : mset (fillM f best n) (f + n) ⟨c, noneQ⟩ = fillM f best (n + 1) := by
  rw [mset_new, fillM_succ, hc]
  rw [fillM_keys]
  intro h
  obtain ⟨j, hj, e⟩ := List.mem_map.1 h
  rw [List.mem_range] at hj
  omega
theorem fillM_fine (f : Int) (best : List Vote) (n : Nat) (h0 : 0 ≤ f) (hn : f + n ≤ 512) : KeysFine (fillM f best n) := by
  refine ⟨?_, ?_, by rw [fillM_len]; omega⟩
  · unfold keysOk
    rw [fillM_keys]
    refine List.Pairwise.map _ ?_ List.nodup_range
    intro a b hab e
    omega
  · rw [fillM_keys]
    intro k hk
    obtain ⟨j, hj, rfl⟩ := List.mem_map.1 hk
    rw [List.mem_range] at hj
    unfold i64ok
    omega
/-- How many slots are filled. -/
def fillN (f : Int) (best : List Vote) : Nat := match best.getLast? with | none => 0 | some v => (v.slot + 1 - f).toNat
theorem rising_take {l : List Vote} (h : Rising l) {i : Nat} (hi : i < l.length) : ∀ v ∈ l.take i, v.slot < (nth l i).slot := by
  intro v hv
  have : l = l.take i ++ nth l i :: l.drop (i + 1) := by rw [← drop_nth hi, List.take_append_drop]
  unfold Rising at h
  rw [this, List.pairwise_append] at h
  exact h.2.2 v hv _ (List.mem_cons_self ..)
theorem rising_drop {l : List Vote} (h : Rising l) {i : Nat} (hi : i < l.length) : ∀ v ∈ l.drop (i + 1), (nth l i).slot < v.slot := by
  intro v hv
  have : l = l.take i ++ nth l i :: l.drop (i + 1) := by rw [← drop_nth hi, List.take_append_drop]
  unfold Rising at h
  rw [this, List.pairwise_append] at h
  exact (List.pairwise_cons.1 h.2.1).1 v hv
/-- Between the votes ahead of i and i's there is none. -/
theorem atL_between {l : List Vote} (h : Rising l) {i : Nat} (hi : i < l.length) {s : Int} (h1 : ∀ v ∈ l.take i, v.slot < s) (h2 : s < (nth l i).slot) : atL l s = none := by
  cases he : atL l s with
  | none => rfl
  | some v =>
    obtain ⟨hm, hs⟩ := atL_mem he
    have : l = l.take i ++ nth l i :: l.drop (i + 1) := by rw [← drop_nth hi, List.take_append_drop]
    rw [this] at hm
    rcases List.mem_append.1 hm with hm | hm
    · have := h1 v hm; omega
    · cases hm with
      | head => omega
      | tail _ hm => have := rising_drop h hi v hm; omega
set_option maxHeartbeats 2000000 in
theorem sp_lfill {h : Hp} (hB : Base.b ≤ h.size) {p rc ro : Nat} {x : LS} {came : List (Int × LV)} (hL : Lead h p rc ro x came []) (hk : KeysFine came) (hc : CameIn h came) (hn : x.next = x.frm) (hf0 : 0 ≤ x.frm ∧ x.frm ≤ 512)
    (hv : ∀ v ∈ votesOf (allL came), x.frm ≤ v.slot ∧ v.slot < 512) (hlen : (votesOf (allL came)).length ≤ 1048576) {K : Kont}
    (hK : ∀ h', Upd (fun r => r = p ∨ r = ro) h h' → Lead h' p rc ro { x with next := x.frm + fillN x.frm (rBestL (votesOf (allL came))) } came (fillM x.frm (rBestL (votesOf (allL came))) (fillN x.frm (rBestL (votesOf (allL came))))) → K (.tuple #[]) h') : C_q95 [pt p 0] h K := by
  refine ok_q95 ?_
  unfold G_q95
  refine sp_lall hB hL hk hc ?_
  intro v1 h1 x1 o1
  have hall : (allL came).length ≤ 100000 := by
    have h1 := List.length_filterMap_le (mget came) (sortI (came.map (·.1)))
    have h2 := hk.2.2
    unfold allL allKs
    simp at h1
    omega
  refine sp_Best (x1.hB hB) ⟨o1.sl, fun a ha => by obtain ⟨k, hk'⟩ := allKs_mem ha; exact (hc _ hk').ext x1⟩ hlen (by omega) (fun v hv' => by have := hv v hv'; unfold i64ok; omega) ?_
  intro v2 h2 x2 o2
  have hbo := (both_best (votesOf (allL came))).rise
  have hbm : ∀ v ∈ rBestL (votesOf (allL came)), x.frm ≤ v.slot ∧ v.slot < 512 := by
    intro v hv'
    have gen : ∀ (l out : List Vote), (∀ v ∈ l, x.frm ≤ v.slot ∧ v.slot < 512) → (∀ v ∈ out, x.frm ≤ v.slot ∧ v.slot < 512) → ∀ v ∈ l.foldl bestR out, x.frm ≤ v.slot ∧ v.slot < 512 := by
      intro l
      induction l with
      | nil => intro out _ h; exact h
      | cons w l ih =>
        intro out hl ho
        refine ih _ (fun v hv => hl v (List.mem_cons_of_mem _ hv)) ?_
        intro v hv
        have hw := hl w (List.mem_cons_self ..)
        unfold bestR at hv
        split at hv
        · rcases putL_mem w hv with rfl | hv
          · exact hw
          · exact ho v hv
        · split at hv
          · rcases putL_mem w hv with rfl | hv
            · exact hw
            · exact ho v hv
          · exact ho v hv
    exact gen _ [] hv (by simp) v hv'
  have hbl := rBestL_len (votesOf (allL came))
  have x02 := x1.trans x2
  have hL2 := hL.ext x02
  have lp := lt_of_get hL.blk
  have lo := lt_of_get hL.opn
  generalize rBestL (votesOf (allL came)) = best at hbo hbm hbl o2 hK
  have sl2 := o2.sl
  have hv2 : ∀ b, blk v2 = some b → ¬ (b = p ∨ b = ro) := fun b hb => by have := o2.blk_ge hb; have := x1.1; omega
  simp (disch := (first | omega | (simp only [sz]; done) | (simp only [lz, Nat.reduceAdd, Nat.reduceLeDiff, Nat.le_refl]; done) | (simp only [sz]; omega))) only [↓xa, xb, xl, Option.bind_some, Option.map_some, implies_true, imp_self, true_and, and_true, if_true, if_false, decide_true, decide_false, Int.cast_ofNat_Int, Int.reduceLT, Int.reduceLE, Int.reduceEq, Nat.reduceAdd, Nat.reduceMul, Nat.reduceLeDiff, setL, bfill, eqV, lookRes, ↓sl2.len']
  refine rule_q95_1 (fun v8 h' => ∃ (i n : Nat), v8 = .int .i64 i ∧ i ≤ best.length ∧ Upd (fun r => r = p ∨ r = ro) h h' ∧ Sl h' 6 vcells v2 best ∧ Lead h' p rc ro { x with next := x.frm + n } came (fillM x.frm best n) ∧ x.frm + n ≤ 512 ∧ (∀ v ∈ best.take i, v.slot < x.frm + n) ∧ n = fillN x.frm (best.take i)) (fun v8 h' => best.length - ival v8) ?_ _ _ _
    ⟨0, 0, rfl, Nat.zero_le _, x02.lift, sl2, ?_, ?_, by simp, rfl⟩
  rotate_left
  · have := hL2
    rw [show fillM x.frm best 0 = [] from rfl]
    have e : ({ x with next := x.frm + ((0 : Nat) : Int) } : LS) = x := by cases x; simp_all
    rw [e]
    exact this
  · simpa using hf0.2
  rintro self v8 d h3 ⟨i, n, rfl, hi, u, sl3, hL3, hn3, hlow, hfn⟩ hself
  unfold B_q95_1
  by_cases hlt : i < best.length
  rotate_left
  · simp (disch := (first | omega | (simp only [sz]; done) | (simp only [lz, Nat.reduceAdd, Nat.reduceLeDiff, Nat.le_refl]; done) | (simp only [sz]; omega))) only [↓xa, xb, xl, Option.bind_some, Option.map_some, implies_true, imp_self, true_and, and_true, if_true, if_false, decide_true, decide_false, Int.cast_ofNat_Int, Int.reduceLT, Int.reduceLE, Int.reduceEq, Nat.reduceAdd, Nat.reduceMul, Nat.reduceLeDiff, setL, bfill, eqV, lookRes, decide_eq_false (show ¬ (i : Int) < (best.length : Int) by omega)]
    rw [List.take_of_length_le (by omega)] at hfn
    subst hfn
    exact hK _ u hL3
  have hrow := sl3.row vcells_len i hlt
  have hB3 := u.hB hB
  have hu1 := u.1
  have hsb := sl3.lt vcells_len (by omega) (by decide)
  have hvm := hbm _ (nth_mem hlt)
  have hrl := rising_take hbo hlt
  have hat : atL best (nth best i).slot = some (nth best i) := atL_of_mem hbo (nth_mem hlt)
  have hbt := fun s h1 h2 => atL_between hbo hlt (s := s) h1 h2
  have htk := take_nth hlt
  have hle : x.frm + (n : Int) ≤ (nth best i).slot := by
    rw [hfn]
    unfold fillN
    cases hg : (best.take i).getLast? with
    | none => simp; exact hvm.1
    | some w =>
      have hw := hrl w (List.mem_of_getLast? hg)
      have hw2 := (hbm w (List.mem_of_mem_take (List.mem_of_getLast? hg))).1
      simp only
      omega
  have hfn' : fillN x.frm (best.take (i + 1)) = ((nth best i).slot + 1 - x.frm).toNat := by
    rw [htk]; unfold fillN; simp
  generalize nth best i = v at hrow hvm hrl hat hbt htk hle hfn'
  obtain ⟨vs, vb, vc⟩ := v
  obtain ⟨c1, c2, c3, c4⟩ := vc
  simp only at hvm hrl hat hbt hle hfn'
  simp (disch := (first | omega | (simp only [sz]; done) | (simp only [lz, Nat.reduceAdd, Nat.reduceLeDiff, Nat.le_refl]; done) | (simp only [sz]; omega))) only [↓xa, xb, xl, Option.bind_some, Option.map_some, implies_true, imp_self, true_and, and_true, if_true, if_false, decide_true, decide_false, Int.cast_ofNat_Int, Int.reduceLT, Int.reduceLE, Int.reduceEq, Nat.reduceAdd, Nat.reduceMul, Nat.reduceLeDiff, setL, bfill, eqV, lookRes, decide_eq_true (Int.ofNat_lt.2 hlt), ↓sl3.idx, hrow, vcells]
  refine rule_q95_2 (fun h' => ∃ n' : Nat, Upd (fun r => r = p ∨ r = ro) h h' ∧ Sl h' 6 vcells v2 best ∧ Lead h' p rc ro { x with next := x.frm + n' } came (fillM x.frm best n') ∧ x.frm + n' ≤ vs ∧ (∀ v ∈ best.take i, v.slot < x.frm + n') ∧ h'[h3.size]? = some (.cells #[.int .i64 vs, .int .u64 vb, .int .i64 c1, .int .i64 c2, .int .u64 c3, .int .i64 c4]))
    (fun h' => match rdC h' p 5 with | some (.int _ m) => (vs - m).toNat | _ => 0) ?_ _ _ ⟨n, ?_, ?_, ?_, hle, hlow, g_set_eq (by simp) rfl⟩
  rotate_left
  · exact (by repeat' (first | with_reducible exact Upd.refl _ | with_reducible exact u | with_reducible refine Upd.push ?_ _ | with_reducible refine Upd.set ?_ _ _ ?_ | exact .inl (by (first | omega | (simp only [sz]; done) | (simp only [lz, Nat.reduceAdd, Nat.reduceLeDiff, Nat.le_refl]; done) | (simp only [sz]; omega))) | exact .inr rfl | exact .inr (by simp; done)))
  · refine sl3.ext ?_
    exact (by repeat' (first | with_reducible exact Upd.refl _ | with_reducible refine Upd.push ?_ _ | with_reducible refine Upd.set ?_ _ _ ?_ | exact .inl (by (first | omega | (simp only [sz]; done) | (simp only [lz, Nat.reduceAdd, Nat.reduceLeDiff, Nat.le_refl]; done) | (simp only [sz]; omega))) | exact .inr rfl | exact .inr (by simp; done)))
  · refine hL3.ext ?_
    exact (by repeat' (first | with_reducible exact Upd.refl _ | with_reducible refine Upd.push ?_ _ | with_reducible refine Upd.set ?_ _ _ ?_ | exact .inl (by (first | omega | (simp only [sz]; done) | (simp only [lz, Nat.reduceAdd, Nat.reduceLeDiff, Nat.le_refl]; done) | (simp only [sz]; omega))) | exact .inr rfl | exact .inr (by simp; done)))
  clear hL3 hrow hsb hlow sl3 hfn hle
  rintro self2 d h4 ⟨n', u4, sl4, hL4, hn4, hlow4, hw⟩ hself2
  unfold B_q95_2
  have hb4 := hL4.blk
  have lp4 := lt_of_get hL4.blk
  have lo4 := lt_of_get hL4.opn
  have lw := lt_of_get hw
  have hB4 := u4.hB hB
  have hr5 : rdC h4 p 5 = some (.int .i64 (x.frm + n')) := by rw [rdC_blk hb4]; rfl
  by_cases hl4 : x.frm + (n' : Int) < vs
  · simp (disch := (first | omega | (simp only [sz]; done) | (simp only [lz, Nat.reduceAdd, Nat.reduceLeDiff, Nat.le_refl]; done) | (simp only [sz]; omega))) only [↓xa, xb, xl, Option.bind_some, Option.map_some, implies_true, imp_self, true_and, and_true, if_true, if_false, decide_true, decide_false, Int.cast_ofNat_Int, Int.reduceLT, Int.reduceLE, Int.reduceEq, Nat.reduceAdd, Nat.reduceMul, Nat.reduceLeDiff, setL, bfill, eqV, lookRes, rdC_blk hb4, lcells, rdC_blk hw, decide_eq_true hl4]
    refine sp_llay hB4 hL4 (by simp only; omega) cmd0 ?_
    intro h5 u5 hL5
    rw [fillM_lay x.frm best n' (by rw [hbt _ hlow4 hl4]; rfl)] at hL5
    have e : layX ({ x with next := x.frm + n' } : LS) = { x with next := x.frm + ((n' + 1 : Nat) : Int) } := by
      unfold layX; simp only; congr 1; omega
    rw [e] at hL5
    have hb5 : rdC h5 p 5 = some (.int .i64 (x.frm + ((n' + 1 : Nat) : Int))) := by rw [rdC_blk hL5.blk]; rfl
    refine hself2 _ _ ⟨n' + 1, u4.trans u5, ?_, hL5, by omega, fun v hv => by have := hlow4 v hv; omega, u5.get hw ?_⟩ (by simp only [hb5, hr5]; omega)
    · exact sl4.upd u5 hv2
    · have := u.1; omega
  · have e4 : vs = x.frm + n' := by omega
    simp (disch := (first | omega | (simp only [sz]; done) | (simp only [lz, Nat.reduceAdd, Nat.reduceLeDiff, Nat.le_refl]; done) | (simp only [sz]; omega))) only [↓xa, xb, xl, Option.bind_some, Option.map_some, implies_true, imp_self, true_and, and_true, if_true, if_false, decide_true, decide_false, Int.cast_ofNat_Int, Int.reduceLT, Int.reduceLE, Int.reduceEq, Nat.reduceAdd, Nat.reduceMul, Nat.reduceLeDiff, setL, bfill, eqV, lookRes, rdC_blk hb4, lcells, rdC_blk hw, decide_eq_false hl4, rdN_of hw]
    refine sp_llay hB4 hL4 (by simp only; omega) ⟨c1, c2, c3, c4⟩ ?_
    intro h5 u5 hL5
    rw [fillM_lay x.frm best n' (by rw [← e4, hat]; rfl)] at hL5
    have e : layX ({ x with next := x.frm + n' } : LS) = { x with next := x.frm + ((n' + 1 : Nat) : Int) } := by
      unfold layX; simp only; congr 1; omega
    rw [e] at hL5
    (try simp (disch := (first | omega | (simp only [sz]; done) | (simp only [lz, Nat.reduceAdd, Nat.reduceLeDiff, Nat.le_refl]; done) | (simp only [sz]; omega))) only [↓xa, xb, xl, Option.bind_some, Option.map_some, implies_true, imp_self, true_and, and_true, if_true, if_false, decide_true, decide_false, Int.cast_ofNat_Int, Int.reduceLT, Int.reduceLE, Int.reduceEq, Nat.reduceAdd, Nat.reduceMul, Nat.reduceLeDiff, setL, bfill, eqV, lookRes])
    refine hself _ _ _ ⟨i + 1, n' + 1, rfl, hlt, u4.trans u5, ?_, hL5, by omega, ?_, ?_⟩ (by simp only [ival_nat, show ((i : Int) + 1) = ((i + 1 : Nat) : Int) from rfl]; omega)
    · exact sl4.upd u5 hv2
    · intro v hv
      rw [htk] at hv
      rcases List.mem_append.1 hv with hv | hv
      · have := hlow4 v hv; omega
      · rw [List.mem_singleton] at hv; subst hv; simp only; omega
    · rw [hfn', e4]; omega
end Go.Proofs.Ytdolepapmpcpiaa

