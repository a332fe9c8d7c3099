/- The best votes of lists: the program's. -/
import Derived.Test.YtdolepapmpcpiaaVBest
import Derived.Test.YtdolepapmpcpiaaPVote
namespace Go.Proofs.Ytdolepapmpcpiaa
open Go Go.RowKit Go.Maps Go.Shelf
set_option linter.unusedSectionVars false
variable [Base]
set_option linter.unusedVariables false
set_option linter.unusedSimpArgs false
set_option maxRecDepth 10000

theorem icell_len (a : Int) : (icell a).length = 1 := rfl
instance : Inhabited Int := ⟨0⟩
theorem Row.own {h : Hp} {base n : Nat} {v : Value} {xs : List Int} (r : Row h base 1 v n (xs.map encZ)) (hn : xs.length = n) : Own h base 1 icell v xs := by
  obtain ⟨h1, h2⟩ := r
  rcases h2 with ⟨rfl, hz⟩ | ⟨g, cap, c, rfl, hb, hg, hc, _, hs, ht⟩
  · exact .inl ⟨rfl, List.eq_nil_of_length_eq_zero (by omega)⟩
  · refine .inr ⟨g, cap, c, by rw [hn], hb, hg, by omega, hs, ?_⟩
    rw [hn, ht]
    clear ht h1 hn
    induction xs with
    | nil => rfl
    | cons a q ih => simp [ih]

def minI (x y : Int) : Int := if y < x then y else x
theorem foldmin (l : List Int) : ∀ x, (l.foldl minI x ∈ x :: l) ∧ ∀ y ∈ x :: l, l.foldl minI x ≤ y := by
  induction l with
  | nil => intro x; simp
  | cons a l ih =>
    intro x
    obtain ⟨h1, h2⟩ := ih (minI x a)
    rw [List.foldl_cons]
    refine ⟨?_, ?_⟩
    · simp only [List.mem_cons] at h1 ⊢
      rcases h1 with h1 | h1
      · rw [h1]; unfold minI; split <;> simp
      · exact .inr (.inr h1)
    · intro y hy
      have h3 := h2 (minI x a) (List.mem_cons_self ..)
      simp only [List.mem_cons] at hy
      rcases hy with rfl | rfl | hy
      · unfold minI at h3 ⊢; split at h3 <;> split <;> omega
      · unfold minI at h3 ⊢; split at h3 <;> split <;> omega
      · exact h2 y (List.mem_cons_of_mem _ hy)

theorem sp_Min {h : Hp} {a : Value} {l : List Int} (hS : Sl h 1 icell a l) (hl : l.length ≤ 1048576) (h0 : l ≠ []) {K : Kont} (hK : ∀ x, x ∈ l → (∀ y ∈ l, x ≤ y) → K (.int .i64 x) h) : C_slices_Min_Sint_int [a] h K := by
  refine ok_slices_Min_Sint_int ?_
  unfold G_slices_Min_Sint_int
  have hp : 0 < l.length := List.length_pos_iff.2 h0
  have hn : ¬ (l.length : Int) < 1 := by omega
  simp (disch := (first | omega | (simp only [Array.size_push, Array.size_setIfInBounds]; done) | (simp only [List.size_toArray, List.length_cons, List.length_nil, Nat.reduceAdd, Nat.reduceLeDiff, Nat.le_refl]; done) | (simp only [Array.size_push, Array.size_setIfInBounds]; omega))) only [↓e_pickT, ↓e_pickF, ↓e_alloc, ↓e_box, ↓e_build, ↓e_buildSlice, ↓e_ldN, ↓e_st, ↓e_nilCheck, ↓e_bin, ↓e_eq, ↓e_not, ↓e_conv, ↓e_makeMap, ↓e_fieldAddr, ↓e_idxS, ↓e_idxA, ↓e_lookup, ↓e_lookupN, ↓e_mapUpdate, ↓e_delete, ↓e_clearMap, ↓e_len0, ↓e_len1, ↓e_len2, ↓e_len2n, ↓e_extract, ↓e_ifT, ↓e_ifF, ↓e_gTT, ↓e_gFF, ↓e_gTF, ↓e_gFT, ↓e_hTT, ↓e_hFF, ↓e_hTF, ↓e_hFT, ↓e_gU, ↓e_hU, ↓e_minmax, ↓e_field1, b_add, b_sub, b_mul, b_quo, b_rem, b_eql, b_neq, b_lss, b_leq, b_gtr, b_geq, ↓c_ld1, implies_true, imp_self, Option.bind_some, rdC_push, rdC_pushE, rdC_setN, rdC_setE, rdN_push, rdN_pushE, rdN_setne, rdN_setE, rdN_pushP, rdN_setP, List.drop_zero, List.drop_succ_cons, List.take_zero, List.take_succ_cons, b_push, b_pushE, b_setN, b_setE, m_push, m_pushE, m_setN, m_setE, Int.toNat_natCast, Int.cast_ofNat_Int, decide_true, decide_false, Int.reduceLT, Int.reduceLE, Int.reduceEq, List.toList_toArray, Bool.false_eq_true, if_false, Bool.true_eq_false, ↓onS_some, wrap_i, wrap_u, Array.size_push, Array.size_setIfInBounds, List.size_toArray, List.length_cons, List.length_nil, List.getElem?_toArray, List.getElem?_cons_zero, List.getElem?_cons_succ, List.setIfInBounds_toArray, List.set_cons_zero, List.set_cons_succ, Nat.reduceAdd, Nat.zero_add, Nat.add_zero, true_and, and_true, vc_int, vc_bool, vc_str, vc_ptr, vc_slice, vc_map, vc_func, vc_agg, setL, bfill, o_int, o_bool, o_str, o_ptr, o_slice, o_map, o_func, List.all_cons, List.all_nil, Bool.and_self, Option.map_some, Nat.reduceLeDiff, Nat.le_refl, if_true, Option.isNone_some, Option.isNone_none, eqV, Bool.not_true, Bool.not_false, Nat.zero_mul, Nat.reduceMul, lookRes, ↓hS.len', decide_eq_false hn]
  rw [req_slices_Min_Sint_int_1]
  unfold R_slices_Min_Sint_int_1
  have hi := hS.idx .i64 0 h
  have hc := hS.cell0 icell_len 0 hp (by decide)
  rw [Nat.zero_mul, Nat.add_zero] at hc
  simp (disch := (first | omega | (simp only [Array.size_push, Array.size_setIfInBounds]; done) | (simp only [List.size_toArray, List.length_cons, List.length_nil, Nat.reduceAdd, Nat.reduceLeDiff, Nat.le_refl]; done) | (simp only [Array.size_push, Array.size_setIfInBounds]; omega))) only [↓e_pickT, ↓e_pickF, ↓e_alloc, ↓e_box, ↓e_build, ↓e_buildSlice, ↓e_ldN, ↓e_st, ↓e_nilCheck, ↓e_bin, ↓e_eq, ↓e_not, ↓e_conv, ↓e_makeMap, ↓e_fieldAddr, ↓e_idxS, ↓e_idxA, ↓e_lookup, ↓e_lookupN, ↓e_mapUpdate, ↓e_delete, ↓e_clearMap, ↓e_len0, ↓e_len1, ↓e_len2, ↓e_len2n, ↓e_extract, ↓e_ifT, ↓e_ifF, ↓e_gTT, ↓e_gFF, ↓e_gTF, ↓e_gFT, ↓e_hTT, ↓e_hFF, ↓e_hTF, ↓e_hFT, ↓e_gU, ↓e_hU, ↓e_minmax, ↓e_field1, b_add, b_sub, b_mul, b_quo, b_rem, b_eql, b_neq, b_lss, b_leq, b_gtr, b_geq, ↓c_ld1, implies_true, imp_self, Option.bind_some, rdC_push, rdC_pushE, rdC_setN, rdC_setE, rdN_push, rdN_pushE, rdN_setne, rdN_setE, rdN_pushP, rdN_setP, List.drop_zero, List.drop_succ_cons, List.take_zero, List.take_succ_cons, b_push, b_pushE, b_setN, b_setE, m_push, m_pushE, m_setN, m_setE, Int.toNat_natCast, Int.cast_ofNat_Int, decide_true, decide_false, Int.reduceLT, Int.reduceLE, Int.reduceEq, List.toList_toArray, Bool.false_eq_true, if_false, Bool.true_eq_false, ↓onS_some, wrap_i, wrap_u, Array.size_push, Array.size_setIfInBounds, List.size_toArray, List.length_cons, List.length_nil, List.getElem?_toArray, List.getElem?_cons_zero, List.getElem?_cons_succ, List.setIfInBounds_toArray, List.set_cons_zero, List.set_cons_succ, Nat.reduceAdd, Nat.zero_add, Nat.add_zero, true_and, and_true, vc_int, vc_bool, vc_str, vc_ptr, vc_slice, vc_map, vc_func, vc_agg, setL, bfill, o_int, o_bool, o_str, o_ptr, o_slice, o_map, o_func, List.all_cons, List.all_nil, Bool.and_self, Option.map_some, Nat.reduceLeDiff, Nat.le_refl, if_true, Option.isNone_some, Option.isNone_none, eqV, Bool.not_true, Bool.not_false, Nat.zero_mul, Nat.reduceMul, lookRes, ↓hS.idx, Int.toNat_zero, hc, List.getElem?_cons_zero]
  refine rule_slices_Min_Sint_int_2 (fun v3 v4 h' => ∃ i : Nat, v4 = .int .i64 i ∧ 1 ≤ i ∧ i ≤ l.length ∧ h' = h ∧ v3 = .int .i64 (((l.take i).drop 1).foldl minI (nth l 0))) (fun v3 v4 h' => l.length - ival v4) ?_ _ _ _ _ ⟨1, rfl, Nat.le_refl _, hp, rfl, by cases l with | nil => exact absurd rfl h0 | cons a l => rfl⟩
  rintro self v3 v4 d h' ⟨i, rfl, h1, hi, rfl, rfl⟩ hself
  unfold B_slices_Min_Sint_int_2
  simp (disch := (first | omega | (simp only [Array.size_push, Array.size_setIfInBounds]; done) | (simp only [List.size_toArray, List.length_cons, List.length_nil, Nat.reduceAdd, Nat.reduceLeDiff, Nat.le_refl]; done) | (simp only [Array.size_push, Array.size_setIfInBounds]; omega))) only [↓e_pickT, ↓e_pickF, ↓e_alloc, ↓e_box, ↓e_build, ↓e_buildSlice, ↓e_ldN, ↓e_st, ↓e_nilCheck, ↓e_bin, ↓e_eq, ↓e_not, ↓e_conv, ↓e_makeMap, ↓e_fieldAddr, ↓e_idxS, ↓e_idxA, ↓e_lookup, ↓e_lookupN, ↓e_mapUpdate, ↓e_delete, ↓e_clearMap, ↓e_len0, ↓e_len1, ↓e_len2, ↓e_len2n, ↓e_extract, ↓e_ifT, ↓e_ifF, ↓e_gTT, ↓e_gFF, ↓e_gTF, ↓e_gFT, ↓e_hTT, ↓e_hFF, ↓e_hTF, ↓e_hFT, ↓e_gU, ↓e_hU, ↓e_minmax, ↓e_field1, b_add, b_sub, b_mul, b_quo, b_rem, b_eql, b_neq, b_lss, b_leq, b_gtr, b_geq, ↓c_ld1, implies_true, imp_self, Option.bind_some, rdC_push, rdC_pushE, rdC_setN, rdC_setE, rdN_push, rdN_pushE, rdN_setne, rdN_setE, rdN_pushP, rdN_setP, List.drop_zero, List.drop_succ_cons, List.take_zero, List.take_succ_cons, b_push, b_pushE, b_setN, b_setE, m_push, m_pushE, m_setN, m_setE, Int.toNat_natCast, Int.cast_ofNat_Int, decide_true, decide_false, Int.reduceLT, Int.reduceLE, Int.reduceEq, List.toList_toArray, Bool.false_eq_true, if_false, Bool.true_eq_false, ↓onS_some, wrap_i, wrap_u, Array.size_push, Array.size_setIfInBounds, List.size_toArray, List.length_cons, List.length_nil, List.getElem?_toArray, List.getElem?_cons_zero, List.getElem?_cons_succ, List.setIfInBounds_toArray, List.set_cons_zero, List.set_cons_succ, Nat.reduceAdd, Nat.zero_add, Nat.add_zero, true_and, and_true, vc_int, vc_bool, vc_str, vc_ptr, vc_slice, vc_map, vc_func, vc_agg, setL, bfill, o_int, o_bool, o_str, o_ptr, o_slice, o_map, o_func, List.all_cons, List.all_nil, Bool.and_self, Option.map_some, Nat.reduceLeDiff, Nat.le_refl, if_true, Option.isNone_some, Option.isNone_none, eqV, Bool.not_true, Bool.not_false, Nat.zero_mul, Nat.reduceMul, lookRes, ↓hS.len']
  by_cases hlt : i < l.length
  · simp (disch := (first | omega | (simp only [Array.size_push, Array.size_setIfInBounds]; done) | (simp only [List.size_toArray, List.length_cons, List.length_nil, Nat.reduceAdd, Nat.reduceLeDiff, Nat.le_refl]; done) | (simp only [Array.size_push, Array.size_setIfInBounds]; omega))) only [↓e_pickT, ↓e_pickF, ↓e_alloc, ↓e_box, ↓e_build, ↓e_buildSlice, ↓e_ldN, ↓e_st, ↓e_nilCheck, ↓e_bin, ↓e_eq, ↓e_not, ↓e_conv, ↓e_makeMap, ↓e_fieldAddr, ↓e_idxS, ↓e_idxA, ↓e_lookup, ↓e_lookupN, ↓e_mapUpdate, ↓e_delete, ↓e_clearMap, ↓e_len0, ↓e_len1, ↓e_len2, ↓e_len2n, ↓e_extract, ↓e_ifT, ↓e_ifF, ↓e_gTT, ↓e_gFF, ↓e_gTF, ↓e_gFT, ↓e_hTT, ↓e_hFF, ↓e_hTF, ↓e_hFT, ↓e_gU, ↓e_hU, ↓e_minmax, ↓e_field1, b_add, b_sub, b_mul, b_quo, b_rem, b_eql, b_neq, b_lss, b_leq, b_gtr, b_geq, ↓c_ld1, implies_true, imp_self, Option.bind_some, rdC_push, rdC_pushE, rdC_setN, rdC_setE, rdN_push, rdN_pushE, rdN_setne, rdN_setE, rdN_pushP, rdN_setP, List.drop_zero, List.drop_succ_cons, List.take_zero, List.take_succ_cons, b_push, b_pushE, b_setN, b_setE, m_push, m_pushE, m_setN, m_setE, Int.toNat_natCast, Int.cast_ofNat_Int, decide_true, decide_false, Int.reduceLT, Int.reduceLE, Int.reduceEq, List.toList_toArray, Bool.false_eq_true, if_false, Bool.true_eq_false, ↓onS_some, wrap_i, wrap_u, Array.size_push, Array.size_setIfInBounds, List.size_toArray, List.length_cons, List.length_nil, List.getElem?_toArray, List.getElem?_cons_zero, List.getElem?_cons_succ, List.setIfInBounds_toArray, List.set_cons_zero, List.set_cons_succ, Nat.reduceAdd, Nat.zero_add, Nat.add_zero, true_and, and_true, vc_int, vc_bool, vc_str, vc_ptr, vc_slice, vc_map, vc_func, vc_agg, setL, bfill, o_int, o_bool, o_str, o_ptr, o_slice, o_map, o_func, List.all_cons, List.all_nil, Bool.and_self, Option.map_some, Nat.reduceLeDiff, Nat.le_refl, if_true, Option.isNone_some, Option.isNone_none, eqV, Bool.not_true, Bool.not_false, Nat.zero_mul, Nat.reduceMul, lookRes, decide_eq_true (Int.ofNat_lt.2 hlt), ↓hS.idx, hS.cell0 icell_len, Go.encZ]
    refine hself _ _ _ _ ⟨i + 1, rfl, by omega, hlt, rfl, ?_⟩ (by simp only [ival_nat, show ((i : Int) + 1) = ((i + 1 : Nat) : Int) from rfl]; omega)
    rw [take_nth hlt, List.drop_append_of_le_length (by simp; omega), List.foldl_append]
    rfl
  · simp (disch := (first | omega | (simp only [Array.size_push, Array.size_setIfInBounds]; done) | (simp only [List.size_toArray, List.length_cons, List.length_nil, Nat.reduceAdd, Nat.reduceLeDiff, Nat.le_refl]; done) | (simp only [Array.size_push, Array.size_setIfInBounds]; omega))) only [↓e_pickT, ↓e_pickF, ↓e_alloc, ↓e_box, ↓e_build, ↓e_buildSlice, ↓e_ldN, ↓e_st, ↓e_nilCheck, ↓e_bin, ↓e_eq, ↓e_not, ↓e_conv, ↓e_makeMap, ↓e_fieldAddr, ↓e_idxS, ↓e_idxA, ↓e_lookup, ↓e_lookupN, ↓e_mapUpdate, ↓e_delete, ↓e_clearMap, ↓e_len0, ↓e_len1, ↓e_len2, ↓e_len2n, ↓e_extract, ↓e_ifT, ↓e_ifF, ↓e_gTT, ↓e_gFF, ↓e_gTF, ↓e_gFT, ↓e_hTT, ↓e_hFF, ↓e_hTF, ↓e_hFT, ↓e_gU, ↓e_hU, ↓e_minmax, ↓e_field1, b_add, b_sub, b_mul, b_quo, b_rem, b_eql, b_neq, b_lss, b_leq, b_gtr, b_geq, ↓c_ld1, implies_true, imp_self, Option.bind_some, rdC_push, rdC_pushE, rdC_setN, rdC_setE, rdN_push, rdN_pushE, rdN_setne, rdN_setE, rdN_pushP, rdN_setP, List.drop_zero, List.drop_succ_cons, List.take_zero, List.take_succ_cons, b_push, b_pushE, b_setN, b_setE, m_push, m_pushE, m_setN, m_setE, Int.toNat_natCast, Int.cast_ofNat_Int, decide_true, decide_false, Int.reduceLT, Int.reduceLE, Int.reduceEq, List.toList_toArray, Bool.false_eq_true, if_false, Bool.true_eq_false, ↓onS_some, wrap_i, wrap_u, Array.size_push, Array.size_setIfInBounds, List.size_toArray, List.length_cons, List.length_nil, List.getElem?_toArray, List.getElem?_cons_zero, List.getElem?_cons_succ, List.setIfInBounds_toArray, List.set_cons_zero, List.set_cons_succ, Nat.reduceAdd, Nat.zero_add, Nat.add_zero, true_and, and_true, vc_int, vc_bool, vc_str, vc_ptr, vc_slice, vc_map, vc_func, vc_agg, setL, bfill, o_int, o_bool, o_str, o_ptr, o_slice, o_map, o_func, List.all_cons, List.all_nil, Bool.and_self, Option.map_some, Nat.reduceLeDiff, Nat.le_refl, if_true, Option.isNone_some, Option.isNone_none, eqV, Bool.not_true, Bool.not_false, Nat.zero_mul, Nat.reduceMul, lookRes, decide_eq_false (show ¬ (i : Int) < (l.length : Int) by omega)]
    rw [List.take_of_length_le (by omega)]
    have e : l = nth l 0 :: l.drop 1 := by
      have := drop_nth hp
      simpa using this
    obtain ⟨m1, m2⟩ := foldmin (l.drop 1) (nth l 0)
    rw [← e] at m1 m2
    exact hK _ m1 m2

def bestM (m : List (Int × Vote)) (v : Vote) : List (Int × Vote) :=
  match mget m v.slot with
  | none => mset m v.slot v
  | some o => if o.ballot < v.ballot then mset m v.slot v else m
def mBestL (l : List Vote) : List (Int × Vote) := l.foldl bestM []
theorem mBestL_snoc (l : List Vote) (v : Vote) : mBestL (l ++ [v]) = bestM (mBestL l) v := by simp [mBestL]
theorem both_best (l : List Vote) : Both (rBestL l) (mBestL l) := by
  have gen : ∀ (l : List Vote) (a : List Vote) (m : List (Int × Vote)), Both a m → Both (l.foldl bestR a) (l.foldl bestM m) := by
    intro l
    induction l with
    | nil => intro a m b; exact b
    | cons v l ih =>
      intro a m b
      refine ih _ _ ?_
      unfold bestR bestM
      rw [b.same]
      cases mget m v.slot with
      | none => exact b.put v
      | some o =>
        simp only
        split
        · exact b.put v
        · exact b
  exact gen l [] [] Both.nil
theorem bestM_len (m : List (Int × Vote)) (v : Vote) : (bestM m v).length ≤ m.length + 1 := by
  unfold bestM
  split
  · exact mset_length _ _ _
  · split
    · exact mset_length _ _ _
    · omega
theorem mBestL_len (l : List Vote) : (mBestL l).length ≤ l.length := by
  have gen : ∀ (l : List Vote) (m : List (Int × Vote)), (l.foldl bestM m).length ≤ m.length + l.length := by
    intro l
    induction l with
    | nil => intro m; simp
    | cons v l ih => intro m; have := ih (bestM m v); have := bestM_len m v; simp only [List.foldl_cons, List.length_cons]; omega
  have := gen l []
  simpa [mBestL] using this
theorem mset_keys {α : Type} {m : List (Int × α)} {i : Int} {x : α} {k : Int} (h : k ∈ (mset m i x).map (·.1)) : k = i ∨ k ∈ m.map (·.1) := by
  unfold mset at h
  split at h
  · rename_i n y hf
    rw [List.map_set] at h
    rcases List.mem_or_eq_of_mem_set h with h | h
    · exact .inr h
    · exact .inl h
  · simp only [List.map_append, List.mem_append, List.map_cons, List.map_nil, List.mem_singleton] at h
    rcases h with h | h
    · exact .inr h
    · exact .inl h
theorem mBestL_keys {l : List Vote} (h : ∀ v ∈ l, i64ok v.slot) : ∀ k ∈ (mBestL l).map (·.1), i64ok k := by
  have gen : ∀ (l : List Vote) (m : List (Int × Vote)), (∀ v ∈ l, i64ok v.slot) → (∀ k ∈ m.map (·.1), i64ok k) → ∀ k ∈ (l.foldl bestM m).map (·.1), i64ok k := by
    intro l
    induction l with
    | nil => intro m _ hm; exact hm
    | cons v l ih =>
      intro m hl hm
      refine ih _ (fun w hw => hl w (List.mem_cons_of_mem _ hw)) ?_
      intro k hk
      have hv := hl v (List.mem_cons_self ..)
      have key : k ∈ (mset m v.slot v).map (·.1) → i64ok k := by
        intro hk
        rcases mset_keys hk with rfl | hk
        · exact hv
        · exact hm k hk
      unfold bestM at hk
      split at hk
      · exact key hk
      · split at hk
        · exact key hk
        · exact hm k hk
  exact gen l [] h (by simp)

set_option maxHeartbeats 2000000 in
theorem sp_Best {h : Hp} (hB : Base.b ≤ h.size) {a : Value} {ls : List LV} (hS : Sll h a ls) (hl : (votesOf ls).length ≤ 1048576) (hll : ls.length ≤ 1048576) (hok : ∀ v ∈ votesOf ls, i64ok v.slot) {K : Kont}
    (hK : ∀ v' h', Ext h h' → Own h' h.size 6 vcells v' (rBestL (votesOf ls)) → K v' h') : C_accept_Best [a] h K := by
  refine ok_accept_Best ?_
  unfold G_accept_Best
  simp (disch := (first | omega | (simp only [Array.size_push, Array.size_setIfInBounds]; done) | (simp only [List.size_toArray, List.length_cons, List.length_nil, Nat.reduceAdd, Nat.reduceLeDiff, Nat.le_refl]; done) | (simp only [Array.size_push, Array.size_setIfInBounds]; omega))) only [↓e_pickT, ↓e_pickF, ↓e_alloc, ↓e_box, ↓e_build, ↓e_buildSlice, ↓e_ldN, ↓e_st, ↓e_nilCheck, ↓e_bin, ↓e_eq, ↓e_not, ↓e_conv, ↓e_makeMap, ↓e_fieldAddr, ↓e_idxS, ↓e_idxA, ↓e_lookup, ↓e_lookupN, ↓e_mapUpdate, ↓e_delete, ↓e_clearMap, ↓e_len0, ↓e_len1, ↓e_len2, ↓e_len2n, ↓e_extract, ↓e_ifT, ↓e_ifF, ↓e_gTT, ↓e_gFF, ↓e_gTF, ↓e_gFT, ↓e_hTT, ↓e_hFF, ↓e_hTF, ↓e_hFT, ↓e_gU, ↓e_hU, ↓e_minmax, ↓e_field1, b_add, b_sub, b_mul, b_quo, b_rem, b_eql, b_neq, b_lss, b_leq, b_gtr, b_geq, ↓c_ld1, implies_true, imp_self, Option.bind_some, rdC_push, rdC_pushE, rdC_setN, rdC_setE, rdN_push, rdN_pushE, rdN_setne, rdN_setE, rdN_pushP, rdN_setP, List.drop_zero, List.drop_succ_cons, List.take_zero, List.take_succ_cons, b_push, b_pushE, b_setN, b_setE, m_push, m_pushE, m_setN, m_setE, Int.toNat_natCast, Int.cast_ofNat_Int, decide_true, decide_false, Int.reduceLT, Int.reduceLE, Int.reduceEq, List.toList_toArray, Bool.false_eq_true, if_false, Bool.true_eq_false, ↓onS_some, wrap_i, wrap_u, Array.size_push, Array.size_setIfInBounds, List.size_toArray, List.length_cons, List.length_nil, List.getElem?_toArray, List.getElem?_cons_zero, List.getElem?_cons_succ, List.setIfInBounds_toArray, List.set_cons_zero, List.set_cons_succ, Nat.reduceAdd, Nat.zero_add, Nat.add_zero, true_and, and_true, vc_int, vc_bool, vc_str, vc_ptr, vc_slice, vc_map, vc_func, vc_agg, setL, bfill, o_int, o_bool, o_str, o_ptr, o_slice, o_map, o_func, List.all_cons, List.all_nil, Bool.and_self, Option.map_some, Nat.reduceLeDiff, Nat.le_refl, if_true, Option.isNone_some, Option.isNone_none, eqV, Bool.not_true, Bool.not_false, Nat.zero_mul, Nat.reduceMul, lookRes, ↓hS.1.len']
  have x0 : Ext h (h.push (.map [])) := (by repeat (first | exact Upd.refl _ | refine Upd.push ?_ _ | refine Upd.set ?_ _ _ (.inl (by (first | omega | (simp only [Array.size_push, Array.size_setIfInBounds]; done) | (simp only [List.size_toArray, List.length_cons, List.length_nil, Nat.reduceAdd, Nat.reduceLeDiff, Nat.le_refl]; done) | (simp only [Array.size_push, Array.size_setIfInBounds]; omega))))))
  refine rule_accept_Best_1 (fun v13 h' => ∃ i : Nat, v13 = .int .i64 i ∧ i ≤ ls.length ∧ Ext h h' ∧ h'[h.size]? = some (.map (encM voteV (mBestL (votesOf (ls.take i)))))) (fun v13 h' => ls.length - ival v13) ?_ _ _ _ ⟨0, rfl, Nat.zero_le _, x0, g_push_eq rfl⟩
  clear x0
  rintro self v13 d h' ⟨i, rfl, hi, x, hm⟩ hself
  unfold B_accept_Best_1
  have lm := lt_of_get hm
  by_cases hlt : i < ls.length
  rotate_left
  · rw [List.take_of_length_le (by omega)] at hm
    simp (disch := (first | omega | (simp only [Array.size_push, Array.size_setIfInBounds]; done) | (simp only [List.size_toArray, List.length_cons, List.length_nil, Nat.reduceAdd, Nat.reduceLeDiff, Nat.le_refl]; done) | (simp only [Array.size_push, Array.size_setIfInBounds]; omega))) only [↓e_pickT, ↓e_pickF, ↓e_alloc, ↓e_box, ↓e_build, ↓e_buildSlice, ↓e_ldN, ↓e_st, ↓e_nilCheck, ↓e_bin, ↓e_eq, ↓e_not, ↓e_conv, ↓e_makeMap, ↓e_fieldAddr, ↓e_idxS, ↓e_idxA, ↓e_lookup, ↓e_lookupN, ↓e_mapUpdate, ↓e_delete, ↓e_clearMap, ↓e_len0, ↓e_len1, ↓e_len2, ↓e_len2n, ↓e_extract, ↓e_ifT, ↓e_ifF, ↓e_gTT, ↓e_gFF, ↓e_gTF, ↓e_gFT, ↓e_hTT, ↓e_hFF, ↓e_hTF, ↓e_hFT, ↓e_gU, ↓e_hU, ↓e_minmax, ↓e_field1, b_add, b_sub, b_mul, b_quo, b_rem, b_eql, b_neq, b_lss, b_leq, b_gtr, b_geq, ↓c_ld1, implies_true, imp_self, Option.bind_some, rdC_push, rdC_pushE, rdC_setN, rdC_setE, rdN_push, rdN_pushE, rdN_setne, rdN_setE, rdN_pushP, rdN_setP, List.drop_zero, List.drop_succ_cons, List.take_zero, List.take_succ_cons, b_push, b_pushE, b_setN, b_setE, m_push, m_pushE, m_setN, m_setE, Int.toNat_natCast, Int.cast_ofNat_Int, decide_true, decide_false, Int.reduceLT, Int.reduceLE, Int.reduceEq, List.toList_toArray, Bool.false_eq_true, if_false, Bool.true_eq_false, ↓onS_some, wrap_i, wrap_u, Array.size_push, Array.size_setIfInBounds, List.size_toArray, List.length_cons, List.length_nil, List.getElem?_toArray, List.getElem?_cons_zero, List.getElem?_cons_succ, List.setIfInBounds_toArray, List.set_cons_zero, List.set_cons_succ, Nat.reduceAdd, Nat.zero_add, Nat.add_zero, true_and, and_true, vc_int, vc_bool, vc_str, vc_ptr, vc_slice, vc_map, vc_func, vc_agg, setL, bfill, o_int, o_bool, o_str, o_ptr, o_slice, o_map, o_func, List.all_cons, List.all_nil, Bool.and_self, Option.map_some, Nat.reduceLeDiff, Nat.le_refl, if_true, Option.isNone_some, Option.isNone_none, eqV, Bool.not_true, Bool.not_false, Nat.zero_mul, Nat.reduceMul, lookRes, decide_eq_false (show ¬ (i : Int) < (ls.length : Int) by omega), m_blk hm, encM_length]
    have hbo := both_best (votesOf ls)
    by_cases h0 : (mBestL (votesOf ls)).length = 0
    · simp (disch := (first | omega | (simp only [Array.size_push, Array.size_setIfInBounds]; done) | (simp only [List.size_toArray, List.length_cons, List.length_nil, Nat.reduceAdd, Nat.reduceLeDiff, Nat.le_refl]; done) | (simp only [Array.size_push, Array.size_setIfInBounds]; omega))) only [↓e_pickT, ↓e_pickF, ↓e_alloc, ↓e_box, ↓e_build, ↓e_buildSlice, ↓e_ldN, ↓e_st, ↓e_nilCheck, ↓e_bin, ↓e_eq, ↓e_not, ↓e_conv, ↓e_makeMap, ↓e_fieldAddr, ↓e_idxS, ↓e_idxA, ↓e_lookup, ↓e_lookupN, ↓e_mapUpdate, ↓e_delete, ↓e_clearMap, ↓e_len0, ↓e_len1, ↓e_len2, ↓e_len2n, ↓e_extract, ↓e_ifT, ↓e_ifF, ↓e_gTT, ↓e_gFF, ↓e_gTF, ↓e_gFT, ↓e_hTT, ↓e_hFF, ↓e_hTF, ↓e_hFT, ↓e_gU, ↓e_hU, ↓e_minmax, ↓e_field1, b_add, b_sub, b_mul, b_quo, b_rem, b_eql, b_neq, b_lss, b_leq, b_gtr, b_geq, ↓c_ld1, implies_true, imp_self, Option.bind_some, rdC_push, rdC_pushE, rdC_setN, rdC_setE, rdN_push, rdN_pushE, rdN_setne, rdN_setE, rdN_pushP, rdN_setP, List.drop_zero, List.drop_succ_cons, List.take_zero, List.take_succ_cons, b_push, b_pushE, b_setN, b_setE, m_push, m_pushE, m_setN, m_setE, Int.toNat_natCast, Int.cast_ofNat_Int, decide_true, decide_false, Int.reduceLT, Int.reduceLE, Int.reduceEq, List.toList_toArray, Bool.false_eq_true, if_false, Bool.true_eq_false, ↓onS_some, wrap_i, wrap_u, Array.size_push, Array.size_setIfInBounds, List.size_toArray, List.length_cons, List.length_nil, List.getElem?_toArray, List.getElem?_cons_zero, List.getElem?_cons_succ, List.setIfInBounds_toArray, List.set_cons_zero, List.set_cons_succ, Nat.reduceAdd, Nat.zero_add, Nat.add_zero, true_and, and_true, vc_int, vc_bool, vc_str, vc_ptr, vc_slice, vc_map, vc_func, vc_agg, setL, bfill, o_int, o_bool, o_str, o_ptr, o_slice, o_map, o_func, List.all_cons, List.all_nil, Bool.and_self, Option.map_some, Nat.reduceLeDiff, Nat.le_refl, if_true, Option.isNone_some, Option.isNone_none, eqV, Bool.not_true, Bool.not_false, Nat.zero_mul, Nat.reduceMul, lookRes, h0]
      have e : rBestL (votesOf ls) = [] := by
        have : mBestL (votesOf ls) = [] := List.eq_nil_of_length_eq_zero h0
        rw [← hbo.all (f := 0) (by rw [this]; simp), this]
        exact List.eq_nil_of_length_eq_zero (by have := risingL_le [] 0; simpa using this)
      refine hK _ _ x ?_
      rw [e]
      exact Own.nil
    · simp (disch := (first | omega | (simp only [Array.size_push, Array.size_setIfInBounds]; done) | (simp only [List.size_toArray, List.length_cons, List.length_nil, Nat.reduceAdd, Nat.reduceLeDiff, Nat.le_refl]; done) | (simp only [Array.size_push, Array.size_setIfInBounds]; omega))) only [↓e_pickT, ↓e_pickF, ↓e_alloc, ↓e_box, ↓e_build, ↓e_buildSlice, ↓e_ldN, ↓e_st, ↓e_nilCheck, ↓e_bin, ↓e_eq, ↓e_not, ↓e_conv, ↓e_makeMap, ↓e_fieldAddr, ↓e_idxS, ↓e_idxA, ↓e_lookup, ↓e_lookupN, ↓e_mapUpdate, ↓e_delete, ↓e_clearMap, ↓e_len0, ↓e_len1, ↓e_len2, ↓e_len2n, ↓e_extract, ↓e_ifT, ↓e_ifF, ↓e_gTT, ↓e_gFF, ↓e_gTF, ↓e_gFT, ↓e_hTT, ↓e_hFF, ↓e_hTF, ↓e_hFT, ↓e_gU, ↓e_hU, ↓e_minmax, ↓e_field1, b_add, b_sub, b_mul, b_quo, b_rem, b_eql, b_neq, b_lss, b_leq, b_gtr, b_geq, ↓c_ld1, implies_true, imp_self, Option.bind_some, rdC_push, rdC_pushE, rdC_setN, rdC_setE, rdN_push, rdN_pushE, rdN_setne, rdN_setE, rdN_pushP, rdN_setP, List.drop_zero, List.drop_succ_cons, List.take_zero, List.take_succ_cons, b_push, b_pushE, b_setN, b_setE, m_push, m_pushE, m_setN, m_setE, Int.toNat_natCast, Int.cast_ofNat_Int, decide_true, decide_false, Int.reduceLT, Int.reduceLE, Int.reduceEq, List.toList_toArray, Bool.false_eq_true, if_false, Bool.true_eq_false, ↓onS_some, wrap_i, wrap_u, Array.size_push, Array.size_setIfInBounds, List.size_toArray, List.length_cons, List.length_nil, List.getElem?_toArray, List.getElem?_cons_zero, List.getElem?_cons_succ, List.setIfInBounds_toArray, List.set_cons_zero, List.set_cons_succ, Nat.reduceAdd, Nat.zero_add, Nat.add_zero, true_and, and_true, vc_int, vc_bool, vc_str, vc_ptr, vc_slice, vc_map, vc_func, vc_agg, setL, bfill, o_int, o_bool, o_str, o_ptr, o_slice, o_map, o_func, List.all_cons, List.all_nil, Bool.and_self, Option.map_some, Nat.reduceLeDiff, Nat.le_refl, if_true, Option.isNone_some, Option.isNone_none, eqV, Bool.not_true, Bool.not_false, Nat.zero_mul, Nat.reduceMul, lookRes, decide_eq_false (show ¬ ((mBestL (votesOf ls)).length : Int) = 0 by omega)]
      refine sp_keysA (x.hB hB) ?_
      have hk := mBestL_keys hok
      have hln := mBestL_len (votesOf ls)
      have hx := x.1
      refine collect_of (ks := (mBestL (votesOf ls)).map (·.1)) (by simp; omega) en76 (by simp; omega) (seqA (g_push_eq rfl) (by rw [g_push_lt lm]; exact hm) (encM_keys _ _) hk (by simp; omega)) ?_
      intro v2 h2 ss hp x2 hrow _
      have x02 : Ext h' h2 := Ext.trans (by repeat (first | exact Upd.refl _ | refine Upd.push ?_ _ | refine Upd.set ?_ _ _ (.inl (by (first | omega | (simp only [Array.size_push, Array.size_setIfInBounds]; done) | (simp only [List.size_toArray, List.length_cons, List.length_nil, Nat.reduceAdd, Nat.reduceLeDiff, Nat.le_refl]; done) | (simp only [Array.size_push, Array.size_setIfInBounds]; omega)))))) x2
      have hs2 := (hrow.own (by rw [hp.length_eq])).sl
      have hlen : ss.length ≤ 1048576 := by rw [hp.length_eq]; simp; omega
      refine sp_Min hs2 hlen (by rintro rfl; have := hp.length_eq; simp at this; omega) ?_
      intro f hf1 hf2
      have hle : ∀ k ∈ (mBestL (votesOf ls)).map (·.1), f ≤ k := fun k hk => hf2 k (hp.mem_iff.2 hk)
      refine sp_rising ((x.trans x02).hB hB) (x02.get hm id) hbo.keys hk (by omega) f ?_
      intro v3 h3 x3 o3
      rw [hbo.all hle] at o3
      exact hK _ _ (x.trans (x02.trans x3)) (o3.low (by have := x02.1; omega))
  have hS1 := hS.1.ext x
  have hin := hS.2 _ (nth_mem hlt)
  have hsn := votesOf_snoc hlt
  have htl := votesOf_take ls (i + 1)
  rw [hsn, List.length_append] at htl
  generalize hlv : nth ls i = lv at hin hsn htl
  have hi1 := hin.ext x
  simp (disch := (first | omega | (simp only [Array.size_push, Array.size_setIfInBounds]; done) | (simp only [List.size_toArray, List.length_cons, List.length_nil, Nat.reduceAdd, Nat.reduceLeDiff, Nat.le_refl]; done) | (simp only [Array.size_push, Array.size_setIfInBounds]; omega))) only [↓e_pickT, ↓e_pickF, ↓e_alloc, ↓e_box, ↓e_build, ↓e_buildSlice, ↓e_ldN, ↓e_st, ↓e_nilCheck, ↓e_bin, ↓e_eq, ↓e_not, ↓e_conv, ↓e_makeMap, ↓e_fieldAddr, ↓e_idxS, ↓e_idxA, ↓e_lookup, ↓e_lookupN, ↓e_mapUpdate, ↓e_delete, ↓e_clearMap, ↓e_len0, ↓e_len1, ↓e_len2, ↓e_len2n, ↓e_extract, ↓e_ifT, ↓e_ifF, ↓e_gTT, ↓e_gFF, ↓e_gTF, ↓e_gFT, ↓e_hTT, ↓e_hFF, ↓e_hTF, ↓e_hFT, ↓e_gU, ↓e_hU, ↓e_minmax, ↓e_field1, b_add, b_sub, b_mul, b_quo, b_rem, b_eql, b_neq, b_lss, b_leq, b_gtr, b_geq, ↓c_ld1, implies_true, imp_self, Option.bind_some, rdC_push, rdC_pushE, rdC_setN, rdC_setE, rdN_push, rdN_pushE, rdN_setne, rdN_setE, rdN_pushP, rdN_setP, List.drop_zero, List.drop_succ_cons, List.take_zero, List.take_succ_cons, b_push, b_pushE, b_setN, b_setE, m_push, m_pushE, m_setN, m_setE, Int.toNat_natCast, Int.cast_ofNat_Int, decide_true, decide_false, Int.reduceLT, Int.reduceLE, Int.reduceEq, List.toList_toArray, Bool.false_eq_true, if_false, Bool.true_eq_false, ↓onS_some, wrap_i, wrap_u, Array.size_push, Array.size_setIfInBounds, List.size_toArray, List.length_cons, List.length_nil, List.getElem?_toArray, List.getElem?_cons_zero, List.getElem?_cons_succ, List.setIfInBounds_toArray, List.set_cons_zero, List.set_cons_succ, Nat.reduceAdd, Nat.zero_add, Nat.add_zero, true_and, and_true, vc_int, vc_bool, vc_str, vc_ptr, vc_slice, vc_map, vc_func, vc_agg, setL, bfill, o_int, o_bool, o_str, o_ptr, o_slice, o_map, o_func, List.all_cons, List.all_nil, Bool.and_self, Option.map_some, Nat.reduceLeDiff, Nat.le_refl, if_true, Option.isNone_some, Option.isNone_none, eqV, Bool.not_true, Bool.not_false, Nat.zero_mul, Nat.reduceMul, lookRes, decide_eq_true (Int.ofNat_lt.2 hlt), ↓hS1.idx, hS1.cell0 lvc_len, hlv, ↓hi1.len']
  clear hi1 hS1
  refine rule_accept_Best_2 (fun v19 h' => ∃ k : Nat, v19 = .int .i64 k ∧ k ≤ lv.2.length ∧ Ext h h' ∧ h'[h.size]? = some (.map (encM voteV (mBestL (votesOf (ls.take i) ++ lv.2.take k))))) (fun v19 h' => lv.2.length - ival v19) ?_ _ _ _ ⟨0, rfl, Nat.zero_le _, x, by simpa using hm⟩
  clear hm x lm
  rintro self2 v19 d h' ⟨k, rfl, hk, x, hm⟩ hself2
  unfold B_accept_Best_2
  have lm := lt_of_get hm
  have hi1 := hin.ext x
  have hx := x.1
  by_cases hlk : k < lv.2.length
  rotate_left
  · simp (disch := (first | omega | (simp only [Array.size_push, Array.size_setIfInBounds]; done) | (simp only [List.size_toArray, List.length_cons, List.length_nil, Nat.reduceAdd, Nat.reduceLeDiff, Nat.le_refl]; done) | (simp only [Array.size_push, Array.size_setIfInBounds]; omega))) only [↓e_pickT, ↓e_pickF, ↓e_alloc, ↓e_box, ↓e_build, ↓e_buildSlice, ↓e_ldN, ↓e_st, ↓e_nilCheck, ↓e_bin, ↓e_eq, ↓e_not, ↓e_conv, ↓e_makeMap, ↓e_fieldAddr, ↓e_idxS, ↓e_idxA, ↓e_lookup, ↓e_lookupN, ↓e_mapUpdate, ↓e_delete, ↓e_clearMap, ↓e_len0, ↓e_len1, ↓e_len2, ↓e_len2n, ↓e_extract, ↓e_ifT, ↓e_ifF, ↓e_gTT, ↓e_gFF, ↓e_gTF, ↓e_gFT, ↓e_hTT, ↓e_hFF, ↓e_hTF, ↓e_hFT, ↓e_gU, ↓e_hU, ↓e_minmax, ↓e_field1, b_add, b_sub, b_mul, b_quo, b_rem, b_eql, b_neq, b_lss, b_leq, b_gtr, b_geq, ↓c_ld1, implies_true, imp_self, Option.bind_some, rdC_push, rdC_pushE, rdC_setN, rdC_setE, rdN_push, rdN_pushE, rdN_setne, rdN_setE, rdN_pushP, rdN_setP, List.drop_zero, List.drop_succ_cons, List.take_zero, List.take_succ_cons, b_push, b_pushE, b_setN, b_setE, m_push, m_pushE, m_setN, m_setE, Int.toNat_natCast, Int.cast_ofNat_Int, decide_true, decide_false, Int.reduceLT, Int.reduceLE, Int.reduceEq, List.toList_toArray, Bool.false_eq_true, if_false, Bool.true_eq_false, ↓onS_some, wrap_i, wrap_u, Array.size_push, Array.size_setIfInBounds, List.size_toArray, List.length_cons, List.length_nil, List.getElem?_toArray, List.getElem?_cons_zero, List.getElem?_cons_succ, List.setIfInBounds_toArray, List.set_cons_zero, List.set_cons_succ, Nat.reduceAdd, Nat.zero_add, Nat.add_zero, true_and, and_true, vc_int, vc_bool, vc_str, vc_ptr, vc_slice, vc_map, vc_func, vc_agg, setL, bfill, o_int, o_bool, o_str, o_ptr, o_slice, o_map, o_func, List.all_cons, List.all_nil, Bool.and_self, Option.map_some, Nat.reduceLeDiff, Nat.le_refl, if_true, Option.isNone_some, Option.isNone_none, eqV, Bool.not_true, Bool.not_false, Nat.zero_mul, Nat.reduceMul, lookRes, decide_eq_false (show ¬ (k : Int) < (lv.2.length : Int) by omega)]
    rw [List.take_of_length_le (l := lv.2) (i := k) (by omega)] at hm
    exact hself _ _ _ ⟨i + 1, rfl, hlt, x, by rw [hsn]; exact hm⟩ (by simp only [ival_nat, show ((i : Int) + 1) = ((i + 1 : Nat) : Int) from rfl]; omega)
  have hrow := hi1.row vcells_len k hlk
  have hr : mBestL (votesOf (ls.take i) ++ lv.2.take (k + 1)) = bestM (mBestL (votesOf (ls.take i) ++ lv.2.take k)) (nth lv.2 k) := by
    rw [take_nth hlk, ← List.append_assoc, mBestL_snoc]
  have next : ∀ d h3, Ext h h3 → h3[h.size]? = some (.map (encM voteV (bestM (mBestL (votesOf (ls.take i) ++ lv.2.take k)) (nth lv.2 k)))) → G_accept_Best_3 K self self2 (.map (some h.size)) a (.int .i64 ls.length) (.int .i64 i) lv.1 (.int .i64 lv.2.length) (.int .i64 k) d h3 := by
    intro d h3 x3 hm3
    rw [req_accept_Best_3]
    unfold R_accept_Best_3
    (try simp (disch := (first | omega | (simp only [Array.size_push, Array.size_setIfInBounds]; done) | (simp only [List.size_toArray, List.length_cons, List.length_nil, Nat.reduceAdd, Nat.reduceLeDiff, Nat.le_refl]; done) | (simp only [Array.size_push, Array.size_setIfInBounds]; omega))) only [↓e_pickT, ↓e_pickF, ↓e_alloc, ↓e_box, ↓e_build, ↓e_buildSlice, ↓e_ldN, ↓e_st, ↓e_nilCheck, ↓e_bin, ↓e_eq, ↓e_not, ↓e_conv, ↓e_makeMap, ↓e_fieldAddr, ↓e_idxS, ↓e_idxA, ↓e_lookup, ↓e_lookupN, ↓e_mapUpdate, ↓e_delete, ↓e_clearMap, ↓e_len0, ↓e_len1, ↓e_len2, ↓e_len2n, ↓e_extract, ↓e_ifT, ↓e_ifF, ↓e_gTT, ↓e_gFF, ↓e_gTF, ↓e_gFT, ↓e_hTT, ↓e_hFF, ↓e_hTF, ↓e_hFT, ↓e_gU, ↓e_hU, ↓e_minmax, ↓e_field1, b_add, b_sub, b_mul, b_quo, b_rem, b_eql, b_neq, b_lss, b_leq, b_gtr, b_geq, ↓c_ld1, implies_true, imp_self, Option.bind_some, rdC_push, rdC_pushE, rdC_setN, rdC_setE, rdN_push, rdN_pushE, rdN_setne, rdN_setE, rdN_pushP, rdN_setP, List.drop_zero, List.drop_succ_cons, List.take_zero, List.take_succ_cons, b_push, b_pushE, b_setN, b_setE, m_push, m_pushE, m_setN, m_setE, Int.toNat_natCast, Int.cast_ofNat_Int, decide_true, decide_false, Int.reduceLT, Int.reduceLE, Int.reduceEq, List.toList_toArray, Bool.false_eq_true, if_false, Bool.true_eq_false, ↓onS_some, wrap_i, wrap_u, Array.size_push, Array.size_setIfInBounds, List.size_toArray, List.length_cons, List.length_nil, List.getElem?_toArray, List.getElem?_cons_zero, List.getElem?_cons_succ, List.setIfInBounds_toArray, List.set_cons_zero, List.set_cons_succ, Nat.reduceAdd, Nat.zero_add, Nat.add_zero, true_and, and_true, vc_int, vc_bool, vc_str, vc_ptr, vc_slice, vc_map, vc_func, vc_agg, setL, bfill, o_int, o_bool, o_str, o_ptr, o_slice, o_map, o_func, List.all_cons, List.all_nil, Bool.and_self, Option.map_some, Nat.reduceLeDiff, Nat.le_refl, if_true, Option.isNone_some, Option.isNone_none, eqV, Bool.not_true, Bool.not_false, Nat.zero_mul, Nat.reduceMul, lookRes])
    exact hself2 _ _ _ ⟨k + 1, rfl, hlk, x3, by rw [hr]; exact hm3⟩ (by simp only [ival_nat, show ((k : Int) + 1) = ((k + 1 : Nat) : Int) from rfl]; omega)
  unfold bestM mget at next
  generalize mBestL (votesOf (ls.take i) ++ lv.2.take k) = m at hm next
  generalize nth lv.2 k = v at hrow next
  obtain ⟨s, b, c1, c2, c3, c4⟩ := v
  simp (disch := (first | omega | (simp only [Array.size_push, Array.size_setIfInBounds]; done) | (simp only [List.size_toArray, List.length_cons, List.length_nil, Nat.reduceAdd, Nat.reduceLeDiff, Nat.le_refl]; done) | (simp only [Array.size_push, Array.size_setIfInBounds]; omega))) only [↓e_pickT, ↓e_pickF, ↓e_alloc, ↓e_box, ↓e_build, ↓e_buildSlice, ↓e_ldN, ↓e_st, ↓e_nilCheck, ↓e_bin, ↓e_eq, ↓e_not, ↓e_conv, ↓e_makeMap, ↓e_fieldAddr, ↓e_idxS, ↓e_idxA, ↓e_lookup, ↓e_lookupN, ↓e_mapUpdate, ↓e_delete, ↓e_clearMap, ↓e_len0, ↓e_len1, ↓e_len2, ↓e_len2n, ↓e_extract, ↓e_ifT, ↓e_ifF, ↓e_gTT, ↓e_gFF, ↓e_gTF, ↓e_gFT, ↓e_hTT, ↓e_hFF, ↓e_hTF, ↓e_hFT, ↓e_gU, ↓e_hU, ↓e_minmax, ↓e_field1, b_add, b_sub, b_mul, b_quo, b_rem, b_eql, b_neq, b_lss, b_leq, b_gtr, b_geq, ↓c_ld1, implies_true, imp_self, Option.bind_some, rdC_push, rdC_pushE, rdC_setN, rdC_setE, rdN_push, rdN_pushE, rdN_setne, rdN_setE, rdN_pushP, rdN_setP, List.drop_zero, List.drop_succ_cons, List.take_zero, List.take_succ_cons, b_push, b_pushE, b_setN, b_setE, m_push, m_pushE, m_setN, m_setE, Int.toNat_natCast, Int.cast_ofNat_Int, decide_true, decide_false, Int.reduceLT, Int.reduceLE, Int.reduceEq, List.toList_toArray, Bool.false_eq_true, if_false, Bool.true_eq_false, ↓onS_some, wrap_i, wrap_u, Array.size_push, Array.size_setIfInBounds, List.size_toArray, List.length_cons, List.length_nil, List.getElem?_toArray, List.getElem?_cons_zero, List.getElem?_cons_succ, List.setIfInBounds_toArray, List.set_cons_zero, List.set_cons_succ, Nat.reduceAdd, Nat.zero_add, Nat.add_zero, true_and, and_true, vc_int, vc_bool, vc_str, vc_ptr, vc_slice, vc_map, vc_func, vc_agg, setL, bfill, o_int, o_bool, o_str, o_ptr, o_slice, o_map, o_func, List.all_cons, List.all_nil, Bool.and_self, Option.map_some, Nat.reduceLeDiff, Nat.le_refl, if_true, Option.isNone_some, Option.isNone_none, eqV, Bool.not_true, Bool.not_false, Nat.zero_mul, Nat.reduceMul, lookRes, decide_eq_true (Int.ofNat_lt.2 hlk), ↓hi1.idx, hrow, vcells, m_blk hm, kvFind_enc]
  generalize hf : mfind m s 0 = f at next
  rcases f with _ | ⟨n, o⟩
  · simp (disch := (first | omega | (simp only [Array.size_push, Array.size_setIfInBounds]; done) | (simp only [List.size_toArray, List.length_cons, List.length_nil, Nat.reduceAdd, Nat.reduceLeDiff, Nat.le_refl]; done) | (simp only [Array.size_push, Array.size_setIfInBounds]; omega))) only [↓e_pickT, ↓e_pickF, ↓e_alloc, ↓e_box, ↓e_build, ↓e_buildSlice, ↓e_ldN, ↓e_st, ↓e_nilCheck, ↓e_bin, ↓e_eq, ↓e_not, ↓e_conv, ↓e_makeMap, ↓e_fieldAddr, ↓e_idxS, ↓e_idxA, ↓e_lookup, ↓e_lookupN, ↓e_mapUpdate, ↓e_delete, ↓e_clearMap, ↓e_len0, ↓e_len1, ↓e_len2, ↓e_len2n, ↓e_extract, ↓e_ifT, ↓e_ifF, ↓e_gTT, ↓e_gFF, ↓e_gTF, ↓e_gFT, ↓e_hTT, ↓e_hFF, ↓e_hTF, ↓e_hFT, ↓e_gU, ↓e_hU, ↓e_minmax, ↓e_field1, b_add, b_sub, b_mul, b_quo, b_rem, b_eql, b_neq, b_lss, b_leq, b_gtr, b_geq, ↓c_ld1, implies_true, imp_self, Option.bind_some, rdC_push, rdC_pushE, rdC_setN, rdC_setE, rdN_push, rdN_pushE, rdN_setne, rdN_setE, rdN_pushP, rdN_setP, List.drop_zero, List.drop_succ_cons, List.take_zero, List.take_succ_cons, b_push, b_pushE, b_setN, b_setE, m_push, m_pushE, m_setN, m_setE, Int.toNat_natCast, Int.cast_ofNat_Int, decide_true, decide_false, Int.reduceLT, Int.reduceLE, Int.reduceEq, List.toList_toArray, Bool.false_eq_true, if_false, Bool.true_eq_false, ↓onS_some, wrap_i, wrap_u, Array.size_push, Array.size_setIfInBounds, List.size_toArray, List.length_cons, List.length_nil, List.getElem?_toArray, List.getElem?_cons_zero, List.getElem?_cons_succ, List.setIfInBounds_toArray, List.set_cons_zero, List.set_cons_succ, Nat.reduceAdd, Nat.zero_add, Nat.add_zero, true_and, and_true, vc_int, vc_bool, vc_str, vc_ptr, vc_slice, vc_map, vc_func, vc_agg, setL, bfill, o_int, o_bool, o_str, o_ptr, o_slice, o_map, o_func, List.all_cons, List.all_nil, Bool.and_self, Option.map_some, Nat.reduceLeDiff, Nat.le_refl, if_true, Option.isNone_some, Option.isNone_none, eqV, Bool.not_true, Bool.not_false, Nat.zero_mul, Nat.reduceMul, lookRes, Option.map_none, m_blk hm, kvFind_enc, hf]
    simp only [Option.map_none] at next
    refine next _ _ (by repeat (first | exact Upd.refl _ | exact x | refine Upd.push ?_ _ | refine Upd.set ?_ _ _ (.inl (by (first | omega | (simp only [Array.size_push, Array.size_setIfInBounds]; done) | (simp only [List.size_toArray, List.length_cons, List.length_nil, Nat.reduceAdd, Nat.reduceLeDiff, Nat.le_refl]; done) | (simp only [Array.size_push, Array.size_setIfInBounds]; omega)))))) ?_
    rw [g_set_eq (by simp; omega) rfl]
    congr 3
    exact kvPut_enc voteV m s ⟨s, b, c1, c2, c3, c4⟩ ▸ (by rw [hf]; rfl)
  · simp only [Option.map_some] at next
    by_cases hb : o.ballot < b
    · simp (disch := (first | omega | (simp only [Array.size_push, Array.size_setIfInBounds]; done) | (simp only [List.size_toArray, List.length_cons, List.length_nil, Nat.reduceAdd, Nat.reduceLeDiff, Nat.le_refl]; done) | (simp only [Array.size_push, Array.size_setIfInBounds]; omega))) only [↓e_pickT, ↓e_pickF, ↓e_alloc, ↓e_box, ↓e_build, ↓e_buildSlice, ↓e_ldN, ↓e_st, ↓e_nilCheck, ↓e_bin, ↓e_eq, ↓e_not, ↓e_conv, ↓e_makeMap, ↓e_fieldAddr, ↓e_idxS, ↓e_idxA, ↓e_lookup, ↓e_lookupN, ↓e_mapUpdate, ↓e_delete, ↓e_clearMap, ↓e_len0, ↓e_len1, ↓e_len2, ↓e_len2n, ↓e_extract, ↓e_ifT, ↓e_ifF, ↓e_gTT, ↓e_gFF, ↓e_gTF, ↓e_gFT, ↓e_hTT, ↓e_hFF, ↓e_hTF, ↓e_hFT, ↓e_gU, ↓e_hU, ↓e_minmax, ↓e_field1, b_add, b_sub, b_mul, b_quo, b_rem, b_eql, b_neq, b_lss, b_leq, b_gtr, b_geq, ↓c_ld1, implies_true, imp_self, Option.bind_some, rdC_push, rdC_pushE, rdC_setN, rdC_setE, rdN_push, rdN_pushE, rdN_setne, rdN_setE, rdN_pushP, rdN_setP, List.drop_zero, List.drop_succ_cons, List.take_zero, List.take_succ_cons, b_push, b_pushE, b_setN, b_setE, m_push, m_pushE, m_setN, m_setE, Int.toNat_natCast, Int.cast_ofNat_Int, decide_true, decide_false, Int.reduceLT, Int.reduceLE, Int.reduceEq, List.toList_toArray, Bool.false_eq_true, if_false, Bool.true_eq_false, ↓onS_some, wrap_i, wrap_u, Array.size_push, Array.size_setIfInBounds, List.size_toArray, List.length_cons, List.length_nil, List.getElem?_toArray, List.getElem?_cons_zero, List.getElem?_cons_succ, List.setIfInBounds_toArray, List.set_cons_zero, List.set_cons_succ, Nat.reduceAdd, Nat.zero_add, Nat.add_zero, true_and, and_true, vc_int, vc_bool, vc_str, vc_ptr, vc_slice, vc_map, vc_func, vc_agg, setL, bfill, o_int, o_bool, o_str, o_ptr, o_slice, o_map, o_func, List.all_cons, List.all_nil, Bool.and_self, Option.map_some, Nat.reduceLeDiff, Nat.le_refl, if_true, Option.isNone_some, Option.isNone_none, eqV, Bool.not_true, Bool.not_false, Nat.zero_mul, Nat.reduceMul, lookRes, Option.map_some, m_blk hm, kvFind_enc, hf, voteV, decide_eq_true hb]
      rw [if_pos hb] at next
      refine next _ _ (by repeat (first | exact Upd.refl _ | exact x | refine Upd.push ?_ _ | refine Upd.set ?_ _ _ (.inl (by (first | omega | (simp only [Array.size_push, Array.size_setIfInBounds]; done) | (simp only [List.size_toArray, List.length_cons, List.length_nil, Nat.reduceAdd, Nat.reduceLeDiff, Nat.le_refl]; done) | (simp only [Array.size_push, Array.size_setIfInBounds]; omega)))))) ?_
      rw [g_set_eq (by simp; omega) rfl]
      congr 3
      exact kvPut_enc voteV m s ⟨s, b, c1, c2, c3, c4⟩ ▸ (by rw [hf]; rfl)
    · simp (disch := (first | omega | (simp only [Array.size_push, Array.size_setIfInBounds]; done) | (simp only [List.size_toArray, List.length_cons, List.length_nil, Nat.reduceAdd, Nat.reduceLeDiff, Nat.le_refl]; done) | (simp only [Array.size_push, Array.size_setIfInBounds]; omega))) only [↓e_pickT, ↓e_pickF, ↓e_alloc, ↓e_box, ↓e_build, ↓e_buildSlice, ↓e_ldN, ↓e_st, ↓e_nilCheck, ↓e_bin, ↓e_eq, ↓e_not, ↓e_conv, ↓e_makeMap, ↓e_fieldAddr, ↓e_idxS, ↓e_idxA, ↓e_lookup, ↓e_lookupN, ↓e_mapUpdate, ↓e_delete, ↓e_clearMap, ↓e_len0, ↓e_len1, ↓e_len2, ↓e_len2n, ↓e_extract, ↓e_ifT, ↓e_ifF, ↓e_gTT, ↓e_gFF, ↓e_gTF, ↓e_gFT, ↓e_hTT, ↓e_hFF, ↓e_hTF, ↓e_hFT, ↓e_gU, ↓e_hU, ↓e_minmax, ↓e_field1, b_add, b_sub, b_mul, b_quo, b_rem, b_eql, b_neq, b_lss, b_leq, b_gtr, b_geq, ↓c_ld1, implies_true, imp_self, Option.bind_some, rdC_push, rdC_pushE, rdC_setN, rdC_setE, rdN_push, rdN_pushE, rdN_setne, rdN_setE, rdN_pushP, rdN_setP, List.drop_zero, List.drop_succ_cons, List.take_zero, List.take_succ_cons, b_push, b_pushE, b_setN, b_setE, m_push, m_pushE, m_setN, m_setE, Int.toNat_natCast, Int.cast_ofNat_Int, decide_true, decide_false, Int.reduceLT, Int.reduceLE, Int.reduceEq, List.toList_toArray, Bool.false_eq_true, if_false, Bool.true_eq_false, ↓onS_some, wrap_i, wrap_u, Array.size_push, Array.size_setIfInBounds, List.size_toArray, List.length_cons, List.length_nil, List.getElem?_toArray, List.getElem?_cons_zero, List.getElem?_cons_succ, List.setIfInBounds_toArray, List.set_cons_zero, List.set_cons_succ, Nat.reduceAdd, Nat.zero_add, Nat.add_zero, true_and, and_true, vc_int, vc_bool, vc_str, vc_ptr, vc_slice, vc_map, vc_func, vc_agg, setL, bfill, o_int, o_bool, o_str, o_ptr, o_slice, o_map, o_func, List.all_cons, List.all_nil, Bool.and_self, Option.map_some, Nat.reduceLeDiff, Nat.le_refl, if_true, Option.isNone_some, Option.isNone_none, eqV, Bool.not_true, Bool.not_false, Nat.zero_mul, Nat.reduceMul, lookRes, Option.map_some, m_blk hm, kvFind_enc, hf, voteV, decide_eq_false hb]
      rw [if_neg hb] at next
      refine next _ _ (by repeat (first | exact Upd.refl _ | exact x | refine Upd.push ?_ _ | refine Upd.set ?_ _ _ (.inl (by (first | omega | (simp only [Array.size_push, Array.size_setIfInBounds]; done) | (simp only [List.size_toArray, List.length_cons, List.length_nil, Nat.reduceAdd, Nat.reduceLeDiff, Nat.le_refl]; done) | (simp only [Array.size_push, Array.size_setIfInBounds]; omega)))))) ?_
      simp (disch := (first | omega | (simp only [Array.size_push, Array.size_setIfInBounds]; done) | (simp only [List.size_toArray, List.length_cons, List.length_nil, Nat.reduceAdd, Nat.reduceLeDiff, Nat.le_refl]; done) | (simp only [Array.size_push, Array.size_setIfInBounds]; omega))) only [g_push_lt, g_set_ne]
      exact hm
end Go.Proofs.Ytdolepapmpcpiaa
