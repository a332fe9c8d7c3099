/- Of any lists of votes the best ones are the chapter's: AcceptBest returns true for all lists of lists, without any condition. -/
import Derived.Test.YtdolepapmpcpiaaVBest2
import Derived.Test.YtdolepapmpcpiaaVRead
import Derived.Test.YtdolepapmpcpiaaRows
namespace Go.Proofs.Ytdolepapmpcpiaa
open Go
open Go.ChangeShapes Go.WideShapes Go.RowKit
set_option linter.unusedSectionVars false
set_option linter.unusedVariables false
set_option linter.unusedSimpArgs false
set_option maxRecDepth 10000

section
variable [Base]
theorem votesOf_le : ∀ (ls : List LV), (∀ a ∈ ls, a.2.length ≤ 40) → (votesOf ls).length ≤ 40 * ls.length
  | [], _ => by simp [votesOf]
  | a :: ls, h => by
    have h1 := h a (List.mem_cons_self ..)
    have h2 := votesOf_le ls (fun b hb => h b (List.mem_cons_of_mem _ hb))
    simp only [votesOf, List.flatMap_cons, List.length_append, List.length_cons] at h2 ⊢
    omega
set_option maxHeartbeats 1000000 in
theorem sp_AcceptBest {h : Hp} (hB : Base.b ≤ h.size) {a : Value} {ls : List LV} (hS : Sll h a ls) (hok : ∀ x ∈ ls, ∀ v ∈ x.2, i64ok v.slot) {K : Kont} (hK : ∀ h', Ext h h' → K (.bool true) h') : C_catenarylaw11_AcceptBest [a] h K := by
  refine ok_catenarylaw11_AcceptBest ?_
  unfold G_catenarylaw11_AcceptBest
  simp (disch := (first | omega | (simp only [Array.size_push, Array.size_setIfInBounds]; done) | (simp only [List.size_toArray, List.length_cons, List.length_nil, Nat.reduceAdd, Nat.reduceLeDiff, Nat.le_refl]; done) | (simp only [Array.size_push, Array.size_setIfInBounds]; omega))) only [↓e_pickT, ↓e_pickF, ↓e_alloc, ↓e_box, ↓e_build, ↓e_buildSlice, ↓e_ldN, ↓e_st, ↓e_nilCheck, ↓e_bin, ↓e_eq, ↓e_not, ↓e_conv, ↓e_makeMap, ↓e_fieldAddr, ↓e_idxS, ↓e_idxA, ↓e_lookup, ↓e_lookupN, ↓e_mapUpdate, ↓e_delete, ↓e_clearMap, ↓e_len0, ↓e_len1, ↓e_len2, ↓e_len2n, ↓e_extract, ↓e_ifT, ↓e_ifF, ↓e_gTT, ↓e_gFF, ↓e_gTF, ↓e_gFT, ↓e_hTT, ↓e_hFF, ↓e_hTF, ↓e_hFT, ↓e_gU, ↓e_hU, ↓e_minmax, ↓e_field1, b_add, b_sub, b_mul, b_quo, b_rem, b_eql, b_neq, b_lss, b_leq, b_gtr, b_geq, ↓c_ld1, implies_true, imp_self, Option.bind_some, rdC_push, rdC_pushE, rdC_setN, rdC_setE, rdN_push, rdN_pushE, rdN_setne, rdN_setE, rdN_pushP, rdN_setP, List.drop_zero, List.drop_succ_cons, List.take_zero, List.take_succ_cons, b_push, b_pushE, b_setN, b_setE, m_push, m_pushE, m_setN, m_setE, Int.toNat_natCast, Int.cast_ofNat_Int, decide_true, decide_false, Int.reduceLT, Int.reduceLE, Int.reduceEq, List.toList_toArray, Bool.false_eq_true, if_false, Bool.true_eq_false, ↓onS_some, wrap_i, wrap_u, Array.size_push, Array.size_setIfInBounds, List.size_toArray, List.length_cons, List.length_nil, List.getElem?_toArray, List.getElem?_cons_zero, List.getElem?_cons_succ, List.setIfInBounds_toArray, List.set_cons_zero, List.set_cons_succ, Nat.reduceAdd, Nat.zero_add, Nat.add_zero, true_and, and_true, vc_int, vc_bool, vc_str, vc_ptr, vc_slice, vc_map, vc_func, vc_agg, setL, bfill, o_int, o_bool, o_str, o_ptr, o_slice, o_map, o_func, List.all_cons, List.all_nil, Bool.and_self, Option.map_some, Nat.reduceLeDiff, Nat.le_refl, if_true, Option.isNone_some, Option.isNone_none, eqV, Bool.not_true, Bool.not_false, Nat.zero_mul, Nat.reduceMul, lookRes, ↓hS.1.len']
  refine e_ifd _ _ _ (fun hc => ?_) (fun hc => ?_)
  · refine sp_awake hB ?_
    intro h' x
    exact hK _ x
  refine rule_catenarylaw11_AcceptBest_1 (fun v3 h' => ∃ i : Nat, v3 = .int .i64 i ∧ i ≤ ls.length ∧ h' = h ∧ ∀ a ∈ ls.take i, a.2.length ≤ 40) (fun v3 h' => ls.length - ival v3) ?_ _ _ _ ⟨0, rfl, Nat.zero_le _, rfl, by simp⟩
  rintro self v3 d h' ⟨i, rfl, hi, rfl, ha⟩ hself
  unfold B_catenarylaw11_AcceptBest_1
  by_cases hlt : i < ls.length
  · have hin := hS.2 _ (nth_mem hlt)
    simp (disch := (first | omega | (simp only [Array.size_push, Array.size_setIfInBounds]; done) | (simp only [List.size_toArray, List.length_cons, List.length_nil, Nat.reduceAdd, Nat.reduceLeDiff, Nat.le_refl]; done) | (simp only [Array.size_push, Array.size_setIfInBounds]; omega))) only [↓e_pickT, ↓e_pickF, ↓e_alloc, ↓e_box, ↓e_build, ↓e_buildSlice, ↓e_ldN, ↓e_st, ↓e_nilCheck, ↓e_bin, ↓e_eq, ↓e_not, ↓e_conv, ↓e_makeMap, ↓e_fieldAddr, ↓e_idxS, ↓e_idxA, ↓e_lookup, ↓e_lookupN, ↓e_mapUpdate, ↓e_delete, ↓e_clearMap, ↓e_len0, ↓e_len1, ↓e_len2, ↓e_len2n, ↓e_extract, ↓e_ifT, ↓e_ifF, ↓e_gTT, ↓e_gFF, ↓e_gTF, ↓e_gFT, ↓e_hTT, ↓e_hFF, ↓e_hTF, ↓e_hFT, ↓e_gU, ↓e_hU, ↓e_minmax, ↓e_field1, b_add, b_sub, b_mul, b_quo, b_rem, b_eql, b_neq, b_lss, b_leq, b_gtr, b_geq, ↓c_ld1, implies_true, imp_self, Option.bind_some, rdC_push, rdC_pushE, rdC_setN, rdC_setE, rdN_push, rdN_pushE, rdN_setne, rdN_setE, rdN_pushP, rdN_setP, List.drop_zero, List.drop_succ_cons, List.take_zero, List.take_succ_cons, b_push, b_pushE, b_setN, b_setE, m_push, m_pushE, m_setN, m_setE, Int.toNat_natCast, Int.cast_ofNat_Int, decide_true, decide_false, Int.reduceLT, Int.reduceLE, Int.reduceEq, List.toList_toArray, Bool.false_eq_true, if_false, Bool.true_eq_false, ↓onS_some, wrap_i, wrap_u, Array.size_push, Array.size_setIfInBounds, List.size_toArray, List.length_cons, List.length_nil, List.getElem?_toArray, List.getElem?_cons_zero, List.getElem?_cons_succ, List.setIfInBounds_toArray, List.set_cons_zero, List.set_cons_succ, Nat.reduceAdd, Nat.zero_add, Nat.add_zero, true_and, and_true, vc_int, vc_bool, vc_str, vc_ptr, vc_slice, vc_map, vc_func, vc_agg, setL, bfill, o_int, o_bool, o_str, o_ptr, o_slice, o_map, o_func, List.all_cons, List.all_nil, Bool.and_self, Option.map_some, Nat.reduceLeDiff, Nat.le_refl, if_true, Option.isNone_some, Option.isNone_none, eqV, Bool.not_true, Bool.not_false, Nat.zero_mul, Nat.reduceMul, lookRes, decide_eq_true (Int.ofNat_lt.2 hlt), ↓hS.1.len', ↓hS.1.idx, hS.1.cell0 lvc_len, ↓hin.len']
    refine e_ifd _ _ _ (fun hc => ?_) (fun hc => ?_)
    · refine sp_awake hB ?_
      intro h' x
      exact hK _ x
    · (try simp (disch := (first | omega | (simp only [Array.size_push, Array.size_setIfInBounds]; done) | (simp only [List.size_toArray, List.length_cons, List.length_nil, Nat.reduceAdd, Nat.reduceLeDiff, Nat.le_refl]; done) | (simp only [Array.size_push, Array.size_setIfInBounds]; omega))) only [↓e_pickT, ↓e_pickF, ↓e_alloc, ↓e_box, ↓e_build, ↓e_buildSlice, ↓e_ldN, ↓e_st, ↓e_nilCheck, ↓e_bin, ↓e_eq, ↓e_not, ↓e_conv, ↓e_makeMap, ↓e_fieldAddr, ↓e_idxS, ↓e_idxA, ↓e_lookup, ↓e_lookupN, ↓e_mapUpdate, ↓e_delete, ↓e_clearMap, ↓e_len0, ↓e_len1, ↓e_len2, ↓e_len2n, ↓e_extract, ↓e_ifT, ↓e_ifF, ↓e_gTT, ↓e_gFF, ↓e_gTF, ↓e_gFT, ↓e_hTT, ↓e_hFF, ↓e_hTF, ↓e_hFT, ↓e_gU, ↓e_hU, ↓e_minmax, ↓e_field1, b_add, b_sub, b_mul, b_quo, b_rem, b_eql, b_neq, b_lss, b_leq, b_gtr, b_geq, ↓c_ld1, implies_true, imp_self, Option.bind_some, rdC_push, rdC_pushE, rdC_setN, rdC_setE, rdN_push, rdN_pushE, rdN_setne, rdN_setE, rdN_pushP, rdN_setP, List.drop_zero, List.drop_succ_cons, List.take_zero, List.take_succ_cons, b_push, b_pushE, b_setN, b_setE, m_push, m_pushE, m_setN, m_setE, Int.toNat_natCast, Int.cast_ofNat_Int, decide_true, decide_false, Int.reduceLT, Int.reduceLE, Int.reduceEq, List.toList_toArray, Bool.false_eq_true, if_false, Bool.true_eq_false, ↓onS_some, wrap_i, wrap_u, Array.size_push, Array.size_setIfInBounds, List.size_toArray, List.length_cons, List.length_nil, List.getElem?_toArray, List.getElem?_cons_zero, List.getElem?_cons_succ, List.setIfInBounds_toArray, List.set_cons_zero, List.set_cons_succ, Nat.reduceAdd, Nat.zero_add, Nat.add_zero, true_and, and_true, vc_int, vc_bool, vc_str, vc_ptr, vc_slice, vc_map, vc_func, vc_agg, setL, bfill, o_int, o_bool, o_str, o_ptr, o_slice, o_map, o_func, List.all_cons, List.all_nil, Bool.and_self, Option.map_some, Nat.reduceLeDiff, Nat.le_refl, if_true, Option.isNone_some, Option.isNone_none, eqV, Bool.not_true, Bool.not_false, Nat.zero_mul, Nat.reduceMul, lookRes])
      refine hself _ _ _ ⟨i + 1, rfl, hlt, rfl, ?_⟩ (by simp only [ival_nat, show ((i : Int) + 1) = ((i + 1 : Nat) : Int) from rfl]; omega)
      rw [take_nth hlt]
      intro x hx
      rcases List.mem_append.1 hx with hx | hx
      · exact ha x hx
      · rw [List.mem_singleton] at hx; subst hx; omega
  · rw [List.take_of_length_le (by omega)] at ha
    have hv := votesOf_le ls ha
    simp (disch := (first | omega | (simp only [Array.size_push, Array.size_setIfInBounds]; done) | (simp only [List.size_toArray, List.length_cons, List.length_nil, Nat.reduceAdd, Nat.reduceLeDiff, Nat.le_refl]; done) | (simp only [Array.size_push, Array.size_setIfInBounds]; omega))) only [↓e_pickT, ↓e_pickF, ↓e_alloc, ↓e_box, ↓e_build, ↓e_buildSlice, ↓e_ldN, ↓e_st, ↓e_nilCheck, ↓e_bin, ↓e_eq, ↓e_not, ↓e_conv, ↓e_makeMap, ↓e_fieldAddr, ↓e_idxS, ↓e_idxA, ↓e_lookup, ↓e_lookupN, ↓e_mapUpdate, ↓e_delete, ↓e_clearMap, ↓e_len0, ↓e_len1, ↓e_len2, ↓e_len2n, ↓e_extract, ↓e_ifT, ↓e_ifF, ↓e_gTT, ↓e_gFF, ↓e_gTF, ↓e_gFT, ↓e_hTT, ↓e_hFF, ↓e_hTF, ↓e_hFT, ↓e_gU, ↓e_hU, ↓e_minmax, ↓e_field1, b_add, b_sub, b_mul, b_quo, b_rem, b_eql, b_neq, b_lss, b_leq, b_gtr, b_geq, ↓c_ld1, implies_true, imp_self, Option.bind_some, rdC_push, rdC_pushE, rdC_setN, rdC_setE, rdN_push, rdN_pushE, rdN_setne, rdN_setE, rdN_pushP, rdN_setP, List.drop_zero, List.drop_succ_cons, List.take_zero, List.take_succ_cons, b_push, b_pushE, b_setN, b_setE, m_push, m_pushE, m_setN, m_setE, Int.toNat_natCast, Int.cast_ofNat_Int, decide_true, decide_false, Int.reduceLT, Int.reduceLE, Int.reduceEq, List.toList_toArray, Bool.false_eq_true, if_false, Bool.true_eq_false, ↓onS_some, wrap_i, wrap_u, Array.size_push, Array.size_setIfInBounds, List.size_toArray, List.length_cons, List.length_nil, List.getElem?_toArray, List.getElem?_cons_zero, List.getElem?_cons_succ, List.setIfInBounds_toArray, List.set_cons_zero, List.set_cons_succ, Nat.reduceAdd, Nat.zero_add, Nat.add_zero, true_and, and_true, vc_int, vc_bool, vc_str, vc_ptr, vc_slice, vc_map, vc_func, vc_agg, setL, bfill, o_int, o_bool, o_str, o_ptr, o_slice, o_map, o_func, List.all_cons, List.all_nil, Bool.and_self, Option.map_some, Nat.reduceLeDiff, Nat.le_refl, if_true, Option.isNone_some, Option.isNone_none, eqV, Bool.not_true, Bool.not_false, Nat.zero_mul, Nat.reduceMul, lookRes, decide_eq_false (show ¬ (i : Int) < (ls.length : Int) by omega), ↓hS.1.len']
    refine sp_Best hB hS (by omega) (by omega) (fun v hv => by obtain ⟨x, hx, hv⟩ := List.mem_flatMap.1 hv; exact hok x hx v hv) ?_
    intro v1 h1 x1 o1
    refine sp_rBest (x1.hB hB) (hS.ext x1) (by omega) (by omega) ?_
    intro v2 h2 x2 o2
    have hl := rBestL_len (votesOf ls)
    refine sp_SameVotes (o1.ext x2).sl o2.sl (by omega) ?_
    rw [decide_eq_true rfl]
    (try simp (disch := (first | omega | (simp only [Array.size_push, Array.size_setIfInBounds]; done) | (simp only [List.size_toArray, List.length_cons, List.length_nil, Nat.reduceAdd, Nat.reduceLeDiff, Nat.le_refl]; done) | (simp only [Array.size_push, Array.size_setIfInBounds]; omega))) only [↓e_pickT, ↓e_pickF, ↓e_alloc, ↓e_box, ↓e_build, ↓e_buildSlice, ↓e_ldN, ↓e_st, ↓e_nilCheck, ↓e_bin, ↓e_eq, ↓e_not, ↓e_conv, ↓e_makeMap, ↓e_fieldAddr, ↓e_idxS, ↓e_idxA, ↓e_lookup, ↓e_lookupN, ↓e_mapUpdate, ↓e_delete, ↓e_clearMap, ↓e_len0, ↓e_len1, ↓e_len2, ↓e_len2n, ↓e_extract, ↓e_ifT, ↓e_ifF, ↓e_gTT, ↓e_gFF, ↓e_gTF, ↓e_gFT, ↓e_hTT, ↓e_hFF, ↓e_hTF, ↓e_hFT, ↓e_gU, ↓e_hU, ↓e_minmax, ↓e_field1, b_add, b_sub, b_mul, b_quo, b_rem, b_eql, b_neq, b_lss, b_leq, b_gtr, b_geq, ↓c_ld1, implies_true, imp_self, Option.bind_some, rdC_push, rdC_pushE, rdC_setN, rdC_setE, rdN_push, rdN_pushE, rdN_setne, rdN_setE, rdN_pushP, rdN_setP, List.drop_zero, List.drop_succ_cons, List.take_zero, List.take_succ_cons, b_push, b_pushE, b_setN, b_setE, m_push, m_pushE, m_setN, m_setE, Int.toNat_natCast, Int.cast_ofNat_Int, decide_true, decide_false, Int.reduceLT, Int.reduceLE, Int.reduceEq, List.toList_toArray, Bool.false_eq_true, if_false, Bool.true_eq_false, ↓onS_some, wrap_i, wrap_u, Array.size_push, Array.size_setIfInBounds, List.size_toArray, List.length_cons, List.length_nil, List.getElem?_toArray, List.getElem?_cons_zero, List.getElem?_cons_succ, List.setIfInBounds_toArray, List.set_cons_zero, List.set_cons_succ, Nat.reduceAdd, Nat.zero_add, Nat.add_zero, true_and, and_true, vc_int, vc_bool, vc_str, vc_ptr, vc_slice, vc_map, vc_func, vc_agg, setL, bfill, o_int, o_bool, o_str, o_ptr, o_slice, o_map, o_func, List.all_cons, List.all_nil, Bool.and_self, Option.map_some, Nat.reduceLeDiff, Nat.le_refl, if_true, Option.isNone_some, Option.isNone_none, eqV, Bool.not_true, Bool.not_false, Nat.zero_mul, Nat.reduceMul, lookRes])
    refine sp_awake ((x1.trans x2).hB hB) ?_
    intro h3 x3
    (try simp (disch := (first | omega | (simp only [Array.size_push, Array.size_setIfInBounds]; done) | (simp only [List.size_toArray, List.length_cons, List.length_nil, Nat.reduceAdd, Nat.reduceLeDiff, Nat.le_refl]; done) | (simp only [Array.size_push, Array.size_setIfInBounds]; omega))) only [↓e_pickT, ↓e_pickF, ↓e_alloc, ↓e_box, ↓e_build, ↓e_buildSlice, ↓e_ldN, ↓e_st, ↓e_nilCheck, ↓e_bin, ↓e_eq, ↓e_not, ↓e_conv, ↓e_makeMap, ↓e_fieldAddr, ↓e_idxS, ↓e_idxA, ↓e_lookup, ↓e_lookupN, ↓e_mapUpdate, ↓e_delete, ↓e_clearMap, ↓e_len0, ↓e_len1, ↓e_len2, ↓e_len2n, ↓e_extract, ↓e_ifT, ↓e_ifF, ↓e_gTT, ↓e_gFF, ↓e_gTF, ↓e_gFT, ↓e_hTT, ↓e_hFF, ↓e_hTF, ↓e_hFT, ↓e_gU, ↓e_hU, ↓e_minmax, ↓e_field1, b_add, b_sub, b_mul, b_quo, b_rem, b_eql, b_neq, b_lss, b_leq, b_gtr, b_geq, ↓c_ld1, implies_true, imp_self, Option.bind_some, rdC_push, rdC_pushE, rdC_setN, rdC_setE, rdN_push, rdN_pushE, rdN_setne, rdN_setE, rdN_pushP, rdN_setP, List.drop_zero, List.drop_succ_cons, List.take_zero, List.take_succ_cons, b_push, b_pushE, b_setN, b_setE, m_push, m_pushE, m_setN, m_setE, Int.toNat_natCast, Int.cast_ofNat_Int, decide_true, decide_false, Int.reduceLT, Int.reduceLE, Int.reduceEq, List.toList_toArray, Bool.false_eq_true, if_false, Bool.true_eq_false, ↓onS_some, wrap_i, wrap_u, Array.size_push, Array.size_setIfInBounds, List.size_toArray, List.length_cons, List.length_nil, List.getElem?_toArray, List.getElem?_cons_zero, List.getElem?_cons_succ, List.setIfInBounds_toArray, List.set_cons_zero, List.set_cons_succ, Nat.reduceAdd, Nat.zero_add, Nat.add_zero, true_and, and_true, vc_int, vc_bool, vc_str, vc_ptr, vc_slice, vc_map, vc_func, vc_agg, setL, bfill, o_int, o_bool, o_str, o_ptr, o_slice, o_map, o_func, List.all_cons, List.all_nil, Bool.and_self, Option.map_some, Nat.reduceLeDiff, Nat.le_refl, if_true, Option.isNone_some, Option.isNone_none, eqV, Bool.not_true, Bool.not_false, Nat.zero_mul, Nat.reduceMul, lookRes])
    exact hK _ (x1.trans (x2.trans x3))
end

set_option maxRecDepth 100000 in
theorem law_AcceptBest {H : Type} {enc : TypeId × Value → H} : LawDoes enc Try.prog 6 Try.f6 := by
  intro W base args ds ps h0 hlt hval hA
  letI : Base := ⟨W.heap.size⟩
  have hp : Try.f6.params = #[53] := by kernel_rfl
  rw [hp] at hA hval
  obtain ⟨v0, d0, rfl, rfl, t0⟩ := trodAll_one hA
  obtain ⟨v, l, hv, s, hl, _⟩ := arg_slice u_votess (hval 0 53 v0 rfl rfl) rd_votess t0
  cases hv
  exact sp_AcceptBest (by rw [hv_size]; exact Nat.le_refl _) ⟨s, fun a ha => (hl a ha).1⟩ (fun a ha v hv => ((hl a ha).2.1 v hv).1) (fun h' x => ⟨rfl, x⟩)
set_option maxRecDepth 100000 in
theorem lifted_AcceptBest (os : Os) (started : os.Started) (H : Type) (enc : TypeId × Value → H) :
    ReturnsInHanded {} Try.checked os 6 .any (Rows.acceptBestSpec.pre6 enc Try.prog Try.f6 Rows.acceptBestRow.domain false) (Rows.acceptBestSpec.post enc Try.prog Try.f6 false true false false) :=
  lifted_law (C := Try.checked) (s := Rows.acceptBestSpec) (tb := 4) own_try started (by kernel_rfl) Try.func6
      (ChangeSpec.witness6 (enc := enc) (C := Try.checked) false ⟨#[], #[.slice none 0 0], []⟩ 8 (by kernel_rfl) (by kernel_rfl) (by kernel_rfl) (by kernel_rfl))
      rfl (by kernel_rfl) u_bool (fun ds h => by
        have hp : Try.f6.params = #[53] := by kernel_rfl
        rw [hp] at h
        match ds, h with | [d0], _ => rfl) laid_try (by kernel_rfl) glob_try law_AcceptBest
theorem AcceptBest_holds : Rows.AcceptBestSaid :=
  OpenClaim.holds_of_wide 6 Try.f6 rfl rfl rfl rfl rfl rfl rfl ⟨rfl, rfl, rfl, rfl, rfl⟩ rfl rfl rfl rfl rfl (by kernel_rfl) Try.func6 (by kernel_rfl)
    (of_decide_eq_true (by kernel_rfl)) (by unfold Func.isWrapper; rw [if_neg (of_decide_eq_false (by kernel_rfl))]; exact ⟨rfl, rfl⟩)
    (fun os started H enc _ => lifted_AcceptBest os started H enc)
#print axioms AcceptBest_holds

end Go.Proofs.Ytdolepapmpcpiaa
