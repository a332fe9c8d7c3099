/- Part VAcc2 of the proof: lemmas on what the functions do in the seen heap; no condition. -/
import Derived.Test.YtdolepapmpcpiaaVAcc
import Derived.Test.YtdolepapmpcpiaaVSl
import Derived.Test.YtdolepapmpcpiaaVKeys
namespace Go.Proofs.Ytdolepapmpcpiaa
open Go
set_option linter.unusedSectionVars false
variable [Base]
set_option linter.unusedVariables false
set_option linter.unusedSimpArgs false

def vcells (v : Vote) : List Value := [.int .i64 v.slot, .int .u64 v.ballot, .int .i64 v.cmd.kind, .int .i64 v.cmd.chain, .int .u64 v.cmd.epoch, .int .i64 v.cmd.node]
theorem voteV_eq (v : Vote) : voteV v = .agg (vcells v).toArray := rfl
theorem vcells_len (v : Vote) : (vcells v).length = 6 := rfl
theorem vcells_one (v : Vote) : (vcells v).all one = true := rfl
abbrev icell (x : Int) : List Value := [encZ x]

/-- The votes of a map by rising slots. -/
def pick (m : List (Int × Vote)) (f : Int) (ks : List Int) : List Vote := ks.filterMap fun k => if f ≤ k then mget m k else none
theorem pick_snoc (m : List (Int × Vote)) (f : Int) (a : List Int) (k : Int) : pick m f (a ++ [k]) = pick m f a ++ (if f ≤ k then mget m k else none).toList := by
  unfold pick
  rw [List.filterMap_append]
  by_cases h : f ≤ k
  · simp only [List.filterMap_cons, if_pos h]
    cases mget m k <;> rfl
  · simp only [List.filterMap_cons, if_neg h, List.filterMap_nil, Option.toList]
def risingL (m : List (Int × Vote)) (f : Int) : List Vote := pick m f (sortI (m.map (·.1)))

theorem sp_keysA {h : Hp} (hB : Base.b ≤ h.size) {r : Nat} {K : Kont} (hK : K (.func (.func 76) #[] #[pt h.size 0]) (h.push (.cells #[.map (some r)]))) : C_maps_Keys_map_int_api_Vote_int_api_Vote [.map (some r)] h K := by
  refine ok_maps_Keys_map_int_api_Vote_int_api_Vote ?_
  unfold G_maps_Keys_map_int_api_Vote_int_api_Vote
  simp (disch := (first | omega | (simp only [Array.size_push, Array.size_setIfInBounds]; done) | (simp only [List.size_toArray, List.length_cons, List.length_nil, Nat.reduceAdd]; done) | (simp only [Array.size_push, Array.size_setIfInBounds]; omega))) only [e_pickT, e_pickF, e_alloc, e_box, e_build, e_buildSlice, e_ld1, e_ldN, e_st, e_nilCheck, e_bin, e_eq, e_not, e_conv, e_makeMap, e_fieldAddr, e_idxS, e_idxA, e_lookup, e_lookupN, e_mapUpdate, e_delete, e_clearMap, e_len0, e_len1, e_len2, e_len2n, e_extract, e_ifT, e_ifF, e_gTT, e_gFF, e_gTF, e_gFT, e_hTT, e_hFF, e_hTF, e_hFT, e_gU, e_hU, e_minmax, e_field1, b_add, b_sub, b_mul, b_quo, b_rem, b_eql, b_neq, b_lss, b_leq, b_gtr, b_geq, Int.cast_ofNat_Int, decide_true, decide_false, Int.reduceLT, Int.reduceLE, Int.reduceEq, List.toList_toArray, rdC_eq, Bool.false_eq_true, if_false, Bool.true_eq_false, onS_some, asCells_cells, asMap_map, cellAt_cells, g_push_lt, g_push_eq, g_set_eq, g_set_ne, wrap_i, wrap_u, Option.bind_some, Array.size_push, Array.size_setIfInBounds, List.size_toArray, List.length_cons, List.length_nil, List.getElem?_toArray, List.getElem?_cons_zero, List.getElem?_cons_succ, List.setIfInBounds_toArray, List.set_cons_zero, List.set_cons_succ, Nat.reduceAdd, Nat.zero_add, Nat.add_zero, true_and, and_true, Value.cells, setL, rdN, bfill, one, List.all_cons, List.all_nil, Bool.and_self, Option.map_some, Nat.reduceLeDiff, Nat.le_refl, if_true, Option.isNone_some, Option.isNone_none, eqV, Bool.not_true, Bool.not_false, Nat.zero_mul, Nat.reduceMul, lookRes]
  exact hK

theorem encM_keys {α : Type} (e : α → Value) (m : List (Int × α)) : (encM e m).map (·.1) = (m.map (·.1)).map Go.encZ := by simp [encM]

theorem sp_rising {h : Hp} (hB : Base.b ≤ h.size) {r : Nat} {m : List (Int × Vote)} (hm : h[r]? = some (.map (encM voteV m))) (hks : keysOk m) (hok : ∀ k ∈ m.map (·.1), i64ok k) (hlen : m.length ≤ 1048576) (f : Int) {K : Kont}
    (hK : ∀ v h', Ext h h' → Own h' h.size 6 vcells v (risingL m f) → K v h') : C_accept_rising [.map (some r), .int .i64 f] h K := by
  refine ok_accept_rising ?_
  unfold G_accept_rising
  have lr := lt_of_get hm
  refine sp_keysA hB ?_
  have hm1 : (h.push (.cells #[.map (some r)]))[r]? = some (.map (encM voteV m)) := by rw [g_push_lt lr]; exact hm
  refine sorted_of (ks := m.map (·.1)) (by simp; omega) en76 (by simpa using hlen) (seqA (g_push_eq rfl) hm1 (encM_keys _ _) hok (by simpa using hlen)) ?_
  intro v10 h2 x2 hrow hnil
  have hB2 : Base.b ≤ h2.size := by have := x2.1; simp at this; omega
  have hm2 := x2.get hm1 id
  have hks2 : Own h2 (h.size + 1) 1 (fun x => [Go.encZ x]) v10 (sortI (m.map (·.1))) := by
    obtain ⟨h1, h2⟩ := hrow
    have e : (sortI (m.map (·.1))).length = (m.map (·.1)).length := by simp
    rcases h2 with ⟨rfl, hz⟩ | ⟨g, cap, c, rfl, hb, hg, hn, _, hs, ht⟩
    · exact .inl ⟨rfl, List.eq_nil_of_length_eq_zero (by rw [e]; exact hz)⟩
    · refine .inr ⟨g, cap, c, by rw [e], by simpa using hb, hg, by rw [e]; exact hn, by simpa using hs, ?_⟩
      rw [e, ht]
      generalize sortI (m.map (·.1)) = q
      induction q with
      | nil => rfl
      | cons a q ih => simp [ih]
  have x02 : Ext h h2 := (Upd.push (Upd.refl _) _).trans x2
  generalize hl : sortI (m.map (·.1)) = l at hks2
  have sl2 := hks2.sl
  rw [sl2.len]
  have hll : l.length ≤ 1048576 := by rw [← hl]; simpa using hlen
  refine rule_accept_rising_1 (fun v5 v12 h' => ∃ i : Nat, v12 = .int .i64 i ∧ i ≤ l.length ∧ Ext h2 h' ∧ Own h' h2.size 6 vcells v5 (pick m f (l.take i)))
    (fun v5 v12 h' => l.length - ival v12) ?_ _ _ _ _ ⟨0, rfl, Nat.zero_le _, Upd.refl _, by simpa [pick] using Own.nil⟩
  rintro s0 v5 v12 d h3 ⟨i, rfl, hi, x3, ho⟩ self
  have hm3 := x3.get hm2 id
  have sl3 := sl2.ext x3
  have hB3 : Base.b ≤ h3.size := Nat.le_trans hB2 x3.1
  unfold B_accept_rising_1
  by_cases hlt : i < l.length
  · obtain ⟨b, o, cap, rfl, hrd⟩ := sl3.at (fun _ => rfl) i hlt
    have hc := rdN_one hrd
    rw [rdC_eq] at hc
    have hlt' : (i : Int) < (l.length : Int) := by omega
    have h0 : (0 : Int) ≤ (i : Int) := by omega
    obtain ⟨x, hx⟩ : ∃ x, mget m l[i] = some x := by
      have h1 : l[i] ∈ m.map (·.1) := by
        rw [← List.mem_mergeSort (le := fun x y => decide (x ≤ y)), show (m.map (·.1)).mergeSort (fun x y => decide (x ≤ y)) = l from hl]
        exact List.getElem_mem hlt
      obtain ⟨p, hp, e⟩ := List.mem_map.1 h1
      exact ⟨p.2, mget_of_mem hks (by rw [← e]; exact hp)⟩
    obtain ⟨⟨q, x'⟩, hq, rfl⟩ : ∃ q, mfind m l[i] 0 = some q ∧ q.2 = x := by simpa [mget] using hx
    have htk : l.take (i + 1) = l.take i ++ [l[i]] := by simp
    by_cases hf : f ≤ l[i]
    · simp (disch := (first | omega | (simp only [Array.size_push, Array.size_setIfInBounds]; done) | (simp only [List.size_toArray, List.length_cons, List.length_nil, Nat.reduceAdd]; done) | (simp only [Array.size_push, Array.size_setIfInBounds]; omega))) only [e_pickT, e_pickF, e_alloc, e_box, e_build, e_buildSlice, e_ld1, e_ldN, e_st, e_nilCheck, e_bin, e_eq, e_not, e_conv, e_makeMap, e_fieldAddr, e_idxS, e_idxA, e_lookup, e_lookupN, e_mapUpdate, e_delete, e_clearMap, e_len0, e_len1, e_len2, e_len2n, e_extract, e_ifT, e_ifF, e_gTT, e_gFF, e_gTF, e_gFT, e_hTT, e_hFF, e_hTF, e_hFT, e_gU, e_hU, e_minmax, e_field1, b_add, b_sub, b_mul, b_quo, b_rem, b_eql, b_neq, b_lss, b_leq, b_gtr, b_geq, Int.cast_ofNat_Int, decide_true, decide_false, Int.reduceLT, Int.reduceLE, Int.reduceEq, List.toList_toArray, rdC_eq, Bool.false_eq_true, if_false, Bool.true_eq_false, onS_some, asCells_cells, asMap_map, cellAt_cells, g_push_lt, g_push_eq, g_set_eq, g_set_ne, wrap_i, wrap_u, Option.bind_some, Array.size_push, Array.size_setIfInBounds, List.size_toArray, List.length_cons, List.length_nil, List.getElem?_toArray, List.getElem?_cons_zero, List.getElem?_cons_succ, List.setIfInBounds_toArray, List.set_cons_zero, List.set_cons_succ, Nat.reduceAdd, Nat.zero_add, Nat.add_zero, true_and, and_true, Value.cells, setL, rdN_push, rdN_setne, Int.toNat_natCast, bfill, one, List.all_cons, List.all_nil, Bool.and_self, Option.map_some, Nat.reduceLeDiff, Nat.le_refl, if_true, Option.isNone_some, Option.isNone_none, eqV, Bool.not_true, Bool.not_false, Nat.zero_mul, Nat.reduceMul, lookRes, hc, decide_eq_true hlt', hlt', h0, decide_eq_true hf, hm3, kvFind_enc, hq, voteV, List.getElem_cons_zero]
      refine Own.append (ho.ext (Upd.push (Upd.refl _) _)) vcells_len vcells_one (by simp; omega) (by rfl) (Sl.one (a := x') (by rfl) rfl) (by have := x3.1; simp; omega) ?_ ?_
      · have hp : (pick m f (l.take i)).length ≤ (l.take i).length := List.length_filterMap_le _ _
        have hp2 : (l.take i).length ≤ i := List.length_take_le _ _
        simp only [List.length_cons, List.length_nil]
        omega
      · intro v' h' ho' hu
        have x4 : Ext h2 h' := x3.fresh (S := fun _ => False) (Upd.fresh (S := fun b => h2.size ≤ b) (Upd.push (Upd.refl _) _) hu (fun b hb => .inr hb)) (fun b hb => .inl hb)
        rw [req_accept_rising_2]
        unfold R_accept_rising_2
        simp (disch := (first | omega | (simp only [Array.size_push, Array.size_setIfInBounds]; done) | (simp only [List.size_toArray, List.length_cons, List.length_nil, Nat.reduceAdd]; done) | (simp only [Array.size_push, Array.size_setIfInBounds]; omega))) only [e_pickT, e_pickF, e_alloc, e_box, e_build, e_buildSlice, e_ld1, e_ldN, e_st, e_nilCheck, e_bin, e_eq, e_not, e_conv, e_makeMap, e_fieldAddr, e_idxS, e_idxA, e_lookup, e_lookupN, e_mapUpdate, e_delete, e_clearMap, e_len0, e_len1, e_len2, e_len2n, e_extract, e_ifT, e_ifF, e_gTT, e_gFF, e_gTF, e_gFT, e_hTT, e_hFF, e_hTF, e_hFT, e_gU, e_hU, e_minmax, e_field1, b_add, b_sub, b_mul, b_quo, b_rem, b_eql, b_neq, b_lss, b_leq, b_gtr, b_geq, Int.cast_ofNat_Int, decide_true, decide_false, Int.reduceLT, Int.reduceLE, Int.reduceEq, List.toList_toArray, rdC_eq, Bool.false_eq_true, if_false, Bool.true_eq_false, onS_some, asCells_cells, asMap_map, cellAt_cells, g_push_lt, g_push_eq, g_set_eq, g_set_ne, wrap_i, wrap_u, Option.bind_some, Array.size_push, Array.size_setIfInBounds, List.size_toArray, List.length_cons, List.length_nil, List.getElem?_toArray, List.getElem?_cons_zero, List.getElem?_cons_succ, List.setIfInBounds_toArray, List.set_cons_zero, List.set_cons_succ, Nat.reduceAdd, Nat.zero_add, Nat.add_zero, true_and, and_true, Value.cells, setL, rdN_push, rdN_setne, Int.toNat_natCast, bfill, one, List.all_cons, List.all_nil, Bool.and_self, Option.map_some, Nat.reduceLeDiff, Nat.le_refl, if_true, Option.isNone_some, Option.isNone_none, eqV, Bool.not_true, Bool.not_false, Nat.zero_mul, Nat.reduceMul, lookRes]
        refine self _ _ _ _ ⟨i + 1, rfl, hlt, x4, ?_⟩ (by simp only [ival_nat, show ((i : Int) + 1) = ((i + 1 : Nat) : Int) from rfl]; omega)
        rw [htk]
        have e : mget m l[i] = some x' := by simp [mget, hq]
        rw [pick_snoc, if_pos hf, e]
        exact ho'
    · simp (disch := (first | omega | (simp only [Array.size_push, Array.size_setIfInBounds]; done) | (simp only [List.size_toArray, List.length_cons, List.length_nil, Nat.reduceAdd]; done) | (simp only [Array.size_push, Array.size_setIfInBounds]; omega))) only [e_pickT, e_pickF, e_alloc, e_box, e_build, e_buildSlice, e_ld1, e_ldN, e_st, e_nilCheck, e_bin, e_eq, e_not, e_conv, e_makeMap, e_fieldAddr, e_idxS, e_idxA, e_lookup, e_lookupN, e_mapUpdate, e_delete, e_clearMap, e_len0, e_len1, e_len2, e_len2n, e_extract, e_ifT, e_ifF, e_gTT, e_gFF, e_gTF, e_gFT, e_hTT, e_hFF, e_hTF, e_hFT, e_gU, e_hU, e_minmax, e_field1, b_add, b_sub, b_mul, b_quo, b_rem, b_eql, b_neq, b_lss, b_leq, b_gtr, b_geq, Int.cast_ofNat_Int, decide_true, decide_false, Int.reduceLT, Int.reduceLE, Int.reduceEq, List.toList_toArray, rdC_eq, Bool.false_eq_true, if_false, Bool.true_eq_false, onS_some, asCells_cells, asMap_map, cellAt_cells, g_push_lt, g_push_eq, g_set_eq, g_set_ne, wrap_i, wrap_u, Option.bind_some, Array.size_push, Array.size_setIfInBounds, List.size_toArray, List.length_cons, List.length_nil, List.getElem?_toArray, List.getElem?_cons_zero, List.getElem?_cons_succ, List.setIfInBounds_toArray, List.set_cons_zero, List.set_cons_succ, Nat.reduceAdd, Nat.zero_add, Nat.add_zero, true_and, and_true, Value.cells, setL, rdN_push, rdN_setne, Int.toNat_natCast, bfill, one, List.all_cons, List.all_nil, Bool.and_self, Option.map_some, Nat.reduceLeDiff, Nat.le_refl, if_true, Option.isNone_some, Option.isNone_none, eqV, Bool.not_true, Bool.not_false, Nat.zero_mul, Nat.reduceMul, lookRes, hc, decide_eq_true hlt', hlt', h0, decide_eq_false hf, req_accept_rising_2]
      unfold R_accept_rising_2
      simp (disch := (first | omega | (simp only [Array.size_push, Array.size_setIfInBounds]; done) | (simp only [List.size_toArray, List.length_cons, List.length_nil, Nat.reduceAdd]; done) | (simp only [Array.size_push, Array.size_setIfInBounds]; omega))) only [e_pickT, e_pickF, e_alloc, e_box, e_build, e_buildSlice, e_ld1, e_ldN, e_st, e_nilCheck, e_bin, e_eq, e_not, e_conv, e_makeMap, e_fieldAddr, e_idxS, e_idxA, e_lookup, e_lookupN, e_mapUpdate, e_delete, e_clearMap, e_len0, e_len1, e_len2, e_len2n, e_extract, e_ifT, e_ifF, e_gTT, e_gFF, e_gTF, e_gFT, e_hTT, e_hFF, e_hTF, e_hFT, e_gU, e_hU, e_minmax, e_field1, b_add, b_sub, b_mul, b_quo, b_rem, b_eql, b_neq, b_lss, b_leq, b_gtr, b_geq, Int.cast_ofNat_Int, decide_true, decide_false, Int.reduceLT, Int.reduceLE, Int.reduceEq, List.toList_toArray, rdC_eq, Bool.false_eq_true, if_false, Bool.true_eq_false, onS_some, asCells_cells, asMap_map, cellAt_cells, g_push_lt, g_push_eq, g_set_eq, g_set_ne, wrap_i, wrap_u, Option.bind_some, Array.size_push, Array.size_setIfInBounds, List.size_toArray, List.length_cons, List.length_nil, List.getElem?_toArray, List.getElem?_cons_zero, List.getElem?_cons_succ, List.setIfInBounds_toArray, List.set_cons_zero, List.set_cons_succ, Nat.reduceAdd, Nat.zero_add, Nat.add_zero, true_and, and_true, Value.cells, setL, rdN_push, rdN_setne, Int.toNat_natCast, bfill, one, List.all_cons, List.all_nil, Bool.and_self, Option.map_some, Nat.reduceLeDiff, Nat.le_refl, if_true, Option.isNone_some, Option.isNone_none, eqV, Bool.not_true, Bool.not_false, Nat.zero_mul, Nat.reduceMul, lookRes]
      refine self _ _ _ _ ⟨i + 1, rfl, hlt, x3, ?_⟩ (by simp only [ival_nat, show ((i : Int) + 1) = ((i + 1 : Nat) : Int) from rfl]; omega)
      rw [htk]
      rw [pick_snoc, if_neg hf]
      simpa using ho
  · have : ¬ (i : Int) < (l.length : Int) := by omega
    simp (disch := (first | omega | (simp only [Array.size_push, Array.size_setIfInBounds]; done) | (simp only [List.size_toArray, List.length_cons, List.length_nil, Nat.reduceAdd]; done) | (simp only [Array.size_push, Array.size_setIfInBounds]; omega))) only [e_pickT, e_pickF, e_alloc, e_box, e_build, e_buildSlice, e_ld1, e_ldN, e_st, e_nilCheck, e_bin, e_eq, e_not, e_conv, e_makeMap, e_fieldAddr, e_idxS, e_idxA, e_lookup, e_lookupN, e_mapUpdate, e_delete, e_clearMap, e_len0, e_len1, e_len2, e_len2n, e_extract, e_ifT, e_ifF, e_gTT, e_gFF, e_gTF, e_gFT, e_hTT, e_hFF, e_hTF, e_hFT, e_gU, e_hU, e_minmax, e_field1, b_add, b_sub, b_mul, b_quo, b_rem, b_eql, b_neq, b_lss, b_leq, b_gtr, b_geq, Int.cast_ofNat_Int, decide_true, decide_false, Int.reduceLT, Int.reduceLE, Int.reduceEq, List.toList_toArray, rdC_eq, Bool.false_eq_true, if_false, Bool.true_eq_false, onS_some, asCells_cells, asMap_map, cellAt_cells, g_push_lt, g_push_eq, g_set_eq, g_set_ne, wrap_i, wrap_u, Option.bind_some, Array.size_push, Array.size_setIfInBounds, List.size_toArray, List.length_cons, List.length_nil, List.getElem?_toArray, List.getElem?_cons_zero, List.getElem?_cons_succ, List.setIfInBounds_toArray, List.set_cons_zero, List.set_cons_succ, Nat.reduceAdd, Nat.zero_add, Nat.add_zero, true_and, and_true, Value.cells, setL, rdN_push, rdN_setne, Int.toNat_natCast, bfill, one, List.all_cons, List.all_nil, Bool.and_self, Option.map_some, Nat.reduceLeDiff, Nat.le_refl, if_true, Option.isNone_some, Option.isNone_none, eqV, Bool.not_true, Bool.not_false, Nat.zero_mul, Nat.reduceMul, lookRes, decide_eq_false this]
    have e : l.take i = l := List.take_of_length_le (by omega)
    rw [e] at ho
    refine hK _ _ (x02.trans x3) ?_
    unfold risingL
    rw [hl]
    exact ho.low x02.1

end Go.Proofs.Ytdolepapmpcpiaa
