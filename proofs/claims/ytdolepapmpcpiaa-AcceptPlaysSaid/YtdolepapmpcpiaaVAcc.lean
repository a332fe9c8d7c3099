/- Part VAcc of the proof: lemmas on what the functions do in the seen heap; no condition. -/
import Derived.Test.YtdolepapmpcpiaaVMap
import Derived.Test.YtdolepapmpcpiaaFA
namespace Go.Proofs.Ytdolepapmpcpiaa
open Go
set_option linter.unusedSectionVars false
variable [Base]
set_option linter.unusedVariables false
set_option linter.unusedSimpArgs false

structure Cmd where
  kind : Int
  chain : Int
  epoch : Int
  node : Int
  deriving DecidableEq
structure Vote where
  slot : Int
  ballot : Int
  cmd : Cmd
  deriving DecidableEq
def cmd0 : Cmd := ⟨0, 0, 0, 0⟩
def vote0 : Vote := ⟨0, 0, cmd0⟩
def voteV (v : Vote) : Value := .agg #[.int .i64 v.slot, .int .u64 v.ballot, .int .i64 v.cmd.kind, .int .i64 v.cmd.chain, .int .u64 v.cmd.epoch, .int .i64 v.cmd.node]

/-- An acceptor at block p, its votes at block r. -/
structure Acc (h : Hp) (p r : Nat) (prom : Int) (m : List (Int × Vote)) : Prop where
  blk : h[p]? = some (.cells #[.int .u64 prom, .map (some r)])
  map : h[r]? = some (.map (encM voteV m))

theorem sp_Promised {h : Hp} {p r : Nat} {prom : Int} {m : List (Int × Vote)} (hA : Acc h p r prom m) {K : Kont} (hK : K (.int .u64 prom) h) : C_accept_Acceptor_Promised [pt p 0] h K := by
  refine ok_accept_Acceptor_Promised ?_
  have h1 := hA.blk
  unfold G_accept_Acceptor_Promised
  simp (disch := (first | omega | (simp only [Array.size_push, Array.size_setIfInBounds]; done) | (simp only [List.size_toArray, List.length_cons, List.length_nil, Nat.reduceAdd]; done) | (simp only [Array.size_push, Array.size_setIfInBounds]; omega))) only [e_pickT, e_pickF, e_alloc, e_box, e_build, e_buildSlice, e_ld1, e_ldN, e_st, e_nilCheck, e_bin, e_eq, e_not, e_conv, e_makeMap, e_fieldAddr, e_idxS, e_idxA, e_lookup, e_lookupN, e_mapUpdate, e_delete, e_clearMap, e_len0, e_len1, e_len2, e_len2n, e_extract, e_ifT, e_ifF, e_gTT, e_gFF, e_gTF, e_gFT, e_hTT, e_hFF, e_hTF, e_hFT, e_gU, e_hU, e_minmax, e_field1, b_add, b_sub, b_mul, b_quo, b_rem, b_eql, b_neq, b_lss, b_leq, b_gtr, b_geq, Int.cast_ofNat_Int, decide_true, decide_false, Int.reduceLT, Int.reduceLE, Int.reduceEq, List.toList_toArray, rdC_eq, Bool.false_eq_true, if_false, Bool.true_eq_false, onS_some, asCells_cells, asMap_map, cellAt_cells, g_push_lt, g_push_eq, g_set_eq, g_set_ne, wrap_i, wrap_u, Option.bind_some, Array.size_push, Array.size_setIfInBounds, List.size_toArray, List.length_cons, List.length_nil, List.getElem?_toArray, List.getElem?_cons_zero, List.getElem?_cons_succ, List.setIfInBounds_toArray, List.set_cons_zero, List.set_cons_succ, Nat.reduceAdd, Nat.zero_add, Nat.add_zero, true_and, and_true, Value.cells, setL, rdN, bfill, one, List.all_cons, List.all_nil, Bool.and_self, Option.map_some, Nat.reduceLeDiff, Nat.le_refl, if_true, Option.isNone_some, Option.isNone_none, eqV, Bool.not_true, Bool.not_false, Nat.zero_mul, Nat.reduceMul, lookRes, h1]
  exact hK

theorem sp_Len {h : Hp} {p r : Nat} {prom : Int} {m : List (Int × Vote)} (hA : Acc h p r prom m) {K : Kont} (hK : K (.int .i64 m.length) h) : C_accept_Acceptor_Len [pt p 0] h K := by
  refine ok_accept_Acceptor_Len ?_
  have h1 := hA.blk
  have h2 := hA.map
  unfold G_accept_Acceptor_Len
  simp (disch := (first | omega | (simp only [Array.size_push, Array.size_setIfInBounds]; done) | (simp only [List.size_toArray, List.length_cons, List.length_nil, Nat.reduceAdd]; done) | (simp only [Array.size_push, Array.size_setIfInBounds]; omega))) only [e_pickT, e_pickF, e_alloc, e_box, e_build, e_buildSlice, e_ld1, e_ldN, e_st, e_nilCheck, e_bin, e_eq, e_not, e_conv, e_makeMap, e_fieldAddr, e_idxS, e_idxA, e_lookup, e_lookupN, e_mapUpdate, e_delete, e_clearMap, e_len0, e_len1, e_len2, e_len2n, e_extract, e_ifT, e_ifF, e_gTT, e_gFF, e_gTF, e_gFT, e_hTT, e_hFF, e_hTF, e_hFT, e_gU, e_hU, e_minmax, e_field1, b_add, b_sub, b_mul, b_quo, b_rem, b_eql, b_neq, b_lss, b_leq, b_gtr, b_geq, Int.cast_ofNat_Int, decide_true, decide_false, Int.reduceLT, Int.reduceLE, Int.reduceEq, List.toList_toArray, rdC_eq, Bool.false_eq_true, if_false, Bool.true_eq_false, onS_some, asCells_cells, asMap_map, cellAt_cells, g_push_lt, g_push_eq, g_set_eq, g_set_ne, wrap_i, wrap_u, Option.bind_some, Array.size_push, Array.size_setIfInBounds, List.size_toArray, List.length_cons, List.length_nil, List.getElem?_toArray, List.getElem?_cons_zero, List.getElem?_cons_succ, List.setIfInBounds_toArray, List.set_cons_zero, List.set_cons_succ, Nat.reduceAdd, Nat.zero_add, Nat.add_zero, true_and, and_true, Value.cells, setL, rdN, bfill, one, List.all_cons, List.all_nil, Bool.and_self, Option.map_some, Nat.reduceLeDiff, Nat.le_refl, if_true, Option.isNone_some, Option.isNone_none, eqV, Bool.not_true, Bool.not_false, Nat.zero_mul, Nat.reduceMul, lookRes, h1, h2, encM_length]
  exact hK

theorem sp_Vote {h : Hp} (hB : Base.b ≤ h.size) {p r : Nat} {prom : Int} {m : List (Int × Vote)} (hA : Acc h p r prom m) (s : Int) {K : Kont}
    (hK : ∀ h', Ext h h' → K (.tuple #[voteV ((mget m s).getD vote0), .bool (mget m s).isSome]) h') : C_accept_Acceptor_Vote [pt p 0, .int .i64 s] h K := by
  refine ok_accept_Acceptor_Vote ?_
  have h1 := hA.blk
  have h2 := hA.map
  have l1 := lt_of_get h1
  have l2 := lt_of_get h2
  unfold mget at hK
  unfold G_accept_Acceptor_Vote
  cases hf : mfind m s 0 with
  | none =>
    rw [hf] at hK
    simp (disch := (first | omega | (simp only [Array.size_push, Array.size_setIfInBounds]; done) | (simp only [List.size_toArray, List.length_cons, List.length_nil, Nat.reduceAdd]; done) | (simp only [Array.size_push, Array.size_setIfInBounds]; omega))) only [e_pickT, e_pickF, e_alloc, e_box, e_build, e_buildSlice, e_ld1, e_ldN, e_st, e_nilCheck, e_bin, e_eq, e_not, e_conv, e_makeMap, e_fieldAddr, e_idxS, e_idxA, e_lookup, e_lookupN, e_mapUpdate, e_delete, e_clearMap, e_len0, e_len1, e_len2, e_len2n, e_extract, e_ifT, e_ifF, e_gTT, e_gFF, e_gTF, e_gFT, e_hTT, e_hFF, e_hTF, e_hFT, e_gU, e_hU, e_minmax, e_field1, b_add, b_sub, b_mul, b_quo, b_rem, b_eql, b_neq, b_lss, b_leq, b_gtr, b_geq, Int.cast_ofNat_Int, decide_true, decide_false, Int.reduceLT, Int.reduceLE, Int.reduceEq, List.toList_toArray, rdC_eq, Bool.false_eq_true, if_false, Bool.true_eq_false, onS_some, asCells_cells, asMap_map, cellAt_cells, g_push_lt, g_push_eq, g_set_eq, g_set_ne, wrap_i, wrap_u, Option.bind_some, Array.size_push, Array.size_setIfInBounds, List.size_toArray, List.length_cons, List.length_nil, List.getElem?_toArray, List.getElem?_cons_zero, List.getElem?_cons_succ, List.setIfInBounds_toArray, List.set_cons_zero, List.set_cons_succ, Nat.reduceAdd, Nat.zero_add, Nat.add_zero, true_and, and_true, Value.cells, setL, rdN, bfill, one, List.all_cons, List.all_nil, Bool.and_self, Option.map_some, Nat.reduceLeDiff, Nat.le_refl, if_true, Option.isNone_some, Option.isNone_none, eqV, Bool.not_true, Bool.not_false, Nat.zero_mul, Nat.reduceMul, lookRes, h1, h2, kvFind_enc, hf, Option.map_none]
    exact hK _ (by repeat (first | exact Upd.refl _ | refine Upd.push ?_ _ | refine Upd.set ?_ _ _ (.inl (by (first | omega | (simp only [Array.size_push, Array.size_setIfInBounds]; done) | (simp only [List.size_toArray, List.length_cons, List.length_nil, Nat.reduceAdd]; done) | (simp only [Array.size_push, Array.size_setIfInBounds]; omega))))))
  | some q =>
    rw [hf] at hK
    simp (disch := (first | omega | (simp only [Array.size_push, Array.size_setIfInBounds]; done) | (simp only [List.size_toArray, List.length_cons, List.length_nil, Nat.reduceAdd]; done) | (simp only [Array.size_push, Array.size_setIfInBounds]; omega))) only [e_pickT, e_pickF, e_alloc, e_box, e_build, e_buildSlice, e_ld1, e_ldN, e_st, e_nilCheck, e_bin, e_eq, e_not, e_conv, e_makeMap, e_fieldAddr, e_idxS, e_idxA, e_lookup, e_lookupN, e_mapUpdate, e_delete, e_clearMap, e_len0, e_len1, e_len2, e_len2n, e_extract, e_ifT, e_ifF, e_gTT, e_gFF, e_gTF, e_gFT, e_hTT, e_hFF, e_hTF, e_hFT, e_gU, e_hU, e_minmax, e_field1, b_add, b_sub, b_mul, b_quo, b_rem, b_eql, b_neq, b_lss, b_leq, b_gtr, b_geq, Int.cast_ofNat_Int, decide_true, decide_false, Int.reduceLT, Int.reduceLE, Int.reduceEq, List.toList_toArray, rdC_eq, Bool.false_eq_true, if_false, Bool.true_eq_false, onS_some, asCells_cells, asMap_map, cellAt_cells, g_push_lt, g_push_eq, g_set_eq, g_set_ne, wrap_i, wrap_u, Option.bind_some, Array.size_push, Array.size_setIfInBounds, List.size_toArray, List.length_cons, List.length_nil, List.getElem?_toArray, List.getElem?_cons_zero, List.getElem?_cons_succ, List.setIfInBounds_toArray, List.set_cons_zero, List.set_cons_succ, Nat.reduceAdd, Nat.zero_add, Nat.add_zero, true_and, and_true, Value.cells, setL, rdN, bfill, one, List.all_cons, List.all_nil, Bool.and_self, Option.map_some, Nat.reduceLeDiff, Nat.le_refl, if_true, Option.isNone_some, Option.isNone_none, eqV, Bool.not_true, Bool.not_false, Nat.zero_mul, Nat.reduceMul, lookRes, h1, h2, kvFind_enc, hf, Option.map_some, voteV]
    exact hK _ (by repeat (first | exact Upd.refl _ | refine Upd.push ?_ _ | refine Upd.set ?_ _ _ (.inl (by (first | omega | (simp only [Array.size_push, Array.size_setIfInBounds]; done) | (simp only [List.size_toArray, List.length_cons, List.length_nil, Nat.reduceAdd]; done) | (simp only [Array.size_push, Array.size_setIfInBounds]; omega))))))

end Go.Proofs.Ytdolepapmpcpiaa
