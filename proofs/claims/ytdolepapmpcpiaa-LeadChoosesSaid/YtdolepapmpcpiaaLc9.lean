/- Lemmas for the theorem of the last text; no condition. -/
import Derived.Test.YtdolepapmpcpiaaLc0
import Derived.Test.YtdolepapmpcpiaaLc1
import Derived.Test.YtdolepapmpcpiaaLc2
import Derived.Test.YtdolepapmpcpiaaLc3
import Derived.Test.YtdolepapmpcpiaaLc4
import Derived.Test.YtdolepapmpcpiaaLc5
import Derived.Test.YtdolepapmpcpiaaLc6
import Derived.Test.YtdolepapmpcpiaaLc7
import Derived.Test.YtdolepapmpcpiaaLc8
/- Part VAcc4 of the proof: lemmas on what the functions do in the seen heap; no condition. -/
namespace Go.Proofs.Ytdolepapmpcpiaa
open Go
set_option linter.unusedSectionVars false
variable [Base]
set_option linter.unusedVariables false
set_option linter.unusedSimpArgs false

def mPrepE (prom b f : Int) : Int := if isB b = false ∨ f < 0 ∨ 512 < f then 1 else if b < prom then 10 else 0
def mPrepP (prom b f : Int) : Int := if mPrepE prom b f = 0 then b else prom
def mPrepL (prom : Int) (m : List (Int × Vote)) (b f : Int) : List Vote := if mPrepE prom b f = 0 then risingL m f else []
def mAccE (prom b s : Int) (c : Cmd) : Int := if isB b = false ∨ s < 0 ∨ 512 ≤ s then 1 else if checkC c ≠ 0 then checkC c else if b < prom then 10 else 0
def mAccP (prom b s : Int) (c : Cmd) : Int := if mAccE prom b s c = 0 then b else prom
def mAccM (prom : Int) (m : List (Int × Vote)) (b s : Int) (c : Cmd) : List (Int × Vote) := if mAccE prom b s c = 0 then mset m s ⟨s, b, c⟩ else m

def keysIn (m : List (Int × Vote)) : Prop := keysOk m ∧ (∀ k ∈ m.map (·.1), i64ok k) ∧ m.length ≤ 1048576

theorem sp_Votes {h : Hp} (hB : Base.b ≤ h.size) {p r : Nat} {prom : Int} {m : List (Int × Vote)} (hA : Acc h p r prom m) (hm : keysIn m) (f : Int) {K : Kont}
    (hK : ∀ v h', Ext h h' → Own h' h.size 6 vcells v (risingL m f) → K v h') : C_accept_Acceptor_Votes [pt p 0, .int .i64 f] h K := by
  refine ok_accept_Acceptor_Votes ?_
  have h1 := hA.blk
  have l1 := lt_of_get h1
  unfold G_accept_Acceptor_Votes
  simp (disch := (first | omega | (simp only [sz]; done) | (simp only [lz, Nat.reduceAdd, Nat.reduceLeDiff, Nat.le_refl]; done) | (simp only [sz]; omega))) only [e_pickT, e_pickF, e_alloc, e_box, e_build, e_buildSlice, e_ld1, e_ldN, e_st, e_nilCheck, e_bin, e_eq, e_not, e_conv, e_makeMap, e_fieldAddr, e_idxS, e_idxA, e_lookup, e_lookupN, e_mapUpdate, e_delete, e_clearMap, e_len0, e_len1, e_len2, e_len2n, e_extract, e_ifT, e_ifF, e_gTT, e_gFF, e_gTF, e_gFT, e_hTT, e_hFF, e_hTF, e_hFT, e_gU, e_hU, e_minmax, e_field1, b_add, b_sub, b_mul, b_quo, b_rem, b_eql, b_neq, b_lss, b_leq, b_gtr, b_geq, Int.cast_ofNat_Int, decide_true, decide_false, Int.reduceLT, Int.reduceLE, Int.reduceEq, List.toList_toArray, rdC_eq, Bool.false_eq_true, if_false, Bool.true_eq_false, onS_some, asCells_cells, asMap_map, cellAt_cells, g_push_lt, g_push_eq, g_set_eq, g_set_ne, wrap_i, wrap_u, Option.bind_some, Array.size_push, Array.size_setIfInBounds, List.size_toArray, List.length_cons, List.length_nil, List.getElem?_toArray, List.getElem?_cons_zero, List.getElem?_cons_succ, List.setIfInBounds_toArray, List.set_cons_zero, List.set_cons_succ, Nat.reduceAdd, Nat.zero_add, Nat.add_zero, true_and, and_true, Value.cells, setL, rdN, bfill, one, List.all_cons, List.all_nil, Bool.and_self, Option.map_some, Nat.reduceLeDiff, Nat.le_refl, if_true, Option.isNone_some, Option.isNone_none, eqV, Bool.not_true, Bool.not_false, Nat.zero_mul, Nat.reduceMul, lookRes, h1]
  exact sp_rising hB hA.map hm.1 hm.2.1 hm.2.2 f hK
theorem sp_VotesN {h : Hp} (f : Int) {K : Kont} (hK : K (.slice none 0 0) h) : C_accept_Acceptor_Votes [.pointer none, .int .i64 f] h K := by
  refine ok_accept_Acceptor_Votes ?_
  unfold G_accept_Acceptor_Votes
  simp (disch := (first | omega | (simp only [sz]; done) | (simp only [lz, Nat.reduceAdd, Nat.reduceLeDiff, Nat.le_refl]; done) | (simp only [sz]; omega))) only [e_pickT, e_pickF, e_alloc, e_box, e_build, e_buildSlice, e_ld1, e_ldN, e_st, e_nilCheck, e_bin, e_eq, e_not, e_conv, e_makeMap, e_fieldAddr, e_idxS, e_idxA, e_lookup, e_lookupN, e_mapUpdate, e_delete, e_clearMap, e_len0, e_len1, e_len2, e_len2n, e_extract, e_ifT, e_ifF, e_gTT, e_gFF, e_gTF, e_gFT, e_hTT, e_hFF, e_hTF, e_hFT, e_gU, e_hU, e_minmax, e_field1, b_add, b_sub, b_mul, b_quo, b_rem, b_eql, b_neq, b_lss, b_leq, b_gtr, b_geq, Int.cast_ofNat_Int, decide_true, decide_false, Int.reduceLT, Int.reduceLE, Int.reduceEq, List.toList_toArray, rdC_eq, Bool.false_eq_true, if_false, Bool.true_eq_false, onS_some, asCells_cells, asMap_map, cellAt_cells, g_push_lt, g_push_eq, g_set_eq, g_set_ne, wrap_i, wrap_u, Option.bind_some, Array.size_push, Array.size_setIfInBounds, List.size_toArray, List.length_cons, List.length_nil, List.getElem?_toArray, List.getElem?_cons_zero, List.getElem?_cons_succ, List.setIfInBounds_toArray, List.set_cons_zero, List.set_cons_succ, Nat.reduceAdd, Nat.zero_add, Nat.add_zero, true_and, and_true, Value.cells, setL, rdN, bfill, one, List.all_cons, List.all_nil, Bool.and_self, Option.map_some, Nat.reduceLeDiff, Nat.le_refl, if_true, Option.isNone_some, Option.isNone_none, eqV, Bool.not_true, Bool.not_false, Nat.zero_mul, Nat.reduceMul, lookRes]
  exact hK
theorem sp_PrepareN {h : Hp} (b f : Value) {K : Kont} (hK : K (.tuple #[.slice none 0 0, .int .i64 2]) h) : C_accept_Acceptor_Prepare [.pointer none, b, f] h K := by
  refine ok_accept_Acceptor_Prepare ?_
  unfold G_accept_Acceptor_Prepare
  simp (disch := (first | omega | (simp only [sz]; done) | (simp only [lz, Nat.reduceAdd, Nat.reduceLeDiff, Nat.le_refl]; done) | (simp only [sz]; omega))) only [e_pickT, e_pickF, e_alloc, e_box, e_build, e_buildSlice, e_ld1, e_ldN, e_st, e_nilCheck, e_bin, e_eq, e_not, e_conv, e_makeMap, e_fieldAddr, e_idxS, e_idxA, e_lookup, e_lookupN, e_mapUpdate, e_delete, e_clearMap, e_len0, e_len1, e_len2, e_len2n, e_extract, e_ifT, e_ifF, e_gTT, e_gFF, e_gTF, e_gFT, e_hTT, e_hFF, e_hTF, e_hFT, e_gU, e_hU, e_minmax, e_field1, b_add, b_sub, b_mul, b_quo, b_rem, b_eql, b_neq, b_lss, b_leq, b_gtr, b_geq, Int.cast_ofNat_Int, decide_true, decide_false, Int.reduceLT, Int.reduceLE, Int.reduceEq, List.toList_toArray, rdC_eq, Bool.false_eq_true, if_false, Bool.true_eq_false, onS_some, asCells_cells, asMap_map, cellAt_cells, g_push_lt, g_push_eq, g_set_eq, g_set_ne, wrap_i, wrap_u, Option.bind_some, Array.size_push, Array.size_setIfInBounds, List.size_toArray, List.length_cons, List.length_nil, List.getElem?_toArray, List.getElem?_cons_zero, List.getElem?_cons_succ, List.setIfInBounds_toArray, List.set_cons_zero, List.set_cons_succ, Nat.reduceAdd, Nat.zero_add, Nat.add_zero, true_and, and_true, Value.cells, setL, rdN, bfill, one, List.all_cons, List.all_nil, Bool.and_self, Option.map_some, Nat.reduceLeDiff, Nat.le_refl, if_true, Option.isNone_some, Option.isNone_none, eqV, Bool.not_true, Bool.not_false, Nat.zero_mul, Nat.reduceMul, lookRes]
  exact hK
theorem sp_AcceptN {h : Hp} (hB : Base.b ≤ h.size) (b f : Value) (c : Cmd) {K : Kont} (hK : ∀ h', Ext h h' → K (.int .i64 2) h') : C_accept_Acceptor_Accept [.pointer none, b, f, cmdV c] h K := by
  refine ok_accept_Acceptor_Accept ?_
  unfold G_accept_Acceptor_Accept cmdV
  simp (disch := (first | omega | (simp only [sz]; done) | (simp only [lz, Nat.reduceAdd, Nat.reduceLeDiff, Nat.le_refl]; done) | (simp only [sz]; omega))) only [e_pickT, e_pickF, e_alloc, e_box, e_build, e_buildSlice, e_ld1, e_ldN, e_st, e_nilCheck, e_bin, e_eq, e_not, e_conv, e_makeMap, e_fieldAddr, e_idxS, e_idxA, e_lookup, e_lookupN, e_mapUpdate, e_delete, e_clearMap, e_len0, e_len1, e_len2, e_len2n, e_extract, e_ifT, e_ifF, e_gTT, e_gFF, e_gTF, e_gFT, e_hTT, e_hFF, e_hTF, e_hFT, e_gU, e_hU, e_minmax, e_field1, b_add, b_sub, b_mul, b_quo, b_rem, b_eql, b_neq, b_lss, b_leq, b_gtr, b_geq, Int.cast_ofNat_Int, decide_true, decide_false, Int.reduceLT, Int.reduceLE, Int.reduceEq, List.toList_toArray, rdC_eq, Bool.false_eq_true, if_false, Bool.true_eq_false, onS_some, asCells_cells, asMap_map, cellAt_cells, g_push_lt, g_push_eq, g_set_eq, g_set_ne, wrap_i, wrap_u, Option.bind_some, Array.size_push, Array.size_setIfInBounds, List.size_toArray, List.length_cons, List.length_nil, List.getElem?_toArray, List.getElem?_cons_zero, List.getElem?_cons_succ, List.setIfInBounds_toArray, List.set_cons_zero, List.set_cons_succ, Nat.reduceAdd, Nat.zero_add, Nat.add_zero, true_and, and_true, Value.cells, setL, rdN, bfill, one, List.all_cons, List.all_nil, Bool.and_self, Option.map_some, Nat.reduceLeDiff, Nat.le_refl, if_true, Option.isNone_some, Option.isNone_none, eqV, Bool.not_true, Bool.not_false, Nat.zero_mul, Nat.reduceMul, lookRes]
  exact hK _ (by repeat' (first | with_reducible exact Upd.refl _ | with_reducible refine Upd.push ?_ _ | with_reducible refine Upd.set ?_ _ _ ?_ | exact .inl (by (first | omega | (simp only [sz]; done) | (simp only [lz, Nat.reduceAdd, Nat.reduceLeDiff, Nat.le_refl]; done) | (simp only [sz]; omega))) | exact .inr rfl | exact .inr (by simp; done)))
theorem sp_PromisedN {h : Hp} {K : Kont} (hK : K (.int .u64 0) h) : C_accept_Acceptor_Promised [.pointer none] h K := by
  refine ok_accept_Acceptor_Promised ?_
  unfold G_accept_Acceptor_Promised
  simp (disch := (first | omega | (simp only [sz]; done) | (simp only [lz, Nat.reduceAdd, Nat.reduceLeDiff, Nat.le_refl]; done) | (simp only [sz]; omega))) only [e_pickT, e_pickF, e_alloc, e_box, e_build, e_buildSlice, e_ld1, e_ldN, e_st, e_nilCheck, e_bin, e_eq, e_not, e_conv, e_makeMap, e_fieldAddr, e_idxS, e_idxA, e_lookup, e_lookupN, e_mapUpdate, e_delete, e_clearMap, e_len0, e_len1, e_len2, e_len2n, e_extract, e_ifT, e_ifF, e_gTT, e_gFF, e_gTF, e_gFT, e_hTT, e_hFF, e_hTF, e_hFT, e_gU, e_hU, e_minmax, e_field1, b_add, b_sub, b_mul, b_quo, b_rem, b_eql, b_neq, b_lss, b_leq, b_gtr, b_geq, Int.cast_ofNat_Int, decide_true, decide_false, Int.reduceLT, Int.reduceLE, Int.reduceEq, List.toList_toArray, rdC_eq, Bool.false_eq_true, if_false, Bool.true_eq_false, onS_some, asCells_cells, asMap_map, cellAt_cells, g_push_lt, g_push_eq, g_set_eq, g_set_ne, wrap_i, wrap_u, Option.bind_some, Array.size_push, Array.size_setIfInBounds, List.size_toArray, List.length_cons, List.length_nil, List.getElem?_toArray, List.getElem?_cons_zero, List.getElem?_cons_succ, List.setIfInBounds_toArray, List.set_cons_zero, List.set_cons_succ, Nat.reduceAdd, Nat.zero_add, Nat.add_zero, true_and, and_true, Value.cells, setL, rdN, bfill, one, List.all_cons, List.all_nil, Bool.and_self, Option.map_some, Nat.reduceLeDiff, Nat.le_refl, if_true, Option.isNone_some, Option.isNone_none, eqV, Bool.not_true, Bool.not_false, Nat.zero_mul, Nat.reduceMul, lookRes]
  exact hK
theorem sp_LenN {h : Hp} {K : Kont} (hK : K (.int .i64 0) h) : C_accept_Acceptor_Len [.pointer none] h K := by
  refine ok_accept_Acceptor_Len ?_
  unfold G_accept_Acceptor_Len
  simp (disch := (first | omega | (simp only [sz]; done) | (simp only [lz, Nat.reduceAdd, Nat.reduceLeDiff, Nat.le_refl]; done) | (simp only [sz]; omega))) only [e_pickT, e_pickF, e_alloc, e_box, e_build, e_buildSlice, e_ld1, e_ldN, e_st, e_nilCheck, e_bin, e_eq, e_not, e_conv, e_makeMap, e_fieldAddr, e_idxS, e_idxA, e_lookup, e_lookupN, e_mapUpdate, e_delete, e_clearMap, e_len0, e_len1, e_len2, e_len2n, e_extract, e_ifT, e_ifF, e_gTT, e_gFF, e_gTF, e_gFT, e_hTT, e_hFF, e_hTF, e_hFT, e_gU, e_hU, e_minmax, e_field1, b_add, b_sub, b_mul, b_quo, b_rem, b_eql, b_neq, b_lss, b_leq, b_gtr, b_geq, Int.cast_ofNat_Int, decide_true, decide_false, Int.reduceLT, Int.reduceLE, Int.reduceEq, List.toList_toArray, rdC_eq, Bool.false_eq_true, if_false, Bool.true_eq_false, onS_some, asCells_cells, asMap_map, cellAt_cells, g_push_lt, g_push_eq, g_set_eq, g_set_ne, wrap_i, wrap_u, Option.bind_some, Array.size_push, Array.size_setIfInBounds, List.size_toArray, List.length_cons, List.length_nil, List.getElem?_toArray, List.getElem?_cons_zero, List.getElem?_cons_succ, List.setIfInBounds_toArray, List.set_cons_zero, List.set_cons_succ, Nat.reduceAdd, Nat.zero_add, Nat.add_zero, true_and, and_true, Value.cells, setL, rdN, bfill, one, List.all_cons, List.all_nil, Bool.and_self, Option.map_some, Nat.reduceLeDiff, Nat.le_refl, if_true, Option.isNone_some, Option.isNone_none, eqV, Bool.not_true, Bool.not_false, Nat.zero_mul, Nat.reduceMul, lookRes]
  exact hK
theorem sp_VoteN {h : Hp} (hB : Base.b ≤ h.size) (s : Value) {K : Kont} (hK : ∀ h', Ext h h' → K (.tuple #[voteV vote0, .bool false]) h') : C_accept_Acceptor_Vote [.pointer none, s] h K := by
  refine ok_accept_Acceptor_Vote ?_
  unfold G_accept_Acceptor_Vote
  simp (disch := (first | omega | (simp only [sz]; done) | (simp only [lz, Nat.reduceAdd, Nat.reduceLeDiff, Nat.le_refl]; done) | (simp only [sz]; omega))) only [e_pickT, e_pickF, e_alloc, e_box, e_build, e_buildSlice, e_ld1, e_ldN, e_st, e_nilCheck, e_bin, e_eq, e_not, e_conv, e_makeMap, e_fieldAddr, e_idxS, e_idxA, e_lookup, e_lookupN, e_mapUpdate, e_delete, e_clearMap, e_len0, e_len1, e_len2, e_len2n, e_extract, e_ifT, e_ifF, e_gTT, e_gFF, e_gTF, e_gFT, e_hTT, e_hFF, e_hTF, e_hFT, e_gU, e_hU, e_minmax, e_field1, b_add, b_sub, b_mul, b_quo, b_rem, b_eql, b_neq, b_lss, b_leq, b_gtr, b_geq, Int.cast_ofNat_Int, decide_true, decide_false, Int.reduceLT, Int.reduceLE, Int.reduceEq, List.toList_toArray, rdC_eq, Bool.false_eq_true, if_false, Bool.true_eq_false, onS_some, asCells_cells, asMap_map, cellAt_cells, g_push_lt, g_push_eq, g_set_eq, g_set_ne, wrap_i, wrap_u, Option.bind_some, Array.size_push, Array.size_setIfInBounds, List.size_toArray, List.length_cons, List.length_nil, List.getElem?_toArray, List.getElem?_cons_zero, List.getElem?_cons_succ, List.setIfInBounds_toArray, List.set_cons_zero, List.set_cons_succ, Nat.reduceAdd, Nat.zero_add, Nat.add_zero, true_and, and_true, Value.cells, setL, rdN, bfill, one, List.all_cons, List.all_nil, Bool.and_self, Option.map_some, Nat.reduceLeDiff, Nat.le_refl, if_true, Option.isNone_some, Option.isNone_none, eqV, Bool.not_true, Bool.not_false, Nat.zero_mul, Nat.reduceMul, lookRes]
  exact hK _ (by repeat' (first | with_reducible exact Upd.refl _ | with_reducible refine Upd.push ?_ _ | with_reducible refine Upd.set ?_ _ _ ?_ | exact .inl (by (first | omega | (simp only [sz]; done) | (simp only [lz, Nat.reduceAdd, Nat.reduceLeDiff, Nat.le_refl]; done) | (simp only [sz]; omega))) | exact .inr rfl | exact .inr (by simp; done)))

theorem sp_Prepare {h : Hp} (hB : Base.b ≤ h.size) {p r : Nat} {prom : Int} {m : List (Int × Vote)} (hA : Acc h p r prom m) (hm : keysIn m) {b : Int} (hb : u64ok b) (f : Int) {K : Kont}
    (hK : ∀ v h', Acc h' p r (mPrepP prom b f) m → Upd (fun x => x = p) h h' → Own h' h.size 6 vcells v (mPrepL prom m b f) → K (.tuple #[v, .int .i64 (mPrepE prom b f)]) h') :
    C_accept_Acceptor_Prepare [pt p 0, .int .u64 b, .int .i64 f] h K := by
  refine ok_accept_Acceptor_Prepare ?_
  have h1 := hA.blk
  have h2 := hA.map
  have l1 := lt_of_get h1
  have hpr : p ≠ r := by rintro rfl; rw [h1] at h2; cases h2
  unfold G_accept_Acceptor_Prepare
  simp (disch := (first | omega | (simp only [sz]; done) | (simp only [lz, Nat.reduceAdd, Nat.reduceLeDiff, Nat.le_refl]; done) | (simp only [sz]; omega))) only [e_pickT, e_pickF, e_alloc, e_box, e_build, e_buildSlice, e_ld1, e_ldN, e_st, e_nilCheck, e_bin, e_eq, e_not, e_conv, e_makeMap, e_fieldAddr, e_idxS, e_idxA, e_lookup, e_lookupN, e_mapUpdate, e_delete, e_clearMap, e_len0, e_len1, e_len2, e_len2n, e_extract, e_ifT, e_ifF, e_gTT, e_gFF, e_gTF, e_gFT, e_hTT, e_hFF, e_hTF, e_hFT, e_gU, e_hU, e_minmax, e_field1, b_add, b_sub, b_mul, b_quo, b_rem, b_eql, b_neq, b_lss, b_leq, b_gtr, b_geq, Int.cast_ofNat_Int, decide_true, decide_false, Int.reduceLT, Int.reduceLE, Int.reduceEq, List.toList_toArray, rdC_eq, Bool.false_eq_true, if_false, Bool.true_eq_false, onS_some, asCells_cells, asMap_map, cellAt_cells, g_push_lt, g_push_eq, g_set_eq, g_set_ne, wrap_i, wrap_u, Option.bind_some, Array.size_push, Array.size_setIfInBounds, List.size_toArray, List.length_cons, List.length_nil, List.getElem?_toArray, List.getElem?_cons_zero, List.getElem?_cons_succ, List.setIfInBounds_toArray, List.set_cons_zero, List.set_cons_succ, Nat.reduceAdd, Nat.zero_add, Nat.add_zero, true_and, and_true, Value.cells, setL, rdN, bfill, one, List.all_cons, List.all_nil, Bool.and_self, Option.map_some, Nat.reduceLeDiff, Nat.le_refl, if_true, Option.isNone_some, Option.isNone_none, eqV, Bool.not_true, Bool.not_false, Nat.zero_mul, Nat.reduceMul, lookRes]
  refine sp_ballotIs hb ?_
  cases hi : isB b with
  | false =>
    have e : mPrepE prom b f = 1 := by unfold mPrepE; simp [hi]
    simp only [mPrepP, mPrepL, e] at hK
    simp (disch := (first | omega | (simp only [sz]; done) | (simp only [lz, Nat.reduceAdd, Nat.reduceLeDiff, Nat.le_refl]; done) | (simp only [sz]; omega))) only [e_pickT, e_pickF, e_alloc, e_box, e_build, e_buildSlice, e_ld1, e_ldN, e_st, e_nilCheck, e_bin, e_eq, e_not, e_conv, e_makeMap, e_fieldAddr, e_idxS, e_idxA, e_lookup, e_lookupN, e_mapUpdate, e_delete, e_clearMap, e_len0, e_len1, e_len2, e_len2n, e_extract, e_ifT, e_ifF, e_gTT, e_gFF, e_gTF, e_gFT, e_hTT, e_hFF, e_hTF, e_hFT, e_gU, e_hU, e_minmax, e_field1, b_add, b_sub, b_mul, b_quo, b_rem, b_eql, b_neq, b_lss, b_leq, b_gtr, b_geq, Int.cast_ofNat_Int, decide_true, decide_false, Int.reduceLT, Int.reduceLE, Int.reduceEq, List.toList_toArray, rdC_eq, Bool.false_eq_true, if_false, Bool.true_eq_false, onS_some, asCells_cells, asMap_map, cellAt_cells, g_push_lt, g_push_eq, g_set_eq, g_set_ne, wrap_i, wrap_u, Option.bind_some, Array.size_push, Array.size_setIfInBounds, List.size_toArray, List.length_cons, List.length_nil, List.getElem?_toArray, List.getElem?_cons_zero, List.getElem?_cons_succ, List.setIfInBounds_toArray, List.set_cons_zero, List.set_cons_succ, Nat.reduceAdd, Nat.zero_add, Nat.add_zero, true_and, and_true, Value.cells, setL, rdN, bfill, one, List.all_cons, List.all_nil, Bool.and_self, Option.map_some, Nat.reduceLeDiff, Nat.le_refl, if_true, Option.isNone_some, Option.isNone_none, eqV, Bool.not_true, Bool.not_false, Nat.zero_mul, Nat.reduceMul, lookRes]
    exact hK _ _ hA (Upd.refl _) Own.nil
  | true =>
    by_cases h3 : f < 0
    · have e : mPrepE prom b f = 1 := by unfold mPrepE; simp [h3]
      simp only [mPrepP, mPrepL, e] at hK
      simp (disch := (first | omega | (simp only [sz]; done) | (simp only [lz, Nat.reduceAdd, Nat.reduceLeDiff, Nat.le_refl]; done) | (simp only [sz]; omega))) only [e_pickT, e_pickF, e_alloc, e_box, e_build, e_buildSlice, e_ld1, e_ldN, e_st, e_nilCheck, e_bin, e_eq, e_not, e_conv, e_makeMap, e_fieldAddr, e_idxS, e_idxA, e_lookup, e_lookupN, e_mapUpdate, e_delete, e_clearMap, e_len0, e_len1, e_len2, e_len2n, e_extract, e_ifT, e_ifF, e_gTT, e_gFF, e_gTF, e_gFT, e_hTT, e_hFF, e_hTF, e_hFT, e_gU, e_hU, e_minmax, e_field1, b_add, b_sub, b_mul, b_quo, b_rem, b_eql, b_neq, b_lss, b_leq, b_gtr, b_geq, Int.cast_ofNat_Int, decide_true, decide_false, Int.reduceLT, Int.reduceLE, Int.reduceEq, List.toList_toArray, rdC_eq, Bool.false_eq_true, if_false, Bool.true_eq_false, onS_some, asCells_cells, asMap_map, cellAt_cells, g_push_lt, g_push_eq, g_set_eq, g_set_ne, wrap_i, wrap_u, Option.bind_some, Array.size_push, Array.size_setIfInBounds, List.size_toArray, List.length_cons, List.length_nil, List.getElem?_toArray, List.getElem?_cons_zero, List.getElem?_cons_succ, List.setIfInBounds_toArray, List.set_cons_zero, List.set_cons_succ, Nat.reduceAdd, Nat.zero_add, Nat.add_zero, true_and, and_true, Value.cells, setL, rdN, bfill, one, List.all_cons, List.all_nil, Bool.and_self, Option.map_some, Nat.reduceLeDiff, Nat.le_refl, if_true, Option.isNone_some, Option.isNone_none, eqV, Bool.not_true, Bool.not_false, Nat.zero_mul, Nat.reduceMul, lookRes, decide_eq_true h3]
      exact hK _ _ hA (Upd.refl _) Own.nil
    by_cases h4 : 512 < f
    · have e : mPrepE prom b f = 1 := by unfold mPrepE; simp [h4]
      simp only [mPrepP, mPrepL, e] at hK
      simp (disch := (first | omega | (simp only [sz]; done) | (simp only [lz, Nat.reduceAdd, Nat.reduceLeDiff, Nat.le_refl]; done) | (simp only [sz]; omega))) only [e_pickT, e_pickF, e_alloc, e_box, e_build, e_buildSlice, e_ld1, e_ldN, e_st, e_nilCheck, e_bin, e_eq, e_not, e_conv, e_makeMap, e_fieldAddr, e_idxS, e_idxA, e_lookup, e_lookupN, e_mapUpdate, e_delete, e_clearMap, e_len0, e_len1, e_len2, e_len2n, e_extract, e_ifT, e_ifF, e_gTT, e_gFF, e_gTF, e_gFT, e_hTT, e_hFF, e_hTF, e_hFT, e_gU, e_hU, e_minmax, e_field1, b_add, b_sub, b_mul, b_quo, b_rem, b_eql, b_neq, b_lss, b_leq, b_gtr, b_geq, Int.cast_ofNat_Int, decide_true, decide_false, Int.reduceLT, Int.reduceLE, Int.reduceEq, List.toList_toArray, rdC_eq, Bool.false_eq_true, if_false, Bool.true_eq_false, onS_some, asCells_cells, asMap_map, cellAt_cells, g_push_lt, g_push_eq, g_set_eq, g_set_ne, wrap_i, wrap_u, Option.bind_some, Array.size_push, Array.size_setIfInBounds, List.size_toArray, List.length_cons, List.length_nil, List.getElem?_toArray, List.getElem?_cons_zero, List.getElem?_cons_succ, List.setIfInBounds_toArray, List.set_cons_zero, List.set_cons_succ, Nat.reduceAdd, Nat.zero_add, Nat.add_zero, true_and, and_true, Value.cells, setL, rdN, bfill, one, List.all_cons, List.all_nil, Bool.and_self, Option.map_some, Nat.reduceLeDiff, Nat.le_refl, if_true, Option.isNone_some, Option.isNone_none, eqV, Bool.not_true, Bool.not_false, Nat.zero_mul, Nat.reduceMul, lookRes, decide_eq_false h3, decide_eq_true h4]
      exact hK _ _ hA (Upd.refl _) Own.nil
    have h34 : ¬ (isB b = false ∨ f < 0 ∨ 512 < f) := by
      rintro (h | h | h)
      · rw [hi] at h; cases h
      · omega
      · omega
    by_cases h5 : b < prom
    · have e : mPrepE prom b f = 10 := by unfold mPrepE; rw [if_neg h34, if_pos h5]
      simp only [mPrepP, mPrepL, e] at hK
      simp (disch := (first | omega | (simp only [sz]; done) | (simp only [lz, Nat.reduceAdd, Nat.reduceLeDiff, Nat.le_refl]; done) | (simp only [sz]; omega))) only [e_pickT, e_pickF, e_alloc, e_box, e_build, e_buildSlice, e_ld1, e_ldN, e_st, e_nilCheck, e_bin, e_eq, e_not, e_conv, e_makeMap, e_fieldAddr, e_idxS, e_idxA, e_lookup, e_lookupN, e_mapUpdate, e_delete, e_clearMap, e_len0, e_len1, e_len2, e_len2n, e_extract, e_ifT, e_ifF, e_gTT, e_gFF, e_gTF, e_gFT, e_hTT, e_hFF, e_hTF, e_hFT, e_gU, e_hU, e_minmax, e_field1, b_add, b_sub, b_mul, b_quo, b_rem, b_eql, b_neq, b_lss, b_leq, b_gtr, b_geq, Int.cast_ofNat_Int, decide_true, decide_false, Int.reduceLT, Int.reduceLE, Int.reduceEq, List.toList_toArray, rdC_eq, Bool.false_eq_true, if_false, Bool.true_eq_false, onS_some, asCells_cells, asMap_map, cellAt_cells, g_push_lt, g_push_eq, g_set_eq, g_set_ne, wrap_i, wrap_u, Option.bind_some, Array.size_push, Array.size_setIfInBounds, List.size_toArray, List.length_cons, List.length_nil, List.getElem?_toArray, List.getElem?_cons_zero, List.getElem?_cons_succ, List.setIfInBounds_toArray, List.set_cons_zero, List.set_cons_succ, Nat.reduceAdd, Nat.zero_add, Nat.add_zero, true_and, and_true, Value.cells, setL, rdN, bfill, one, List.all_cons, List.all_nil, Bool.and_self, Option.map_some, Nat.reduceLeDiff, Nat.le_refl, if_true, Option.isNone_some, Option.isNone_none, eqV, Bool.not_true, Bool.not_false, Nat.zero_mul, Nat.reduceMul, lookRes, decide_eq_false h3, decide_eq_false h4, h1, decide_eq_true h5]
      exact hK _ _ hA (Upd.refl _) Own.nil
    · have e : mPrepE prom b f = 0 := by unfold mPrepE; rw [if_neg h34, if_neg h5]
      simp only [mPrepP, mPrepL, e, if_true] at hK
      simp (disch := (first | omega | (simp only [sz]; done) | (simp only [lz, Nat.reduceAdd, Nat.reduceLeDiff, Nat.le_refl]; done) | (simp only [sz]; omega))) only [e_pickT, e_pickF, e_alloc, e_box, e_build, e_buildSlice, e_ld1, e_ldN, e_st, e_nilCheck, e_bin, e_eq, e_not, e_conv, e_makeMap, e_fieldAddr, e_idxS, e_idxA, e_lookup, e_lookupN, e_mapUpdate, e_delete, e_clearMap, e_len0, e_len1, e_len2, e_len2n, e_extract, e_ifT, e_ifF, e_gTT, e_gFF, e_gTF, e_gFT, e_hTT, e_hFF, e_hTF, e_hFT, e_gU, e_hU, e_minmax, e_field1, b_add, b_sub, b_mul, b_quo, b_rem, b_eql, b_neq, b_lss, b_leq, b_gtr, b_geq, Int.cast_ofNat_Int, decide_true, decide_false, Int.reduceLT, Int.reduceLE, Int.reduceEq, List.toList_toArray, rdC_eq, Bool.false_eq_true, if_false, Bool.true_eq_false, onS_some, asCells_cells, asMap_map, cellAt_cells, g_push_lt, g_push_eq, g_set_eq, g_set_ne, wrap_i, wrap_u, Option.bind_some, Array.size_push, Array.size_setIfInBounds, List.size_toArray, List.length_cons, List.length_nil, List.getElem?_toArray, List.getElem?_cons_zero, List.getElem?_cons_succ, List.setIfInBounds_toArray, List.set_cons_zero, List.set_cons_succ, Nat.reduceAdd, Nat.zero_add, Nat.add_zero, true_and, and_true, Value.cells, setL, rdN, bfill, one, List.all_cons, List.all_nil, Bool.and_self, Option.map_some, Nat.reduceLeDiff, Nat.le_refl, if_true, Option.isNone_some, Option.isNone_none, eqV, Bool.not_true, Bool.not_false, Nat.zero_mul, Nat.reduceMul, lookRes, decide_eq_false h3, decide_eq_false h4, h1, decide_eq_false h5]
      have hA' : Acc (h.setIfInBounds p (.cells #[.int .u64 b, .map (some r)])) p r b m := ⟨by rw [g_set_eq l1 rfl], by rw [g_set_ne hpr]; exact h2⟩
      refine sp_Votes (by simpa using hB) hA' hm f ?_
      intro v h' x ho
      refine hK _ _ ⟨x.get hA'.blk id, x.get hA'.map id⟩ ?_ (by simpa using ho)
      exact Upd.trans (Upd.set (Upd.refl _) _ _ (.inr rfl)) (x.mono (fun _ _ h => h.elim))

set_option maxHeartbeats 4000000 in
theorem sp_Accept {h : Hp} (hB : Base.b ≤ h.size) {p r : Nat} {prom : Int} {m : List (Int × Vote)} (hA : Acc h p r prom m) {b : Int} (hb : u64ok b) (s : Int) (c : Cmd) {K : Kont}
    (hK : ∀ h', Acc h' p r (mAccP prom b s c) (mAccM prom m b s c) → Upd (fun x => x = p ∨ x = r) h h' → K (.int .i64 (mAccE prom b s c)) h') :
    C_accept_Acceptor_Accept [pt p 0, .int .u64 b, .int .i64 s, cmdV c] h K := by
  refine ok_accept_Acceptor_Accept ?_
  have h1 := hA.blk
  have h2 := hA.map
  have l1 := lt_of_get h1
  have l2 := lt_of_get h2
  have hpr : p ≠ r := by rintro rfl; rw [h1] at h2; cases h2
  unfold G_accept_Acceptor_Accept
  obtain ⟨ck, cc, ce, cn⟩ := c
  unfold cmdV
  have x1 : Ext h (h.push (.cells #[.int .i64 ck, .int .i64 cc, .int .u64 ce, .int .i64 cn])) := Upd.push (Upd.refl _) _
  have hA1 : Acc (h.push (.cells #[.int .i64 ck, .int .i64 cc, .int .u64 ce, .int .i64 cn])) p r prom m := ⟨x1.get h1 id, x1.get h2 id⟩
  simp (disch := (first | omega | (simp only [sz]; done) | (simp only [lz, Nat.reduceAdd, Nat.reduceLeDiff, Nat.le_refl]; done) | (simp only [sz]; omega))) only [e_pickT, e_pickF, e_alloc, e_box, e_build, e_buildSlice, e_ld1, e_ldN, e_st, e_nilCheck, e_bin, e_eq, e_not, e_conv, e_makeMap, e_fieldAddr, e_idxS, e_idxA, e_lookup, e_lookupN, e_mapUpdate, e_delete, e_clearMap, e_len0, e_len1, e_len2, e_len2n, e_extract, e_ifT, e_ifF, e_gTT, e_gFF, e_gTF, e_gFT, e_hTT, e_hFF, e_hTF, e_hFT, e_gU, e_hU, e_minmax, e_field1, b_add, b_sub, b_mul, b_quo, b_rem, b_eql, b_neq, b_lss, b_leq, b_gtr, b_geq, Int.cast_ofNat_Int, decide_true, decide_false, Int.reduceLT, Int.reduceLE, Int.reduceEq, List.toList_toArray, rdC_eq, Bool.false_eq_true, if_false, Bool.true_eq_false, onS_some, asCells_cells, asMap_map, cellAt_cells, g_push_lt, g_push_eq, g_set_eq, g_set_ne, wrap_i, wrap_u, Option.bind_some, Array.size_push, Array.size_setIfInBounds, List.size_toArray, List.length_cons, List.length_nil, List.getElem?_toArray, List.getElem?_cons_zero, List.getElem?_cons_succ, List.setIfInBounds_toArray, List.set_cons_zero, List.set_cons_succ, Nat.reduceAdd, Nat.zero_add, Nat.add_zero, true_and, and_true, Value.cells, setL, rdN, bfill, one, List.all_cons, List.all_nil, Bool.and_self, Option.map_some, Nat.reduceLeDiff, Nat.le_refl, if_true, Option.isNone_some, Option.isNone_none, eqV, Bool.not_true, Bool.not_false, Nat.zero_mul, Nat.reduceMul, lookRes]
  refine sp_ballotIs hb ?_
  cases hi : isB b with
  | false =>
    have e : mAccE prom b s ⟨ck, cc, ce, cn⟩ = 1 := by unfold mAccE; simp [hi]
    simp only [mAccP, mAccM, e] at hK
    simp (disch := (first | omega | (simp only [sz]; done) | (simp only [lz, Nat.reduceAdd, Nat.reduceLeDiff, Nat.le_refl]; done) | (simp only [sz]; omega))) only [e_pickT, e_pickF, e_alloc, e_box, e_build, e_buildSlice, e_ld1, e_ldN, e_st, e_nilCheck, e_bin, e_eq, e_not, e_conv, e_makeMap, e_fieldAddr, e_idxS, e_idxA, e_lookup, e_lookupN, e_mapUpdate, e_delete, e_clearMap, e_len0, e_len1, e_len2, e_len2n, e_extract, e_ifT, e_ifF, e_gTT, e_gFF, e_gTF, e_gFT, e_hTT, e_hFF, e_hTF, e_hFT, e_gU, e_hU, e_minmax, e_field1, b_add, b_sub, b_mul, b_quo, b_rem, b_eql, b_neq, b_lss, b_leq, b_gtr, b_geq, Int.cast_ofNat_Int, decide_true, decide_false, Int.reduceLT, Int.reduceLE, Int.reduceEq, List.toList_toArray, rdC_eq, Bool.false_eq_true, if_false, Bool.true_eq_false, onS_some, asCells_cells, asMap_map, cellAt_cells, g_push_lt, g_push_eq, g_set_eq, g_set_ne, wrap_i, wrap_u, Option.bind_some, Array.size_push, Array.size_setIfInBounds, List.size_toArray, List.length_cons, List.length_nil, List.getElem?_toArray, List.getElem?_cons_zero, List.getElem?_cons_succ, List.setIfInBounds_toArray, List.set_cons_zero, List.set_cons_succ, Nat.reduceAdd, Nat.zero_add, Nat.add_zero, true_and, and_true, Value.cells, setL, rdN, bfill, one, List.all_cons, List.all_nil, Bool.and_self, Option.map_some, Nat.reduceLeDiff, Nat.le_refl, if_true, Option.isNone_some, Option.isNone_none, eqV, Bool.not_true, Bool.not_false, Nat.zero_mul, Nat.reduceMul, lookRes]
    exact hK _ hA1 (x1.mono (fun _ _ h => h.elim))
  | true =>
    by_cases h3 : s < 0
    · have e : mAccE prom b s ⟨ck, cc, ce, cn⟩ = 1 := by unfold mAccE; simp [h3]
      simp only [mAccP, mAccM, e] at hK
      simp (disch := (first | omega | (simp only [sz]; done) | (simp only [lz, Nat.reduceAdd, Nat.reduceLeDiff, Nat.le_refl]; done) | (simp only [sz]; omega))) only [e_pickT, e_pickF, e_alloc, e_box, e_build, e_buildSlice, e_ld1, e_ldN, e_st, e_nilCheck, e_bin, e_eq, e_not, e_conv, e_makeMap, e_fieldAddr, e_idxS, e_idxA, e_lookup, e_lookupN, e_mapUpdate, e_delete, e_clearMap, e_len0, e_len1, e_len2, e_len2n, e_extract, e_ifT, e_ifF, e_gTT, e_gFF, e_gTF, e_gFT, e_hTT, e_hFF, e_hTF, e_hFT, e_gU, e_hU, e_minmax, e_field1, b_add, b_sub, b_mul, b_quo, b_rem, b_eql, b_neq, b_lss, b_leq, b_gtr, b_geq, Int.cast_ofNat_Int, decide_true, decide_false, Int.reduceLT, Int.reduceLE, Int.reduceEq, List.toList_toArray, rdC_eq, Bool.false_eq_true, if_false, Bool.true_eq_false, onS_some, asCells_cells, asMap_map, cellAt_cells, g_push_lt, g_push_eq, g_set_eq, g_set_ne, wrap_i, wrap_u, Option.bind_some, Array.size_push, Array.size_setIfInBounds, List.size_toArray, List.length_cons, List.length_nil, List.getElem?_toArray, List.getElem?_cons_zero, List.getElem?_cons_succ, List.setIfInBounds_toArray, List.set_cons_zero, List.set_cons_succ, Nat.reduceAdd, Nat.zero_add, Nat.add_zero, true_and, and_true, Value.cells, setL, rdN, bfill, one, List.all_cons, List.all_nil, Bool.and_self, Option.map_some, Nat.reduceLeDiff, Nat.le_refl, if_true, Option.isNone_some, Option.isNone_none, eqV, Bool.not_true, Bool.not_false, Nat.zero_mul, Nat.reduceMul, lookRes, decide_eq_true h3]
      exact hK _ hA1 (x1.mono (fun _ _ h => h.elim))
    by_cases h4 : 512 ≤ s
    · have e : mAccE prom b s ⟨ck, cc, ce, cn⟩ = 1 := by unfold mAccE; simp [h4]
      simp only [mAccP, mAccM, e] at hK
      simp (disch := (first | omega | (simp only [sz]; done) | (simp only [lz, Nat.reduceAdd, Nat.reduceLeDiff, Nat.le_refl]; done) | (simp only [sz]; omega))) only [e_pickT, e_pickF, e_alloc, e_box, e_build, e_buildSlice, e_ld1, e_ldN, e_st, e_nilCheck, e_bin, e_eq, e_not, e_conv, e_makeMap, e_fieldAddr, e_idxS, e_idxA, e_lookup, e_lookupN, e_mapUpdate, e_delete, e_clearMap, e_len0, e_len1, e_len2, e_len2n, e_extract, e_ifT, e_ifF, e_gTT, e_gFF, e_gTF, e_gFT, e_hTT, e_hFF, e_hTF, e_hFT, e_gU, e_hU, e_minmax, e_field1, b_add, b_sub, b_mul, b_quo, b_rem, b_eql, b_neq, b_lss, b_leq, b_gtr, b_geq, Int.cast_ofNat_Int, decide_true, decide_false, Int.reduceLT, Int.reduceLE, Int.reduceEq, List.toList_toArray, rdC_eq, Bool.false_eq_true, if_false, Bool.true_eq_false, onS_some, asCells_cells, asMap_map, cellAt_cells, g_push_lt, g_push_eq, g_set_eq, g_set_ne, wrap_i, wrap_u, Option.bind_some, Array.size_push, Array.size_setIfInBounds, List.size_toArray, List.length_cons, List.length_nil, List.getElem?_toArray, List.getElem?_cons_zero, List.getElem?_cons_succ, List.setIfInBounds_toArray, List.set_cons_zero, List.set_cons_succ, Nat.reduceAdd, Nat.zero_add, Nat.add_zero, true_and, and_true, Value.cells, setL, rdN, bfill, one, List.all_cons, List.all_nil, Bool.and_self, Option.map_some, Nat.reduceLeDiff, Nat.le_refl, if_true, Option.isNone_some, Option.isNone_none, eqV, Bool.not_true, Bool.not_false, Nat.zero_mul, Nat.reduceMul, lookRes, decide_eq_false h3, decide_eq_true h4]
      exact hK _ hA1 (x1.mono (fun _ _ h => h.elim))
    have h34 : ¬ (isB b = false ∨ s < 0 ∨ 512 ≤ s) := by
      rintro (h | h | h)
      · rw [hi] at h; cases h
      · omega
      · omega
    simp (disch := (first | omega | (simp only [sz]; done) | (simp only [lz, Nat.reduceAdd, Nat.reduceLeDiff, Nat.le_refl]; done) | (simp only [sz]; omega))) only [e_pickT, e_pickF, e_alloc, e_box, e_build, e_buildSlice, e_ld1, e_ldN, e_st, e_nilCheck, e_bin, e_eq, e_not, e_conv, e_makeMap, e_fieldAddr, e_idxS, e_idxA, e_lookup, e_lookupN, e_mapUpdate, e_delete, e_clearMap, e_len0, e_len1, e_len2, e_len2n, e_extract, e_ifT, e_ifF, e_gTT, e_gFF, e_gTF, e_gFT, e_hTT, e_hFF, e_hTF, e_hFT, e_gU, e_hU, e_minmax, e_field1, b_add, b_sub, b_mul, b_quo, b_rem, b_eql, b_neq, b_lss, b_leq, b_gtr, b_geq, Int.cast_ofNat_Int, decide_true, decide_false, Int.reduceLT, Int.reduceLE, Int.reduceEq, List.toList_toArray, rdC_eq, Bool.false_eq_true, if_false, Bool.true_eq_false, onS_some, asCells_cells, asMap_map, cellAt_cells, g_push_lt, g_push_eq, g_set_eq, g_set_ne, wrap_i, wrap_u, Option.bind_some, Array.size_push, Array.size_setIfInBounds, List.size_toArray, List.length_cons, List.length_nil, List.getElem?_toArray, List.getElem?_cons_zero, List.getElem?_cons_succ, List.setIfInBounds_toArray, List.set_cons_zero, List.set_cons_succ, Nat.reduceAdd, Nat.zero_add, Nat.add_zero, true_and, and_true, Value.cells, setL, rdN, bfill, one, List.all_cons, List.all_nil, Bool.and_self, Option.map_some, Nat.reduceLeDiff, Nat.le_refl, if_true, Option.isNone_some, Option.isNone_none, eqV, Bool.not_true, Bool.not_false, Nat.zero_mul, Nat.reduceMul, lookRes, decide_eq_false h3, decide_eq_false h4]
    refine sp_Check (by simp; omega) ⟨ck, cc, ce, cn⟩ ?_
    intro h' x
    have x2 := x1.trans x
    have hc' := x.get (r := h.size) (g_push_eq rfl) id
    have l3 := x.1
    simp only [Array.size_push] at l3
    have hA2 : Acc h' p r prom m := ⟨x2.get h1 id, x2.get h2 id⟩
    by_cases h5 : checkC ⟨ck, cc, ce, cn⟩ = 0
    · by_cases h6 : b < prom
      · have e : mAccE prom b s ⟨ck, cc, ce, cn⟩ = 10 := by unfold mAccE; rw [if_neg h34, if_neg (by simp [h5]), if_pos h6]
        simp only [mAccP, mAccM, e] at hK
        simp (disch := (first | omega | (simp only [sz]; done) | (simp only [lz, Nat.reduceAdd, Nat.reduceLeDiff, Nat.le_refl]; done) | (simp only [sz]; omega))) only [e_pickT, e_pickF, e_alloc, e_box, e_build, e_buildSlice, e_ld1, e_ldN, e_st, e_nilCheck, e_bin, e_eq, e_not, e_conv, e_makeMap, e_fieldAddr, e_idxS, e_idxA, e_lookup, e_lookupN, e_mapUpdate, e_delete, e_clearMap, e_len0, e_len1, e_len2, e_len2n, e_extract, e_ifT, e_ifF, e_gTT, e_gFF, e_gTF, e_gFT, e_hTT, e_hFF, e_hTF, e_hFT, e_gU, e_hU, e_minmax, e_field1, b_add, b_sub, b_mul, b_quo, b_rem, b_eql, b_neq, b_lss, b_leq, b_gtr, b_geq, Int.cast_ofNat_Int, decide_true, decide_false, Int.reduceLT, Int.reduceLE, Int.reduceEq, List.toList_toArray, rdC_eq, Bool.false_eq_true, if_false, Bool.true_eq_false, onS_some, asCells_cells, asMap_map, cellAt_cells, g_push_lt, g_push_eq, g_set_eq, g_set_ne, wrap_i, wrap_u, Option.bind_some, Array.size_push, Array.size_setIfInBounds, List.size_toArray, List.length_cons, List.length_nil, List.getElem?_toArray, List.getElem?_cons_zero, List.getElem?_cons_succ, List.setIfInBounds_toArray, List.set_cons_zero, List.set_cons_succ, Nat.reduceAdd, Nat.zero_add, Nat.add_zero, true_and, and_true, Value.cells, setL, rdN, bfill, one, List.all_cons, List.all_nil, Bool.and_self, Option.map_some, Nat.reduceLeDiff, Nat.le_refl, if_true, Option.isNone_some, Option.isNone_none, eqV, Bool.not_true, Bool.not_false, Nat.zero_mul, Nat.reduceMul, lookRes, h5, hA2.blk, decide_eq_true h6]
        exact hK _ hA2 (x2.mono (fun _ _ h => h.elim))
      · have e : mAccE prom b s ⟨ck, cc, ce, cn⟩ = 0 := by unfold mAccE; rw [if_neg h34, if_neg (by simp [h5]), if_neg h6]
        simp only [mAccP, mAccM, e, if_true] at hK
        simp (disch := (first | omega | (simp only [sz]; done) | (simp only [lz, Nat.reduceAdd, Nat.reduceLeDiff, Nat.le_refl]; done) | (simp only [sz]; omega))) only [e_pickT, e_pickF, e_alloc, e_box, e_build, e_buildSlice, e_ld1, e_ldN, e_st, e_nilCheck, e_bin, e_eq, e_not, e_conv, e_makeMap, e_fieldAddr, e_idxS, e_idxA, e_lookup, e_lookupN, e_mapUpdate, e_delete, e_clearMap, e_len0, e_len1, e_len2, e_len2n, e_extract, e_ifT, e_ifF, e_gTT, e_gFF, e_gTF, e_gFT, e_hTT, e_hFF, e_hTF, e_hFT, e_gU, e_hU, e_minmax, e_field1, b_add, b_sub, b_mul, b_quo, b_rem, b_eql, b_neq, b_lss, b_leq, b_gtr, b_geq, Int.cast_ofNat_Int, decide_true, decide_false, Int.reduceLT, Int.reduceLE, Int.reduceEq, List.toList_toArray, rdC_eq, Bool.false_eq_true, if_false, Bool.true_eq_false, onS_some, asCells_cells, asMap_map, cellAt_cells, g_push_lt, g_push_eq, g_set_eq, g_set_ne, wrap_i, wrap_u, Option.bind_some, Array.size_push, Array.size_setIfInBounds, List.size_toArray, List.length_cons, List.length_nil, List.getElem?_toArray, List.getElem?_cons_zero, List.getElem?_cons_succ, List.setIfInBounds_toArray, List.set_cons_zero, List.set_cons_succ, Nat.reduceAdd, Nat.zero_add, Nat.add_zero, true_and, and_true, Value.cells, setL, rdN, bfill, one, List.all_cons, List.all_nil, Bool.and_self, Option.map_some, Nat.reduceLeDiff, Nat.le_refl, if_true, Option.isNone_some, Option.isNone_none, eqV, Bool.not_true, Bool.not_false, Nat.zero_mul, Nat.reduceMul, lookRes, h5, hA2.blk, hA2.map, decide_eq_false h6, hc']
        simp only [kvFind_enc, onS_some]
        change K _ ((h'.setIfInBounds p (.cells #[.int .u64 b, .map (some r)])).setIfInBounds r (.map (kvPut (encM voteV m) ((mfind m s 0).map fun p => (p.1, voteV p.2)) (.int .i64 s) (voteV ⟨s, b, ⟨ck, cc, ce, cn⟩⟩))))
        rw [kvPut_enc]
        have l1' := lt_of_get hA2.blk
        have l2' := lt_of_get hA2.map
        refine hK _ ⟨?_, ?_⟩ ?_
        · rw [g_set_ne (Ne.symm hpr), g_set_eq l1' rfl]
        · rw [g_set_eq (by simpa using l2') rfl]
        · exact (x2.mono (fun _ _ h => h.elim)).trans (Upd.set (Upd.set (Upd.refl _) _ _ (.inr (.inl rfl))) _ _ (.inr (.inr rfl)))
    · have e : mAccE prom b s ⟨ck, cc, ce, cn⟩ = checkC ⟨ck, cc, ce, cn⟩ := by unfold mAccE; rw [if_neg h34, if_pos h5]
      simp only [mAccP, mAccM, e, if_neg h5] at hK
      simp (disch := (first | omega | (simp only [sz]; done) | (simp only [lz, Nat.reduceAdd, Nat.reduceLeDiff, Nat.le_refl]; done) | (simp only [sz]; omega))) only [e_pickT, e_pickF, e_alloc, e_box, e_build, e_buildSlice, e_ld1, e_ldN, e_st, e_nilCheck, e_bin, e_eq, e_not, e_conv, e_makeMap, e_fieldAddr, e_idxS, e_idxA, e_lookup, e_lookupN, e_mapUpdate, e_delete, e_clearMap, e_len0, e_len1, e_len2, e_len2n, e_extract, e_ifT, e_ifF, e_gTT, e_gFF, e_gTF, e_gFT, e_hTT, e_hFF, e_hTF, e_hFT, e_gU, e_hU, e_minmax, e_field1, b_add, b_sub, b_mul, b_quo, b_rem, b_eql, b_neq, b_lss, b_leq, b_gtr, b_geq, Int.cast_ofNat_Int, decide_true, decide_false, Int.reduceLT, Int.reduceLE, Int.reduceEq, List.toList_toArray, rdC_eq, Bool.false_eq_true, if_false, Bool.true_eq_false, onS_some, asCells_cells, asMap_map, cellAt_cells, g_push_lt, g_push_eq, g_set_eq, g_set_ne, wrap_i, wrap_u, Option.bind_some, Array.size_push, Array.size_setIfInBounds, List.size_toArray, List.length_cons, List.length_nil, List.getElem?_toArray, List.getElem?_cons_zero, List.getElem?_cons_succ, List.setIfInBounds_toArray, List.set_cons_zero, List.set_cons_succ, Nat.reduceAdd, Nat.zero_add, Nat.add_zero, true_and, and_true, Value.cells, setL, rdN, bfill, one, List.all_cons, List.all_nil, Bool.and_self, Option.map_some, Nat.reduceLeDiff, Nat.le_refl, if_true, Option.isNone_some, Option.isNone_none, eqV, Bool.not_true, Bool.not_false, Nat.zero_mul, Nat.reduceMul, lookRes, decide_eq_false h5]
      exact hK _ hA2 (x2.mono (fun _ _ h => h.elim))

end Go.Proofs.Ytdolepapmpcpiaa

/- Part VAcc5 of the proof: lemmas on what the functions do in the seen heap; no condition. -/
namespace Go.Proofs.Ytdolepapmpcpiaa
open Go
set_option linter.unusedSectionVars false
variable [Base]
set_option linter.unusedVariables false
set_option linter.unusedSimpArgs false

theorem keysIn_nil : keysIn [] := ⟨List.nodup_nil, by simp, by simp⟩

set_option maxHeartbeats 4000000 in
theorem sp_awake {h : Hp} (hB : Base.b ≤ h.size) {K : Kont} (hK : ∀ h', Ext h h' → K (.bool true) h') : C_l11_awake [] h K := by
  refine ok_l11_awake ?_
  unfold G_l11_awake
  refine sp_New hB ?_
  intro h1 hA1 x1
  have b1 : Base.b ≤ h1.size := Nat.le_trans hB x1.1
  refine sp_Prepare b1 hA1 keysIn_nil (b := 9) (by decide) 0 ?_
  intro v2 h2 hA2 x2 ho2
  have b2 : Base.b ≤ h2.size := Nat.le_trans b1 x2.1
  have e2 : mPrepE 0 9 0 = 0 := by decide
  have e2' : mPrepP 0 9 0 = 9 := by decide
  rw [e2'] at hA2
  rw [e2]
  simp (disch := (first | omega | (simp only [sz]; done) | (simp only [lz, Nat.reduceAdd, Nat.reduceLeDiff, Nat.le_refl]; done) | (simp only [sz]; omega))) only [e_pickT, e_pickF, e_alloc, e_box, e_build, e_buildSlice, e_ld1, e_ldN, e_st, e_nilCheck, e_bin, e_eq, e_not, e_conv, e_makeMap, e_fieldAddr, e_idxS, e_idxA, e_lookup, e_lookupN, e_mapUpdate, e_delete, e_clearMap, e_len0, e_len1, e_len2, e_len2n, e_extract, e_ifT, e_ifF, e_gTT, e_gFF, e_gTF, e_gFT, e_hTT, e_hFF, e_hTF, e_hFT, e_gU, e_hU, e_minmax, e_field1, b_add, b_sub, b_mul, b_quo, b_rem, b_eql, b_neq, b_lss, b_leq, b_gtr, b_geq, Int.cast_ofNat_Int, decide_true, decide_false, Int.reduceLT, Int.reduceLE, Int.reduceEq, List.toList_toArray, rdC_eq, Bool.false_eq_true, if_false, Bool.true_eq_false, onS_some, asCells_cells, asMap_map, cellAt_cells, g_push_lt, g_push_eq, g_set_eq, g_set_ne, wrap_i, wrap_u, Option.bind_some, Array.size_push, Array.size_setIfInBounds, List.size_toArray, List.length_cons, List.length_nil, List.getElem?_toArray, List.getElem?_cons_zero, List.getElem?_cons_succ, List.setIfInBounds_toArray, List.set_cons_zero, List.set_cons_succ, Nat.reduceAdd, Nat.zero_add, Nat.add_zero, true_and, and_true, Value.cells, setL, rdN, bfill, one, List.all_cons, List.all_nil, Bool.and_self, Option.map_some, Nat.reduceLeDiff, Nat.le_refl, if_true, Option.isNone_some, Option.isNone_none, eqV, Bool.not_true, Bool.not_false, Nat.zero_mul, Nat.reduceMul, lookRes]
  refine sp_Accept b2 hA2 (b := 17) (by decide) 3 ⟨0, 0, 0, 0⟩ ?_
  intro h3 hA3 x3
  have b3 : Base.b ≤ h3.size := Nat.le_trans b2 x3.1
  have e3 : mAccE 9 17 3 ⟨0, 0, 0, 0⟩ = 0 := by decide
  have e3' : mAccP 9 17 3 ⟨0, 0, 0, 0⟩ = 17 := by decide
  have e3m : mAccM 9 [] 17 3 ⟨0, 0, 0, 0⟩ = [(3, ⟨3, 17, ⟨0, 0, 0, 0⟩⟩)] := by decide
  rw [e3', e3m] at hA3
  rw [e3]
  refine sp_Prepare b3 hA3 ⟨by simp [keysOk], by intro k hk; simp at hk; subst hk; decide, by decide⟩ (b := 9) (by decide) 0 ?_
  intro v4 h4 hA4 x4 ho4
  have e4 : mPrepE 17 9 0 = 10 := by decide
  have e4' : mPrepP 17 9 0 = 17 := by decide
  rw [e4'] at hA4
  rw [e4]
  simp (disch := (first | omega | (simp only [sz]; done) | (simp only [lz, Nat.reduceAdd, Nat.reduceLeDiff, Nat.le_refl]; done) | (simp only [sz]; omega))) only [e_pickT, e_pickF, e_alloc, e_box, e_build, e_buildSlice, e_ld1, e_ldN, e_st, e_nilCheck, e_bin, e_eq, e_not, e_conv, e_makeMap, e_fieldAddr, e_idxS, e_idxA, e_lookup, e_lookupN, e_mapUpdate, e_delete, e_clearMap, e_len0, e_len1, e_len2, e_len2n, e_extract, e_ifT, e_ifF, e_gTT, e_gFF, e_gTF, e_gFT, e_hTT, e_hFF, e_hTF, e_hFT, e_gU, e_hU, e_minmax, e_field1, b_add, b_sub, b_mul, b_quo, b_rem, b_eql, b_neq, b_lss, b_leq, b_gtr, b_geq, Int.cast_ofNat_Int, decide_true, decide_false, Int.reduceLT, Int.reduceLE, Int.reduceEq, List.toList_toArray, rdC_eq, Bool.false_eq_true, if_false, Bool.true_eq_false, onS_some, asCells_cells, asMap_map, cellAt_cells, g_push_lt, g_push_eq, g_set_eq, g_set_ne, wrap_i, wrap_u, Option.bind_some, Array.size_push, Array.size_setIfInBounds, List.size_toArray, List.length_cons, List.length_nil, List.getElem?_toArray, List.getElem?_cons_zero, List.getElem?_cons_succ, List.setIfInBounds_toArray, List.set_cons_zero, List.set_cons_succ, Nat.reduceAdd, Nat.zero_add, Nat.add_zero, true_and, and_true, Value.cells, setL, rdN, bfill, one, List.all_cons, List.all_nil, Bool.and_self, Option.map_some, Nat.reduceLeDiff, Nat.le_refl, if_true, Option.isNone_some, Option.isNone_none, eqV, Bool.not_true, Bool.not_false, Nat.zero_mul, Nat.reduceMul, lookRes]
  refine sp_Promised hA4 ?_
  simp (disch := (first | omega | (simp only [sz]; done) | (simp only [lz, Nat.reduceAdd, Nat.reduceLeDiff, Nat.le_refl]; done) | (simp only [sz]; omega))) only [e_pickT, e_pickF, e_alloc, e_box, e_build, e_buildSlice, e_ld1, e_ldN, e_st, e_nilCheck, e_bin, e_eq, e_not, e_conv, e_makeMap, e_fieldAddr, e_idxS, e_idxA, e_lookup, e_lookupN, e_mapUpdate, e_delete, e_clearMap, e_len0, e_len1, e_len2, e_len2n, e_extract, e_ifT, e_ifF, e_gTT, e_gFF, e_gTF, e_gFT, e_hTT, e_hFF, e_hTF, e_hFT, e_gU, e_hU, e_minmax, e_field1, b_add, b_sub, b_mul, b_quo, b_rem, b_eql, b_neq, b_lss, b_leq, b_gtr, b_geq, Int.cast_ofNat_Int, decide_true, decide_false, Int.reduceLT, Int.reduceLE, Int.reduceEq, List.toList_toArray, rdC_eq, Bool.false_eq_true, if_false, Bool.true_eq_false, onS_some, asCells_cells, asMap_map, cellAt_cells, g_push_lt, g_push_eq, g_set_eq, g_set_ne, wrap_i, wrap_u, Option.bind_some, Array.size_push, Array.size_setIfInBounds, List.size_toArray, List.length_cons, List.length_nil, List.getElem?_toArray, List.getElem?_cons_zero, List.getElem?_cons_succ, List.setIfInBounds_toArray, List.set_cons_zero, List.set_cons_succ, Nat.reduceAdd, Nat.zero_add, Nat.add_zero, true_and, and_true, Value.cells, setL, rdN, bfill, one, List.all_cons, List.all_nil, Bool.and_self, Option.map_some, Nat.reduceLeDiff, Nat.le_refl, if_true, Option.isNone_some, Option.isNone_none, eqV, Bool.not_true, Bool.not_false, Nat.zero_mul, Nat.reduceMul, lookRes]
  refine sp_Len hA4 ?_
  simp (disch := (first | omega | (simp only [sz]; done) | (simp only [lz, Nat.reduceAdd, Nat.reduceLeDiff, Nat.le_refl]; done) | (simp only [sz]; omega))) only [e_pickT, e_pickF, e_alloc, e_box, e_build, e_buildSlice, e_ld1, e_ldN, e_st, e_nilCheck, e_bin, e_eq, e_not, e_conv, e_makeMap, e_fieldAddr, e_idxS, e_idxA, e_lookup, e_lookupN, e_mapUpdate, e_delete, e_clearMap, e_len0, e_len1, e_len2, e_len2n, e_extract, e_ifT, e_ifF, e_gTT, e_gFF, e_gTF, e_gFT, e_hTT, e_hFF, e_hTF, e_hFT, e_gU, e_hU, e_minmax, e_field1, b_add, b_sub, b_mul, b_quo, b_rem, b_eql, b_neq, b_lss, b_leq, b_gtr, b_geq, Int.cast_ofNat_Int, decide_true, decide_false, Int.reduceLT, Int.reduceLE, Int.reduceEq, List.toList_toArray, rdC_eq, Bool.false_eq_true, if_false, Bool.true_eq_false, onS_some, asCells_cells, asMap_map, cellAt_cells, g_push_lt, g_push_eq, g_set_eq, g_set_ne, wrap_i, wrap_u, Option.bind_some, Array.size_push, Array.size_setIfInBounds, List.size_toArray, List.length_cons, List.length_nil, List.getElem?_toArray, List.getElem?_cons_zero, List.getElem?_cons_succ, List.setIfInBounds_toArray, List.set_cons_zero, List.set_cons_succ, Nat.reduceAdd, Nat.zero_add, Nat.add_zero, true_and, and_true, Value.cells, setL, rdN, bfill, one, List.all_cons, List.all_nil, Bool.and_self, Option.map_some, Nat.reduceLeDiff, Nat.le_refl, if_true, Option.isNone_some, Option.isNone_none, eqV, Bool.not_true, Bool.not_false, Nat.zero_mul, Nat.reduceMul, lookRes, List.length_singleton]
  refine hK _ ?_
  have y2 : Upd (fun x => h.size ≤ x) h1 h2 := x2.mono (fun r _ h => by omega)
  have y3 : Upd (fun x => h.size ≤ x) h2 h3 := x3.mono (fun r _ h => by omega)
  have y4 : Upd (fun x => h.size ≤ x) h3 h4 := x4.mono (fun r _ h => by omega)
  exact Upd.fresh x1 (y2.trans (y3.trans y4)) (fun r h => .inl h)

set_option maxHeartbeats 4000000 in
theorem sp_AcceptNil {h : Hp} (hB : Base.b ≤ h.size) (kd b s : Int) (c : Cmd) {K : Kont} (hK : ∀ h', Ext h h' → K (.bool true) h') : C_l11_AcceptNil [.agg #[.int .i64 kd, .int .u64 b, .int .i64 s, .int .i64 c.kind, .int .i64 c.chain, .int .u64 c.epoch, .int .i64 c.node]] h K := by
  refine ok_l11_AcceptNil ?_
  unfold G_l11_AcceptNil
  simp (disch := (first | omega | (simp only [sz]; done) | (simp only [lz, Nat.reduceAdd, Nat.reduceLeDiff, Nat.le_refl]; done) | (simp only [sz]; omega))) only [e_pickT, e_pickF, e_alloc, e_box, e_build, e_buildSlice, e_ld1, e_ldN, e_st, e_nilCheck, e_bin, e_eq, e_not, e_conv, e_makeMap, e_fieldAddr, e_idxS, e_idxA, e_lookup, e_lookupN, e_mapUpdate, e_delete, e_clearMap, e_len0, e_len1, e_len2, e_len2n, e_extract, e_ifT, e_ifF, e_gTT, e_gFF, e_gTF, e_gFT, e_hTT, e_hFF, e_hTF, e_hFT, e_gU, e_hU, e_minmax, e_field1, b_add, b_sub, b_mul, b_quo, b_rem, b_eql, b_neq, b_lss, b_leq, b_gtr, b_geq, Int.cast_ofNat_Int, decide_true, decide_false, Int.reduceLT, Int.reduceLE, Int.reduceEq, List.toList_toArray, rdC_eq, Bool.false_eq_true, if_false, Bool.true_eq_false, onS_some, asCells_cells, asMap_map, cellAt_cells, g_push_lt, g_push_eq, g_set_eq, g_set_ne, wrap_i, wrap_u, Option.bind_some, Array.size_push, Array.size_setIfInBounds, List.size_toArray, List.length_cons, List.length_nil, List.getElem?_toArray, List.getElem?_cons_zero, List.getElem?_cons_succ, List.setIfInBounds_toArray, List.set_cons_zero, List.set_cons_succ, Nat.reduceAdd, Nat.zero_add, Nat.add_zero, true_and, and_true, Value.cells, setL, rdN, bfill, one, List.all_cons, List.all_nil, Bool.and_self, Option.map_some, Nat.reduceLeDiff, Nat.le_refl, if_true, Option.isNone_some, Option.isNone_none, eqV, Bool.not_true, Bool.not_false, Nat.zero_mul, Nat.reduceMul, lookRes]
  refine sp_PrepareN _ _ ?_
  simp (disch := (first | omega | (simp only [sz]; done) | (simp only [lz, Nat.reduceAdd, Nat.reduceLeDiff, Nat.le_refl]; done) | (simp only [sz]; omega))) only [e_pickT, e_pickF, e_alloc, e_box, e_build, e_buildSlice, e_ld1, e_ldN, e_st, e_nilCheck, e_bin, e_eq, e_not, e_conv, e_makeMap, e_fieldAddr, e_idxS, e_idxA, e_lookup, e_lookupN, e_mapUpdate, e_delete, e_clearMap, e_len0, e_len1, e_len2, e_len2n, e_extract, e_ifT, e_ifF, e_gTT, e_gFF, e_gTF, e_gFT, e_hTT, e_hFF, e_hTF, e_hFT, e_gU, e_hU, e_minmax, e_field1, b_add, b_sub, b_mul, b_quo, b_rem, b_eql, b_neq, b_lss, b_leq, b_gtr, b_geq, Int.cast_ofNat_Int, decide_true, decide_false, Int.reduceLT, Int.reduceLE, Int.reduceEq, List.toList_toArray, rdC_eq, Bool.false_eq_true, if_false, Bool.true_eq_false, onS_some, asCells_cells, asMap_map, cellAt_cells, g_push_lt, g_push_eq, g_set_eq, g_set_ne, wrap_i, wrap_u, Option.bind_some, Array.size_push, Array.size_setIfInBounds, List.size_toArray, List.length_cons, List.length_nil, List.getElem?_toArray, List.getElem?_cons_zero, List.getElem?_cons_succ, List.setIfInBounds_toArray, List.set_cons_zero, List.set_cons_succ, Nat.reduceAdd, Nat.zero_add, Nat.add_zero, true_and, and_true, Value.cells, setL, rdN, bfill, one, List.all_cons, List.all_nil, Bool.and_self, Option.map_some, Nat.reduceLeDiff, Nat.le_refl, if_true, Option.isNone_some, Option.isNone_none, eqV, Bool.not_true, Bool.not_false, Nat.zero_mul, Nat.reduceMul, lookRes]
  refine sp_VoteN (by simp; omega) _ ?_
  intro h1 x1
  have b1 : Base.b ≤ h1.size := by have := x1.1; simp at this; omega
  have hc := x1.get (r := h.size) (g_push_eq rfl) id
  have l1 := lt_of_get hc
  simp (disch := (first | omega | (simp only [sz]; done) | (simp only [lz, Nat.reduceAdd, Nat.reduceLeDiff, Nat.le_refl]; done) | (simp only [sz]; omega))) only [e_pickT, e_pickF, e_alloc, e_box, e_build, e_buildSlice, e_ld1, e_ldN, e_st, e_nilCheck, e_bin, e_eq, e_not, e_conv, e_makeMap, e_fieldAddr, e_idxS, e_idxA, e_lookup, e_lookupN, e_mapUpdate, e_delete, e_clearMap, e_len0, e_len1, e_len2, e_len2n, e_extract, e_ifT, e_ifF, e_gTT, e_gFF, e_gTF, e_gFT, e_hTT, e_hFF, e_hTF, e_hFT, e_gU, e_hU, e_minmax, e_field1, b_add, b_sub, b_mul, b_quo, b_rem, b_eql, b_neq, b_lss, b_leq, b_gtr, b_geq, Int.cast_ofNat_Int, decide_true, decide_false, Int.reduceLT, Int.reduceLE, Int.reduceEq, List.toList_toArray, rdC_eq, Bool.false_eq_true, if_false, Bool.true_eq_false, onS_some, asCells_cells, asMap_map, cellAt_cells, g_push_lt, g_push_eq, g_set_eq, g_set_ne, wrap_i, wrap_u, Option.bind_some, Array.size_push, Array.size_setIfInBounds, List.size_toArray, List.length_cons, List.length_nil, List.getElem?_toArray, List.getElem?_cons_zero, List.getElem?_cons_succ, List.setIfInBounds_toArray, List.set_cons_zero, List.set_cons_succ, Nat.reduceAdd, Nat.zero_add, Nat.add_zero, true_and, and_true, Value.cells, setL, rdN, bfill, one, List.all_cons, List.all_nil, Bool.and_self, Option.map_some, Nat.reduceLeDiff, Nat.le_refl, if_true, Option.isNone_some, Option.isNone_none, eqV, Bool.not_true, Bool.not_false, Nat.zero_mul, Nat.reduceMul, lookRes, hc, voteV, vote0, cmd0]
  refine sp_AcceptN (by simp; omega) _ _ c ?_
  intro h2 x2
  have b2 : Base.b ≤ h2.size := by have := x2.1; simp at this; omega
  have hc2 := x2.get (r := h.size) (by rw [g_set_ne (by omega), g_push_lt l1]; exact hc) id
  have hb2 := x2.get (r := h1.size) (by rw [g_set_eq (by simp) rfl]) id
  simp (disch := (first | omega | (simp only [sz]; done) | (simp only [lz, Nat.reduceAdd, Nat.reduceLeDiff, Nat.le_refl]; done) | (simp only [sz]; omega))) only [e_pickT, e_pickF, e_alloc, e_box, e_build, e_buildSlice, e_ld1, e_ldN, e_st, e_nilCheck, e_bin, e_eq, e_not, e_conv, e_makeMap, e_fieldAddr, e_idxS, e_idxA, e_lookup, e_lookupN, e_mapUpdate, e_delete, e_clearMap, e_len0, e_len1, e_len2, e_len2n, e_extract, e_ifT, e_ifF, e_gTT, e_gFF, e_gTF, e_gFT, e_hTT, e_hFF, e_hTF, e_hFT, e_gU, e_hU, e_minmax, e_field1, b_add, b_sub, b_mul, b_quo, b_rem, b_eql, b_neq, b_lss, b_leq, b_gtr, b_geq, Int.cast_ofNat_Int, decide_true, decide_false, Int.reduceLT, Int.reduceLE, Int.reduceEq, List.toList_toArray, rdC_eq, Bool.false_eq_true, if_false, Bool.true_eq_false, onS_some, asCells_cells, asMap_map, cellAt_cells, g_push_lt, g_push_eq, g_set_eq, g_set_ne, wrap_i, wrap_u, Option.bind_some, Array.size_push, Array.size_setIfInBounds, List.size_toArray, List.length_cons, List.length_nil, List.getElem?_toArray, List.getElem?_cons_zero, List.getElem?_cons_succ, List.setIfInBounds_toArray, List.set_cons_zero, List.set_cons_succ, Nat.reduceAdd, Nat.zero_add, Nat.add_zero, true_and, and_true, Value.cells, setL, rdN, bfill, one, List.all_cons, List.all_nil, Bool.and_self, Option.map_some, Nat.reduceLeDiff, Nat.le_refl, if_true, Option.isNone_some, Option.isNone_none, eqV, Bool.not_true, Bool.not_false, Nat.zero_mul, Nat.reduceMul, lookRes, hb2, hc2]
  refine sp_PromisedN ?_
  simp (disch := (first | omega | (simp only [sz]; done) | (simp only [lz, Nat.reduceAdd, Nat.reduceLeDiff, Nat.le_refl]; done) | (simp only [sz]; omega))) only [e_pickT, e_pickF, e_alloc, e_box, e_build, e_buildSlice, e_ld1, e_ldN, e_st, e_nilCheck, e_bin, e_eq, e_not, e_conv, e_makeMap, e_fieldAddr, e_idxS, e_idxA, e_lookup, e_lookupN, e_mapUpdate, e_delete, e_clearMap, e_len0, e_len1, e_len2, e_len2n, e_extract, e_ifT, e_ifF, e_gTT, e_gFF, e_gTF, e_gFT, e_hTT, e_hFF, e_hTF, e_hFT, e_gU, e_hU, e_minmax, e_field1, b_add, b_sub, b_mul, b_quo, b_rem, b_eql, b_neq, b_lss, b_leq, b_gtr, b_geq, Int.cast_ofNat_Int, decide_true, decide_false, Int.reduceLT, Int.reduceLE, Int.reduceEq, List.toList_toArray, rdC_eq, Bool.false_eq_true, if_false, Bool.true_eq_false, onS_some, asCells_cells, asMap_map, cellAt_cells, g_push_lt, g_push_eq, g_set_eq, g_set_ne, wrap_i, wrap_u, Option.bind_some, Array.size_push, Array.size_setIfInBounds, List.size_toArray, List.length_cons, List.length_nil, List.getElem?_toArray, List.getElem?_cons_zero, List.getElem?_cons_succ, List.setIfInBounds_toArray, List.set_cons_zero, List.set_cons_succ, Nat.reduceAdd, Nat.zero_add, Nat.add_zero, true_and, and_true, Value.cells, setL, rdN, bfill, one, List.all_cons, List.all_nil, Bool.and_self, Option.map_some, Nat.reduceLeDiff, Nat.le_refl, if_true, Option.isNone_some, Option.isNone_none, eqV, Bool.not_true, Bool.not_false, Nat.zero_mul, Nat.reduceMul, lookRes, hb2, hc2, eq_vote, decide_true, Bool.and_self]
  refine sp_VotesN _ ?_
  simp (disch := (first | omega | (simp only [sz]; done) | (simp only [lz, Nat.reduceAdd, Nat.reduceLeDiff, Nat.le_refl]; done) | (simp only [sz]; omega))) only [e_pickT, e_pickF, e_alloc, e_box, e_build, e_buildSlice, e_ld1, e_ldN, e_st, e_nilCheck, e_bin, e_eq, e_not, e_conv, e_makeMap, e_fieldAddr, e_idxS, e_idxA, e_lookup, e_lookupN, e_mapUpdate, e_delete, e_clearMap, e_len0, e_len1, e_len2, e_len2n, e_extract, e_ifT, e_ifF, e_gTT, e_gFF, e_gTF, e_gFT, e_hTT, e_hFF, e_hTF, e_hFT, e_gU, e_hU, e_minmax, e_field1, b_add, b_sub, b_mul, b_quo, b_rem, b_eql, b_neq, b_lss, b_leq, b_gtr, b_geq, Int.cast_ofNat_Int, decide_true, decide_false, Int.reduceLT, Int.reduceLE, Int.reduceEq, List.toList_toArray, rdC_eq, Bool.false_eq_true, if_false, Bool.true_eq_false, onS_some, asCells_cells, asMap_map, cellAt_cells, g_push_lt, g_push_eq, g_set_eq, g_set_ne, wrap_i, wrap_u, Option.bind_some, Array.size_push, Array.size_setIfInBounds, List.size_toArray, List.length_cons, List.length_nil, List.getElem?_toArray, List.getElem?_cons_zero, List.getElem?_cons_succ, List.setIfInBounds_toArray, List.set_cons_zero, List.set_cons_succ, Nat.reduceAdd, Nat.zero_add, Nat.add_zero, true_and, and_true, Value.cells, setL, rdN, bfill, one, List.all_cons, List.all_nil, Bool.and_self, Option.map_some, Nat.reduceLeDiff, Nat.le_refl, if_true, Option.isNone_some, Option.isNone_none, eqV, Bool.not_true, Bool.not_false, Nat.zero_mul, Nat.reduceMul, lookRes, hb2, hc2]
  refine sp_LenN ?_
  simp (disch := (first | omega | (simp only [sz]; done) | (simp only [lz, Nat.reduceAdd, Nat.reduceLeDiff, Nat.le_refl]; done) | (simp only [sz]; omega))) only [e_pickT, e_pickF, e_alloc, e_box, e_build, e_buildSlice, e_ld1, e_ldN, e_st, e_nilCheck, e_bin, e_eq, e_not, e_conv, e_makeMap, e_fieldAddr, e_idxS, e_idxA, e_lookup, e_lookupN, e_mapUpdate, e_delete, e_clearMap, e_len0, e_len1, e_len2, e_len2n, e_extract, e_ifT, e_ifF, e_gTT, e_gFF, e_gTF, e_gFT, e_hTT, e_hFF, e_hTF, e_hFT, e_gU, e_hU, e_minmax, e_field1, b_add, b_sub, b_mul, b_quo, b_rem, b_eql, b_neq, b_lss, b_leq, b_gtr, b_geq, Int.cast_ofNat_Int, decide_true, decide_false, Int.reduceLT, Int.reduceLE, Int.reduceEq, List.toList_toArray, rdC_eq, Bool.false_eq_true, if_false, Bool.true_eq_false, onS_some, asCells_cells, asMap_map, cellAt_cells, g_push_lt, g_push_eq, g_set_eq, g_set_ne, wrap_i, wrap_u, Option.bind_some, Array.size_push, Array.size_setIfInBounds, List.size_toArray, List.length_cons, List.length_nil, List.getElem?_toArray, List.getElem?_cons_zero, List.getElem?_cons_succ, List.setIfInBounds_toArray, List.set_cons_zero, List.set_cons_succ, Nat.reduceAdd, Nat.zero_add, Nat.add_zero, true_and, and_true, Value.cells, setL, rdN, bfill, one, List.all_cons, List.all_nil, Bool.and_self, Option.map_some, Nat.reduceLeDiff, Nat.le_refl, if_true, Option.isNone_some, Option.isNone_none, eqV, Bool.not_true, Bool.not_false, Nat.zero_mul, Nat.reduceMul, lookRes, hb2, hc2]
  refine sp_awake b2 ?_
  intro h3 x3
  refine hK _ ?_
  refine Upd.trans ?_ x3
  refine Upd.trans ?_ x2
  refine Upd.fresh (S := fun _ => False) (T := fun r => h1.size ≤ r) ((Upd.push (Upd.refl _) _).trans x1) (Upd.set (Upd.push (Upd.refl _) _) _ _ (.inr (Nat.le_refl _))) (fun r hr => .inl ?_)
  have := x1.1
  simp at this
  omega
end Go.Proofs.Ytdolepapmpcpiaa

/- More laws of slices and cells in the seen heap, in the form in which a spec's proof rewrites by them. -/
namespace Go.Proofs.Ytdolepapmpcpiaa
open Go
set_option linter.unusedSectionVars false
variable [Base]
set_option linter.unusedVariables false
set_option linter.unusedSimpArgs false

def sblk : Value → Nat
  | .slice (some a) _ _ => a.block
  | _ => 0
def soff : Value → Nat
  | .slice (some a) _ _ => a.off
  | _ => 0
def nth {α : Type} [Inhabited α] (l : List α) (i : Nat) : α := l.getD i default
theorem nth_get {α : Type} [Inhabited α] {l : List α} {i : Nat} (h : i < l.length) : nth l i = l[i] := by simp [nth, List.getD, h]
theorem nth_mem {α : Type} [Inhabited α] {l : List α} {i : Nat} (h : i < l.length) : nth l i ∈ l := by rw [nth_get h]; exact List.getElem_mem h
theorem take_nth {α : Type} [Inhabited α] {l : List α} {i : Nat} (h : i < l.length) : l.take (i + 1) = l.take i ++ [nth l i] := by rw [nth_get h]; simp
theorem drop_nth {α : Type} [Inhabited α] {l : List α} {i : Nat} (h : i < l.length) : l.drop i = nth l i :: l.drop (i + 1) := by rw [nth_get h]; exact List.drop_eq_getElem_cons h

theorem vc_int (k : IntKind) (n : Int) : Value.cells (.int k n) = #[.int k n] := id rfl
theorem vc_bool (b : Bool) : Value.cells (.bool b) = #[.bool b] := id rfl
theorem vc_str (s : ByteArray) : Value.cells (.string s) = #[.string s] := id rfl
theorem vc_ptr (a : Option Addr) : Value.cells (.pointer a) = #[.pointer a] := id rfl
theorem vc_slice (a : Option Addr) (n c : Nat) : Value.cells (.slice a n c) = #[.slice a n c] := id rfl
theorem vc_map (a : Option Nat) : Value.cells (.map a) = #[.map a] := id rfl
theorem vc_func (f : Fn) (a b : Array Value) : Value.cells (.func f a b) = #[.func f a b] := id rfl
theorem vc_agg (a : Array Value) : Value.cells (.agg a) = a := id rfl
theorem one_cells {v : Value} (h : one v = true) : v.cells = #[v] := by cases v <;> first | rfl | cases h
theorem o_int (k : IntKind) (n : Int) : one (.int k n) = true := id rfl
theorem o_bool (b : Bool) : one (.bool b) = true := id rfl
theorem o_str (s : ByteArray) : one (.string s) = true := id rfl
theorem o_ptr (a : Option Addr) : one (.pointer a) = true := id rfl
theorem o_slice (a : Option Addr) (n c : Nat) : one (.slice a n c) = true := id rfl
theorem o_map (a : Option Nat) : one (.map a) = true := id rfl
theorem o_func (f : Fn) (a b : Array Value) : one (.func f a b) = true := id rfl
theorem sl_one {α : Type} {h : Hp} {sz : Nat} {enc : α → List Value} {v : Value} {l : List α} (s : Sl h sz enc v l) : one v = true := by obtain ⟨p, cap, rfl, _⟩ := s; rfl
theorem own_one {α : Type} {h : Hp} {base sz : Nat} {enc : α → List Value} {v : Value} {l : List α} (s : Own h base sz enc v l) : one v = true := sl_one s.sl
theorem sl_cells {α : Type} {h : Hp} {sz : Nat} {enc : α → List Value} {v : Value} {l : List α} (s : Sl h sz enc v l) : v.cells = #[v] := by obtain ⟨p, cap, rfl, _⟩ := s; rfl
theorem c_ld1 (b i : Nat) (h : Hp) (K : Kont) : oLd1 (.pointer (some ⟨b, i, none⟩)) h K = onS (rdC h b i) (fun v => K v h) := onS_ex _ _
theorem rdC_push {h : Hp} {o : AObj} {b i : Nat} (hb : b < h.size) : rdC (h.push o) b i = rdC h b i := by unfold rdC; rw [g_push_lt hb]
theorem rdC_pushE {h : Hp} {c : Array Value} {b i : Nat} (hb : b = h.size) : rdC (h.push (.cells c)) b i = c[i]? := by unfold rdC; rw [g_push_eq hb]
theorem rdC_setN {h : Hp} {o : AObj} {b r i : Nat} (e : r ≠ b) : rdC (h.setIfInBounds r o) b i = rdC h b i := by unfold rdC; rw [g_set_ne e]
theorem rdC_setE {h : Hp} {c : Array Value} {b r i : Nat} (hb : r < h.size) (e : r = b) : rdC (h.setIfInBounds r (.cells c)) b i = c[i]? := by unfold rdC; rw [g_set_eq hb e]
theorem rdC_blk {h : Hp} {c : Array Value} {b : Nat} (e : h[b]? = some (.cells c)) (i : Nat) : rdC h b i = c[i]? := by unfold rdC; rw [e]
theorem rdN_all {h : Hp} {c : Array Value} {b n : Nat} (e : h[b]? = some (.cells c)) (hn : n = c.size) : rdN h b 0 n = some c.toList := by
  rw [rdN_blk e (by omega), List.drop_zero, hn, List.take_of_length_le (by simp)]
theorem rdN_pushE {h : Hp} {c : Array Value} {b n : Nat} (hb : b = h.size) (hn : n = c.size) : rdN (h.push (.cells c)) b 0 n = some c.toList := rdN_all (g_push_eq hb) hn
theorem rdN_setE {h : Hp} {c : Array Value} {b r n : Nat} (hb : r < h.size) (e : r = b) (hn : n = c.size) : rdN (h.setIfInBounds r (.cells c)) b 0 n = some c.toList := rdN_all (g_set_eq hb e) hn
theorem rdN_of {h : Hp} {c : Array Value} {b i n : Nat} (e : h[b]? = some (.cells c)) (hn : i + n ≤ c.size) : rdN h b i n = some ((c.toList.drop i).take n) := rdN_blk e hn
theorem rdN_pushP {h : Hp} {c : Array Value} {b i n : Nat} (hb : b = h.size) (hn : i + n ≤ c.size) : rdN (h.push (.cells c)) b i n = some ((c.toList.drop i).take n) := rdN_blk (g_push_eq hb) hn
theorem rdN_setP {h : Hp} {c : Array Value} {b r i n : Nat} (hb : r < h.size) (e : r = b) (hn : i + n ≤ c.size) : rdN (h.setIfInBounds r (.cells c)) b i n = some ((c.toList.drop i).take n) := rdN_blk (g_set_eq hb e) hn
theorem b_push {h : Hp} {o : AObj} {b : Nat} (hb : b < h.size) : ((h.push o)[b]?).bind asCells = (h[b]?).bind asCells := by rw [g_push_lt hb]
theorem b_pushE {h : Hp} {c : Array Value} {b : Nat} (hb : b = h.size) : ((h.push (.cells c))[b]?).bind asCells = some c := by rw [g_push_eq hb]; rfl
theorem b_setN {h : Hp} {o : AObj} {b r : Nat} (e : r ≠ b) : ((h.setIfInBounds r o)[b]?).bind asCells = (h[b]?).bind asCells := by rw [g_set_ne e]
theorem b_setE {h : Hp} {c : Array Value} {b r : Nat} (hb : r < h.size) (e : r = b) : ((h.setIfInBounds r (.cells c))[b]?).bind asCells = some c := by rw [g_set_eq hb e]; rfl
theorem b_blk {h : Hp} {c : Array Value} {b : Nat} (e : h[b]? = some (.cells c)) : (h[b]?).bind asCells = some c := by rw [e]; rfl
theorem m_blk {h : Hp} {c : List (Value × Value)} {b : Nat} (e : h[b]? = some (.map c)) : (h[b]?).bind asMap = some c := by rw [e]; rfl
theorem m_push {h : Hp} {o : AObj} {b : Nat} (hb : b < h.size) : ((h.push o)[b]?).bind asMap = (h[b]?).bind asMap := by rw [g_push_lt hb]
theorem m_pushE {h : Hp} {c : List (Value × Value)} {b : Nat} (hb : b = h.size) : ((h.push (.map c))[b]?).bind asMap = some c := by rw [g_push_eq hb]; rfl
theorem m_setN {h : Hp} {o : AObj} {b r : Nat} (e : r ≠ b) : ((h.setIfInBounds r o)[b]?).bind asMap = (h[b]?).bind asMap := by rw [g_set_ne e]
theorem m_setE {h : Hp} {c : List (Value × Value)} {b r : Nat} (hb : r < h.size) (e : r = b) : ((h.setIfInBounds r (.map c))[b]?).bind asMap = some c := by rw [g_set_eq hb e]; rfl

section
variable {α : Type} {h h0 : Hp} {sz base : Nat} {enc : α → List Value} {v : Value} {l : List α}
theorem Sl.addr (s : Sl h sz enc v l) (hl : 0 < l.length) : ∃ cap, v = .slice (some ⟨sblk v, soff v, none⟩) l.length cap := by
  obtain ⟨p, cap, rfl, _, e⟩ := s
  unfold srcCells at e
  split at e <;> rename_i hm
  · split at e
    · rename_i h0; cases hm; omega
    · cases e
  · cases hm; exact ⟨_, rfl⟩
  · split at e
    · cases hm; omega
    · cases e
  · cases hm
  · cases e
theorem Sl.idx (s : Sl h0 sz enc v l) (k : IntKind) (n : Int) (h : Hp) (K : Kont) (hn : 0 ≤ n) (hl : n < l.length) : oIdxS sz v (.int k n) h K = K (pt (sblk v) (soff v + n.toNat * sz)) h := by
  obtain ⟨cap, e⟩ := s.addr (by omega)
  rw [e]
  simp only [oIdxS, hn, hl, true_and]
  rfl
theorem Sl.row [Inhabited α] (s : Sl h sz enc v l) (he : ∀ a, (enc a).length = sz) (i : Nat) (hi : i < l.length) : rdN h (sblk v) (soff v + i * sz) sz = some (enc (nth l i)) := by
  obtain ⟨b, o, cap, rfl, hr⟩ := s.at he i hi
  rw [nth_get hi]
  exact hr
theorem Sl.cell [Inhabited α] (s : Sl h sz enc v l) (he : ∀ a, (enc a).length = sz) (i j : Nat) (hi : i < l.length) (hj : j < sz) : rdC h (sblk v) (soff v + i * sz + j) = (enc (nth l i))[j]? := by
  have := s.row he i hi
  have h2 : (enc (nth l i))[j]? = some ((enc (nth l i))[j]'(by rw [he]; exact hj)) := List.getElem?_eq_getElem _
  rw [h2]
  exact rdN_cell this h2
theorem Sl.cell0 [Inhabited α] (s : Sl h sz enc v l) (he : ∀ a, (enc a).length = sz) (i : Nat) (hi : i < l.length) (hj : 0 < sz) : rdC h (sblk v) (soff v + i * sz) = (enc (nth l i))[0]? := s.cell he i 0 hi hj
theorem Sl.lt (s : Sl h sz enc v l) (he : ∀ a, (enc a).length = sz) (hl : 0 < l.length) (hsz : 0 < sz) : sblk v < h.size := by
  obtain ⟨b, o, cap, rfl, hr⟩ := s.at he 0 hl
  obtain ⟨k, rfl⟩ : ∃ k, sz = k + 1 := ⟨sz - 1, by omega⟩
  exact rdN_lt hr
theorem Sl.updB {S : Nat → Prop} {h' : Hp} (s : Sl h sz enc v l) (he : ∀ a, (enc a).length = sz) (hsz : 0 < sz) (u : Upd S h h') (hb : ∀ b, b < h.size → blk v = some b → ¬ S b) : Sl h' sz enc v l := by
  by_cases hl : 0 < l.length
  · have hlt := s.lt he hl hsz
    refine s.upd u fun b hb' => hb b ?_ hb'
    obtain ⟨cap, e⟩ := s.addr hl
    rw [e] at hb' hlt
    cases hb'
    exact hlt
  · have : l = [] := List.eq_nil_of_length_eq_zero (by omega)
    subst this
    obtain ⟨p, cap, rfl, hc, e⟩ := s
    refine ⟨p, cap, rfl, hc, ?_⟩
    cases p with
    | none => exact e
    | some a =>
      obtain ⟨b, o, sp⟩ := a
      cases sp with
      | none => simp [srcCells, rdN]
      | some _ => simp [srcCells]
theorem Sl.push (s : Sl h sz enc v l) (o : AObj) : Sl (h.push o) sz enc v l := s.ext (Upd.push (Upd.refl _) _)
theorem Own.push (s : Own h base sz enc v l) (o : AObj) : Own (h.push o) base sz enc v l := s.ext (Upd.push (Upd.refl _) _)
theorem Own.blk_ge (o : Own h base sz enc v l) {b : Nat} (hb : blk v = some b) : base ≤ b := by
  rcases o with ⟨rfl, _⟩ | ⟨g, cap, c, rfl, hg, _⟩
  · cases hb
  · cases hb; exact hg
theorem Own.blk_lt (o : Own h base sz enc v l) {b : Nat} (hb : blk v = some b) : b < h.size := by
  rcases o with ⟨rfl, _⟩ | ⟨g, cap, c, rfl, _, hg, _⟩
  · cases hb
  · cases hb; exact lt_of_get hg
theorem Own.setb (o : Own h base sz enc v l) {r : Nat} (hr : r < base) (x : AObj) : Own (h.setIfInBounds r x) base sz enc v l :=
  o.upd (S := fun i => i = r) (Upd.set (Upd.refl _) _ _ (.inr rfl)) (fun b hb e => by have := o.blk_ge hb; omega)
theorem Own.len (s : Own h base sz enc v l) {h' : Hp} {K : Kont} : oLen 0 v h' K = K (.int .i64 l.length) h' := by
  obtain ⟨p, cap, rfl, _⟩ := s.sl; rfl
theorem Sl.len' (s : Sl h0 sz enc v l) (h : Hp) (K : Kont) : oLen 0 v h K = K (.int .i64 l.length) h := by
  obtain ⟨p, cap, rfl, _⟩ := s; rfl
theorem flat_sub (he : ∀ a, (enc a).length = sz) : ∀ (l : List α) (lo n : Nat), ((l.flatMap enc).drop (lo * sz)).take (n * sz) = ((l.drop lo).take n).flatMap enc
  | [], lo, n => by simp
  | a :: l, 0, 0 => by simp
  | a :: l, 0, n + 1 => by
    have := flat_sub he l 0 n
    simp only [Nat.zero_mul, List.drop_zero, List.flatMap_cons, List.take_succ_cons] at this ⊢
    rw [Nat.add_mul, Nat.one_mul, Nat.add_comm, ← he a, List.take_length_add_append, he a, this]
  | a :: l, lo + 1, n => by
    rw [List.flatMap_cons, Nat.add_mul, Nat.one_mul, Nat.add_comm, ← List.drop_drop, List.drop_left' (he a), List.drop_succ_cons]
    exact flat_sub he l lo n
theorem bnd_int {k : IntKind} {n : Int} {d m : Nat} (h0 : 0 ≤ n) (h1 : n ≤ m) : bnd (some (.int k n)) d m = some n.toNat := by simp [bnd, h0, h1]
/-- xs[lo:hi]. -/
theorem Sl.sub (s : Sl h0 sz enc v l) (he : ∀ a, (enc a).length = sz) {lo hi : Option Value} {a b : Nat} (hlo : ∀ m, b ≤ m → bnd lo 0 m = some a) (hhi : ∀ m, l.length ≤ m → bnd hi l.length m = some b) (hab : a ≤ b) (hb : b ≤ l.length) {h : Hp} {K : Kont}
    (hK : ∀ v', Sl h0 sz enc v' ((l.take b).drop a) → (blk v' = blk v ∨ blk v' = none) → K v' h) : oSlice 0 sz v lo hi none h K := by
  obtain ⟨p, cap, rfl, hcap, e⟩ := s
  refine ⟨cap, b, a, rfl, hhi _ hcap, fun _ => rfl, hlo _ (Nat.le_refl _), ?_⟩
  have hlen : ((l.take b).drop a).length = b - a := by simp; omega
  have hflat : ((l.take b).drop a).flatMap enc = ((l.flatMap enc).drop (a * sz)).take ((b - a) * sz) := by
    rw [flat_sub he, List.drop_take]
  refine hK _ ⟨_, cap - a, by rw [hlen], by rw [hlen]; omega, ?_⟩ ?_
  · rw [hlen, hflat]
    cases p with
    | none =>
      simp only [srcCells] at e
      split at e
      · rename_i h0
        have : l = [] := List.eq_nil_of_length_eq_zero h0
        subst this
        have hb0 : b = 0 := by simpa using hb
        have ha0 : a = 0 := by omega
        subst hb0; subst ha0
        split <;> simp [srcCells]
      · cases e
    | some q =>
      obtain ⟨x, y, sp⟩ := q
      cases sp with
      | some _ =>
        simp only [srcCells] at e
        split at e
        · rename_i h0
          have : l = [] := List.eq_nil_of_length_eq_zero h0
          subst this
          have hb0 : b = 0 := by simpa using hb
          have ha0 : a = 0 := by omega
          subst hb0; subst ha0
          split <;> simp [srcCells, Addr.add]
        · cases e
      | none =>
        simp only [srcCells, Option.map_eq_some_iff, Prod.mk.injEq, true_and] at e
        obtain ⟨r, hr, rfl⟩ := e
        by_cases hc : cap = a
        · have : b - a = 0 := by omega
          simp [hc, this, srcCells, rdN]
        · simp only [if_neg hc, Option.map_some, add0, srcCells]
          rw [rdN_part hr (by rw [← Nat.add_mul]; exact Nat.mul_le_mul_right _ (by omega))]
          rfl
  · cases p with
    | none => right; split <;> rfl
    | some q => left; split <;> simp [blk, Addr.add] ; split <;> rfl
theorem setL_all (vs : List Value) : ∀ (c : Array Value), c.size = vs.length → (setL c 0 vs).toList = vs := by
  intro c hc
  have := setL_take vs c 0 (by omega)
  rw [Nat.zero_add, List.take_zero, List.nil_append, List.take_of_length_le (by simp [setL_size, hc])] at this
  exact this
/-- append(out, a): a struct's cells go behind what the row holds. -/
theorem Own.push1 (o : Own h base sz enc v l) (he : ∀ a, (enc a).length = sz) (ho : ∀ a, (enc a).all one = true) (a : α) {z c : Array Value} {bytes : Nat}
    (hc : c.toList = enc a) (hB : Base.b ≤ h.size) (hz : z.size = sz) (hb : base ≤ h.size) (hbytes : (l.length + 1) * bytes ≤ 140737488355328) {K : Kont}
    (hK : ∀ v' h', Own h' base sz enc v' (l ++ [a]) → Upd (fun b => base ≤ b) h h' → K v' h') :
    oAppend sz bytes z v (.slice (some ⟨h.size, 0, none⟩) 1 1) (h.push (.cells c)) K := by
  refine Own.append (o.push _) he ho (by simp; omega) hz (Sl.one (a := a) hc (he a)) (by simp; omega) (by simpa using hbytes) ?_
  intro v' h' o' u
  exact hK v' h' o' ((Upd.push (Upd.refl _) _).trans u)
end
theorem e_if2 (c : Bool) (a b : Prop) (ha : c = true → a) (hb : c = false → b) : oIf (.bool c) a b := by cases c <;> simp_all [oIf]
theorem e_ifd (p : Prop) [Decidable p] (a b : Prop) (ha : p → a) (hb : ¬ p → b) : oIf (.bool (decide p)) a b := by
  by_cases h : p
  · rw [decide_eq_true h]; exact ha h
  · rw [decide_eq_false h]; exact hb h
theorem e_ifn (p : Prop) [Decidable p] (a b : Prop) (ha : ¬ p → a) (hb : p → b) : oIf (.bool (!decide p)) a b := by
  by_cases h : p
  · rw [decide_eq_true h]; exact hb h
  · rw [decide_eq_false h]; exact ha h
theorem e_gd (p : Prop) [Decidable p] (w : Bool) (m : Kont → Prop) (h : Hp) (K : Kont) (ha : p → oGuard (.bool true) w m h K) (hb : ¬ p → oGuard (.bool false) w m h K) : oGuard (.bool (decide p)) w m h K := by
  by_cases h : p
  · rw [decide_eq_true h]; exact ha h
  · rw [decide_eq_false h]; exact hb h
theorem e_gn (p : Prop) [Decidable p] (w : Bool) (m : Kont → Prop) (h : Hp) (K : Kont) (ha : ¬ p → oGuard (.bool true) w m h K) (hb : p → oGuard (.bool false) w m h K) : oGuard (.bool (!decide p)) w m h K := by
  by_cases h : p
  · rw [decide_eq_true h]; exact hb h
  · rw [decide_eq_false h]; exact ha h
theorem e_g2 (c : Bool) (w : Bool) (m : Kont → Prop) (h : Hp) (K : Kont) (ha : c = true → oGuard (.bool true) w m h K) (hb : c = false → oGuard (.bool false) w m h K) : oGuard (.bool c) w m h K := by cases c <;> simp_all
theorem e_pd (p : Prop) [Decidable p] (a b : Value) (h : Hp) (K : Kont) (ha : p → K a h) (hb : ¬ p → K b h) : oPick (.bool (decide p)) a b h K := by
  by_cases h : p
  · rw [decide_eq_true h]; exact ha h
  · rw [decide_eq_false h]; exact hb h
theorem e_pn (p : Prop) [Decidable p] (a b : Value) (h : Hp) (K : Kont) (ha : ¬ p → K a h) (hb : p → K b h) : oPick (.bool (!decide p)) a b h K := by
  by_cases h : p
  · rw [decide_eq_true h]; exact hb h
  · rw [decide_eq_false h]; exact ha h
theorem k_cast {K : Kont} {v v' : Value} {h : Hp} (k : K v h) (e : v = v') : K v' h := e ▸ k
/-- Whatever fell below a mark stays, whatever is new may have turned. -/
theorem Upd.ext {a b c : Hp} {base : Nat} (x : Ext a b) (y : Upd (fun r => base ≤ r) b c) (hb : a.size ≤ base) : Ext a c := Upd.fresh x y (fun r hr => .inl (by omega))
theorem Ext.trans {a b c : Hp} (x : Ext a b) (y : Ext b c) : Ext a c := Upd.trans x y
theorem Ext.lift {a b : Hp} {S : Nat → Prop} (x : Ext a b) : Upd S a b := x.mono (fun _ _ h => h.elim)
theorem Ext.hB {a b : Hp} (x : Ext a b) (h : Base.b ≤ a.size) : Base.b ≤ b.size := Nat.le_trans h x.1
theorem Upd.hB {a b : Hp} {S : Nat → Prop} (x : Upd S a b) (h : Base.b ≤ a.size) : Base.b ≤ b.size := Nat.le_trans h x.1
/-! The laws in three bundles: of whole operations, of blocks and numbers, of lists. -/
theorem xa [Base] : type_of% (And.intro (@e_pickT _) (And.intro (@e_pickF _) (And.intro (@e_alloc _) (And.intro (@e_box _) (And.intro (@e_build _) (And.intro (@e_buildSlice _) (And.intro (@e_ldN _) (And.intro (@e_st _) (And.intro (@e_nilCheck _) (And.intro (@e_bin _) (And.intro (@e_eq _) (And.intro (@e_not _) (And.intro (@e_conv _) (And.intro (@e_makeMap _) (And.intro (@e_fieldAddr _) (And.intro (@e_idxS _) (And.intro (@e_idxA _) (And.intro (@e_lookup _) (And.intro (@e_lookupN _) (And.intro (@e_mapUpdate _) (And.intro (@e_delete _) (And.intro (@e_clearMap _) (And.intro (@e_len0 _) (And.intro (@e_len1 _) (And.intro (@e_len2 _) (And.intro (@e_len2n _) (And.intro (@e_extract _) (And.intro (@e_ifT _) (And.intro (@e_ifF _) (And.intro (@e_gTT _) (And.intro (@e_gFF _) (And.intro (@e_gTF _) (And.intro (@e_gFT _) (And.intro (@e_hTT _) (And.intro (@e_hFF _) (And.intro (@e_hTF _) (And.intro (@e_hFT _) (And.intro (@e_gU _) (And.intro (@e_hU _) (And.intro (@e_minmax _) (And.intro (@e_field1 _) (And.intro (@c_ld1 _) ((@onS_some _)))))))))))))))))))))))))))))))))))))))))))) := And.intro (@e_pickT _) (And.intro (@e_pickF _) (And.intro (@e_alloc _) (And.intro (@e_box _) (And.intro (@e_build _) (And.intro (@e_buildSlice _) (And.intro (@e_ldN _) (And.intro (@e_st _) (And.intro (@e_nilCheck _) (And.intro (@e_bin _) (And.intro (@e_eq _) (And.intro (@e_not _) (And.intro (@e_conv _) (And.intro (@e_makeMap _) (And.intro (@e_fieldAddr _) (And.intro (@e_idxS _) (And.intro (@e_idxA _) (And.intro (@e_lookup _) (And.intro (@e_lookupN _) (And.intro (@e_mapUpdate _) (And.intro (@e_delete _) (And.intro (@e_clearMap _) (And.intro (@e_len0 _) (And.intro (@e_len1 _) (And.intro (@e_len2 _) (And.intro (@e_len2n _) (And.intro (@e_extract _) (And.intro (@e_ifT _) (And.intro (@e_ifF _) (And.intro (@e_gTT _) (And.intro (@e_gFF _) (And.intro (@e_gTF _) (And.intro (@e_gFT _) (And.intro (@e_hTT _) (And.intro (@e_hFF _) (And.intro (@e_hTF _) (And.intro (@e_hFT _) (And.intro (@e_gU _) (And.intro (@e_hU _) (And.intro (@e_minmax _) (And.intro (@e_field1 _) (And.intro (@c_ld1 _) ((@onS_some _)))))))))))))))))))))))))))))))))))))))))))
theorem xb [Base] : type_of% (And.intro (@b_add _) (And.intro (@b_sub _) (And.intro (@b_mul _) (And.intro (@b_quo _) (And.intro (@b_rem _) (And.intro (@b_eql _) (And.intro (@b_neq _) (And.intro (@b_lss _) (And.intro (@b_leq _) (And.intro (@b_gtr _) (And.intro (@b_geq _) (And.intro (@rdC_push _) (And.intro (@rdC_pushE _) (And.intro (@rdC_setN _) (And.intro (@rdC_setE _) (And.intro (@rdN_push _) (And.intro (@rdN_pushE _) (And.intro (@rdN_setne _) (And.intro (@rdN_setE _) (And.intro (@rdN_pushP _) (And.intro (@rdN_setP _) (And.intro (@b_push _) (And.intro (@b_pushE _) (And.intro (@b_setN _) (And.intro (@b_setE _) (And.intro (@m_push _) (And.intro (@m_pushE _) (And.intro (@m_setN _) (And.intro (@m_setE _) (And.intro (@wrap_i _) (And.intro (@wrap_u _) (And.intro (@vc_int _) (And.intro (@vc_bool _) (And.intro (@vc_str _) (And.intro (@vc_ptr _) (And.intro (@vc_slice _) (And.intro (@vc_map _) (And.intro (@vc_func _) (And.intro (@vc_agg _) (And.intro (@o_int _) (And.intro (@o_bool _) (And.intro (@o_str _) (And.intro (@o_ptr _) (And.intro (@o_slice _) (And.intro (@o_map _) ((@o_func _))))))))))))))))))))))))))))))))))))))))))))))) := And.intro (@b_add _) (And.intro (@b_sub _) (And.intro (@b_mul _) (And.intro (@b_quo _) (And.intro (@b_rem _) (And.intro (@b_eql _) (And.intro (@b_neq _) (And.intro (@b_lss _) (And.intro (@b_leq _) (And.intro (@b_gtr _) (And.intro (@b_geq _) (And.intro (@rdC_push _) (And.intro (@rdC_pushE _) (And.intro (@rdC_setN _) (And.intro (@rdC_setE _) (And.intro (@rdN_push _) (And.intro (@rdN_pushE _) (And.intro (@rdN_setne _) (And.intro (@rdN_setE _) (And.intro (@rdN_pushP _) (And.intro (@rdN_setP _) (And.intro (@b_push _) (And.intro (@b_pushE _) (And.intro (@b_setN _) (And.intro (@b_setE _) (And.intro (@m_push _) (And.intro (@m_pushE _) (And.intro (@m_setN _) (And.intro (@m_setE _) (And.intro (@wrap_i _) (And.intro (@wrap_u _) (And.intro (@vc_int _) (And.intro (@vc_bool _) (And.intro (@vc_str _) (And.intro (@vc_ptr _) (And.intro (@vc_slice _) (And.intro (@vc_map _) (And.intro (@vc_func _) (And.intro (@vc_agg _) (And.intro (@o_int _) (And.intro (@o_bool _) (And.intro (@o_str _) (And.intro (@o_ptr _) (And.intro (@o_slice _) (And.intro (@o_map _) ((@o_func _))))))))))))))))))))))))))))))))))))))))))))))
theorem xl [Base] : type_of% (And.intro (@Option.isNone_none Addr) (And.intro (@Option.isNone_none Nat) (And.intro (@Option.isNone_some Addr) (And.intro (@Option.isNone_some Nat) (And.intro (@List.drop_zero Value) (And.intro (@List.drop_succ_cons Value) (And.intro (@List.take_zero Value) (And.intro (@List.take_succ_cons Value) (And.intro (@List.toList_toArray Value) (And.intro (@List.size_toArray Value) (And.intro (@List.length_cons Value) (And.intro (@List.length_nil Value) (And.intro (@List.getElem?_toArray Value) (And.intro (@List.getElem?_cons_zero Value) (And.intro (@List.getElem?_cons_succ Value) (And.intro (@List.setIfInBounds_toArray Value) (And.intro (@List.set_cons_zero Value) (And.intro (@List.set_cons_succ Value) (And.intro (@List.all_cons Value) (And.intro (@List.all_nil Value) (And.intro (@Array.size_push AObj) (And.intro (@Array.size_setIfInBounds AObj) (And.intro Int.toNat_natCast (And.intro Nat.zero_add (And.intro Nat.add_zero (And.intro Nat.zero_mul (And.intro Nat.le_refl (And.intro Bool.and_self (And.intro Bool.not_true (And.intro Bool.not_false (And.intro Bool.true_eq_false (Bool.false_eq_true)))))))))))))))))))))))))))))))) := And.intro (@Option.isNone_none Addr) (And.intro (@Option.isNone_none Nat) (And.intro (@Option.isNone_some Addr) (And.intro (@Option.isNone_some Nat) (And.intro (@List.drop_zero Value) (And.intro (@List.drop_succ_cons Value) (And.intro (@List.take_zero Value) (And.intro (@List.take_succ_cons Value) (And.intro (@List.toList_toArray Value) (And.intro (@List.size_toArray Value) (And.intro (@List.length_cons Value) (And.intro (@List.length_nil Value) (And.intro (@List.getElem?_toArray Value) (And.intro (@List.getElem?_cons_zero Value) (And.intro (@List.getElem?_cons_succ Value) (And.intro (@List.setIfInBounds_toArray Value) (And.intro (@List.set_cons_zero Value) (And.intro (@List.set_cons_succ Value) (And.intro (@List.all_cons Value) (And.intro (@List.all_nil Value) (And.intro (@Array.size_push AObj) (And.intro (@Array.size_setIfInBounds AObj) (And.intro Int.toNat_natCast (And.intro Nat.zero_add (And.intro Nat.add_zero (And.intro Nat.zero_mul (And.intro Nat.le_refl (And.intro Bool.and_self (And.intro Bool.not_true (And.intro Bool.not_false (And.intro Bool.true_eq_false (Bool.false_eq_true)))))))))))))))))))))))))))))))
end Go.Proofs.Ytdolepapmpcpiaa

/- What the document's functions on votes compute. -/
namespace Go.Proofs.Ytdolepapmpcpiaa
open Go
set_option linter.unusedSectionVars false
variable [Base]
set_option linter.unusedVariables false
set_option linter.unusedSimpArgs false

instance : Inhabited Vote := ⟨vote0⟩
/-- A slot's vote. -/
def atL (l : List Vote) (s : Int) : Option Vote := l.find? (fun v => decide (v.slot = s))

theorem sp_SameVotes {h : Hp} {a b : Value} {l k : List Vote} (ha : Sl h 6 vcells a l) (hb : Sl h 6 vcells b k) (hl : l.length ≤ 4611686018427387904) {K : Kont} (hK : K (.bool (decide (l = k))) h) : C_r10_SameVotes [a, b] h K := by
  refine ok_r10_SameVotes ?_
  unfold G_r10_SameVotes
  simp (disch := (first | omega | (simp only [sz]; done) | (simp only [lz, Nat.reduceAdd, Nat.reduceLeDiff, Nat.le_refl]; done) | (simp only [sz]; omega))) only [↓xa, xb, xl, Option.bind_some, Option.map_some, implies_true, imp_self, true_and, and_true, if_true, if_false, decide_true, decide_false, Int.cast_ofNat_Int, Int.reduceLT, Int.reduceLE, Int.reduceEq, Nat.reduceAdd, Nat.reduceMul, Nat.reduceLeDiff, setL, bfill, eqV, lookRes, ha.len', hb.len']
  refine e_if2 _ _ _ (fun hc => ?_) (fun hc => ?_)
  · have : ¬ l = k := by rintro rfl; simp at hc
    rwa [decide_eq_false this] at hK
  have hlen : l.length = k.length := by simp at hc; omega
  refine rule_r10_SameVotes_1 (fun v5 h' => ∃ i : Nat, v5 = .int .i64 i ∧ i ≤ l.length ∧ h' = h ∧ l.take i = k.take i) (fun v5 h' => l.length - ival v5) ?_ _ _ _ ⟨0, rfl, Nat.zero_le _, rfl, rfl⟩
  rintro self v5 d h' ⟨i, rfl, hi, rfl, ht⟩ hself
  unfold B_r10_SameVotes_1
  simp (disch := (first | omega | (simp only [sz]; done) | (simp only [lz, Nat.reduceAdd, Nat.reduceLeDiff, Nat.le_refl]; done) | (simp only [sz]; omega))) only [↓xa, xb, xl, Option.bind_some, Option.map_some, implies_true, imp_self, true_and, and_true, if_true, if_false, decide_true, decide_false, Int.cast_ofNat_Int, Int.reduceLT, Int.reduceLE, Int.reduceEq, Nat.reduceAdd, Nat.reduceMul, Nat.reduceLeDiff, setL, bfill, eqV, lookRes, ha.len']
  refine e_if2 _ _ _ (fun hc => ?_) (fun hc => ?_)
  · have hlt : i < l.length := by simp at hc; omega
    have hlt2 : i < k.length := by omega
    simp (disch := (first | omega | (simp only [sz]; done) | (simp only [lz, Nat.reduceAdd, Nat.reduceLeDiff, Nat.le_refl]; done) | (simp only [sz]; omega))) only [↓xa, xb, xl, Option.bind_some, Option.map_some, implies_true, imp_self, true_and, and_true, if_true, if_false, decide_true, decide_false, Int.cast_ofNat_Int, Int.reduceLT, Int.reduceLE, Int.reduceEq, Nat.reduceAdd, Nat.reduceMul, Nat.reduceLeDiff, setL, bfill, eqV, lookRes, ha.idx, hb.idx, ha.row vcells_len, hb.row vcells_len, vcells, eq_vote]
    refine e_if2 _ _ _ (fun hc => ?_) (fun hc => ?_)
    · have : ¬ l = k := by
        rintro rfl; simp at hc
      rwa [decide_eq_false this] at hK
    · have he : nth l i = nth k i := by
        revert hc
        generalize nth l i = x
        generalize nth k i = y
        obtain ⟨s, b, c1, c2, c3, c4⟩ := x
        obtain ⟨s', b', c1', c2', c3', c4'⟩ := y
        simp
      exact hself _ _ _ ⟨i + 1, rfl, hlt, rfl, by rw [take_nth hlt, take_nth hlt2, ht, he]⟩ (by simp only [ival_nat, show ((i : Int) + 1) = ((i + 1 : Nat) : Int) from rfl]; omega)
  · have hge : ¬ i < l.length := by simp at hc; omega
    have : l = k := by rw [List.take_of_length_le (by omega), List.take_of_length_le (by omega)] at ht; exact ht
    rwa [decide_eq_true this] at hK

theorem sp_At {h : Hp} (hB : Base.b ≤ h.size) {a : Value} {l : List Vote} (ha : Sl h 6 vcells a l) (hl : l.length ≤ 4611686018427387904) (s : Int) {K : Kont}
    (hK : ∀ h', Ext h h' → K (.tuple #[voteV ((atL l s).getD vote0), .bool (atL l s).isSome]) h') : C_r11_At [a, .int .i64 s] h K := by
  refine ok_r11_At ?_
  unfold G_r11_At
  simp (disch := (first | omega | (simp only [sz]; done) | (simp only [lz, Nat.reduceAdd, Nat.reduceLeDiff, Nat.le_refl]; done) | (simp only [sz]; omega))) only [↓xa, xb, xl, Option.bind_some, Option.map_some, implies_true, imp_self, true_and, and_true, if_true, if_false, decide_true, decide_false, Int.cast_ofNat_Int, Int.reduceLT, Int.reduceLE, Int.reduceEq, Nat.reduceAdd, Nat.reduceMul, Nat.reduceLeDiff, setL, bfill, eqV, lookRes]
  have ha1 := ha.push (.cells #[.int .i64 0, .int .u64 0, .int .i64 0, .int .i64 0, .int .u64 0, .int .i64 0])
  refine rule_r11_At_1 (fun v5 h' => ∃ i : Nat, v5 = .int .i64 i ∧ i ≤ l.length ∧ h' = h.push (.cells #[.int .i64 0, .int .u64 0, .int .i64 0, .int .i64 0, .int .u64 0, .int .i64 0]) ∧ atL l s = atL (l.drop i) s) (fun v5 h' => l.length - ival v5) ?_ _ _ _ ⟨0, rfl, Nat.zero_le _, rfl, rfl⟩
  rintro self v5 d h' ⟨i, rfl, hi, rfl, ht⟩ hself
  unfold B_r11_At_1
  simp (disch := (first | omega | (simp only [sz]; done) | (simp only [lz, Nat.reduceAdd, Nat.reduceLeDiff, Nat.le_refl]; done) | (simp only [sz]; omega))) only [↓xa, xb, xl, Option.bind_some, Option.map_some, implies_true, imp_self, true_and, and_true, if_true, if_false, decide_true, decide_false, Int.cast_ofNat_Int, Int.reduceLT, Int.reduceLE, Int.reduceEq, Nat.reduceAdd, Nat.reduceMul, Nat.reduceLeDiff, setL, bfill, eqV, lookRes, ha.len']
  refine e_if2 _ _ _ (fun hc => ?_) (fun hc => ?_)
  · have hlt : i < l.length := by simp at hc; omega
    simp (disch := (first | omega | (simp only [sz]; done) | (simp only [lz, Nat.reduceAdd, Nat.reduceLeDiff, Nat.le_refl]; done) | (simp only [sz]; omega))) only [↓xa, xb, xl, Option.bind_some, Option.map_some, implies_true, imp_self, true_and, and_true, if_true, if_false, decide_true, decide_false, Int.cast_ofNat_Int, Int.reduceLT, Int.reduceLE, Int.reduceEq, Nat.reduceAdd, Nat.reduceMul, Nat.reduceLeDiff, setL, bfill, eqV, lookRes, ha1.idx, ha1.cell0 vcells_len, vcells]
    rw [drop_nth hlt] at ht
    have hlt2 : sblk a < h.size := ha.lt vcells_len (by omega) (by decide)
    refine e_if2 _ _ _ (fun hc => ?_) (fun hc => ?_)
    · simp (disch := (first | omega | (simp only [sz]; done) | (simp only [lz, Nat.reduceAdd, Nat.reduceLeDiff, Nat.le_refl]; done) | (simp only [sz]; omega))) only [↓xa, xb, xl, Option.bind_some, Option.map_some, implies_true, imp_self, true_and, and_true, if_true, if_false, decide_true, decide_false, Int.cast_ofNat_Int, Int.reduceLT, Int.reduceLE, Int.reduceEq, Nat.reduceAdd, Nat.reduceMul, Nat.reduceLeDiff, setL, bfill, eqV, lookRes, ha1.idx, ha.row vcells_len, vcells]
      have e : atL l s = some (nth l i) := by rw [ht]; simp only [atL, List.find?_cons, hc]
      rw [e] at hK
      simp only [voteV, Option.getD_some, Option.isSome_some] at hK
      exact hK _ (by repeat' (first | with_reducible exact Upd.refl _ | with_reducible refine Upd.push ?_ _ | with_reducible refine Upd.set ?_ _ _ ?_ | exact .inl (by (first | omega | (simp only [sz]; done) | (simp only [lz, Nat.reduceAdd, Nat.reduceLeDiff, Nat.le_refl]; done) | (simp only [sz]; omega))) | exact .inr rfl | exact .inr (by simp; done)))
    · exact hself _ _ _ ⟨i + 1, rfl, hlt, rfl, by rw [ht]; simp only [atL, List.find?_cons, hc]⟩ (by simp only [ival_nat, show ((i : Int) + 1) = ((i + 1 : Nat) : Int) from rfl]; omega)
  · have hge : ¬ i < l.length := by simp at hc; omega
    have e : atL l s = none := by rw [ht, List.drop_eq_nil_of_le (by omega)]; rfl
    rw [e] at hK
    simp only [voteV, vote0, cmd0, Option.getD_none, Option.isSome_none] at hK
    exact hK _ (by repeat' (first | with_reducible exact Upd.refl _ | with_reducible refine Upd.push ?_ _ | with_reducible refine Upd.set ?_ _ _ ?_ | exact .inl (by (first | omega | (simp only [sz]; done) | (simp only [lz, Nat.reduceAdd, Nat.reduceLeDiff, Nat.le_refl]; done) | (simp only [sz]; omega))) | exact .inr rfl | exact .inr (by simp; done)))
end Go.Proofs.Ytdolepapmpcpiaa

