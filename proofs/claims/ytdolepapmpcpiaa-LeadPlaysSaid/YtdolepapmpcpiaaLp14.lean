/- Lemmas for the theorem of the last text; no condition. -/
import Derived.Test.YtdolepapmpcpiaaLp0
import Derived.Test.YtdolepapmpcpiaaLp1
import Derived.Test.YtdolepapmpcpiaaLp2
import Derived.Test.YtdolepapmpcpiaaLp3
import Derived.Test.YtdolepapmpcpiaaLp4
import Derived.Test.YtdolepapmpcpiaaLp5
import Derived.Test.YtdolepapmpcpiaaLp6
import Derived.Test.YtdolepapmpcpiaaLp7
import Derived.Test.YtdolepapmpcpiaaLp8
import Derived.Test.YtdolepapmpcpiaaLp9
import Derived.Test.YtdolepapmpcpiaaLp10
import Derived.Test.YtdolepapmpcpiaaLp11
import Derived.Test.YtdolepapmpcpiaaLp12
import Derived.Test.YtdolepapmpcpiaaLp13
namespace Go.Proofs.Ytdolepapmpcpiaa
open Go Go.RowKit Go.Maps Go.Shelf
set_option linter.unusedSectionVars false
variable [Base]
set_option linter.unusedVariables false
set_option linter.unusedSimpArgs false
set_option maxRecDepth 10000
theorem eq_cmdD (k ch ep nd k' ch' ep' nd' : Int) : eqL [(0, .int .i64), (1, .int .i64), (2, .int .u64), (3, .int .i64)] [.int .i64 k, .int .i64 ch, .int .u64 ep, .int .i64 nd] [.int .i64 k', .int .i64 ch', .int .u64 ep', .int .i64 nd'] =
    some (decide (k = k' ∧ ch = ch' ∧ ep = ep' ∧ nd = nd')) := by
  rw [eq_cmd]
  congr 1
  simp
def propR (x : LS) (ps : List RP) (c : Cmd) : Int :=
  if x.state ≠ 2 then 12 else if checkC c ≠ 0 then checkC c else if c.kind ≠ 0 ∧ (ps.any fun q => decide (q.cmd = c)) = true then 8 else if 8 ≤ ps.length ∨ x.next = 512 then 9 else 0
def newP (x : LS) (c : Cmd) : RP := ⟨x.next, c, (.slice none 0 0, [])⟩
set_option maxHeartbeats 4000000 in
theorem sp_r13Propose {h : Hp} (hB : Base.b ≤ h.size) {x : LS} {wv vv pv : Value} (h1 : one wv = true) (h2 : one vv = true) {ps : List RP} (hP : Sl h 6 pcells pv ps) (hpo : ∀ q ∈ ps, one q.who.1 = true) (hl : ps.length ≤ 1000) (hn : 0 ≤ x.next ∧ x.next ≤ 512) (c : Cmd) (he : 0 ≤ c.epoch) {K : Kont}
    (hbad : propR x ps c ≠ 0 → ∀ h', Ext h h' → K (.tuple #[rV x wv vv pv, voteV vote0, .int .i64 (propR x ps c)]) h')
    (hok : propR x ps c = 0 → ∀ h' pv', Ext h h' → Own h' h.size 6 pcells pv' (ps ++ [newP x c]) → K (.tuple #[rV (layX x) wv vv pv', voteV (voteP x x.next c), .int .i64 0]) h') :
    C_q145 [rV x wv vv pv, cmdV c] h K := by
  refine ok_q145 ?_
  unfold G_q145
  have h3 := sl_one hP
  obtain ⟨c1, c2, c3, c4⟩ := c
  have bad : ∀ e, propR x ps ⟨c1, c2, c3, c4⟩ = e → e ≠ 0 → ∀ h', Ext h h' → K (.tuple #[.agg #[.int .i64 x.me, .int .i64 x.masters, .int .i64 x.state, .int .u64 x.ballot, .int .i64 x.frm, .int .i64 x.next, wv, vv, pv], .agg #[.int .i64 0, .int .u64 0, .int .i64 0, .int .i64 0, .int .u64 0, .int .i64 0], .int .i64 e]) h' := by
    rintro e rfl h0 h' y
    exact hbad h0 h' y
  unfold rV rcells cmdV
  by_cases hs : x.state = 2
  rotate_left
  · simp (maxSteps := 1000000) (disch := (first | omega | (simp only [sz]; done) | (simp only [lz, Nat.reduceAdd, Nat.reduceLeDiff, Nat.le_refl]; done) | (simp only [sz]; omega))) only [↓xa, xb, xl, Option.bind_some, Option.map_some, implies_true, imp_self, true_and, and_true, if_true, if_false, decide_true, decide_false, Int.cast_ofNat_Int, Int.reduceLT, Int.reduceLE, Int.reduceEq, Nat.reduceAdd, Nat.reduceMul, Nat.reduceLeDiff, setL, bfill, eqV, lookRes, decide_eq_false hs, h1, h2, h3]
    exact bad 12 (by unfold propR; rw [if_pos hs]) (by decide) _ (by repeat' (first | with_reducible exact Upd.refl _ | with_reducible refine Upd.push ?_ _ | with_reducible refine Upd.set ?_ _ _ ?_ | exact .inl (by (first | omega | (simp only [sz]; done) | (simp only [lz, Nat.reduceAdd, Nat.reduceLeDiff, Nat.le_refl]; done) | (simp only [sz]; omega))) | exact .inr rfl | exact .inr (by simp; done)))
  have hs' : ¬ ¬ x.state = 2 := fun h => h hs
  simp (maxSteps := 1000000) (disch := (first | omega | (simp only [sz]; done) | (simp only [lz, Nat.reduceAdd, Nat.reduceLeDiff, Nat.le_refl]; done) | (simp only [sz]; omega))) only [↓xa, xb, xl, Option.bind_some, Option.map_some, implies_true, imp_self, true_and, and_true, if_true, if_false, decide_true, decide_false, Int.cast_ofNat_Int, Int.reduceLT, Int.reduceLE, Int.reduceEq, Nat.reduceAdd, Nat.reduceMul, Nat.reduceLeDiff, setL, bfill, eqV, lookRes, decide_eq_true hs]
  have x2 : Ext h ((((h.push (.cells #[.int .i64 x.me, .int .i64 x.masters, .int .i64 x.state, .int .u64 x.ballot, .int .i64 x.frm, .int .i64 x.next, wv, vv, pv])).push (.cells #[.int .i64 c1, .int .i64 c2, .int .u64 c3, .int .i64 c4])).push (.cells #[.int .i64 0, .int .i64 0, .int .i64 0, .int .u64 0, .int .i64 0, .int .i64 0, .slice none 0 0, .slice none 0 0, .slice none 0 0])).push (.cells #[.int .i64 0, .int .u64 0, .int .i64 0, .int .i64 0, .int .u64 0, .int .i64 0])) := (by repeat' (first | with_reducible exact Upd.refl _ | with_reducible refine Upd.push ?_ _ | with_reducible refine Upd.set ?_ _ _ ?_ | exact .inl (by (first | omega | (simp only [sz]; done) | (simp only [lz, Nat.reduceAdd, Nat.reduceLeDiff, Nat.le_refl]; done) | (simp only [sz]; omega))) | exact .inr rfl | exact .inr (by simp; done)))
  have hb2 : ((((h.push (.cells #[.int .i64 x.me, .int .i64 x.masters, .int .i64 x.state, .int .u64 x.ballot, .int .i64 x.frm, .int .i64 x.next, wv, vv, pv])).push (.cells #[.int .i64 c1, .int .i64 c2, .int .u64 c3, .int .i64 c4])).push (.cells #[.int .i64 0, .int .i64 0, .int .i64 0, .int .u64 0, .int .i64 0, .int .i64 0, .slice none 0 0, .slice none 0 0, .slice none 0 0])).push (.cells #[.int .i64 0, .int .u64 0, .int .i64 0, .int .i64 0, .int .u64 0, .int .i64 0]))[h.size]? = some (.cells #[.int .i64 x.me, .int .i64 x.masters, .int .i64 x.state, .int .u64 x.ballot, .int .i64 x.frm, .int .i64 x.next, wv, vv, pv]) := (by simp (maxSteps := 1000000) (disch := (first | omega | (simp only [sz]; done) | (simp only [lz, Nat.reduceAdd, Nat.reduceLeDiff, Nat.le_refl]; done) | (simp only [sz]; omega))) only [g_push_lt, g_push_eq, g_set_eq, g_set_ne] <;> rfl)
  have hc2 : ((((h.push (.cells #[.int .i64 x.me, .int .i64 x.masters, .int .i64 x.state, .int .u64 x.ballot, .int .i64 x.frm, .int .i64 x.next, wv, vv, pv])).push (.cells #[.int .i64 c1, .int .i64 c2, .int .u64 c3, .int .i64 c4])).push (.cells #[.int .i64 0, .int .i64 0, .int .i64 0, .int .u64 0, .int .i64 0, .int .i64 0, .slice none 0 0, .slice none 0 0, .slice none 0 0])).push (.cells #[.int .i64 0, .int .u64 0, .int .i64 0, .int .i64 0, .int .u64 0, .int .i64 0]))[h.size + 1]? = some (.cells #[.int .i64 c1, .int .i64 c2, .int .u64 c3, .int .i64 c4]) := (by simp (maxSteps := 1000000) (disch := (first | omega | (simp only [sz]; done) | (simp only [lz, Nat.reduceAdd, Nat.reduceLeDiff, Nat.le_refl]; done) | (simp only [sz]; omega))) only [g_push_lt, g_push_eq, g_set_eq, g_set_ne] <;> rfl)
  have hr2 : ((((h.push (.cells #[.int .i64 x.me, .int .i64 x.masters, .int .i64 x.state, .int .u64 x.ballot, .int .i64 x.frm, .int .i64 x.next, wv, vv, pv])).push (.cells #[.int .i64 c1, .int .i64 c2, .int .u64 c3, .int .i64 c4])).push (.cells #[.int .i64 0, .int .i64 0, .int .i64 0, .int .u64 0, .int .i64 0, .int .i64 0, .slice none 0 0, .slice none 0 0, .slice none 0 0])).push (.cells #[.int .i64 0, .int .u64 0, .int .i64 0, .int .i64 0, .int .u64 0, .int .i64 0]))[h.size + 2]? = some (.cells #[.int .i64 0, .int .i64 0, .int .i64 0, .int .u64 0, .int .i64 0, .int .i64 0, .slice none 0 0, .slice none 0 0, .slice none 0 0]) := (by simp (maxSteps := 1000000) (disch := (first | omega | (simp only [sz]; done) | (simp only [lz, Nat.reduceAdd, Nat.reduceLeDiff, Nat.le_refl]; done) | (simp only [sz]; omega))) only [g_push_lt, g_push_eq, g_set_eq, g_set_ne] <;> rfl)
  have hv2 : ((((h.push (.cells #[.int .i64 x.me, .int .i64 x.masters, .int .i64 x.state, .int .u64 x.ballot, .int .i64 x.frm, .int .i64 x.next, wv, vv, pv])).push (.cells #[.int .i64 c1, .int .i64 c2, .int .u64 c3, .int .i64 c4])).push (.cells #[.int .i64 0, .int .i64 0, .int .i64 0, .int .u64 0, .int .i64 0, .int .i64 0, .slice none 0 0, .slice none 0 0, .slice none 0 0])).push (.cells #[.int .i64 0, .int .u64 0, .int .i64 0, .int .i64 0, .int .u64 0, .int .i64 0]))[h.size + 3]? = some (.cells #[.int .i64 0, .int .u64 0, .int .i64 0, .int .i64 0, .int .u64 0, .int .i64 0]) := (by simp (maxSteps := 1000000) (disch := (first | omega | (simp only [sz]; done) | (simp only [lz, Nat.reduceAdd, Nat.reduceLeDiff, Nat.le_refl]; done) | (simp only [sz]; omega))) only [g_push_lt, g_push_eq, g_set_eq, g_set_ne] <;> rfl)
  have z2 : ((((h.push (.cells #[.int .i64 x.me, .int .i64 x.masters, .int .i64 x.state, .int .u64 x.ballot, .int .i64 x.frm, .int .i64 x.next, wv, vv, pv])).push (.cells #[.int .i64 c1, .int .i64 c2, .int .u64 c3, .int .i64 c4])).push (.cells #[.int .i64 0, .int .i64 0, .int .i64 0, .int .u64 0, .int .i64 0, .int .i64 0, .slice none 0 0, .slice none 0 0, .slice none 0 0])).push (.cells #[.int .i64 0, .int .u64 0, .int .i64 0, .int .i64 0, .int .u64 0, .int .i64 0])).size = h.size + 4 := by simp
  generalize (((h.push (.cells #[.int .i64 x.me, .int .i64 x.masters, .int .i64 x.state, .int .u64 x.ballot, .int .i64 x.frm, .int .i64 x.next, wv, vv, pv])).push (.cells #[.int .i64 c1, .int .i64 c2, .int .u64 c3, .int .i64 c4])).push (.cells #[.int .i64 0, .int .i64 0, .int .i64 0, .int .u64 0, .int .i64 0, .int .i64 0, .slice none 0 0, .slice none 0 0, .slice none 0 0])).push (.cells #[.int .i64 0, .int .u64 0, .int .i64 0, .int .i64 0, .int .u64 0, .int .i64 0]) = H2 at *
  refine sp_rCheck (x2.hB hB) ⟨c1, c2, c3, c4⟩ he ?_
  intro h3' x3
  have hb3 := x3.get hb2 id
  have hc3 := x3.get hc2 id
  have hr3 := x3.get hr2 id
  have hv3 := x3.get hv2 id
  have x03 := x2.trans x3
  have z3 := x3.1
  have lr3 := lt_of_get hr3
  have lv3 := lt_of_get hv3
  have hB3 := x03.hB hB
  have hP3 := hP.ext x03
  by_cases e1 : checkC ⟨c1, c2, c3, c4⟩ = 0
  rotate_left
  · simp (maxSteps := 1000000) (disch := (first | omega | (simp only [sz]; done) | (simp only [lz, Nat.reduceAdd, Nat.reduceLeDiff, Nat.le_refl]; done) | (simp only [sz]; omega))) only [↓xa, xb, xl, Option.bind_some, Option.map_some, implies_true, imp_self, true_and, and_true, if_true, if_false, decide_true, decide_false, Int.cast_ofNat_Int, Int.reduceLT, Int.reduceLE, Int.reduceEq, Nat.reduceAdd, Nat.reduceMul, Nat.reduceLeDiff, setL, bfill, eqV, lookRes, decide_eq_false e1, rdN_all hb3, b_blk hr3, b_blk hv3, h1, h2, h3]
    exact bad _ (by unfold propR; rw [if_neg hs', if_pos e1]) e1 _ (by repeat' (first | with_reducible exact Upd.refl _ | with_reducible exact x03 | with_reducible refine Upd.push ?_ _ | with_reducible refine Upd.set ?_ _ _ ?_ | exact .inl (by (first | omega | (simp only [sz]; done) | (simp only [lz, Nat.reduceAdd, Nat.reduceLeDiff, Nat.le_refl]; done) | (simp only [sz]; omega))) | exact .inr rfl | exact .inr (by simp; done)))
  have e1' : ¬ ¬ checkC ⟨c1, c2, c3, c4⟩ = 0 := fun h => h e1
  simp (maxSteps := 1000000) (disch := (first | omega | (simp only [sz]; done) | (simp only [lz, Nat.reduceAdd, Nat.reduceLeDiff, Nat.le_refl]; done) | (simp only [sz]; omega))) only [↓xa, xb, xl, Option.bind_some, Option.map_some, implies_true, imp_self, true_and, and_true, if_true, if_false, decide_true, decide_false, Int.cast_ofNat_Int, Int.reduceLT, Int.reduceLE, Int.reduceEq, Nat.reduceAdd, Nat.reduceMul, Nat.reduceLeDiff, setL, bfill, eqV, lookRes, decide_eq_true e1]
  refine rule_q145_1 (fun v8 h' => ∃ i : Nat, v8 = .int .i64 i ∧ i ≤ ps.length ∧ h' = h3' ∧ (c1 ≠ 0 → ((ps.take i).any fun q => decide (q.cmd = ⟨c1, c2, c3, c4⟩)) = false)) (fun v8 h' => ps.length - ival v8) ?_ _ _ _ ⟨0, rfl, Nat.zero_le _, rfl, fun _ => rfl⟩
  rintro self v8 d h' ⟨i, rfl, hi, rfl, hno⟩ hself
  unfold B_q145_1
  have lc := hP3.len'
  by_cases hlt : i < ps.length
  · have p1 := hP3.part pcells_len i 1 4 hlt (by decide)
    have htk := take_nth hlt
    have hmem := nth_mem hlt
    generalize nth ps i = q at p1 htk hmem
    obtain ⟨qs, ⟨k1, k2, k3, k4⟩, qw⟩ := q
    simp only [pcells] at p1
    have next : (c1 ≠ 0 → ¬ (k1 = c1 ∧ k2 = c2 ∧ k3 = c3 ∧ k4 = c4)) → ∀ d', self (E_q145_1 (pt h.size 0) (pt (h.size + 1) 0) (pt (h.size + 2) 0) (pt (h.size + 3) 0) (.int .i64 ((i : Int) + 1)) d') h' := by
      intro hq d'
      refine hself _ _ _ ⟨i + 1, rfl, hlt, rfl, ?_⟩ (by simp only [ival_nat, isucc]; omega)
      intro hc
      rw [htk, List.any_append, hno hc]
      simpa using hq hc
    have ec := eq_cmdD k1 k2 k3 k4 c1 c2 c3 c4
    by_cases hq : k1 = c1 ∧ k2 = c2 ∧ k3 = c3 ∧ k4 = c4
    · rw [decide_eq_true hq] at ec
      by_cases hc : c1 = 0
      · simp (maxSteps := 1000000) (disch := (first | omega | (simp only [sz]; done) | (simp only [lz, Nat.reduceAdd, Nat.reduceLeDiff, Nat.le_refl]; done) | (simp only [sz]; omega))) only [↓xa, xb, xl, Option.bind_some, Option.map_some, implies_true, imp_self, true_and, and_true, if_true, if_false, decide_true, decide_false, Int.cast_ofNat_Int, Int.reduceLT, Int.reduceLE, Int.reduceEq, Nat.reduceAdd, Nat.reduceMul, Nat.reduceLeDiff, setL, bfill, eqV, lookRes, rdC_blk hb3, ↓hP3.len', decide_eq_true (Int.ofNat_lt.2 hlt), ↓hP3.idx, p1, rdN_all hc3, ec, rdC_blk hc3, decide_eq_true hc, List.drop_succ_cons, List.drop_zero, List.take_succ_cons, List.take_zero]
        exact next (fun h => absurd hc h) _
      · simp (maxSteps := 1000000) (disch := (first | omega | (simp only [sz]; done) | (simp only [lz, Nat.reduceAdd, Nat.reduceLeDiff, Nat.le_refl]; done) | (simp only [sz]; omega))) only [↓xa, xb, xl, Option.bind_some, Option.map_some, implies_true, imp_self, true_and, and_true, if_true, if_false, decide_true, decide_false, Int.cast_ofNat_Int, Int.reduceLT, Int.reduceLE, Int.reduceEq, Nat.reduceAdd, Nat.reduceMul, Nat.reduceLeDiff, setL, bfill, eqV, lookRes, rdC_blk hb3, ↓hP3.len', decide_eq_true (Int.ofNat_lt.2 hlt), ↓hP3.idx, p1, rdN_all hc3, ec, rdC_blk hc3, decide_eq_false hc, rdN_all hb3, b_blk hr3, b_blk hv3, h1, h2, h3, List.drop_succ_cons, List.drop_zero, List.take_succ_cons, List.take_zero]
        refine bad 8 ?_ (by decide) _ (by repeat' (first | with_reducible exact Upd.refl _ | with_reducible exact x03 | with_reducible refine Upd.push ?_ _ | with_reducible refine Upd.set ?_ _ _ ?_ | exact .inl (by (first | omega | (simp only [sz]; done) | (simp only [lz, Nat.reduceAdd, Nat.reduceLeDiff, Nat.le_refl]; done) | (simp only [sz]; omega))) | exact .inr rfl | exact .inr (by simp; done)))
        unfold propR
        rw [if_neg hs', if_neg e1', if_pos]
        refine ⟨hc, List.any_eq_true.2 ⟨_, hmem, ?_⟩⟩
        obtain ⟨rfl, rfl, rfl, rfl⟩ := hq
        simp
    · rw [decide_eq_false hq] at ec
      simp (maxSteps := 1000000) (disch := (first | omega | (simp only [sz]; done) | (simp only [lz, Nat.reduceAdd, Nat.reduceLeDiff, Nat.le_refl]; done) | (simp only [sz]; omega))) only [↓xa, xb, xl, Option.bind_some, Option.map_some, implies_true, imp_self, true_and, and_true, if_true, if_false, decide_true, decide_false, Int.cast_ofNat_Int, Int.reduceLT, Int.reduceLE, Int.reduceEq, Nat.reduceAdd, Nat.reduceMul, Nat.reduceLeDiff, setL, bfill, eqV, lookRes, rdC_blk hb3, ↓hP3.len', decide_eq_true (Int.ofNat_lt.2 hlt), ↓hP3.idx, p1, rdN_all hc3, ec, List.drop_succ_cons, List.drop_zero, List.take_succ_cons, List.take_zero]
      exact next (fun _ => hq) _
  · rw [List.take_of_length_le (by omega)] at hno
    have e2' : ¬ (c1 ≠ 0 ∧ (ps.any fun q => decide (q.cmd = ⟨c1, c2, c3, c4⟩)) = true) := by
      rintro ⟨h1, h2⟩
      rw [hno h1] at h2
      cases h2
    have full : (8 ≤ ps.length ∨ x.next = 512) → propR x ps ⟨c1, c2, c3, c4⟩ = 9 := fun h => by
      unfold propR
      rw [if_neg hs', if_neg e1', if_neg e2', if_pos h]
    by_cases f1 : (8 : Int) ≤ (ps.length : Int)
    · simp (maxSteps := 1000000) (disch := (first | omega | (simp only [sz]; done) | (simp only [lz, Nat.reduceAdd, Nat.reduceLeDiff, Nat.le_refl]; done) | (simp only [sz]; omega))) only [↓xa, xb, xl, Option.bind_some, Option.map_some, implies_true, imp_self, true_and, and_true, if_true, if_false, decide_true, decide_false, Int.cast_ofNat_Int, Int.reduceLT, Int.reduceLE, Int.reduceEq, Nat.reduceAdd, Nat.reduceMul, Nat.reduceLeDiff, setL, bfill, eqV, lookRes, rdC_blk hb3, ↓hP3.len', decide_eq_false (show ¬ (i : Int) < (ps.length : Int) by omega), decide_eq_true f1, rdN_all hb3, b_blk hr3, b_blk hv3, h1, h2, h3]
      exact bad 9 (full (by omega)) (by decide) _ (by repeat' (first | with_reducible exact Upd.refl _ | with_reducible exact x03 | with_reducible refine Upd.push ?_ _ | with_reducible refine Upd.set ?_ _ _ ?_ | exact .inl (by (first | omega | (simp only [sz]; done) | (simp only [lz, Nat.reduceAdd, Nat.reduceLeDiff, Nat.le_refl]; done) | (simp only [sz]; omega))) | exact .inr rfl | exact .inr (by simp; done)))
    by_cases f2 : x.next = 512
    · simp (maxSteps := 1000000) (disch := (first | omega | (simp only [sz]; done) | (simp only [lz, Nat.reduceAdd, Nat.reduceLeDiff, Nat.le_refl]; done) | (simp only [sz]; omega))) only [↓xa, xb, xl, Option.bind_some, Option.map_some, implies_true, imp_self, true_and, and_true, if_true, if_false, decide_true, decide_false, Int.cast_ofNat_Int, Int.reduceLT, Int.reduceLE, Int.reduceEq, Nat.reduceAdd, Nat.reduceMul, Nat.reduceLeDiff, setL, bfill, eqV, lookRes, rdC_blk hb3, ↓hP3.len', decide_eq_false (show ¬ (i : Int) < (ps.length : Int) by omega), decide_eq_false f1, decide_eq_true f2, rdN_all hb3, b_blk hr3, b_blk hv3, h1, h2, h3]
      exact bad 9 (full (by omega)) (by decide) _ (by repeat' (first | with_reducible exact Upd.refl _ | with_reducible exact x03 | with_reducible refine Upd.push ?_ _ | with_reducible refine Upd.set ?_ _ _ ?_ | exact .inl (by (first | omega | (simp only [sz]; done) | (simp only [lz, Nat.reduceAdd, Nat.reduceLeDiff, Nat.le_refl]; done) | (simp only [sz]; omega))) | exact .inr rfl | exact .inr (by simp; done)))
    have e0 : propR x ps ⟨c1, c2, c3, c4⟩ = 0 := by
      unfold propR
      rw [if_neg hs', if_neg e1', if_neg e2', if_neg (by omega)]
    have hok := hok e0
    simp (maxSteps := 1000000) (disch := (first | omega | (simp only [sz]; done) | (simp only [lz, Nat.reduceAdd, Nat.reduceLeDiff, Nat.le_refl]; done) | (simp only [sz]; omega))) only [↓xa, xb, xl, Option.bind_some, Option.map_some, implies_true, imp_self, true_and, and_true, if_true, if_false, decide_true, decide_false, Int.cast_ofNat_Int, Int.reduceLT, Int.reduceLE, Int.reduceEq, Nat.reduceAdd, Nat.reduceMul, Nat.reduceLeDiff, setL, bfill, eqV, lookRes, rdC_blk hb3, ↓hP3.len', decide_eq_false (show ¬ (i : Int) < (ps.length : Int) by omega), decide_eq_false f1, decide_eq_false f2, rdN_all hc3]
    have x4 : Ext h' (Array.setIfInBounds (h'.push (.cells #[.int .i64 0, .int .u64 0, .int .i64 0, .int .i64 0, .int .u64 0, .int .i64 0])) h'.size (.cells #[.int .i64 x.next, .int .u64 x.ballot, .int .i64 c1, .int .i64 c2, .int .u64 c3, .int .i64 c4])) := (by repeat' (first | with_reducible exact Upd.refl _ | with_reducible refine Upd.push ?_ _ | with_reducible refine Upd.set ?_ _ _ ?_ | exact .inl (by (first | omega | (simp only [sz]; done) | (simp only [lz, Nat.reduceAdd, Nat.reduceLeDiff, Nat.le_refl]; done) | (simp only [sz]; omega))) | exact .inr rfl | exact .inr (by simp; done)))
    have hw4 : (Array.setIfInBounds (h'.push (.cells #[.int .i64 0, .int .u64 0, .int .i64 0, .int .i64 0, .int .u64 0, .int .i64 0])) h'.size (.cells #[.int .i64 x.next, .int .u64 x.ballot, .int .i64 c1, .int .i64 c2, .int .u64 c3, .int .i64 c4]))[h'.size]? = some (.cells #[.int .i64 x.next, .int .u64 x.ballot, .int .i64 c1, .int .i64 c2, .int .u64 c3, .int .i64 c4]) := (by simp (maxSteps := 1000000) (disch := (first | omega | (simp only [sz]; done) | (simp only [lz, Nat.reduceAdd, Nat.reduceLeDiff, Nat.le_refl]; done) | (simp only [sz]; omega))) only [g_push_lt, g_push_eq, g_set_eq, g_set_ne] <;> rfl)
    generalize Array.setIfInBounds (h'.push (.cells #[.int .i64 0, .int .u64 0, .int .i64 0, .int .i64 0, .int .u64 0, .int .i64 0])) h'.size (.cells #[.int .i64 x.next, .int .u64 x.ballot, .int .i64 c1, .int .i64 c2, .int .u64 c3, .int .i64 c4]) = h4 at *
    have lw4 := lt_of_get hw4
    have hb4 := x4.get hb3 id
    have hc4 := x4.get hc3 id
    have hr4 := x4.get hr3 id
    have hv4 := x4.get hv3 id
    have hP4 := hP3.ext x4
    have hB4 := x4.hB hB3
    have z4 := x4.1
    have x04 := x03.trans x4
    have fin : ∀ (H : Hp) (pv' : Value) d, Ext h H → H[h.size]? = some (.cells #[.int .i64 x.me, .int .i64 x.masters, .int .i64 x.state, .int .u64 x.ballot, .int .i64 x.frm, .int .i64 x.next, wv, vv, pv']) → H[h.size + 2]? = some (.cells #[.int .i64 0, .int .i64 0, .int .i64 0, .int .u64 0, .int .i64 0, .int .i64 0, .slice none 0 0, .slice none 0 0, .slice none 0 0]) → H[h.size + 3]? = some (.cells #[.int .i64 0, .int .u64 0, .int .i64 0, .int .i64 0, .int .u64 0, .int .i64 0]) → H[h'.size]? = some (.cells #[.int .i64 x.next, .int .u64 x.ballot, .int .i64 c1, .int .i64 c2, .int .u64 c3, .int .i64 c4]) → Own H (h.size + 4) 6 pcells pv' (ps ++ [newP x ⟨c1, c2, c3, c4⟩]) →
        G_q145_3 K (pt h.size 0) (pt (h.size + 1 + 1) 0) (pt (h.size + 1 + 1 + 1) 0) (pt h'.size 0) d H := by
      intro H pv' d xH hbH hrH hvH hwH oH
      rw [req_q145_3]
      unfold R_q145_3
      have k := own_one oH
      have lbH := lt_of_get hbH
      have lrH := lt_of_get hrH
      have lvH := lt_of_get hvH
      have lwH := lt_of_get hwH
      simp (maxSteps := 1000000) (disch := (first | omega | (simp only [sz]; done) | (simp only [lz, Nat.reduceAdd, Nat.reduceLeDiff, Nat.le_refl]; done) | (simp only [sz]; omega))) only [↓xa, xb, xl, Option.bind_some, Option.map_some, implies_true, imp_self, true_and, and_true, if_true, if_false, decide_true, decide_false, Int.cast_ofNat_Int, Int.reduceLT, Int.reduceLE, Int.reduceEq, Nat.reduceAdd, Nat.reduceMul, Nat.reduceLeDiff, setL, bfill, eqV, lookRes, rdC_blk hbH, b_blk hbH, rdN_all hwH, b_blk hrH, b_blk hvH, h1, h2, k]
      refine hok _ pv' (by repeat' (first | with_reducible exact Upd.refl _ | with_reducible exact xH | with_reducible refine Upd.push ?_ _ | with_reducible refine Upd.set ?_ _ _ ?_ | exact .inl (by (first | omega | (simp only [sz]; done) | (simp only [lz, Nat.reduceAdd, Nat.reduceLeDiff, Nat.le_refl]; done) | (simp only [sz]; omega))) | exact .inr rfl | exact .inr (by simp; done))) ?_
      refine (oH.upd (S := fun b => b < h.size + 4) ?_ (fun b hb hs => by have := oH.blk_ge hb; omega)).low (by omega)
      exact Upd.set (Upd.set (Upd.set (Upd.refl _) _ _ (.inr (by omega))) _ _ (.inr (by omega))) _ _ (.inr (by omega))
    have hpo2 : ∀ q ∈ ps ++ [newP x ⟨c1, c2, c3, c4⟩], (pcells q).all one = true := by
      intro q hq
      rcases List.mem_append.1 hq with hq | hq
      · exact pcells_one (hpo q hq)
      · rw [List.mem_singleton] at hq; subst hq; exact pcells_one rfl
    have lb4 := lt_of_get hb4
    have lc4 := lt_of_get hc4
    rw [req_q145_2]
    unfold R_q145_2
    simp (maxSteps := 1000000) (disch := (first | omega | (simp only [sz]; done) | (simp only [lz, Nat.reduceAdd, Nat.reduceLeDiff, Nat.le_refl]; done) | (simp only [sz]; omega))) only [↓xa, xb, xl, Option.bind_some, Option.map_some, implies_true, imp_self, true_and, and_true, if_true, if_false, decide_true, decide_false, Int.cast_ofNat_Int, Int.reduceLT, Int.reduceLE, Int.reduceEq, Nat.reduceAdd, Nat.reduceMul, Nat.reduceLeDiff, setL, bfill, eqV, lookRes, rdC_blk hb4, rdN_all hc4]
    refine ⟨?_, ?_⟩
    · refine Own.appendV (base := h4.size) (bytes := 64) Own.nil pcells_len (fun q hq => pcells_one (hpo q hq)) hB4 ?_ hP4 (Nat.le_refl _) (by simp; omega) ?_
      · rfl
      intro v5 h5 o5 u5
      rw [List.nil_append] at o5
      have x5 : Ext h4 h5 := Upd.ext (Upd.refl _) u5 (Nat.le_refl _)
      have hb5 := x5.get hb4 id
      have hc5 := x5.get hc4 id
      have lb5 := lt_of_get hb5
      have lc5 := lt_of_get hc5
      have hB5 := x5.hB hB4
      simp (maxSteps := 1000000) (disch := (first | omega | (simp only [sz]; done) | (simp only [lz, Nat.reduceAdd, Nat.reduceLeDiff, Nat.le_refl]; done) | (simp only [sz]; omega))) only [↓xa, xb, xl, Option.bind_some, Option.map_some, implies_true, imp_self, true_and, and_true, if_true, if_false, decide_true, decide_false, Int.cast_ofNat_Int, Int.reduceLT, Int.reduceLE, Int.reduceEq, Nat.reduceAdd, Nat.reduceMul, Nat.reduceLeDiff, setL, bfill, eqV, lookRes, rdC_blk hb5, rdN_all hc5]
      refine Own.pushV o5 pcells_len (newP x ⟨c1, c2, c3, c4⟩) hpo2 ?_ hB5 ?_ x5.1 (by omega) ?_
      · rfl
      · rfl
      intro v6 h6 o6 u6
      have x6 : Ext h4 h6 := x5.ext u6 (Nat.le_refl _)
      have hb6 := x6.get hb4 id
      have hc6 := x6.get hc4 id
      have lb6 := lt_of_get hb6
      have k6 := own_one o6
      have kc6 := one_cells k6
      simp (maxSteps := 1000000) (disch := (first | omega | (simp only [sz]; done) | (simp only [lz, Nat.reduceAdd, Nat.reduceLeDiff, Nat.le_refl]; done) | (simp only [sz]; omega))) only [↓xa, xb, xl, Option.bind_some, Option.map_some, implies_true, imp_self, true_and, and_true, if_true, if_false, decide_true, decide_false, Int.cast_ofNat_Int, Int.reduceLT, Int.reduceLE, Int.reduceEq, Nat.reduceAdd, Nat.reduceMul, Nat.reduceLeDiff, setL, bfill, eqV, lookRes, rdC_blk hb6, rdN_all hc6, b_blk hb6, k6, kc6]
      refine fin _ v6 _ (by repeat' (first | with_reducible exact Upd.refl _ | with_reducible exact (x04.trans x6) | with_reducible refine Upd.push ?_ _ | with_reducible refine Upd.set ?_ _ _ ?_ | exact .inl (by (first | omega | (simp only [sz]; done) | (simp only [lz, Nat.reduceAdd, Nat.reduceLeDiff, Nat.le_refl]; done) | (simp only [sz]; omega))) | exact .inr rfl | exact .inr (by simp; done))) (g_set_eq lb6 rfl) ?_ ?_ ?_ ?_
      · rw [g_set_ne (by omega)]; exact x6.get hr4 id
      · rw [g_set_ne (by omega)]; exact x6.get hv4 id
      · rw [g_set_ne (by omega)]; exact x6.get hw4 id
      · refine (o6.upd (S := fun b => b = h.size) (by repeat' (first | with_reducible exact Upd.refl _ | with_reducible refine Upd.push ?_ _ | with_reducible refine Upd.set ?_ _ _ ?_ | exact .inl (by (first | omega | (simp only [sz]; done) | (simp only [lz, Nat.reduceAdd, Nat.reduceLeDiff, Nat.le_refl]; done) | (simp only [sz]; omega))) | exact .inr rfl | exact .inr (by simp; done))) (fun b hb hs => by have := o6.blk_ge hb; omega)).low (by omega)
    · have x5 : Ext h4 (h4.push (.cells #[.int .i64 x.next, .int .i64 c1, .int .i64 c2, .int .u64 c3, .int .i64 c4, .slice none 0 0])) := (by repeat' (first | with_reducible exact Upd.refl _ | with_reducible refine Upd.push ?_ _ | with_reducible refine Upd.set ?_ _ _ ?_ | exact .inl (by (first | omega | (simp only [sz]; done) | (simp only [lz, Nat.reduceAdd, Nat.reduceLeDiff, Nat.le_refl]; done) | (simp only [sz]; omega))) | exact .inr rfl | exact .inr (by simp; done)))
      have s5 : Sl (h4.push (.cells #[.int .i64 x.next, .int .i64 c1, .int .i64 c2, .int .u64 c3, .int .i64 c4, .slice none 0 0])) 6 pcells (.slice (some ⟨h4.size, 0, none⟩) 1 1) [newP x ⟨c1, c2, c3, c4⟩] := Sl.one rfl rfl
      generalize h4.push (.cells #[.int .i64 x.next, .int .i64 c1, .int .i64 c2, .int .u64 c3, .int .i64 c4, .slice none 0 0]) = h5 at *
      have hB5 := x5.hB hB4
      have z5 := x5.1
      have hb5 := x5.get hb4 id
      have hc5 := x5.get hc4 id
      have lb5 := lt_of_get hb5
      have lc5 := lt_of_get hc5
      refine Own.appendV (base := h5.size) (bytes := 64) Own.nil pcells_len (fun q hq => pcells_one (hpo q hq)) hB5 ?_ (hP4.ext x5) (Nat.le_refl _) (by simp; omega) ?_
      · rfl
      intro v6 h6 o6 u6
      rw [List.nil_append] at o6
      have x6 : Ext h5 h6 := Upd.ext (Upd.refl _) u6 (Nat.le_refl _)
      have hb6 := x6.get hb5 id
      have hc6 := x6.get hc5 id
      have hB6 := x6.hB hB5
      simp (maxSteps := 1000000) (disch := (first | omega | (simp only [sz]; done) | (simp only [lz, Nat.reduceAdd, Nat.reduceLeDiff, Nat.le_refl]; done) | (simp only [sz]; omega))) only [↓xa, xb, xl, Option.bind_some, Option.map_some, implies_true, imp_self, true_and, and_true, if_true, if_false, decide_true, decide_false, Int.cast_ofNat_Int, Int.reduceLT, Int.reduceLE, Int.reduceEq, Nat.reduceAdd, Nat.reduceMul, Nat.reduceLeDiff, setL, bfill, eqV, lookRes, rdC_blk hb6, rdN_all hc6]
      refine Own.appendV (bytes := 64) o6 pcells_len (fun q hq => hpo2 q (List.mem_append_right _ hq)) hB6 ?_ (s5.ext x6) x6.1 (by simp; omega) ?_
      · rfl
      intro v7 h7 o7 u7
      have x7 : Ext h5 h7 := x6.ext u7 (Nat.le_refl _)
      have hb7 := x7.get hb5 id
      have hc7 := x7.get hc5 id
      have lb7 := lt_of_get hb7
      have k7 := own_one o7
      have kc7 := one_cells k7
      have x47 := x5.trans x7
      simp (maxSteps := 1000000) (disch := (first | omega | (simp only [sz]; done) | (simp only [lz, Nat.reduceAdd, Nat.reduceLeDiff, Nat.le_refl]; done) | (simp only [sz]; omega))) only [↓xa, xb, xl, Option.bind_some, Option.map_some, implies_true, imp_self, true_and, and_true, if_true, if_false, decide_true, decide_false, Int.cast_ofNat_Int, Int.reduceLT, Int.reduceLE, Int.reduceEq, Nat.reduceAdd, Nat.reduceMul, Nat.reduceLeDiff, setL, bfill, eqV, lookRes, rdC_blk hb7, rdN_all hc7, b_blk hb7, k7, kc7]
      refine fin _ v7 _ (by repeat' (first | with_reducible exact Upd.refl _ | with_reducible exact (x04.trans x47) | with_reducible refine Upd.push ?_ _ | with_reducible refine Upd.set ?_ _ _ ?_ | exact .inl (by (first | omega | (simp only [sz]; done) | (simp only [lz, Nat.reduceAdd, Nat.reduceLeDiff, Nat.le_refl]; done) | (simp only [sz]; omega))) | exact .inr rfl | exact .inr (by simp; done))) (g_set_eq lb7 rfl) ?_ ?_ ?_ ?_
      · rw [g_set_ne (by omega)]; exact x47.get hr4 id
      · rw [g_set_ne (by omega)]; exact x47.get hv4 id
      · rw [g_set_ne (by omega)]; exact x47.get hw4 id
      · refine (o7.upd (S := fun b => b = h.size) (by repeat' (first | with_reducible exact Upd.refl _ | with_reducible refine Upd.push ?_ _ | with_reducible refine Upd.set ?_ _ _ ?_ | exact .inl (by (first | omega | (simp only [sz]; done) | (simp only [lz, Nat.reduceAdd, Nat.reduceLeDiff, Nat.le_refl]; done) | (simp only [sz]; omega))) | exact .inr rfl | exact .inr (by simp; done))) (fun b hb hs => by have := o7.blk_ge hb; omega)).low (by omega)
end Go.Proofs.Ytdolepapmpcpiaa

namespace Go.Proofs.Ytdolepapmpcpiaa
open Go Go.RowKit Go.Maps Go.Shelf
set_option linter.unusedSectionVars false
variable [Base]
set_option linter.unusedVariables false
set_option linter.unusedSimpArgs false
set_option maxRecDepth 10000
theorem sp_r13AcceptedBad {h : Hp} (hB : Base.b ≤ h.size) {x : LS} {wv vv pv : Value} (h1 : one wv = true) (h2 : one vv = true) (h3 : one pv = true) (b s who : Int) (hbad : ¬ ((x.state = 2 ∧ x.ballot = b) ∧ 1 ≤ who ∧ who ≤ x.masters)) {K : Kont}
    (hK : ∀ h', Ext h h' → K (.tuple #[rV x wv vv pv, voteV vote0, .bool false]) h') : C_q128 [rV x wv vv pv, .int .u64 b, .int .i64 s, .int .i64 who] h K := by
  refine ok_q128 ?_
  unfold G_q128
  unfold rV rcells voteV vote0 cmd0 at *
  by_cases c1 : x.state = 2
  · by_cases c2 : x.ballot = b
    · by_cases c3 : who < 1
      · simp (maxSteps := 1000000) (disch := (first | omega | (simp only [sz]; done) | (simp only [lz, Nat.reduceAdd, Nat.reduceLeDiff, Nat.le_refl]; done) | (simp only [sz]; omega))) only [↓xa, xb, xl, Option.bind_some, Option.map_some, implies_true, imp_self, true_and, and_true, if_true, if_false, decide_true, decide_false, Int.cast_ofNat_Int, Int.reduceLT, Int.reduceLE, Int.reduceEq, Nat.reduceAdd, Nat.reduceMul, Nat.reduceLeDiff, setL, bfill, eqV, lookRes, decide_eq_true c1, decide_eq_true c2, decide_eq_true c3, h1, h2, h3]
        exact hK _ (by repeat' (first | with_reducible exact Upd.refl _ | with_reducible refine Upd.push ?_ _ | with_reducible refine Upd.set ?_ _ _ ?_ | exact .inl (by (first | omega | (simp only [sz]; done) | (simp only [lz, Nat.reduceAdd, Nat.reduceLeDiff, Nat.le_refl]; done) | (simp only [sz]; omega))) | exact .inr rfl | exact .inr (by simp; done)))
      · have c4 : x.masters < who := by omega
        simp (maxSteps := 1000000) (disch := (first | omega | (simp only [sz]; done) | (simp only [lz, Nat.reduceAdd, Nat.reduceLeDiff, Nat.le_refl]; done) | (simp only [sz]; omega))) only [↓xa, xb, xl, Option.bind_some, Option.map_some, implies_true, imp_self, true_and, and_true, if_true, if_false, decide_true, decide_false, Int.cast_ofNat_Int, Int.reduceLT, Int.reduceLE, Int.reduceEq, Nat.reduceAdd, Nat.reduceMul, Nat.reduceLeDiff, setL, bfill, eqV, lookRes, decide_eq_true c1, decide_eq_true c2, decide_eq_false c3, decide_eq_true c4, h1, h2, h3]
        exact hK _ (by repeat' (first | with_reducible exact Upd.refl _ | with_reducible refine Upd.push ?_ _ | with_reducible refine Upd.set ?_ _ _ ?_ | exact .inl (by (first | omega | (simp only [sz]; done) | (simp only [lz, Nat.reduceAdd, Nat.reduceLeDiff, Nat.le_refl]; done) | (simp only [sz]; omega))) | exact .inr rfl | exact .inr (by simp; done)))
    · simp (maxSteps := 1000000) (disch := (first | omega | (simp only [sz]; done) | (simp only [lz, Nat.reduceAdd, Nat.reduceLeDiff, Nat.le_refl]; done) | (simp only [sz]; omega))) only [↓xa, xb, xl, Option.bind_some, Option.map_some, implies_true, imp_self, true_and, and_true, if_true, if_false, decide_true, decide_false, Int.cast_ofNat_Int, Int.reduceLT, Int.reduceLE, Int.reduceEq, Nat.reduceAdd, Nat.reduceMul, Nat.reduceLeDiff, setL, bfill, eqV, lookRes, decide_eq_true c1, decide_eq_false c2, h1, h2, h3]
      exact hK _ (by repeat' (first | with_reducible exact Upd.refl _ | with_reducible refine Upd.push ?_ _ | with_reducible refine Upd.set ?_ _ _ ?_ | exact .inl (by (first | omega | (simp only [sz]; done) | (simp only [lz, Nat.reduceAdd, Nat.reduceLeDiff, Nat.le_refl]; done) | (simp only [sz]; omega))) | exact .inr rfl | exact .inr (by simp; done)))
  · simp (maxSteps := 1000000) (disch := (first | omega | (simp only [sz]; done) | (simp only [lz, Nat.reduceAdd, Nat.reduceLeDiff, Nat.le_refl]; done) | (simp only [sz]; omega))) only [↓xa, xb, xl, Option.bind_some, Option.map_some, implies_true, imp_self, true_and, and_true, if_true, if_false, decide_true, decide_false, Int.cast_ofNat_Int, Int.reduceLT, Int.reduceLE, Int.reduceEq, Nat.reduceAdd, Nat.reduceMul, Nat.reduceLeDiff, setL, bfill, eqV, lookRes, decide_eq_false c1, h1, h2, h3]
    exact hK _ (by repeat' (first | with_reducible exact Upd.refl _ | with_reducible refine Upd.push ?_ _ | with_reducible refine Upd.set ?_ _ _ ?_ | exact .inl (by (first | omega | (simp only [sz]; done) | (simp only [lz, Nat.reduceAdd, Nat.reduceLeDiff, Nat.le_refl]; done) | (simp only [sz]; omega))) | exact .inr rfl | exact .inr (by simp; done)))
section
variable {α : Type} {h h0 h' : Hp} {sz base : Nat} {enc : α → List Value} {v : Value} {l : List α}
theorem Own.putC [Inhabited α] (o : Own h base sz enc v l) (he : ∀ a, (enc a).length = sz) {i j : Nat} (hi : i < l.length) (hj : j < sz) {w : Value} (hw : one w = true) (a' : α) (e : enc a' = (enc (nth l i)).set j w) :
    ∃ c, h[sblk v]? = some (.cells c) ∧ soff v + i * sz + j + 1 ≤ c.size ∧ Own (h.setIfInBounds (sblk v) (.cells (c.setIfInBounds (soff v + i * sz + j) w))) base sz enc v (l.set i a') ∧ Upd (fun b => b = sblk v) h (h.setIfInBounds (sblk v) (.cells (c.setIfInBounds (soff v + i * sz + j) w))) ∧ base ≤ sblk v := by
  rcases o with ⟨rfl, rfl⟩ | ⟨g, cap, c, rfl, hbase, hg, hn, hsz, ht⟩
  · simp at hi
  · have hlt : i * sz + j < l.length * sz := by
      have : (i + 1) * sz ≤ l.length * sz := Nat.mul_le_mul_right _ hi
      rw [Nat.add_mul, Nat.one_mul] at this
      omega
    have hle : l.length * sz ≤ cap * sz := Nat.mul_le_mul_right _ hn
    refine ⟨c, hg, by show 0 + i * sz + j + 1 ≤ c.size; omega, ?_, Upd.set (Upd.refl _) _ _ (.inr rfl), hbase⟩
    refine .inr ⟨g, cap, _, by simp, hbase, g_set_eq (lt_of_get hg) rfl, by simpa using hn, by rw [Array.size_setIfInBounds]; exact hsz, ?_⟩
    rw [List.length_set, ← flat_set he hj l i hi e, ← ht]
    show (c.setIfInBounds (0 + i * sz + j) w).toList.take (l.length * sz) = _
    rw [Nat.zero_add, Array.toList_setIfInBounds, List.take_set]
end
def whoP (q : RP) (rv : Value) (r : List Int) : RP := ⟨q.slot, q.cmd, (rv, r)⟩
set_option maxHeartbeats 4000000 in
theorem sp_r13Accepted {h : Hp} (hB : Base.b ≤ h.size) {x : LS} {wv vv pv : Value} (h1 : one wv = true) (h2 : one vv = true) {ps : List RP} (hP : Sl h 6 pcells pv ps) (hq : ∀ q ∈ ps, Sl h 1 icell q.who.1 q.who.2 ∧ q.who.2.length ≤ 1000 ∧ (∀ k ∈ q.who.2, isM k) ∧ Lo h.size q.who.1) (hl : ps.length ≤ 1000) (hm : 1 ≤ x.masters ∧ x.masters ≤ 5)
    {b s who : Int} (hok : (x.state = 2 ∧ x.ballot = b) ∧ 1 ≤ who ∧ who ≤ x.masters) {K : Kont}
    (hnone : (∀ q ∈ ps, q.slot ≠ s) → ∀ h', Ext h h' → K (.tuple #[rV x wv vv pv, voteV vote0, .bool false]) h')
    (hno : ∀ i, i < ps.length → (nth ps i).slot = s → (∀ q ∈ ps.take i, q.slot ≠ s) → ∀ r, (∀ y, y ∈ r ↔ y ∈ (nth ps i).who.2 ∨ y = who) → r.length ≤ (nth ps i).who.2.length + 1 → enoughQ (memQ r) x.masters = false →
      ∀ h' pv' rv, Ext h h' → Own h' h.size 6 pcells pv' (ps.set i (whoP (nth ps i) rv r)) → Sl h' 1 icell rv r → (∀ b, blk rv = some b → (h.size ≤ b ∧ b < h'.size) ∨ blk (nth ps i).who.1 = some b) → K (.tuple #[rV x wv vv pv', voteV vote0, .bool false]) h')
    (hyes : ∀ i, i < ps.length → (nth ps i).slot = s → (∀ q ∈ ps.take i, q.slot ≠ s) → ∀ r, (∀ y, y ∈ r ↔ y ∈ (nth ps i).who.2 ∨ y = who) → enoughQ (memQ r) x.masters = true →
      ∀ h' pv', Ext h h' → Own h' h.size 6 pcells pv' (ps.eraseIdx i) → K (.tuple #[rV x wv vv pv', voteV (voteP x s (nth ps i).cmd), .bool true]) h') :
    C_q128 [rV x wv vv pv, .int .u64 b, .int .i64 s, .int .i64 who] h K := by
  refine ok_q128 ?_
  unfold G_q128
  have h3 := sl_one hP
  have hmm : isM x.masters := isM_of hm.1 hm.2
  have hmw : isM who := isM_of hok.2.1 (by omega)
  unfold rV rcells
  simp (maxSteps := 1000000) (disch := (first | omega | (simp only [sz]; done) | (simp only [lz, Nat.reduceAdd, Nat.reduceLeDiff, Nat.le_refl]; done) | (simp only [sz]; omega))) only [↓xa, xb, xl, Option.bind_some, Option.map_some, implies_true, imp_self, true_and, and_true, if_true, if_false, decide_true, decide_false, Int.cast_ofNat_Int, Int.reduceLT, Int.reduceLE, Int.reduceEq, Nat.reduceAdd, Nat.reduceMul, Nat.reduceLeDiff, setL, bfill, eqV, lookRes, decide_eq_true hok.1.1, decide_eq_true hok.1.2, decide_eq_false (show ¬ who < 1 by omega), decide_eq_false (show ¬ x.masters < who by omega)]
  have x2 : Ext h (((h.push (.cells #[.int .i64 x.me, .int .i64 x.masters, .int .i64 x.state, .int .u64 x.ballot, .int .i64 x.frm, .int .i64 x.next, wv, vv, pv])).push (.cells #[.int .i64 0, .int .i64 0, .int .i64 0, .int .u64 0, .int .i64 0, .int .i64 0, .slice none 0 0, .slice none 0 0, .slice none 0 0])).push (.cells #[.int .i64 0, .int .u64 0, .int .i64 0, .int .i64 0, .int .u64 0, .int .i64 0])) := (by repeat' (first | with_reducible exact Upd.refl _ | with_reducible refine Upd.push ?_ _ | with_reducible refine Upd.set ?_ _ _ ?_ | exact .inl (by (first | omega | (simp only [sz]; done) | (simp only [lz, Nat.reduceAdd, Nat.reduceLeDiff, Nat.le_refl]; done) | (simp only [sz]; omega))) | exact .inr rfl | exact .inr (by simp; done)))
  have hb2 : (((h.push (.cells #[.int .i64 x.me, .int .i64 x.masters, .int .i64 x.state, .int .u64 x.ballot, .int .i64 x.frm, .int .i64 x.next, wv, vv, pv])).push (.cells #[.int .i64 0, .int .i64 0, .int .i64 0, .int .u64 0, .int .i64 0, .int .i64 0, .slice none 0 0, .slice none 0 0, .slice none 0 0])).push (.cells #[.int .i64 0, .int .u64 0, .int .i64 0, .int .i64 0, .int .u64 0, .int .i64 0]))[h.size]? = some (.cells #[.int .i64 x.me, .int .i64 x.masters, .int .i64 x.state, .int .u64 x.ballot, .int .i64 x.frm, .int .i64 x.next, wv, vv, pv]) := (by simp (maxSteps := 1000000) (disch := (first | omega | (simp only [sz]; done) | (simp only [lz, Nat.reduceAdd, Nat.reduceLeDiff, Nat.le_refl]; done) | (simp only [sz]; omega))) only [g_push_lt, g_push_eq, g_set_eq, g_set_ne] <;> rfl)
  have hr2 : (((h.push (.cells #[.int .i64 x.me, .int .i64 x.masters, .int .i64 x.state, .int .u64 x.ballot, .int .i64 x.frm, .int .i64 x.next, wv, vv, pv])).push (.cells #[.int .i64 0, .int .i64 0, .int .i64 0, .int .u64 0, .int .i64 0, .int .i64 0, .slice none 0 0, .slice none 0 0, .slice none 0 0])).push (.cells #[.int .i64 0, .int .u64 0, .int .i64 0, .int .i64 0, .int .u64 0, .int .i64 0]))[h.size + 1]? = some (.cells #[.int .i64 0, .int .i64 0, .int .i64 0, .int .u64 0, .int .i64 0, .int .i64 0, .slice none 0 0, .slice none 0 0, .slice none 0 0]) := (by simp (maxSteps := 1000000) (disch := (first | omega | (simp only [sz]; done) | (simp only [lz, Nat.reduceAdd, Nat.reduceLeDiff, Nat.le_refl]; done) | (simp only [sz]; omega))) only [g_push_lt, g_push_eq, g_set_eq, g_set_ne] <;> rfl)
  have hv2 : (((h.push (.cells #[.int .i64 x.me, .int .i64 x.masters, .int .i64 x.state, .int .u64 x.ballot, .int .i64 x.frm, .int .i64 x.next, wv, vv, pv])).push (.cells #[.int .i64 0, .int .i64 0, .int .i64 0, .int .u64 0, .int .i64 0, .int .i64 0, .slice none 0 0, .slice none 0 0, .slice none 0 0])).push (.cells #[.int .i64 0, .int .u64 0, .int .i64 0, .int .i64 0, .int .u64 0, .int .i64 0]))[h.size + 2]? = some (.cells #[.int .i64 0, .int .u64 0, .int .i64 0, .int .i64 0, .int .u64 0, .int .i64 0]) := (by simp (maxSteps := 1000000) (disch := (first | omega | (simp only [sz]; done) | (simp only [lz, Nat.reduceAdd, Nat.reduceLeDiff, Nat.le_refl]; done) | (simp only [sz]; omega))) only [g_push_lt, g_push_eq, g_set_eq, g_set_ne] <;> rfl)
  have z2 : (((h.push (.cells #[.int .i64 x.me, .int .i64 x.masters, .int .i64 x.state, .int .u64 x.ballot, .int .i64 x.frm, .int .i64 x.next, wv, vv, pv])).push (.cells #[.int .i64 0, .int .i64 0, .int .i64 0, .int .u64 0, .int .i64 0, .int .i64 0, .slice none 0 0, .slice none 0 0, .slice none 0 0])).push (.cells #[.int .i64 0, .int .u64 0, .int .i64 0, .int .i64 0, .int .u64 0, .int .i64 0])).size = h.size + 3 := by simp
  generalize ((h.push (.cells #[.int .i64 x.me, .int .i64 x.masters, .int .i64 x.state, .int .u64 x.ballot, .int .i64 x.frm, .int .i64 x.next, wv, vv, pv])).push (.cells #[.int .i64 0, .int .i64 0, .int .i64 0, .int .u64 0, .int .i64 0, .int .i64 0, .slice none 0 0, .slice none 0 0, .slice none 0 0])).push (.cells #[.int .i64 0, .int .u64 0, .int .i64 0, .int .i64 0, .int .u64 0, .int .i64 0]) = H2 at *
  have lr2 := lt_of_get hr2
  have lv2 := lt_of_get hv2
  have hB2 := x2.hB hB
  have hP2 := hP.ext x2
  refine rule_q128_1 (fun v11 h' => ∃ i : Nat, v11 = .int .i64 i ∧ i ≤ ps.length ∧ h' = H2 ∧ (∀ q ∈ ps.take i, q.slot ≠ s)) (fun v11 h' => ps.length - ival v11) ?_ _ _ _ ⟨0, rfl, Nat.zero_le _, rfl, by simp⟩
  rintro self v11 d h' ⟨i, rfl, hi, rfl, hpre⟩ hself
  unfold B_q128_1
  by_cases hlt : i < ps.length
  rotate_left
  · rw [List.take_of_length_le (by omega)] at hpre
    simp (maxSteps := 1000000) (disch := (first | omega | (simp only [sz]; done) | (simp only [lz, Nat.reduceAdd, Nat.reduceLeDiff, Nat.le_refl]; done) | (simp only [sz]; omega))) only [↓xa, xb, xl, Option.bind_some, Option.map_some, implies_true, imp_self, true_and, and_true, if_true, if_false, decide_true, decide_false, Int.cast_ofNat_Int, Int.reduceLT, Int.reduceLE, Int.reduceEq, Nat.reduceAdd, Nat.reduceMul, Nat.reduceLeDiff, setL, bfill, eqV, lookRes, rdC_blk hb2, ↓hP2.len', decide_eq_false (show ¬ (i : Int) < (ps.length : Int) by omega), rdN_all hb2, b_blk hr2, b_blk hv2, h1, h2, h3]
    exact hnone hpre _ (by repeat' (first | with_reducible exact Upd.refl _ | with_reducible exact x2 | with_reducible refine Upd.push ?_ _ | with_reducible refine Upd.set ?_ _ _ ?_ | exact .inl (by (first | omega | (simp only [sz]; done) | (simp only [lz, Nat.reduceAdd, Nat.reduceLeDiff, Nat.le_refl]; done) | (simp only [sz]; omega))) | exact .inr rfl | exact .inr (by simp; done)))
  have c0 := hP2.cell0 pcells_len i hlt (by decide)
  have htk := take_nth hlt
  have hmem := nth_mem hlt
  have hno := hno i hlt
  have hyes := hyes i hlt
  generalize hqi : nth ps i = q at c0 htk hmem hno hyes
  obtain ⟨qs, ⟨k1, k2, k3, k4⟩, qw⟩ := q
  simp only [pcells, List.getElem?_cons_zero] at c0
  by_cases hs : qs = s
  rotate_left
  · simp (maxSteps := 1000000) (disch := (first | omega | (simp only [sz]; done) | (simp only [lz, Nat.reduceAdd, Nat.reduceLeDiff, Nat.le_refl]; done) | (simp only [sz]; omega))) only [↓xa, xb, xl, Option.bind_some, Option.map_some, implies_true, imp_self, true_and, and_true, if_true, if_false, decide_true, decide_false, Int.cast_ofNat_Int, Int.reduceLT, Int.reduceLE, Int.reduceEq, Nat.reduceAdd, Nat.reduceMul, Nat.reduceLeDiff, setL, bfill, eqV, lookRes, rdC_blk hb2, ↓hP2.len', decide_eq_true (Int.ofNat_lt.2 hlt), ↓hP2.idx, c0, decide_eq_false hs]
    refine hself _ _ _ ⟨i + 1, rfl, hlt, rfl, ?_⟩ (by simp only [ival_nat, isucc]; omega)
    intro q' hq'
    rw [htk] at hq'
    rcases List.mem_append.1 hq' with hq' | hq'
    · exact hpre q' hq'
    · rw [List.mem_singleton] at hq'; subst hq'; exact hs
  simp (maxSteps := 1000000) (disch := (first | omega | (simp only [sz]; done) | (simp only [lz, Nat.reduceAdd, Nat.reduceLeDiff, Nat.le_refl]; done) | (simp only [sz]; omega))) only [↓xa, xb, xl, Option.bind_some, Option.map_some, implies_true, imp_self, true_and, and_true, if_true, if_false, decide_true, decide_false, Int.cast_ofNat_Int, Int.reduceLT, Int.reduceLE, Int.reduceEq, Nat.reduceAdd, Nat.reduceMul, Nat.reduceLeDiff, setL, bfill, eqV, lookRes, rdC_blk hb2, ↓hP2.len', decide_eq_true (Int.ofNat_lt.2 hlt), ↓hP2.idx, c0, decide_eq_true hs]
  have hno := hno hs hpre
  have hyes := hyes hs hpre
  have hpo : ∀ q ∈ ps, (pcells q).all one = true := fun q' hq' => pcells_one (sl_one (hq q' hq').1)
  refine Own.appendV (base := h'.size) (bytes := 64) Own.nil pcells_len hpo hB2 ?_ hP2 (Nat.le_refl _) (by simp; omega) ?_
  · rfl
  intro v3 h3' o3 u3
  rw [List.nil_append] at o3
  have x3 : Ext h' h3' := Upd.ext (Upd.refl _) u3 (Nat.le_refl _)
  have hB3 := x3.hB hB2
  have s3 := o3.sl
  have c5 := s3.cell pcells_len i 5 hlt (by decide)
  rw [hqi] at c5
  simp only [pcells, List.getElem?_cons_zero, List.getElem?_cons_succ] at c5
  simp (maxSteps := 1000000) (disch := (first | omega | (simp only [sz]; done) | (simp only [lz, Nat.reduceAdd, Nat.reduceLeDiff, Nat.le_refl]; done) | (simp only [sz]; omega))) only [↓xa, xb, xl, Option.bind_some, Option.map_some, implies_true, imp_self, true_and, and_true, if_true, if_false, decide_true, decide_false, Int.cast_ofNat_Int, Int.reduceLT, Int.reduceLE, Int.reduceEq, Nat.reduceAdd, Nat.reduceMul, Nat.reduceLeDiff, setL, bfill, eqV, lookRes, ↓s3.idx, c5]
  obtain ⟨hw1, hw2, hw3, hw4⟩ := hq _ hmem
  refine sp_r04With hB3 ((hw1.ext x2).ext x3) (by omega) who ?_
  intro rv h4 r x4 s4 hr hrl hrb
  have hno := hno r hr hrl
  have hyes := hyes r hr
  have o4 := o3.ext x4
  obtain ⟨c, hc, hcs, o5, u5, hbs⟩ := Own.putC o4 pcells_len (i := i) (j := 5) hlt (by decide) (sl_one s4) (whoP ⟨qs, ⟨k1, k2, k3, k4⟩, qw⟩ rv r) (by rw [hqi]; rfl)
  have x34 := x3.trans x4
  have z3 := x3.1
  have z4 := x4.1
  have x5 := Upd.fresh (S := fun _ => False) x34 u5 (fun r hr => .inl (by omega))
  have hb4 := x34.get hb2 id
  have hr4 := x34.get hr2 id
  have hv4 := x34.get hv2 id
  have lb4 := lt_of_get hb4
  have k5 := own_one o5
  have kc5 := one_cells k5
  have kr := sl_one s4
  have krc := one_cells kr
  have lc := lt_of_get hc
  have lv3b : sblk v3 < h3'.size := s3.lt pcells_len (by omega) (by decide)
  have hrv : ∀ b, blk rv = some b → b ≠ sblk v3 ∧ b ≠ h.size := by
    intro b hb
    rcases hrb b hb with h | h
    · omega
    · have := hw4 b h; omega
  have s5 : Sl (h4.setIfInBounds (sblk v3) (.cells (c.setIfInBounds (soff v3 + i * 6 + 5) rv))) 1 icell rv r := s4.upd u5 (fun b hb hs => (hrv b hb).1 hs)
  have hcell : (c.setIfInBounds (soff v3 + i * 6 + 5) rv)[soff v3 + i * 6 + 5]? = some rv := by rw [Array.getElem?_setIfInBounds_self_of_lt (by omega)]
  simp (maxSteps := 1000000) (disch := (first | omega | (simp only [sz]; done) | (simp only [lz, Nat.reduceAdd, Nat.reduceLeDiff, Nat.le_refl]; done) | (simp only [sz]; omega))) only [↓xa, xb, xl, Option.bind_some, Option.map_some, implies_true, imp_self, true_and, and_true, if_true, if_false, decide_true, decide_false, Int.cast_ofNat_Int, Int.reduceLT, Int.reduceLE, Int.reduceEq, Nat.reduceAdd, Nat.reduceMul, Nat.reduceLeDiff, setL, bfill, eqV, lookRes, b_blk hc, kr, krc, b_blk hb4, k5, kc5, h1, h2, hcell]
  have u6 : Upd (fun b => b = h.size) (h4.setIfInBounds (sblk v3) (.cells (c.setIfInBounds (soff v3 + i * 6 + 5) rv))) ((h4.setIfInBounds (sblk v3) (.cells (c.setIfInBounds (soff v3 + i * 6 + 5) rv))).setIfInBounds h.size (.cells #[.int .i64 x.me, .int .i64 x.masters, .int .i64 x.state, .int .u64 x.ballot, .int .i64 x.frm, .int .i64 x.next, wv, vv, v3])) := (by repeat' (first | with_reducible exact Upd.refl _ | with_reducible refine Upd.push ?_ _ | with_reducible refine Upd.set ?_ _ _ ?_ | exact .inl (by (first | omega | (simp only [sz]; done) | (simp only [lz, Nat.reduceAdd, Nat.reduceLeDiff, Nat.le_refl]; done) | (simp only [sz]; omega))) | exact .inr rfl | exact .inr (by simp; done)))
  have hb6 : ((h4.setIfInBounds (sblk v3) (.cells (c.setIfInBounds (soff v3 + i * 6 + 5) rv))).setIfInBounds h.size (.cells #[.int .i64 x.me, .int .i64 x.masters, .int .i64 x.state, .int .u64 x.ballot, .int .i64 x.frm, .int .i64 x.next, wv, vv, v3]))[h.size]? = some (.cells #[.int .i64 x.me, .int .i64 x.masters, .int .i64 x.state, .int .u64 x.ballot, .int .i64 x.frm, .int .i64 x.next, wv, vv, v3]) := g_set_eq (by simpa using lb4) rfl
  have hr6 : ((h4.setIfInBounds (sblk v3) (.cells (c.setIfInBounds (soff v3 + i * 6 + 5) rv))).setIfInBounds h.size (.cells #[.int .i64 x.me, .int .i64 x.masters, .int .i64 x.state, .int .u64 x.ballot, .int .i64 x.frm, .int .i64 x.next, wv, vv, v3]))[h.size + 1]? = some (.cells #[.int .i64 0, .int .i64 0, .int .i64 0, .int .u64 0, .int .i64 0, .int .i64 0, .slice none 0 0, .slice none 0 0, .slice none 0 0]) := by rw [g_set_ne (by omega), g_set_ne (by omega)]; exact hr4
  have hv6 : ((h4.setIfInBounds (sblk v3) (.cells (c.setIfInBounds (soff v3 + i * 6 + 5) rv))).setIfInBounds h.size (.cells #[.int .i64 x.me, .int .i64 x.masters, .int .i64 x.state, .int .u64 x.ballot, .int .i64 x.frm, .int .i64 x.next, wv, vv, v3]))[h.size + 2]? = some (.cells #[.int .i64 0, .int .u64 0, .int .i64 0, .int .i64 0, .int .u64 0, .int .i64 0]) := by rw [g_set_ne (by omega), g_set_ne (by omega)]; exact hv4
  have o6 := o5.upd u6 (fun b hb hs => by have := o5.blk_ge hb; omega)
  have s6 := s5.upd u6 (fun b hb hs => (hrv b hb).2 hs)
  have x6 : Ext h ((h4.setIfInBounds (sblk v3) (.cells (c.setIfInBounds (soff v3 + i * 6 + 5) rv))).setIfInBounds h.size (.cells #[.int .i64 x.me, .int .i64 x.masters, .int .i64 x.state, .int .u64 x.ballot, .int .i64 x.frm, .int .i64 x.next, wv, vv, v3])) := Upd.fresh (x2.trans x5) u6 (fun b hb => .inl (by omega))
  have z6 : ((h4.setIfInBounds (sblk v3) (.cells (c.setIfInBounds (soff v3 + i * 6 + 5) rv))).setIfInBounds h.size (.cells #[.int .i64 x.me, .int .i64 x.masters, .int .i64 x.state, .int .u64 x.ballot, .int .i64 x.frm, .int .i64 x.next, wv, vv, v3])).size = h4.size := by simp
  generalize (h4.setIfInBounds (sblk v3) (.cells (c.setIfInBounds (soff v3 + i * 6 + 5) rv))).setIfInBounds h.size (.cells #[.int .i64 x.me, .int .i64 x.masters, .int .i64 x.state, .int .u64 x.ballot, .int .i64 x.frm, .int .i64 x.next, wv, vv, v3]) = h6 at *
  have lb6 := lt_of_get hb6
  have lr6 := lt_of_get hr6
  have lv6 := lt_of_get hv6
  have hrM : ∀ k ∈ r, isM k := fun k hk => ((hr k).1 hk).elim (hw3 k) (fun e => e ▸ hmw)
  refine ⟨hcs, ?_⟩
  refine sp_r13enough s6 (by simp only at hrl hw2; omega) hrM x.masters hmm ?_
  cases hen : enoughQ (memQ r) x.masters with
  | false =>
    have hno := hno hen
    simp (maxSteps := 1000000) (disch := (first | omega | (simp only [sz]; done) | (simp only [lz, Nat.reduceAdd, Nat.reduceLeDiff, Nat.le_refl]; done) | (simp only [sz]; omega))) only [↓xa, xb, xl, Option.bind_some, Option.map_some, implies_true, imp_self, true_and, and_true, if_true, if_false, decide_true, decide_false, Int.cast_ofNat_Int, Int.reduceLT, Int.reduceLE, Int.reduceEq, Nat.reduceAdd, Nat.reduceMul, Nat.reduceLeDiff, setL, bfill, eqV, lookRes, rdN_all hb6, b_blk hr6, b_blk hv6, h1, h2, k5]
    have u7 : Upd (fun b => b = h.size + 1 ∨ b = h.size + 2) h6 ((h6.setIfInBounds (h.size + 1) (.cells #[.int .i64 x.me, .int .i64 x.masters, .int .i64 x.state, .int .u64 x.ballot, .int .i64 x.frm, .int .i64 x.next, wv, vv, v3])).setIfInBounds (h.size + 1 + 1) (.cells #[.int .i64 0, .int .u64 0, .int .i64 0, .int .i64 0, .int .u64 0, .int .i64 0])) := Upd.set (Upd.set (Upd.refl _) _ _ (.inr (.inl rfl))) _ _ (.inr (.inr rfl))
    refine hno _ v3 rv (by repeat' (first | with_reducible exact Upd.refl _ | with_reducible exact x6 | with_reducible refine Upd.push ?_ _ | with_reducible refine Upd.set ?_ _ _ ?_ | exact .inl (by (first | omega | (simp only [sz]; done) | (simp only [lz, Nat.reduceAdd, Nat.reduceLeDiff, Nat.le_refl]; done) | (simp only [sz]; omega))) | exact .inr rfl | exact .inr (by simp; done))) ?_ ?_ ?_
    · exact (o6.upd u7 (fun b hb hs => by have := o6.blk_ge hb; omega)).low (by omega)
    · refine s6.upd u7 (fun b hb hs => ?_)
      change b = h.size + 1 ∨ b = h.size + 2 at hs
      rcases hrb b hb with h | h
      · omega
      · have := hw4 b h; omega
    · intro b hb
      refine (hrb b hb).imp (fun h => ⟨by omega, by simp only [Array.size_setIfInBounds]; omega⟩) id
  | true =>
    have hyes := hyes hen
    have hlen : (ps.set i (whoP ⟨qs, ⟨k1, k2, k3, k4⟩, qw⟩ rv r)).length = ps.length := by simp
    have hset : (ps.set i (whoP ⟨qs, ⟨k1, k2, k3, k4⟩, qw⟩ rv r)).take i ++ (ps.set i (whoP ⟨qs, ⟨k1, k2, k3, k4⟩, qw⟩ rv r)).drop (i + 1) = ps.eraseIdx i := by
      rw [List.eraseIdx_eq_take_drop_succ, List.take_set_of_le (Nat.le_refl _), List.drop_set_of_lt (by omega)]
    have hnset : nth (ps.set i (whoP ⟨qs, ⟨k1, k2, k3, k4⟩, qw⟩ rv r)) i = whoP ⟨qs, ⟨k1, k2, k3, k4⟩, qw⟩ rv r := by rw [nth_get (by simpa using hlt)]; simp
    have hpo2 : ∀ q ∈ ps.set i (whoP ⟨qs, ⟨k1, k2, k3, k4⟩, qw⟩ rv r), (pcells q).all one = true := by
      intro q' hq'
      rcases List.mem_or_eq_of_mem_set hq' with h | h
      · exact hpo q' h
      · subst h; exact pcells_one kr
    generalize ps.set i (whoP ⟨qs, ⟨k1, k2, k3, k4⟩, qw⟩ rv r) = pz at *
    have c1 := o6.sl.part pcells_len i 1 4 (by omega) (by decide)
    rw [hnset] at c1
    simp only [whoP, pcells, List.drop_succ_cons, List.drop_zero, List.take_succ_cons, List.take_zero] at c1
    have hB6 := x6.hB hB
    simp (maxSteps := 1000000) (disch := (first | omega | (simp only [sz]; done) | (simp only [lz, Nat.reduceAdd, Nat.reduceLeDiff, Nat.le_refl]; done) | (simp only [sz]; omega))) only [↓xa, xb, xl, Option.bind_some, Option.map_some, implies_true, imp_self, true_and, and_true, if_true, if_false, decide_true, decide_false, Int.cast_ofNat_Int, Int.reduceLT, Int.reduceLE, Int.reduceEq, Nat.reduceAdd, Nat.reduceMul, Nat.reduceLeDiff, setL, bfill, eqV, lookRes, ↓o6.sl.idx, c1]
    have x7 : Ext h6 ((h6.push (.cells #[.int .i64 0, .int .u64 0, .int .i64 0, .int .i64 0, .int .u64 0, .int .i64 0])).setIfInBounds h6.size (.cells #[.int .i64 s, .int .u64 b, .int .i64 k1, .int .i64 k2, .int .u64 k3, .int .i64 k4])) := (by repeat' (first | with_reducible exact Upd.refl _ | with_reducible refine Upd.push ?_ _ | with_reducible refine Upd.set ?_ _ _ ?_ | exact .inl (by (first | omega | (simp only [sz]; done) | (simp only [lz, Nat.reduceAdd, Nat.reduceLeDiff, Nat.le_refl]; done) | (simp only [sz]; omega))) | exact .inr rfl | exact .inr (by simp; done)))
    have hw7 : ((h6.push (.cells #[.int .i64 0, .int .u64 0, .int .i64 0, .int .i64 0, .int .u64 0, .int .i64 0])).setIfInBounds h6.size (.cells #[.int .i64 s, .int .u64 b, .int .i64 k1, .int .i64 k2, .int .u64 k3, .int .i64 k4]))[h6.size]? = some (.cells #[.int .i64 s, .int .u64 b, .int .i64 k1, .int .i64 k2, .int .u64 k3, .int .i64 k4]) := (by simp (maxSteps := 1000000) (disch := (first | omega | (simp only [sz]; done) | (simp only [lz, Nat.reduceAdd, Nat.reduceLeDiff, Nat.le_refl]; done) | (simp only [sz]; omega))) only [g_push_lt, g_push_eq, g_set_eq, g_set_ne] <;> rfl)
    generalize (h6.push (.cells #[.int .i64 0, .int .u64 0, .int .i64 0, .int .i64 0, .int .u64 0, .int .i64 0])).setIfInBounds h6.size (.cells #[.int .i64 s, .int .u64 b, .int .i64 k1, .int .i64 k2, .int .u64 k3, .int .i64 k4]) = h7 at *
    have hB7 := x7.hB hB6
    have z7 := x7.1
    have o7 := o6.ext x7
    refine o7.sl.sub pcells_len (a := 0) (b := i) (fun m _ => rfl) (fun m hm => bnd_int (by omega) (by omega)) (by omega) (by omega) ?_
    intro v8 s8 _
    rw [List.drop_zero] at s8
    refine o7.sl.sub pcells_len (a := i + 1) (b := pz.length) (fun m hm => bnd_int (by omega) (by omega)) (fun m hm => rfl) (by omega) (Nat.le_refl _) ?_
    intro v9 s9 _
    rw [List.take_length] at s9
    refine Own.appendV (base := h7.size) (bytes := 64) Own.nil pcells_len (fun q hq => hpo2 q (List.mem_of_mem_take hq)) hB7 ?_ s8 (Nat.le_refl _) (by simp; omega) ?_
    · rfl
    intro v10 h10 o10 u10
    rw [List.nil_append] at o10
    have x10 : Ext h7 h10 := Upd.ext (Upd.refl _) u10 (Nat.le_refl _)
    have hB10 := x10.hB hB7
    refine Own.appendV (bytes := 64) o10 pcells_len (fun q hq => hpo2 q (List.mem_of_mem_drop hq)) hB10 ?_ (s9.ext x10) x10.1 (by simp; omega) ?_
    · rfl
    intro v11 h11 o11 u11
    rw [hset] at o11
    have x11 : Ext h7 h11 := x10.ext u11 (Nat.le_refl _)
    have x711 := x7.trans x11
    have hb11 := x711.get hb6 id
    have hr11 := x711.get hr6 id
    have hv11 := x711.get hv6 id
    have hw11 := x11.get hw7 id
    have lb11 := lt_of_get hb11
    have lr11 := lt_of_get hr11
    have lv11 := lt_of_get hv11
    have k11 := own_one o11
    have kc11 := one_cells k11
    have lw11 := lt_of_get hw11
    simp (maxSteps := 1000000) (disch := (first | omega | (simp only [sz]; done) | (simp only [lz, Nat.reduceAdd, Nat.reduceLeDiff, Nat.le_refl]; done) | (simp only [sz]; omega))) only [↓xa, xb, xl, Option.bind_some, Option.map_some, implies_true, imp_self, true_and, and_true, if_true, if_false, decide_true, decide_false, Int.cast_ofNat_Int, Int.reduceLT, Int.reduceLE, Int.reduceEq, Nat.reduceAdd, Nat.reduceMul, Nat.reduceLeDiff, setL, bfill, eqV, lookRes, b_blk hb11, k11, kc11, h1, h2, rdN_all hw11, b_blk hr11, b_blk hv11]
    have hbl := hok.1.2
    subst hbl
    refine hyes _ v11 (by repeat' (first | with_reducible exact Upd.refl _ | with_reducible exact (x6.trans x711) | with_reducible refine Upd.push ?_ _ | with_reducible refine Upd.set ?_ _ _ ?_ | exact .inl (by (first | omega | (simp only [sz]; done) | (simp only [lz, Nat.reduceAdd, Nat.reduceLeDiff, Nat.le_refl]; done) | (simp only [sz]; omega))) | exact .inr rfl | exact .inr (by simp; done))) ?_
    refine (o11.upd (S := fun b => b < h6.size) ?_ (fun b hb hs => by have := o11.blk_ge hb; omega)).low (by omega)
    exact Upd.set (Upd.set (Upd.set (Upd.refl _) _ _ (.inr (by omega))) _ _ (.inr (by omega))) _ _ (.inr (by omega))
end Go.Proofs.Ytdolepapmpcpiaa

namespace Go.Proofs.Ytdolepapmpcpiaa
open Go
set_option linter.unusedSectionVars false
variable [Base]
set_option linter.unusedVariables false
set_option linter.unusedSimpArgs false
def opnOf (ps : List RP) : List (Int × Prp) := ps.map fun q => (q.slot, ⟨q.cmd, memQ q.who.2⟩)
theorem sortI_self {l : List Int} (h : l.Pairwise (· < ·)) : sortI l = l :=
  List.mergeSort_of_pairwise (h.imp (by intro a b h; simp only [decide_eq_true_eq]; omega))
theorem sortI_perm (l : List Int) : (sortI l).Perm l := List.mergeSort_perm l _
theorem sortI_eq {a b : List Int} (ha : a.Nodup) (hb : b.Pairwise (· < ·)) (h : ∀ x, x ∈ a ↔ x ∈ b) : sortI a = b := by
  have h1 : (sortI a).Perm b := by
    refine (sortI_perm a).trans ?_
    exact (List.perm_ext_iff_of_nodup ha (hb.imp (by intro a b h; omega))).2 h
  exact h1.eq_of_pairwise (fun x y _ _ h1 h2 => by omega) (sortI_lt ha) hb
theorem rng_sorted (m : Int) : (rng m).Pairwise (· < ·) := by
  unfold rng
  refine List.Pairwise.map _ ?_ List.pairwise_lt_range
  intro a b h; omega
theorem sortI_rng {l : List Int} {m : Int} (h : l.Nodup) (hm : ∀ k ∈ l, 1 ≤ k ∧ k ≤ m) : sortI l = (rng m).filter fun k => decide (k ∈ l) := by
  refine sortI_eq h ((rng_sorted m).filter _) ?_
  intro x
  rw [List.mem_filter, rng_mem, decide_eq_true_eq]
  exact ⟨fun hx => ⟨hm x hx, hx⟩, fun hx => hx.2⟩
theorem mget_none {α : Type} {m : List (Int × α)} {k : Int} (h : k ∉ m.map (·.1)) : mget m k = none := by
  cases hg : mget m k with
  | none => rfl
  | some q => exact absurd (List.mem_map.2 ⟨_, mget_mem hg, rfl⟩) h
theorem allL_rng {came : List (Int × LV)} {m : Int} (h : keysOk came) (hm : ∀ k ∈ came.map (·.1), 1 ≤ k ∧ k ≤ m) : allL came = allKs came (rng m) := by
  unfold allL
  rw [sortI_rng h hm]
  unfold allKs
  rw [List.filterMap_filter]
  congr 1
  funext k
  by_cases hk : k ∈ came.map (·.1)
  · simp [hk]
  · rw [mget_none hk]; simp
/-- The lists of votes, as they were told and as they were cut. -/
theorem mget_zipcut {f : Int} : ∀ {came : List (Int × LV)} {ws : List Int} {vs : List LV}, came.map (·.1) = ws → came.map (·.2.2) = vs.map (fun a => cutV f a.2) → ∀ k, (mget came k).map (·.2) = (mget (ws.zip vs) k).map (fun a => cutV f a.2)
  | [], ws, vs, h1, h2, k => by
    simp only [List.map_nil] at h1 h2
    subst h1
    rfl
  | (j, y) :: came, w :: ws, v :: vs, h1, h2, k => by
    simp only [List.map_cons, List.cons.injEq] at h1 h2
    rw [List.zip_cons_cons, mget_cons, mget_cons, h1.1]
    have ih := mget_zipcut h1.2 h2.2 k
    split
    · simp [h2.1]
    · exact ih
  | e :: came, [], vs, h1, h2, k => by simp at h1
  | e :: came, ws, [], h1, h2, k => by simp at h2
theorem votes_cut {f m : Int} {came : List (Int × LV)} {ws : List Int} {vs : List LV} (h1 : came.map (·.1) = ws) (h2 : came.map (·.2.2) = vs.map (fun a => cutV f a.2)) (hk : keysOk came) (hm : ∀ k ∈ came.map (·.1), 1 ≤ k ∧ k ≤ m) :
    votesOf (allL came) = cutV f (votesOf (risM (ws.zip vs) m)) := by
  rw [allL_rng hk hm]
  unfold votesOf risM allKs cutV
  rw [List.filter_flatMap]
  induction rng m with
  | nil => rfl
  | cons k l ih =>
    have e := mget_zipcut (f := f) h1 h2 k
    rw [List.filterMap_cons, List.filterMap_cons]
    cases h3 : mget came k with
    | none =>
      rw [h3] at e
      cases h4 : mget (ws.zip vs) k with
      | none => exact ih
      | some b => rw [h4] at e; cases e
    | some a =>
      rw [h3] at e
      cases h4 : mget (ws.zip vs) k with
      | none => rw [h4] at e; cases e
      | some b =>
        rw [h4] at e
        simp only [Option.map_some, Option.some.injEq] at e
        simp only [List.flatMap_cons, ih, e]
        rfl
theorem bestR_rising {l : List Vote} (h : Rising l) (v : Vote) : Rising (bestR l v) := by
  unfold bestR
  split
  · exact putL_rising v h
  · split
    · exact putL_rising v h
    · exact h
theorem atL_bestR {l : List Vote} (h : Rising l) (v : Vote) (s : Int) (hs : v.slot ≠ s) : atL (bestR l v) s = atL l s := by
  unfold bestR
  split
  · rw [atL_putL v h, if_neg hs]
  · split
    · rw [atL_putL v h, if_neg hs]
    · rfl
theorem atL_bestR2 {a b : List Vote} (ha : Rising a) (hb : Rising b) (v : Vote) (h : atL a v.slot = atL b v.slot) : atL (bestR a v) v.slot = atL (bestR b v) v.slot := by
  unfold bestR
  rw [h]
  cases hg : atL b v.slot with
  | none => simp only [atL_putL v ha, atL_putL v hb, if_true]
  | some o =>
    simp only
    split
    · simp only [atL_putL v ha, atL_putL v hb, if_true]
    · exact h
/-- The best votes of what is cut are the best ones, there. -/
theorem best_cut (f : Int) (l : List Vote) (s : Int) (hs : f ≤ s ∧ s < 512) : atL (rBestL (cutV f l)) s = atL (rBestL l) s := by
  have gen : ∀ (l a b : List Vote), Rising a → Rising b → (∀ s, f ≤ s ∧ s < 512 → atL a s = atL b s) → ∀ s, f ≤ s ∧ s < 512 → atL ((cutV f l).foldl bestR a) s = atL (l.foldl bestR b) s := by
    intro l
    induction l with
    | nil => intro a b _ _ h; exact h
    | cons v l ih =>
      intro a b ha hb h
      unfold cutV at ih ⊢
      by_cases hv : badSlot f v = true
      · rw [List.filter_cons_of_neg (by simp [hv]), List.foldl_cons]
        refine ih a (bestR b v) ha (bestR_rising hb v) (fun s hs => ?_)
        rw [h s hs, atL_bestR hb v s]
        simp only [badSlot, decide_eq_true_eq] at hv
        omega
      · rw [List.filter_cons_of_pos (by simp [hv]), List.foldl_cons, List.foldl_cons]
        refine ih (bestR a v) (bestR b v) (bestR_rising ha v) (bestR_rising hb v) (fun s hs => ?_)
        by_cases e : v.slot = s
        · subst e; exact atL_bestR2 ha hb v (h _ hs)
        · rw [atL_bestR ha v s e, atL_bestR hb v s e, h s hs]
  exact gen l [] [] List.Pairwise.nil List.Pairwise.nil (fun _ _ => rfl) s hs
theorem rBestL_rising (l : List Vote) : Rising (rBestL l) := by
  have gen : ∀ (l a : List Vote), Rising a → Rising (l.foldl bestR a) := by
    intro l
    induction l with
    | nil => intro a h; exact h
    | cons v l ih => intro a h; exact ih _ (bestR_rising h v)
  exact gen l [] List.Pairwise.nil
theorem rBestL_cut_mem {f : Int} {l : List Vote} {v : Vote} (h : v ∈ rBestL (cutV f l)) : f ≤ v.slot ∧ v.slot < 512 := by
  refine rBest_mem (fun v => f ≤ v.slot ∧ v.slot < 512) (cutV f l) [] ?_ (by simp) v h
  intro w hw
  have := (List.mem_filter.1 hw).2
  simp [badSlot] at this
  omega
/-- More is there: in what was cut, too. -/
theorem more_cut {f : Int} {l : List Vote} {s : Int} (hs : f ≤ s) : moreR (rBestL l) s = true ↔ ∃ v ∈ rBestL (cutV f l), s ≤ v.slot := by
  unfold moreR
  rw [List.any_eq_true]
  constructor
  · rintro ⟨v, hv, h⟩
    simp only [decide_eq_true_eq] at h
    have h1 := atL_of_mem (rBestL_rising l) hv
    rw [← best_cut f l v.slot (by omega)] at h1
    obtain ⟨h2, h3⟩ := atL_mem h1
    exact ⟨v, h2, h.1⟩
  · rintro ⟨v, hv, h⟩
    have hc := rBestL_cut_mem hv
    have h1 := atL_of_mem (rBestL_rising (cutV f l)) hv
    rw [best_cut f l v.slot hc] at h1
    exact ⟨v, (atL_mem h1).1, by simp only [decide_eq_true_eq]; omega⟩
theorem rising_last {l : List Vote} (h : Rising l) {w : Vote} (hw : l.getLast? = some w) : ∀ v ∈ l, v.slot ≤ w.slot := by
  intro v hv
  obtain ⟨a, rfl⟩ : ∃ a, l = a ++ [w] := by
    cases l with
    | nil => cases hw
    | cons x y =>
      refine ⟨(x :: y).dropLast, ?_⟩
      have := List.dropLast_concat_getLast (l := x :: y) (by simp)
      rw [List.getLast?_eq_some_getLast (by simp)] at hw
      cases hw
      exact this.symm
  unfold Rising at h
  rw [List.pairwise_append] at h
  rcases List.mem_append.1 hv with hv | hv
  · have := h.2.2 v hv w (by simp); omega
  · rw [List.mem_singleton] at hv; subst hv; exact Int.le_refl _
theorem fillN_eq {f : Int} {l : List Vote} {n : Nat} (h1 : ∀ j : Nat, j < n → moreR (rBestL l) (f + j) = true) (h2 : moreR (rBestL l) (f + n) = false) : fillN f (rBestL (cutV f l)) = n := by
  unfold fillN
  cases hg : (rBestL (cutV f l)).getLast? with
  | none =>
    have : rBestL (cutV f l) = [] := List.getLast?_eq_none_iff.1 hg
    cases n with
    | zero => rfl
    | succ n =>
      obtain ⟨v, hv, _⟩ := (more_cut (f := f) (l := l) (s := f + ((0 : Nat) : Int)) (by omega)).1 (h1 0 (by omega))
      rw [this] at hv
      cases hv
  | some w =>
    have hw := List.mem_of_getLast? hg
    have hc := rBestL_cut_mem hw
    simp only
    have hlast := rising_last (rBestL_rising _) hg
    have hn : ¬ (f + (n : Int) ≤ w.slot) := by
      intro h
      have := (more_cut (f := f) (l := l) (s := f + (n : Int)) (by omega)).2 ⟨w, hw, h⟩
      rw [h2] at this
      cases this
    cases n with
    | zero => omega
    | succ n =>
      obtain ⟨v, hv, h3⟩ := (more_cut (f := f) (l := l) (s := f + (n : Int)) (by omega)).1 (h1 n (by omega))
      have := hlast v hv
      omega
theorem fill_eq {f : Int} {l : List Vote} {n : Nat} (hn : f + n ≤ 512) : fillM f (rBestL (cutV f l)) n = opnOf (fillR f (rBestL l) n) := by
  unfold fillM opnOf fillR
  rw [List.map_map]
  apply List.map_congr_left
  intro j hj
  rw [List.mem_range] at hj
  simp only [Function.comp]
  rw [best_cut f l _ (by omega)]
  rfl
theorem opnOf_keys (ps : List RP) : (opnOf ps).map (·.1) = ps.map (·.slot) := by simp [opnOf]
theorem openKs_of {x : LS} {m : List (Int × Prp)} : ∀ {l : List (Int × Prp)}, (∀ e ∈ l, mget m e.1 = some e.2) → openKs x m (l.map (·.1)) = l.map fun e => voteP x e.1 e.2.cmd
  | [], _ => rfl
  | e :: l, h => by
    have ih := openKs_of (x := x) (m := m) (l := l) (fun e he => h e (List.mem_cons_of_mem _ he))
    unfold openKs at ih ⊢
    rw [List.map_cons, List.filterMap_cons, h e (List.mem_cons_self ..), Option.map_some, ih]
    rfl
def Up (ps : List RP) : Prop := (ps.map (·.slot)).Pairwise (· < ·)
theorem Up.keys {ps : List RP} (h : Up ps) : keysOk (opnOf ps) := by
  unfold keysOk
  rw [opnOf_keys]
  exact h.imp (by intro a b h; omega)
theorem openL_eq {x : LS} {ps : List RP} (h : Up ps) : openL x (opnOf ps) = openR x ps := by
  unfold openL
  rw [opnOf_keys, sortI_self h, ← opnOf_keys, openKs_of (fun e he => mget_of_mem h.keys (by cases e; exact he))]
  simp [opnOf, openR, voteP]
theorem Up.snoc {ps : List RP} (h : Up ps) {q : RP} (hq : ∀ p ∈ ps, p.slot < q.slot) : Up (ps ++ [q]) := by
  unfold Up at *
  rw [List.map_append, List.pairwise_append]
  refine ⟨h, by simp, ?_⟩
  intro a ha b hb
  obtain ⟨p, hp, rfl⟩ := List.mem_map.1 ha
  simp only [List.map_cons, List.map_nil, List.mem_singleton] at hb
  subst hb
  exact hq p hp
theorem opn_snoc {ps : List RP} {q : RP} (hq : ∀ p ∈ ps, p.slot < q.slot) : mset (opnOf ps) q.slot ⟨q.cmd, memQ q.who.2⟩ = opnOf (ps ++ [q]) := by
  rw [mset_new, opnOf, opnOf, List.map_append]
  · rfl
  · rw [opnOf_keys]
    intro h
    obtain ⟨p, hp, e⟩ := List.mem_map.1 h
    have := hq p hp
    omega
theorem mfind_at {α : Type} : ∀ {m : List (Int × α)} {i : Nat} {s : Int} {y : α} (t : Nat), m[i]? = some (s, y) → (∀ e ∈ m.take i, e.1 ≠ s) → mfind m s t = some (t + i, y)
  | [], i, s, y, t, h, _ => by simp at h
  | (j, z) :: m, 0, s, y, t, h, _ => by
    simp only [List.getElem?_cons_zero, Option.some.injEq, Prod.mk.injEq] at h
    simp [mfind, h.1, h.2]
  | (j, z) :: m, i + 1, s, y, t, h, hp => by
    simp only [List.getElem?_cons_succ] at h
    have hj : j ≠ s := hp (j, z) (by simp)
    unfold mfind
    rw [if_neg (fun e => hj e.symm), mfind_at (t + 1) h (fun e he => hp e (by rw [List.take_succ_cons]; exact List.mem_cons_of_mem _ he))]
    congr 2
    omega
theorem opn_find {ps : List RP} {i : Nat} (hi : i < ps.length) {s : Int} (hs : (nth ps i).slot = s) (hp : ∀ q ∈ ps.take i, q.slot ≠ s) : mfind (opnOf ps) s 0 = some (i, ⟨(nth ps i).cmd, memQ (nth ps i).who.2⟩) := by
  have := mfind_at (m := opnOf ps) (i := i) (s := s) (y := ⟨(nth ps i).cmd, memQ (nth ps i).who.2⟩) 0 ?_ ?_
  · rw [Nat.zero_add] at this; exact this
  · unfold opnOf
    rw [List.getElem?_map, List.getElem?_eq_getElem hi, ← nth_get hi, ← hs]
    rfl
  · unfold opnOf
    rw [← List.map_take]
    intro e he
    obtain ⟨q, hq, rfl⟩ := List.mem_map.1 he
    exact hp q hq
theorem opn_none {ps : List RP} {s : Int} (hp : ∀ q ∈ ps, q.slot ≠ s) : mget (opnOf ps) s = none := by
  refine mget_none ?_
  rw [opnOf_keys]
  intro h
  obtain ⟨p, h1, e⟩ := List.mem_map.1 h
  exact hp p h1 e
theorem opn_set {ps : List RP} {i : Nat} (hi : i < ps.length) {s : Int} (hs : (nth ps i).slot = s) (hp : ∀ q ∈ ps.take i, q.slot ≠ s) {rv : Value} {r : List Int} :
    mset (opnOf ps) s ⟨(nth ps i).cmd, memQ r⟩ = opnOf (ps.set i (whoP (nth ps i) rv r)) := by
  unfold mset
  rw [opn_find hi hs hp]
  simp only [opnOf, List.map_set, whoP, hs]
theorem opn_del {ps : List RP} {i : Nat} (hi : i < ps.length) {s : Int} (hs : (nth ps i).slot = s) (hp : ∀ q ∈ ps.take i, q.slot ≠ s) {r : List Int} :
    mdel (mset (opnOf ps) s ⟨(nth ps i).cmd, memQ r⟩) s = opnOf (ps.eraseIdx i) := by
  rw [opn_set hi hs hp (rv := undef)]
  have hl : i < (ps.set i (whoP (nth ps i) undef r)).length := by simpa using hi
  have hn : nth (ps.set i (whoP (nth ps i) undef r)) i = whoP (nth ps i) undef r := by rw [nth_get hl]; simp
  unfold mdel
  rw [opn_find hl (by rw [hn]; exact hs) (by rw [List.take_set_of_le (Nat.le_refl _)]; exact hp)]
  simp only [opnOf, List.eraseIdx_eq_take_drop_succ, ← List.map_take, ← List.map_drop, ← List.map_append]
  rw [List.take_set_of_le (Nat.le_refl _), List.drop_set_of_lt (by omega)]
theorem memQ_with {l r : List Int} {who : Int} (h : ∀ y, y ∈ r ↔ y ∈ l ∨ y = who) : memQ r = addQ (memQ l) who := by
  funext i
  simp only [memQ, addQ, h i]
  by_cases h1 : i ∈ l <;> by_cases h2 : i = who <;> simp [h1, h2]
theorem Up.set {ps : List RP} (h : Up ps) {i : Nat} (hi : i < ps.length) {rv : Value} {r : List Int} : Up (ps.set i (whoP (nth ps i) rv r)) := by
  unfold Up at *
  have : (ps.set i (whoP (nth ps i) rv r)).map (·.slot) = ps.map (·.slot) := by
    rw [List.map_set]
    apply List.ext_getElem?
    intro j
    rw [List.getElem?_set]
    split
    · rename_i e
      subst e
      simp [hi, whoP, nth_get hi]
    · rfl
  rw [this]
  exact h
theorem Up.erase {ps : List RP} (h : Up ps) (i : Nat) : Up (ps.eraseIdx i) := by
  unfold Up at *
  exact h.sublist ((List.eraseIdx_sublist ps i).map _)
theorem fillR_up (f : Int) (best : List Vote) (n : Nat) : Up (fillR f best n) := by
  unfold Up fillR
  rw [List.map_map]
  refine List.Pairwise.map _ ?_ List.pairwise_lt_range
  intro a b h
  simp only [Function.comp]
  omega
theorem prop_eq {x : LS} {ps : List RP} (h : Up ps) (hn : x.next ≤ 512) (c : Cmd) : propE x (opnOf ps) c = propR x ps c := by
  unfold propE propR
  rw [openL_eq h]
  have e1 : ((openR x ps).any (isCmd c)) = ps.any fun q => decide (q.cmd = c) := by
    unfold openR
    rw [List.any_map]
    rfl
  have e2 : (opnOf ps).length = ps.length := by simp [opnOf]
  rw [e1, e2]
  have e3 : (8 ≤ ps.length ∨ 512 ≤ x.next) ↔ (8 ≤ ps.length ∨ x.next = 512) := by omega
  simp only [e3]
end Go.Proofs.Ytdolepapmpcpiaa

namespace Go.Proofs.Ytdolepapmpcpiaa
open Go Go.RowKit Go.Maps Go.Shelf
set_option linter.unusedSectionVars false
variable [Base]
set_option linter.unusedVariables false
set_option linter.unusedSimpArgs false
set_option maxRecDepth 10000
theorem seqC0 {h : Hp} {b : Nat} (hb : h[b]? = some (.cells #[.map none])) (w : World) (hw : hv w = h) :
    SeqGives Fence.wide 2 Try.prog 87 #[pt b 0] encZ (fun ss => ss.Perm ([] : List Int)) 0 w := by
  subst hw
  have := AnyZI.keys_gives_nil (ρ := Try.keysC_ren) { Try.keysC with } Fence.wide 2 trivial rfl b w (by rw [← hv_size]; exact lt_of_get hb) (cell_of hb)
  intro l J W hW hJ hY h0
  refine CallsIn.mono (this l J W hW hJ hY h0) ?_
  rintro e W' ⟨hv, xs, hx, hj⟩
  exact ⟨hv, xs, by rw [hx], hj⟩
set_option maxHeartbeats 1000000 in
theorem sp_lOpen0 {h : Hp} (hB : Base.b ≤ h.size) {p : Nat} {x : LS} {cm : Option Nat} (hb : h[p]? = some (.cells (lcells x cm none))) {K : Kont}
    (hK : ∀ v h', Ext h h' → Own h' h.size 6 vcells v [] → K v h') : C_q94 [pt p 0] h K := by
  refine ok_q94 ?_
  unfold G_q94
  have lp := lt_of_get hb
  simp (maxSteps := 1000000) (disch := (first | omega | (simp only [sz]; done) | (simp only [lz, Nat.reduceAdd, Nat.reduceLeDiff, Nat.le_refl]; done) | (simp only [sz]; omega))) only [↓xa, xb, xl, Option.bind_some, Option.map_some, implies_true, imp_self, true_and, and_true, if_true, if_false, decide_true, decide_false, Int.cast_ofNat_Int, Int.reduceLT, Int.reduceLE, Int.reduceEq, Nat.reduceAdd, Nat.reduceMul, Nat.reduceLeDiff, setL, bfill, eqV, lookRes, rdC_blk hb, lcells]
  refine ok_q1 ?_
  unfold G_q1
  (try simp (maxSteps := 1000000) (disch := (first | omega | (simp only [sz]; done) | (simp only [lz, Nat.reduceAdd, Nat.reduceLeDiff, Nat.le_refl]; done) | (simp only [sz]; omega))) only [↓xa, xb, xl, Option.bind_some, Option.map_some, implies_true, imp_self, true_and, and_true, if_true, if_false, decide_true, decide_false, Int.cast_ofNat_Int, Int.reduceLT, Int.reduceLE, Int.reduceEq, Nat.reduceAdd, Nat.reduceMul, Nat.reduceLeDiff, setL, bfill, eqV, lookRes])
  refine sorted_of (ks := []) (by simp; omega) en87 (by simp) (seqC0 (g_push_eq rfl)) ?_
  intro v1 h1 x1 hrow hnil
  have hv1 := hnil.2 rfl
  subst hv1
  have x0 : Ext h h1 := Ext.trans (by repeat' (first | with_reducible exact Upd.refl _ | with_reducible refine Upd.push ?_ _ | with_reducible refine Upd.set ?_ _ _ ?_ | exact .inl (by (first | omega | (simp only [sz]; done) | (simp only [lz, Nat.reduceAdd, Nat.reduceLeDiff, Nat.le_refl]; done) | (simp only [sz]; omega))) | exact .inr rfl | exact .inr (by simp; done))) x1
  (try simp (maxSteps := 1000000) (disch := (first | omega | (simp only [sz]; done) | (simp only [lz, Nat.reduceAdd, Nat.reduceLeDiff, Nat.le_refl]; done) | (simp only [sz]; omega))) only [↓xa, xb, xl, Option.bind_some, Option.map_some, implies_true, imp_self, true_and, and_true, if_true, if_false, decide_true, decide_false, Int.cast_ofNat_Int, Int.reduceLT, Int.reduceLE, Int.reduceEq, Nat.reduceAdd, Nat.reduceMul, Nat.reduceLeDiff, setL, bfill, eqV, lookRes])
  refine rule_q94_1 (fun v3 v11 h' => v11 = .int .i64 0 ∧ h' = h1 ∧ v3 = .slice none 0 0) (fun v3 v11 h' => 0) ?_ _ _ _ _ ⟨rfl, rfl, rfl⟩
  rintro self v3 v11 d h' ⟨rfl, rfl, rfl⟩ hself
  unfold B_q94_1
  simp (maxSteps := 1000000) (disch := (first | omega | (simp only [sz]; done) | (simp only [lz, Nat.reduceAdd, Nat.reduceLeDiff, Nat.le_refl]; done) | (simp only [sz]; omega))) only [↓xa, xb, xl, Option.bind_some, Option.map_some, implies_true, imp_self, true_and, and_true, if_true, if_false, decide_true, decide_false, Int.cast_ofNat_Int, Int.reduceLT, Int.reduceLE, Int.reduceEq, Nat.reduceAdd, Nat.reduceMul, Nat.reduceLeDiff, setL, bfill, eqV, lookRes, decide_eq_false (show ¬ (0 : Int) < 0 by omega)]
  exact hK _ _ x0 Own.nil
/-- The document's leader, as it lies; F: blocks at which nothing of it lies. -/
structure RefL (h : Hp) (F : Nat → Prop) (wv vv pv : Value) (ws : List Int) (vs : List LV) (ps : List RP) : Prop where
  sw : Sl h 1 icell wv ws
  sv : Sll h vv vs
  sp : Sl h 6 pcells pv ps
  sq : ∀ q ∈ ps, Sl h 1 icell q.who.1 q.who.2
  low : Lo h.size wv ∧ Lo h.size vv ∧ Lo h.size pv ∧ ∀ q ∈ ps, Lo h.size q.who.1
  off : ∀ b, F b → blk wv ≠ some b ∧ blk vv ≠ some b ∧ blk pv ≠ some b ∧ (∀ q ∈ ps, blk q.who.1 ≠ some b) ∧ ∀ a ∈ vs, a.2 ≠ [] → blk a.1 ≠ some b
theorem Lo.mono {n m : Nat} {v : Value} (h : Lo n v) (hm : n ≤ m) : Lo m v := fun b hb => Nat.lt_of_lt_of_le (h b hb) hm
section
variable {h h' : Hp} {F : Nat → Prop} {N p : Nat} {wv vv pv : Value} {ws : List Int} {vs : List LV} {ps : List RP} {x : LS} {came : List (Int × LV)} {opn : List (Int × Prp)}
theorem RefL.ext (r : RefL h F wv vv pv ws vs ps) (x : Ext h h') : RefL h' F wv vv pv ws vs ps :=
  ⟨r.sw.ext x, r.sv.ext x, r.sp.ext x, fun q hq => (r.sq q hq).ext x, ⟨r.low.1.mono x.1, r.low.2.1.mono x.1, r.low.2.2.1.mono x.1, fun q hq => (r.low.2.2.2 q hq).mono x.1⟩, r.off⟩
theorem RefL.less {G : Nat → Prop} (r : RefL h F wv vv pv ws vs ps) (hG : ∀ b, G b → F b) : RefL h G wv vv pv ws vs ps := { r with off := fun b hb => r.off b (hG b hb) }
theorem RefL.wide (r : RefL h F wv vv pv ws vs ps) : RefL h (fun b => F b ∨ h.size ≤ b) wv vv pv ws vs ps := by
  refine { r with off := ?_ }
  rintro b (hb | hb)
  · exact r.off b hb
  · refine ⟨fun e => ?_, fun e => ?_, fun e => ?_, fun q hq e => ?_, fun a ha h0 e => ?_⟩
    · have := r.low.1 b e; omega
    · have := r.low.2.1 b e; omega
    · have := r.low.2.2.1 b e; omega
    · have := r.low.2.2.2 q hq b e; omega
    · have hl : 0 < a.2.length := List.length_pos_iff.2 h0
      have h1 := (r.sv.2 a ha).lt vcells_len hl (by decide)
      rw [(r.sv.2 a ha).blk_some hl] at e
      cases e
      omega
theorem RefL.keep {S : Nat → Prop} (r : RefL h F wv vv pv ws vs ps) (u : Upd S h h') (hS : ∀ b, S b → F b ∨ ∃ m, h[b]? = some (.map m)) : RefL h' F wv vv pv ws vs ps := by
  have go : ∀ {v : Value}, (∀ b, F b → blk v ≠ some b) → ∀ b, S b → blk v = some b → ∃ m, h[b]? = some (.map m) := by
    intro v hv b hs hb
    rcases hS b hs with h | h
    · exact absurd hb (hv b h)
    · exact h
  refine ⟨r.sw.keep icell_len (by decide) u (go fun b hb => (r.off b hb).1), ⟨r.sv.1.keep lvc_len (by decide) u (go fun b hb => (r.off b hb).2.1), fun a ha => ?_⟩, r.sp.keep pcells_len (by decide) u (go fun b hb => (r.off b hb).2.2.1), fun q hq => (r.sq q hq).keep icell_len (by decide) u (go fun b hb => (r.off b hb).2.2.2.1 q hq),
    ⟨r.low.1.mono u.1, r.low.2.1.mono u.1, r.low.2.2.1.mono u.1, fun q hq => (r.low.2.2.2 q hq).mono u.1⟩, r.off⟩
  by_cases h0 : a.2 = []
  · have s := r.sv.2 a ha
    rw [h0] at s ⊢
    obtain ⟨q, cap, e, hc, e2⟩ := s
    refine ⟨q, cap, e, hc, ?_⟩
    rw [e] at e2 ⊢
    cases q with
    | none => exact e2
    | some ad =>
      obtain ⟨b, o, sp⟩ := ad
      cases sp with
      | none => simp [srcCells, rdN]
      | some _ => simp [srcCells]
  · exact (r.sv.2 a ha).keep vcells_len (by decide) u (go fun b hb => (r.off b hb).2.2.2.2 a ha h0)
/-- The program's leader, started or not. -/
def Prg (h : Hp) (F : Nat → Prop) (N p : Nat) (x : LS) (came : List (Int × LV)) (opn : List (Int × Prp)) : Prop :=
  (∃ rc ro, N ≤ rc ∧ N ≤ ro ∧ Lead h p rc ro x came opn ∧ (x.state = 1 → CameIn h came) ∧ ∀ e ∈ came, ∀ b, blk e.2.1 = some b → b ≠ p ∧ b ≠ rc ∧ b ≠ ro ∧ b < h.size ∧ ¬ F b) ∨
  (h[p]? = some (.cells (lcells x none none)) ∧ came = [] ∧ opn = [] ∧ x.state = 0)
theorem Prg.ext (a : Prg h F N p x came opn) (y : Ext h h') : Prg h' F N p x came opn := by
  rcases a with ⟨rc, ro, h1, h2, h3, h4, h5⟩ | ⟨h1, h2, h3, h4⟩
  · exact .inl ⟨rc, ro, h1, h2, h3.ext y, fun hs => (h4 hs).ext y, fun e he b hb => by have k := h5 e he b hb; have := y.1; exact ⟨k.1, k.2.1, k.2.2.1, by omega, k.2.2.2.2⟩⟩
  · exact .inr ⟨y.get h1 id, h2, h3, h4⟩
theorem Prg.less {G : Nat → Prop} (a : Prg h F N p x came opn) (hG : ∀ b, G b → F b) : Prg h G N p x came opn := by
  rcases a with ⟨rc, ro, h1, h2, h3, h4, h5⟩ | h
  · exact .inl ⟨rc, ro, h1, h2, h3, h4, fun e he b hb => by have := h5 e he b hb; exact ⟨this.1, this.2.1, this.2.2.1, this.2.2.2.1, fun g => this.2.2.2.2 (hG b g)⟩⟩
  · exact .inr h
theorem Prg.wide (a : Prg h F N p x came opn) : Prg h (fun b => F b ∨ h.size ≤ b) N p x came opn := by
  rcases a with ⟨rc, ro, h1, h2, h3, h4, h5⟩ | h
  · exact .inl ⟨rc, ro, h1, h2, h3, h4, fun e he b hb => by have := h5 e he b hb; exact ⟨this.1, this.2.1, this.2.2.1, this.2.2.2.1, fun g => g.elim this.2.2.2.2 (fun g => by omega)⟩⟩
  · exact .inr h
theorem Prg.blk (a : Prg h F N p x came opn) : ∃ cm om, h[p]? = some (.cells (lcells x cm om)) := by
  rcases a with ⟨rc, ro, h1, h2, h3, h4, h5⟩ | ⟨h1, h2, h3, h4⟩
  · exact ⟨_, _, h3.blk⟩
  · exact ⟨_, _, h1⟩
/-- A block that is none of the leader's is written to. -/
theorem Prg.set (a : Prg h F N p x came opn) {r : Nat} {c c' : Array Value} (hr : h[r]? = some (.cells c)) (hp : r ≠ p) (hF : F r) : Prg (h.setIfInBounds r (.cells c')) F N p x came opn := by
  have u : Upd (fun b => b = r) h (h.setIfInBounds r (.cells c')) := (by repeat' (first | with_reducible exact Upd.refl _ | with_reducible refine Upd.push ?_ _ | with_reducible refine Upd.set ?_ _ _ ?_ | exact .inl (by (first | omega | (simp only [sz]; done) | (simp only [lz, Nat.reduceAdd, Nat.reduceLeDiff, Nat.le_refl]; done) | (simp only [sz]; omega))) | exact .inr rfl | exact .inr (by simp; done)))
  rcases a with ⟨rc, ro, h1, h2, h3, h4, h5⟩ | ⟨h1, h2, h3, h4⟩
  · refine .inl ⟨rc, ro, h1, h2, h3.set hp ?_ ?_, fun hs e he => (h4 hs e he).upd u (fun b hb e' => ?_), fun e he b hb => ?_⟩
    · rintro rfl; have := h3.came; rw [hr] at this; cases this
    · rintro rfl; have := h3.opn; rw [hr] at this; cases this
    · have := h5 e he b hb
      change b = r at e'
      subst e'
      exact this.2.2.2.2 hF
    · have := h5 e he b hb
      exact ⟨this.1, this.2.1, this.2.2.1, by simpa using this.2.2.2.1, this.2.2.2.2⟩
  · exact .inr ⟨by rw [g_set_ne hp]; exact h1, h2, h3, h4⟩
end
/-- What a leader's call may write to: its own block, and maps. -/
def Wr (N : Nat) (p : Nat) (h : Hp) (b : Nat) : Prop := N ≤ b ∧ (b = p ∨ ∃ m, h[b]? = some (.map m))
/-- Both say the same; n: how long the lists of who accepted may be. -/
structure Same (n : Nat) (x : LS) (ws : List Int) (vs : List LV) (ps : List RP) (pv : Value) (came : List (Int × LV)) (opn : List (Int × Prp)) : Prop where
  keys : came.map (·.1) = ws
  cut : came.map (·.2.2) = vs.map (fun a => cutV x.frm a.2)
  opn : opn = opnOf ps
  co : CameOk x came
  vl : ∀ a ∈ vs, a.2.length ≤ 100000
  who : ∀ q ∈ ps, q.who.2.length ≤ n ∧ ∀ k ∈ q.who.2, isM k
  idle : x.state = 1 → ps = [] ∧ x.next = x.frm ∧ pv = .slice none 0 0
  up : Up ps
  slots : ∀ q ∈ ps, 0 ≤ q.slot ∧ q.slot < x.next
  plen : ps.length ≤ 512
  next : 0 ≤ x.next ∧ x.next ≤ 512
  bal : u64ok x.ballot
  me : i64ok x.me
theorem Same.mono {n m : Nat} {x : LS} {ws : List Int} {vs : List LV} {ps : List RP} {pv : Value} {came : List (Int × LV)} {opn : List (Int × Prp)} (a : Same n x ws vs ps pv came opn) (h : n ≤ m) : Same m x ws vs ps pv came opn :=
  { a with who := fun q hq => ⟨Nat.le_trans (a.who q hq).1 h, (a.who q hq).2⟩ }
theorem Same.fine {n : Nat} {x : LS} {ws : List Int} {vs : List LV} {ps : List RP} {pv : Value} {came : List (Int × LV)} {opn : List (Int × Prp)} (a : Same n x ws vs ps pv came opn) : KeysFine opn := by
  have h1 := a.up.keys
  have h2 := a.plen
  rw [a.opn]
  refine ⟨h1, ?_, by simp [opnOf]; omega⟩
  rw [opnOf_keys]
  intro k hk
  obtain ⟨q, hq, rfl⟩ := List.mem_map.1 hk
  have := a.slots q hq
  have := a.next
  unfold i64ok
  omega
theorem Same.len {n : Nat} {x : LS} {ws : List Int} {vs : List LV} {ps : List RP} {pv : Value} {came : List (Int × LV)} {opn : List (Int × Prp)} (a : Same n x ws vs ps pv came opn) : ws.length = vs.length := by
  have h1 := congrArg List.length a.keys
  have h2 := congrArg List.length a.cut
  simp at h1 h2
  omega
structure Two (h : Hp) (F : Nat → Prop) (N p n : Nat) (x : LS) (wv vv pv : Value) : Prop where
  ex : ∃ ws vs ps came opn, RefL h (fun b => b = p ∨ F b) wv vv pv ws vs ps ∧ Prg h F N p x came opn ∧ Same n x ws vs ps pv came opn
  np : N ≤ p
theorem Two.ext {h h' : Hp} {F : Nat → Prop} {N p n : Nat} {x : LS} {wv vv pv : Value} (a : Two h F N p n x wv vv pv) (y : Ext h h') : Two h' F N p n x wv vv pv := by
  obtain ⟨⟨ws, vs, ps, came, opn, r, g, s⟩, np⟩ := a
  exact ⟨⟨ws, vs, ps, came, opn, r.ext y, g.ext y, s⟩, np⟩
theorem Two.ones {h : Hp} {F : Nat → Prop} {N p n : Nat} {x : LS} {wv vv pv : Value} (a : Two h F N p n x wv vv pv) : one wv = true ∧ one vv = true ∧ one pv = true := by
  obtain ⟨⟨ws, vs, ps, came, opn, r, g, s⟩, np⟩ := a
  exact ⟨sl_one r.sw, sl_one r.sv.1, sl_one r.sp⟩
/-- A leader that has just started. -/
theorem Two.start {h h' : Hp} {F : Nat → Prop} {N p : Nat} {x : LS} (hN : N ≤ p ∧ N ≤ h.size) (hm : 1 ≤ x.masters ∧ x.masters ≤ 5) (hme : i64ok x.me) (hb : u64ok x.ballot) (hs : x.state = 1) (hn : x.next = x.frm) (hf : 0 ≤ x.frm ∧ x.frm ≤ 512) {n : Nat} (u : h.size ≤ h'.size)
    (hL : Lead h' p h.size (h.size + 1) x [] []) : Two h' F N p n x (.slice none 0 0) (.slice none 0 0) (.slice none 0 0) := by
  refine ⟨⟨[], [], [], [], [], ⟨Sl.nil, ⟨Sl.nil, fun a ha => by cases ha⟩, Sl.nil, fun q hq => (by cases hq), ⟨fun b hb => (by cases hb), fun b hb => (by cases hb), fun b hb => (by cases hb), fun q hq => (by cases hq)⟩, fun b _ => ⟨by simp [blk], by simp [blk], by simp [blk], fun q hq => (by cases hq), fun a ha => (by cases ha)⟩⟩,
    .inl ⟨_, _, hN.2, by omega, hL, fun _ e he => (by cases he), fun e he => (by cases he)⟩, ?_⟩, hN.1⟩
  exact ⟨rfl, rfl, rfl, CameOk.nil hm hf, fun a ha => (by cases ha), fun q hq => (by cases hq), fun _ => ⟨rfl, hn, rfl⟩, List.Pairwise.nil, fun q hq => (by cases hq), by simp, by omega, hb, hme⟩
theorem cameP_has {came : List (Int × LV)} {ws : List Int} (hk : keysOk came) (h : came.map (·.1) = ws) (who : Int) (a : LV) : cameP came who a = if who ∈ ws then came else came ++ [(who, a)] := by
  subst h
  by_cases hw : who ∈ came.map (·.1)
  · rw [if_pos hw]
    obtain ⟨q, hq⟩ := mget_key hk hw
    unfold cameP
    rw [hq]
    rfl
  · rw [if_neg hw]
    exact cameP_new hw a
theorem cameP_keys {came : List (Int × LV)} {ws : List Int} (hk : keysOk came) (h : came.map (·.1) = ws) (who : Int) (a : LV) : (cameP came who a).map (·.1) = refWs ws who := by
  rw [cameP_has hk h]
  unfold refWs
  split
  · exact h
  · rw [List.map_append, h]; rfl
theorem cameP_cut {f : Int} {came : List (Int × LV)} {ws : List Int} {vs : List LV} (hk : keysOk came) (h : came.map (·.1) = ws) (h2 : came.map (·.2.2) = vs.map (fun a => cutV f a.2)) (who : Int) (v va : Value) (vl : List Vote) :
    (cameP came who (v, cutV f vl)).map (·.2.2) = (refVs ws vs who (va, vl)).map (fun a => cutV f a.2) := by
  rw [cameP_has hk h]
  unfold refVs
  split
  · exact h2
  · rw [List.map_append, List.map_append, h2]; rfl
end Go.Proofs.Ytdolepapmpcpiaa

