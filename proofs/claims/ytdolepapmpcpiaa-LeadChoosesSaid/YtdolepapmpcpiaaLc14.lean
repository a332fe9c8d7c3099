/- LeadChooses holds at every argument: a leader to whom enough promise and accept has its commands chosen; no condition. -/
import Derived.Test.YtdolepapmpcpiaaLc0
import Derived.Test.YtdolepapmpcpiaaLc1
import Derived.Test.YtdolepapmpcpiaaLc2
import Derived.Test.YtdolepapmpcpiaaLc3
import Derived.Test.YtdolepapmpcpiaaLc4
import Derived.Test.YtdolepapmpcpiaaLc5
import Derived.Test.YtdolepapmpcpiaaLc6
import Derived.Test.YtdolepapmpcpiaaLc7
import Derived.Test.YtdolepapmpcpiaaLc8
import Derived.Test.YtdolepapmpcpiaaLc9
import Derived.Test.YtdolepapmpcpiaaLc10
import Derived.Test.YtdolepapmpcpiaaLc11
import Derived.Test.YtdolepapmpcpiaaLc12
import Derived.Test.YtdolepapmpcpiaaLc13
import Derived.Test.YtdolepapmpcpiaaRows
/- No leader leads nothing: LeadNil returns true for every operation, without any condition. -/
namespace Go.Proofs.Ytdolepapmpcpiaa
open Go
open Go.ChangeShapes Go.WideShapes Go.RowKit
set_option linter.unusedSectionVars false
set_option linter.unusedVariables false
set_option linter.unusedSimpArgs false
set_option maxRecDepth 10000

section
variable [Base]
theorem sp_lisN {h : Hp} (s b : Value) {K : Kont} (hK : K (.bool false) h) : C_lead_Lead_is [.pointer none, s, b] h K := by
  refine ok_lead_Lead_is ?_
  unfold G_lead_Lead_is
  (try simp (disch := (first | omega | (simp only [sz]; done) | (simp only [lz, Nat.reduceAdd, Nat.reduceLeDiff, Nat.le_refl]; done) | (simp only [sz]; omega))) only [↓xa, xb, xl, Option.bind_some, Option.map_some, implies_true, imp_self, true_and, and_true, if_true, if_false, decide_true, decide_false, Int.cast_ofNat_Int, Int.reduceLT, Int.reduceLE, Int.reduceEq, Nat.reduceAdd, Nat.reduceMul, Nat.reduceLeDiff, setL, bfill, eqV, lookRes])
  exact hK
theorem sp_lStartN {h : Hp} (a b : Value) {K : Kont} (hK : K (.tuple #[.int .u64 0, .int .i64 2]) h) : C_lead_Lead_Start [.pointer none, a, b] h K := by
  refine ok_lead_Lead_Start ?_
  unfold G_lead_Lead_Start
  (try simp (disch := (first | omega | (simp only [sz]; done) | (simp only [lz, Nat.reduceAdd, Nat.reduceLeDiff, Nat.le_refl]; done) | (simp only [sz]; omega))) only [↓xa, xb, xl, Option.bind_some, Option.map_some, implies_true, imp_self, true_and, and_true, if_true, if_false, decide_true, decide_false, Int.cast_ofNat_Int, Int.reduceLT, Int.reduceLE, Int.reduceEq, Nat.reduceAdd, Nat.reduceMul, Nat.reduceLeDiff, setL, bfill, eqV, lookRes])
  exact hK
theorem sp_lPromiseN {h : Hp} (hB : Base.b ≤ h.size) (a b c : Value) {K : Kont} (hK : ∀ h', Ext h h' → K (.tuple #[.slice none 0 0, .bool false]) h') : C_lead_Lead_Promise [.pointer none, a, b, c] h K := by
  refine ok_lead_Lead_Promise ?_
  unfold G_lead_Lead_Promise
  (try simp (disch := (first | omega | (simp only [sz]; done) | (simp only [lz, Nat.reduceAdd, Nat.reduceLeDiff, Nat.le_refl]; done) | (simp only [sz]; omega))) only [↓xa, xb, xl, Option.bind_some, Option.map_some, implies_true, imp_self, true_and, and_true, if_true, if_false, decide_true, decide_false, Int.cast_ofNat_Int, Int.reduceLT, Int.reduceLE, Int.reduceEq, Nat.reduceAdd, Nat.reduceMul, Nat.reduceLeDiff, setL, bfill, eqV, lookRes])
  refine sp_lisN _ _ ?_
  (try simp (disch := (first | omega | (simp only [sz]; done) | (simp only [lz, Nat.reduceAdd, Nat.reduceLeDiff, Nat.le_refl]; done) | (simp only [sz]; omega))) only [↓xa, xb, xl, Option.bind_some, Option.map_some, implies_true, imp_self, true_and, and_true, if_true, if_false, decide_true, decide_false, Int.cast_ofNat_Int, Int.reduceLT, Int.reduceLE, Int.reduceEq, Nat.reduceAdd, Nat.reduceMul, Nat.reduceLeDiff, setL, bfill, eqV, lookRes])
  exact hK _ (by repeat' (first | with_reducible exact Upd.refl _ | with_reducible refine Upd.push ?_ _ | with_reducible refine Upd.set ?_ _ _ ?_ | exact .inl (by (first | omega | (simp only [sz]; done) | (simp only [lz, Nat.reduceAdd, Nat.reduceLeDiff, Nat.le_refl]; done) | (simp only [sz]; omega))) | exact .inr rfl | exact .inr (by simp; done)))
theorem sp_lProposeN {h : Hp} (hB : Base.b ≤ h.size) (c : Cmd) {K : Kont} (hK : ∀ h', Ext h h' → K (.tuple #[voteV vote0, .int .i64 2]) h') : C_lead_Lead_Propose [.pointer none, cmdV c] h K := by
  refine ok_lead_Lead_Propose ?_
  unfold G_lead_Lead_Propose cmdV
  unfold voteV at hK
  (try simp (disch := (first | omega | (simp only [sz]; done) | (simp only [lz, Nat.reduceAdd, Nat.reduceLeDiff, Nat.le_refl]; done) | (simp only [sz]; omega))) only [↓xa, xb, xl, Option.bind_some, Option.map_some, implies_true, imp_self, true_and, and_true, if_true, if_false, decide_true, decide_false, Int.cast_ofNat_Int, Int.reduceLT, Int.reduceLE, Int.reduceEq, Nat.reduceAdd, Nat.reduceMul, Nat.reduceLeDiff, setL, bfill, eqV, lookRes])
  exact hK _ (by repeat' (first | with_reducible exact Upd.refl _ | with_reducible refine Upd.push ?_ _ | with_reducible refine Upd.set ?_ _ _ ?_ | exact .inl (by (first | omega | (simp only [sz]; done) | (simp only [lz, Nat.reduceAdd, Nat.reduceLeDiff, Nat.le_refl]; done) | (simp only [sz]; omega))) | exact .inr rfl | exact .inr (by simp; done)))
theorem sp_lAcceptedN {h : Hp} (hB : Base.b ≤ h.size) (a b c : Value) {K : Kont} (hK : ∀ h', Ext h h' → K (.tuple #[voteV vote0, .bool false]) h') : C_lead_Lead_Accepted [.pointer none, a, b, c] h K := by
  refine ok_lead_Lead_Accepted ?_
  unfold G_lead_Lead_Accepted
  unfold voteV at hK
  (try simp (disch := (first | omega | (simp only [sz]; done) | (simp only [lz, Nat.reduceAdd, Nat.reduceLeDiff, Nat.le_refl]; done) | (simp only [sz]; omega))) only [↓xa, xb, xl, Option.bind_some, Option.map_some, implies_true, imp_self, true_and, and_true, if_true, if_false, decide_true, decide_false, Int.cast_ofNat_Int, Int.reduceLT, Int.reduceLE, Int.reduceEq, Nat.reduceAdd, Nat.reduceMul, Nat.reduceLeDiff, setL, bfill, eqV, lookRes])
  refine sp_lisN _ _ ?_
  (try simp (disch := (first | omega | (simp only [sz]; done) | (simp only [lz, Nat.reduceAdd, Nat.reduceLeDiff, Nat.le_refl]; done) | (simp only [sz]; omega))) only [↓xa, xb, xl, Option.bind_some, Option.map_some, implies_true, imp_self, true_and, and_true, if_true, if_false, decide_true, decide_false, Int.cast_ofNat_Int, Int.reduceLT, Int.reduceLE, Int.reduceEq, Nat.reduceAdd, Nat.reduceMul, Nat.reduceLeDiff, setL, bfill, eqV, lookRes])
  exact hK _ (by repeat' (first | with_reducible exact Upd.refl _ | with_reducible refine Upd.push ?_ _ | with_reducible refine Upd.set ?_ _ _ ?_ | exact .inl (by (first | omega | (simp only [sz]; done) | (simp only [lz, Nat.reduceAdd, Nat.reduceLeDiff, Nat.le_refl]; done) | (simp only [sz]; omega))) | exact .inr rfl | exact .inr (by simp; done)))
theorem sp_lRefuseN {h : Hp} (a : Value) {K : Kont} (hK : K (.bool false) h) : C_lead_Lead_Refuse [.pointer none, a] h K := by
  refine ok_lead_Lead_Refuse ?_
  unfold G_lead_Lead_Refuse
  (try simp (disch := (first | omega | (simp only [sz]; done) | (simp only [lz, Nat.reduceAdd, Nat.reduceLeDiff, Nat.le_refl]; done) | (simp only [sz]; omega))) only [↓xa, xb, xl, Option.bind_some, Option.map_some, implies_true, imp_self, true_and, and_true, if_true, if_false, decide_true, decide_false, Int.cast_ofNat_Int, Int.reduceLT, Int.reduceLE, Int.reduceEq, Nat.reduceAdd, Nat.reduceMul, Nat.reduceLeDiff, setL, bfill, eqV, lookRes])
  exact hK
theorem sp_lOpenN {h : Hp} {K : Kont} (hK : K (.slice none 0 0) h) : C_lead_Lead_Open [.pointer none] h K := by
  refine ok_lead_Lead_Open ?_
  unfold G_lead_Lead_Open
  (try simp (disch := (first | omega | (simp only [sz]; done) | (simp only [lz, Nat.reduceAdd, Nat.reduceLeDiff, Nat.le_refl]; done) | (simp only [sz]; omega))) only [↓xa, xb, xl, Option.bind_some, Option.map_some, implies_true, imp_self, true_and, and_true, if_true, if_false, decide_true, decide_false, Int.cast_ofNat_Int, Int.reduceLT, Int.reduceLE, Int.reduceEq, Nat.reduceAdd, Nat.reduceMul, Nat.reduceLeDiff, setL, bfill, eqV, lookRes])
  exact hK
theorem sp_lStateN {h : Hp} {K : Kont} (hK : K (.int .i64 0) h) : C_lead_Lead_State [.pointer none] h K := by
  refine ok_lead_Lead_State ?_
  unfold G_lead_Lead_State
  (try simp (disch := (first | omega | (simp only [sz]; done) | (simp only [lz, Nat.reduceAdd, Nat.reduceLeDiff, Nat.le_refl]; done) | (simp only [sz]; omega))) only [↓xa, xb, xl, Option.bind_some, Option.map_some, implies_true, imp_self, true_and, and_true, if_true, if_false, decide_true, decide_false, Int.cast_ofNat_Int, Int.reduceLT, Int.reduceLE, Int.reduceEq, Nat.reduceAdd, Nat.reduceMul, Nat.reduceLeDiff, setL, bfill, eqV, lookRes])
  exact hK
theorem sp_lBallotN {h : Hp} {K : Kont} (hK : K (.int .u64 0) h) : C_lead_Lead_Ballot [.pointer none] h K := by
  refine ok_lead_Lead_Ballot ?_
  unfold G_lead_Lead_Ballot
  (try simp (disch := (first | omega | (simp only [sz]; done) | (simp only [lz, Nat.reduceAdd, Nat.reduceLeDiff, Nat.le_refl]; done) | (simp only [sz]; omega))) only [↓xa, xb, xl, Option.bind_some, Option.map_some, implies_true, imp_self, true_and, and_true, if_true, if_false, decide_true, decide_false, Int.cast_ofNat_Int, Int.reduceLT, Int.reduceLE, Int.reduceEq, Nat.reduceAdd, Nat.reduceMul, Nat.reduceLeDiff, setL, bfill, eqV, lookRes])
  exact hK
theorem sp_lFromN {h : Hp} {K : Kont} (hK : K (.int .i64 0) h) : C_lead_Lead_From [.pointer none] h K := by
  refine ok_lead_Lead_From ?_
  unfold G_lead_Lead_From
  (try simp (disch := (first | omega | (simp only [sz]; done) | (simp only [lz, Nat.reduceAdd, Nat.reduceLeDiff, Nat.le_refl]; done) | (simp only [sz]; omega))) only [↓xa, xb, xl, Option.bind_some, Option.map_some, implies_true, imp_self, true_and, and_true, if_true, if_false, decide_true, decide_false, Int.cast_ofNat_Int, Int.reduceLT, Int.reduceLE, Int.reduceEq, Nat.reduceAdd, Nat.reduceMul, Nat.reduceLeDiff, setL, bfill, eqV, lookRes])
  exact hK
theorem sp_lNextN {h : Hp} {K : Kont} (hK : K (.int .i64 0) h) : C_lead_Lead_Next [.pointer none] h K := by
  refine ok_lead_Lead_Next ?_
  unfold G_lead_Lead_Next
  (try simp (disch := (first | omega | (simp only [sz]; done) | (simp only [lz, Nat.reduceAdd, Nat.reduceLeDiff, Nat.le_refl]; done) | (simp only [sz]; omega))) only [↓xa, xb, xl, Option.bind_some, Option.map_some, implies_true, imp_self, true_and, and_true, if_true, if_false, decide_true, decide_false, Int.cast_ofNat_Int, Int.reduceLT, Int.reduceLE, Int.reduceEq, Nat.reduceAdd, Nat.reduceMul, Nat.reduceLeDiff, setL, bfill, eqV, lookRes])
  exact hK

set_option maxHeartbeats 2000000 in
theorem sp_lawake {h : Hp} (hB : Base.b ≤ h.size) {K : Kont} (hK : ∀ h', Ext h h' → K (.bool true) h') : C_l13_awake [] h K := by
  refine ok_l13_awake ?_
  unfold G_l13_awake
  refine sp_lNew hB 2 3 (fun h => absurd ⟨by decide, by decide, by decide, by decide⟩ h) (fun _ => ?_)
  have x1 : Ext h (h.push (.cells (lcells ⟨2, 3, 0, 0, 0, 0⟩ none none))) := (by repeat' (first | with_reducible exact Upd.refl _ | with_reducible refine Upd.push ?_ _ | with_reducible refine Upd.set ?_ _ _ ?_ | exact .inl (by (first | omega | (simp only [sz]; done) | (simp only [lz, Nat.reduceAdd, Nat.reduceLeDiff, Nat.le_refl]; done) | (simp only [sz]; omega))) | exact .inr rfl | exact .inr (by simp; done)))
  have hb1 : (h.push (.cells (lcells ⟨2, 3, 0, 0, 0, 0⟩ none none)))[h.size]? = some (.cells (lcells ⟨2, 3, 0, 0, 0, 0⟩ none none)) := g_push_eq rfl
  have l1 : (h.push (.cells (lcells ⟨2, 3, 0, 0, 0, 0⟩ none none))).size = h.size + 1 := by simp
  generalize h.push (.cells (lcells ⟨2, 3, 0, 0, 0, 0⟩ none none)) = h1 at *
  have hB1 := x1.hB hB
  (try simp (disch := (first | omega | (simp only [sz]; done) | (simp only [lz, Nat.reduceAdd, Nat.reduceLeDiff, Nat.le_refl]; done) | (simp only [sz]; omega))) only [↓xa, xb, xl, Option.bind_some, Option.map_some, implies_true, imp_self, true_and, and_true, if_true, if_false, decide_true, decide_false, Int.cast_ofNat_Int, Int.reduceLT, Int.reduceLE, Int.reduceEq, Nat.reduceAdd, Nat.reduceMul, Nat.reduceLeDiff, setL, bfill, eqV, lookRes])
  have e1 : startE ⟨2, 3, 0, 0, 0, 0⟩ 0 0 = 0 := by decide
  have e2 : startB ⟨2, 3, 0, 0, 0, 0⟩ 0 0 = 10 := by decide
  have e3 : startX ⟨2, 3, 0, 0, 0, 0⟩ 0 0 = ⟨2, 3, 1, 10, 0, 0⟩ := by unfold startX; rw [if_pos e1]; rfl
  refine sp_lStart hB1 hb1 (by decide) (by decide) (by decide) 0 (fun h => absurd e1 h) (fun _ => ?_)
  intro h2 u2 hL2
  rw [e3] at hL2
  rw [e2]
  have hB2 := u2.hB hB1
  (try simp (disch := (first | omega | (simp only [sz]; done) | (simp only [lz, Nat.reduceAdd, Nat.reduceLeDiff, Nat.le_refl]; done) | (simp only [sz]; omega))) only [↓xa, xb, xl, Option.bind_some, Option.map_some, implies_true, imp_self, true_and, and_true, if_true, if_false, decide_true, decide_false, Int.cast_ofNat_Int, Int.reduceLT, Int.reduceLE, Int.reduceEq, Nat.reduceAdd, Nat.reduceMul, Nat.reduceLeDiff, setL, bfill, eqV, lookRes])
  have n1 : (cutV 0 []) = [] := rfl
  refine sp_lPromise hB2 hL2 rfl (fun e he => by cases he) (CameOk.nil (by decide) (by decide)) (fun e he => by cases he) (b := 10) (who := 2) (by decide) (va := .slice none 0 0) (vl := []) Sl.nil (by simp) ?_ ?_
  rotate_left
  · intro h3 v w came' he
    have k1 : came'.map (·.1) = [2] := rfl
    rw [k1] at he
    exact absurd he (by decide)
  intro h3 v came' _ u3 hL3 hc3 hv3
  have hB3 := u3.hB hB2
  (try simp (disch := (first | omega | (simp only [sz]; done) | (simp only [lz, Nat.reduceAdd, Nat.reduceLeDiff, Nat.le_refl]; done) | (simp only [sz]; omega))) only [↓xa, xb, xl, Option.bind_some, Option.map_some, implies_true, imp_self, true_and, and_true, if_true, if_false, decide_true, decide_false, Int.cast_ofNat_Int, Int.reduceLT, Int.reduceLE, Int.reduceEq, Nat.reduceAdd, Nat.reduceMul, Nat.reduceLeDiff, setL, bfill, eqV, lookRes])
  have hco3 : CameOk ⟨2, 3, 1, 10, 0, 0⟩ came' := CameOk.put (CameOk.nil (by decide) (by decide)) (by decide) (by simp [cutV]) (by simp [cutV])
  have l2 := u2.1
  have l3 := u3.1
  refine sp_lPromise hB3 hL3 rfl hc3 hco3 (fun e he b hb => ?_) (b := 10) (who := 3) (by decide) (va := .slice none 0 0) (vl := []) Sl.nil (by simp) ?_ ?_
  · rcases mem_cameP he with he | rfl
    · cases he
    · have := (hv3 b hb).1
      have h6 := lt_of_get hL2.blk
      have h7 := lt_of_get hL2.came
      have h8 := lt_of_get hL2.opn
      omega
  · intro h4 v' came2 he
    have k2 : came2.map (·.1) = [2, 3] := rfl
    rw [k2] at he
    exact absurd he (by decide)
  intro h4 v' w came2 _ u4 hL4 hv4 o4
  (try simp (disch := (first | omega | (simp only [sz]; done) | (simp only [lz, Nat.reduceAdd, Nat.reduceLeDiff, Nat.le_refl]; done) | (simp only [sz]; omega))) only [↓xa, xb, xl, Option.bind_some, Option.map_some, implies_true, imp_self, true_and, and_true, if_true, if_false, decide_true, decide_false, Int.cast_ofNat_Int, Int.reduceLT, Int.reduceLE, Int.reduceEq, Nat.reduceAdd, Nat.reduceMul, Nat.reduceLeDiff, setL, bfill, eqV, lookRes])
  refine sp_lState hL4.blk ?_
  (try simp (disch := (first | omega | (simp only [sz]; done) | (simp only [lz, Nat.reduceAdd, Nat.reduceLeDiff, Nat.le_refl]; done) | (simp only [sz]; omega))) only [↓xa, xb, xl, Option.bind_some, Option.map_some, implies_true, imp_self, true_and, and_true, if_true, if_false, decide_true, decide_false, Int.cast_ofNat_Int, Int.reduceLT, Int.reduceLE, Int.reduceEq, Nat.reduceAdd, Nat.reduceMul, Nat.reduceLeDiff, setL, bfill, eqV, lookRes])
  refine hK _ ?_
  have U2 : Upd (fun r => h.size ≤ r) h1 h2 := u2.mono (fun r _ e => by omega)
  have U3 : Upd (fun r => h.size ≤ r) h2 h3 := u3.mono (fun r _ e => by omega)
  have U4 : Upd (fun r => h.size ≤ r) h3 h4 := u4.mono (fun r _ e => by omega)
  exact x1.ext (U2.trans (U3.trans U4)) (Nat.le_refl _)

structure Op13 where
  kind : Int
  own : Bool
  ballot : Int
  n : Int
  who : Int
  votes : LV
  cmd : Cmd
def o13cells (o : Op13) : List Value := .int .i64 o.kind :: .bool o.own :: .int .u64 o.ballot :: .int .i64 o.n :: .int .i64 o.who :: o.votes.1 :: ccells o.cmd
set_option maxHeartbeats 4000000 in
theorem sp_LeadNil {h : Hp} (hB : Base.b ≤ h.size) (o : Op13) (hv : one o.votes.1 = true) {K : Kont} (hK : ∀ h', Ext h h' → K (.bool true) h') : C_l13_LeadNil [.agg (o13cells o).toArray] h K := by
  refine ok_l13_LeadNil ?_
  unfold G_l13_LeadNil
  obtain ⟨kd, ow, b, n, w, vs, c⟩ := o
  obtain ⟨c1, c2, c3, c4⟩ := c
  unfold o13cells ccells
  have x1 : Ext h (h.push (.cells #[.int .i64 kd, .bool ow, .int .u64 b, .int .i64 n, .int .i64 w, vs.1, .int .i64 c1, .int .i64 c2, .int .u64 c3, .int .i64 c4])) := (by repeat' (first | with_reducible exact Upd.refl _ | with_reducible refine Upd.push ?_ _ | with_reducible refine Upd.set ?_ _ _ ?_ | exact .inl (by (first | omega | (simp only [sz]; done) | (simp only [lz, Nat.reduceAdd, Nat.reduceLeDiff, Nat.le_refl]; done) | (simp only [sz]; omega))) | exact .inr rfl | exact .inr (by simp; done)))
  have hb1 : (h.push (.cells #[.int .i64 kd, .bool ow, .int .u64 b, .int .i64 n, .int .i64 w, vs.1, .int .i64 c1, .int .i64 c2, .int .u64 c3, .int .i64 c4]))[h.size]? = some (.cells #[.int .i64 kd, .bool ow, .int .u64 b, .int .i64 n, .int .i64 w, vs.1, .int .i64 c1, .int .i64 c2, .int .u64 c3, .int .i64 c4]) := g_push_eq rfl
  have hB1 := x1.hB hB
  (try simp (disch := (first | omega | (simp only [sz]; done) | (simp only [lz, Nat.reduceAdd, Nat.reduceLeDiff, Nat.le_refl]; done) | (simp only [sz]; omega))) only [↓xa, xb, xl, Option.bind_some, Option.map_some, implies_true, imp_self, true_and, and_true, if_true, if_false, decide_true, decide_false, Int.cast_ofNat_Int, Int.reduceLT, Int.reduceLE, Int.reduceEq, Nat.reduceAdd, Nat.reduceMul, Nat.reduceLeDiff, setL, bfill, eqV, lookRes])
  generalize h.push (.cells #[.int .i64 kd, .bool ow, .int .u64 b, .int .i64 n, .int .i64 w, vs.1, .int .i64 c1, .int .i64 c2, .int .u64 c3, .int .i64 c4]) = h1 at *
  refine sp_lStartN _ _ ?_
  simp (disch := (first | omega | (simp only [sz]; done) | (simp only [lz, Nat.reduceAdd, Nat.reduceLeDiff, Nat.le_refl]; done) | (simp only [sz]; omega))) only [↓xa, xb, xl, Option.bind_some, Option.map_some, implies_true, imp_self, true_and, and_true, if_true, if_false, decide_true, decide_false, Int.cast_ofNat_Int, Int.reduceLT, Int.reduceLE, Int.reduceEq, Nat.reduceAdd, Nat.reduceMul, Nat.reduceLeDiff, setL, bfill, eqV, lookRes, rdC_blk hb1]
  refine sp_lPromiseN hB1 _ _ _ ?_
  intro h2 x2
  have hb2 := x2.get hb1 id
  have hB2 := x2.hB hB1
  simp (disch := (first | omega | (simp only [sz]; done) | (simp only [lz, Nat.reduceAdd, Nat.reduceLeDiff, Nat.le_refl]; done) | (simp only [sz]; omega))) only [↓xa, xb, xl, Option.bind_some, Option.map_some, implies_true, imp_self, true_and, and_true, if_true, if_false, decide_true, decide_false, Int.cast_ofNat_Int, Int.reduceLT, Int.reduceLE, Int.reduceEq, Nat.reduceAdd, Nat.reduceMul, Nat.reduceLeDiff, setL, bfill, eqV, lookRes, rdN_of hb2]
  refine sp_lProposeN hB2 ⟨c1, c2, c3, c4⟩ ?_
  intro h3 x3
  have hb3 := x3.get hb2 id
  have hB3 := x3.hB hB2
  have lb3 := lt_of_get hb3
  unfold voteV vote0 cmd0
  simp (disch := (first | omega | (simp only [sz]; done) | (simp only [lz, Nat.reduceAdd, Nat.reduceLeDiff, Nat.le_refl]; done) | (simp only [sz]; omega))) only [↓xa, xb, xl, Option.bind_some, Option.map_some, implies_true, imp_self, true_and, and_true, if_true, if_false, decide_true, decide_false, Int.cast_ofNat_Int, Int.reduceLT, Int.reduceLE, Int.reduceEq, Nat.reduceAdd, Nat.reduceMul, Nat.reduceLeDiff, setL, bfill, eqV, lookRes, rdC_blk hb3]
  have x4 : Ext h3 (Array.setIfInBounds (h3.push (.cells #[.int .i64 0, .int .u64 0, .int .i64 0, .int .i64 0, .int .u64 0, .int .i64 0])) h3.size (.cells #[.int .i64 0, .int .u64 0, .int .i64 0, .int .i64 0, .int .u64 0, .int .i64 0])) := (by repeat' (first | with_reducible exact Upd.refl _ | with_reducible refine Upd.push ?_ _ | with_reducible refine Upd.set ?_ _ _ ?_ | exact .inl (by (first | omega | (simp only [sz]; done) | (simp only [lz, Nat.reduceAdd, Nat.reduceLeDiff, Nat.le_refl]; done) | (simp only [sz]; omega))) | exact .inr rfl | exact .inr (by simp; done)))
  have hd4 : (Array.setIfInBounds (h3.push (.cells #[.int .i64 0, .int .u64 0, .int .i64 0, .int .i64 0, .int .u64 0, .int .i64 0])) h3.size (.cells #[.int .i64 0, .int .u64 0, .int .i64 0, .int .i64 0, .int .u64 0, .int .i64 0]))[h3.size]? = some (.cells #[.int .i64 0, .int .u64 0, .int .i64 0, .int .i64 0, .int .u64 0, .int .i64 0]) := g_set_eq (by simp) rfl
  have hb4 := x4.get hb3 id
  generalize Array.setIfInBounds (h3.push (.cells #[.int .i64 0, .int .u64 0, .int .i64 0, .int .i64 0, .int .u64 0, .int .i64 0])) h3.size (.cells #[.int .i64 0, .int .u64 0, .int .i64 0, .int .i64 0, .int .u64 0, .int .i64 0]) = h4 at *
  have hB4 := x4.hB hB3
  refine sp_lAcceptedN hB4 _ _ _ ?_
  intro h5 x5
  have hb5 := x5.get hb4 id
  have hd5 := x5.get hd4 id
  have hB5 := x5.hB hB4
  have lb5 := lt_of_get hb5
  have ld5 := lt_of_get hd5
  unfold voteV vote0 cmd0
  simp (disch := (first | omega | (simp only [sz]; done) | (simp only [lz, Nat.reduceAdd, Nat.reduceLeDiff, Nat.le_refl]; done) | (simp only [sz]; omega))) only [↓xa, xb, xl, Option.bind_some, Option.map_some, implies_true, imp_self, true_and, and_true, if_true, if_false, decide_true, decide_false, Int.cast_ofNat_Int, Int.reduceLT, Int.reduceLE, Int.reduceEq, Nat.reduceAdd, Nat.reduceMul, Nat.reduceLeDiff, setL, bfill, eqV, lookRes, rdC_blk hb5, rdN_all hd5, eq_vote]
  refine sp_lRefuseN _ ?_
  simp (disch := (first | omega | (simp only [sz]; done) | (simp only [lz, Nat.reduceAdd, Nat.reduceLeDiff, Nat.le_refl]; done) | (simp only [sz]; omega))) only [↓xa, xb, xl, Option.bind_some, Option.map_some, implies_true, imp_self, true_and, and_true, if_true, if_false, decide_true, decide_false, Int.cast_ofNat_Int, Int.reduceLT, Int.reduceLE, Int.reduceEq, Nat.reduceAdd, Nat.reduceMul, Nat.reduceLeDiff, setL, bfill, eqV, lookRes, rdC_blk hb5, rdN_all hd5, eq_vote]
  refine sp_lOpenN ?_
  simp (disch := (first | omega | (simp only [sz]; done) | (simp only [lz, Nat.reduceAdd, Nat.reduceLeDiff, Nat.le_refl]; done) | (simp only [sz]; omega))) only [↓xa, xb, xl, Option.bind_some, Option.map_some, implies_true, imp_self, true_and, and_true, if_true, if_false, decide_true, decide_false, Int.cast_ofNat_Int, Int.reduceLT, Int.reduceLE, Int.reduceEq, Nat.reduceAdd, Nat.reduceMul, Nat.reduceLeDiff, setL, bfill, eqV, lookRes, rdC_blk hb5, rdN_all hd5, eq_vote]
  refine sp_lStateN ?_
  (try simp (disch := (first | omega | (simp only [sz]; done) | (simp only [lz, Nat.reduceAdd, Nat.reduceLeDiff, Nat.le_refl]; done) | (simp only [sz]; omega))) only [↓xa, xb, xl, Option.bind_some, Option.map_some, implies_true, imp_self, true_and, and_true, if_true, if_false, decide_true, decide_false, Int.cast_ofNat_Int, Int.reduceLT, Int.reduceLE, Int.reduceEq, Nat.reduceAdd, Nat.reduceMul, Nat.reduceLeDiff, setL, bfill, eqV, lookRes])
  refine sp_lBallotN ?_
  (try simp (disch := (first | omega | (simp only [sz]; done) | (simp only [lz, Nat.reduceAdd, Nat.reduceLeDiff, Nat.le_refl]; done) | (simp only [sz]; omega))) only [↓xa, xb, xl, Option.bind_some, Option.map_some, implies_true, imp_self, true_and, and_true, if_true, if_false, decide_true, decide_false, Int.cast_ofNat_Int, Int.reduceLT, Int.reduceLE, Int.reduceEq, Nat.reduceAdd, Nat.reduceMul, Nat.reduceLeDiff, setL, bfill, eqV, lookRes])
  refine sp_lFromN ?_
  (try simp (disch := (first | omega | (simp only [sz]; done) | (simp only [lz, Nat.reduceAdd, Nat.reduceLeDiff, Nat.le_refl]; done) | (simp only [sz]; omega))) only [↓xa, xb, xl, Option.bind_some, Option.map_some, implies_true, imp_self, true_and, and_true, if_true, if_false, decide_true, decide_false, Int.cast_ofNat_Int, Int.reduceLT, Int.reduceLE, Int.reduceEq, Nat.reduceAdd, Nat.reduceMul, Nat.reduceLeDiff, setL, bfill, eqV, lookRes])
  refine sp_lNextN ?_
  (try simp (disch := (first | omega | (simp only [sz]; done) | (simp only [lz, Nat.reduceAdd, Nat.reduceLeDiff, Nat.le_refl]; done) | (simp only [sz]; omega))) only [↓xa, xb, xl, Option.bind_some, Option.map_some, implies_true, imp_self, true_and, and_true, if_true, if_false, decide_true, decide_false, Int.cast_ofNat_Int, Int.reduceLT, Int.reduceLE, Int.reduceEq, Nat.reduceAdd, Nat.reduceMul, Nat.reduceLeDiff, setL, bfill, eqV, lookRes])
  have x6 : Ext h5 (Array.setIfInBounds (h5.push (.cells #[.int .i64 0, .int .u64 0, .int .i64 0, .int .i64 0, .int .u64 0, .int .i64 0])) h5.size (.cells #[.int .i64 0, .int .u64 0, .int .i64 0, .int .i64 0, .int .u64 0, .int .i64 0])) := (by repeat' (first | with_reducible exact Upd.refl _ | with_reducible refine Upd.push ?_ _ | with_reducible refine Upd.set ?_ _ _ ?_ | exact .inl (by (first | omega | (simp only [sz]; done) | (simp only [lz, Nat.reduceAdd, Nat.reduceLeDiff, Nat.le_refl]; done) | (simp only [sz]; omega))) | exact .inr rfl | exact .inr (by simp; done)))
  refine sp_lawake (x6.hB hB5) ?_
  intro h7 x7
  (try simp (disch := (first | omega | (simp only [sz]; done) | (simp only [lz, Nat.reduceAdd, Nat.reduceLeDiff, Nat.le_refl]; done) | (simp only [sz]; omega))) only [↓xa, xb, xl, Option.bind_some, Option.map_some, implies_true, imp_self, true_and, and_true, if_true, if_false, decide_true, decide_false, Int.cast_ofNat_Int, Int.reduceLT, Int.reduceLE, Int.reduceEq, Nat.reduceAdd, Nat.reduceMul, Nat.reduceLeDiff, setL, bfill, eqV, lookRes])
  exact hK _ (x1.trans (x2.trans (x3.trans (x4.trans (x5.trans (x6.trans x7))))))
end

section
variable {H : Type} {enc : TypeId × Value → H} {W : World}
theorem u_op13 : Try.prog.underlying 77 = some (.struct (fieldsOf Try.prog 77)) := by kernel_rfl
def op13Ok (W : World) (o : Op13) : Prop := i64ok o.kind ∧ u64ok o.ballot ∧ i64ok o.n ∧ i64ok o.who ∧ lvOk W o.votes ∧ cmdOk o.cmd
theorem rd_bool : Rd enc Try.prog W 4 (fun cs => ∃ a, cs = [.bool a]) := Rd.bool u_bool
theorem rd_op13 : Rd enc Try.prog W 77 (fun cs => ∃ o, cs = o13cells o ∧ op13Ok W o) := by
  refine (Rd.struct (ts := [3, 4, 25, 3, 3, 26, 32]) u_op13 (by kernel_rfl) (by kernel_rfl) (.cons rd_int (.cons rd_bool (.cons rd_u64 (.cons rd_int (.cons rd_int (.cons rd_votes (.cons rd_cmd .nil)))))))).mono ?_
  rintro cs ⟨_, _, rfl, ⟨a, rfl, ha⟩, _, _, rfl, ⟨b, rfl⟩, _, _, rfl, ⟨c, rfl, hc⟩, _, _, rfl, ⟨d, rfl, hd⟩, _, _, rfl, ⟨e, rfl, he⟩, _, _, rfl, ⟨v, l, rfl, hv⟩, _, _, rfl, ⟨f, rfl, hf⟩, rfl⟩
  exact ⟨⟨a, b, c, d, e, (v, l), f⟩, rfl, ha, hc, hd, he, hv, hf⟩
end

set_option maxRecDepth 100000 in
theorem law_LeadNil {H : Type} {enc : TypeId × Value → H} : LawDoes enc Try.prog 9 Try.f9 := by
  intro W base args ds ps h0 hlt hval hA
  letI : Base := ⟨W.heap.size⟩
  have hp : Try.f9.params = #[77] := by kernel_rfl
  rw [hp] at hA hval
  obtain ⟨v0, d0, rfl, rfl, t0⟩ := trodAll_one hA
  obtain ⟨cs, rfl, o, hc, ho⟩ := arg_struct u_op13 (hval 0 77 v0 rfl rfl) rd_op13 t0
  obtain ⟨cs⟩ := cs
  cases hc
  exact sp_LeadNil (by rw [hv_size]; exact Nat.le_refl _) o (sl_one ho.2.2.2.2.1.1) (fun h' x => ⟨rfl, x⟩)
set_option maxRecDepth 100000 in
theorem lifted_LeadNil (os : Os) (started : os.Started) (H : Type) (enc : TypeId × Value → H) :
    ReturnsInHanded {} Try.checked os 9 .any (Rows.leadNilSpec.pre6 enc Try.prog Try.f9 Rows.leadNilRow.domain false) (Rows.leadNilSpec.post enc Try.prog Try.f9 false true false false) :=
  lifted_law (C := Try.checked) (s := Rows.leadNilSpec) (tb := 4) own_try started (by kernel_rfl) Try.func9
      (ChangeSpec.witness6 (enc := enc) (C := Try.checked) false ⟨#[], #[.agg #[.int .i64 0, .bool false, .int .u64 0, .int .i64 0, .int .i64 0, .slice none 0 0, .int .i64 0, .int .i64 0, .int .u64 0, .int .i64 0]], []⟩ 8 (by kernel_rfl) (by kernel_rfl) (by kernel_rfl) (by kernel_rfl))
      rfl (by kernel_rfl) u_bool (fun ds h => by
        have hp : Try.f9.params = #[77] := by kernel_rfl
        rw [hp] at h
        match ds, h with | [d0], _ => rfl) laid_try (by kernel_rfl) glob_try law_LeadNil
theorem LeadNil_holds : Rows.LeadNilSaid :=
  OpenClaim.holds_of_wide 9 Try.f9 rfl rfl rfl rfl rfl rfl rfl ⟨rfl, rfl, rfl, rfl, rfl⟩ rfl rfl rfl rfl rfl (by kernel_rfl) Try.func9 (by kernel_rfl)
    (of_decide_eq_true (by kernel_rfl)) (by unfold Func.isWrapper; rw [if_neg (of_decide_eq_false (by kernel_rfl))]; exact ⟨rfl, rfl⟩)
    (fun os started H enc _ => lifted_LeadNil os started H enc)
#print axioms LeadNil_holds

end Go.Proofs.Ytdolepapmpcpiaa

/- LeadChooses, as a function. -/
namespace Go.Proofs.Ytdolepapmpcpiaa
open Go Go.RowKit Go.Maps Go.Shelf
set_option linter.unusedSectionVars false
variable [Base]
set_option linter.unusedVariables false
set_option linter.unusedSimpArgs false
set_option maxRecDepth 10000

theorem sp_rRight {h : Hp} (me masters : Int) {K : Kont} (hK : K (.bool (decide (1 ≤ masters ∧ masters ≤ 5 ∧ 1 ≤ me ∧ me ≤ masters))) h) : C_r13_Right [.int .i64 me, .int .i64 masters] h K := by
  refine ok_r13_Right ?_
  unfold G_r13_Right
  (repeat' (first | (simp (disch := (first | omega | (simp only [sz]; done) | (simp only [lz, Nat.reduceAdd, Nat.reduceLeDiff, Nat.le_refl]; done) | (simp only [sz]; omega))) only [↓xa, xb, xl, Option.bind_some, Option.map_some, implies_true, imp_self, true_and, and_true, if_true, if_false, decide_true, decide_false, Int.cast_ofNat_Int, Int.reduceLT, Int.reduceLE, Int.reduceEq, Nat.reduceAdd, Nat.reduceMul, Nat.reduceLeDiff, setL, bfill, eqV, lookRes]) | ((refine e_ifd _ _ _ (fun hc => ?_) (fun hc => ?_)) <;> first | (exfalso; omega) | (simp (disch := (first | omega | (simp only [sz]; done) | (simp only [lz, Nat.reduceAdd, Nat.reduceLeDiff, Nat.le_refl]; done) | (simp only [sz]; omega))) only [↓xa, xb, xl, Option.bind_some, Option.map_some, implies_true, imp_self, true_and, and_true, if_true, if_false, decide_true, decide_false, Int.cast_ofNat_Int, Int.reduceLT, Int.reduceLE, Int.reduceEq, Nat.reduceAdd, Nat.reduceMul, Nat.reduceLeDiff, setL, bfill, eqV, lookRes, hc]) | skip) | ((refine e_ifn _ _ _ (fun hc => ?_) (fun hc => ?_)) <;> first | (exfalso; omega) | (simp (disch := (first | omega | (simp only [sz]; done) | (simp only [lz, Nat.reduceAdd, Nat.reduceLeDiff, Nat.le_refl]; done) | (simp only [sz]; omega))) only [↓xa, xb, xl, Option.bind_some, Option.map_some, implies_true, imp_self, true_and, and_true, if_true, if_false, decide_true, decide_false, Int.cast_ofNat_Int, Int.reduceLT, Int.reduceLE, Int.reduceEq, Nat.reduceAdd, Nat.reduceMul, Nat.reduceLeDiff, setL, bfill, eqV, lookRes, hc]) | skip) | ((refine e_gd _ _ _ _ _ (fun hc => ?_) (fun hc => ?_)) <;> first | (exfalso; omega) | (simp (disch := (first | omega | (simp only [sz]; done) | (simp only [lz, Nat.reduceAdd, Nat.reduceLeDiff, Nat.le_refl]; done) | (simp only [sz]; omega))) only [↓xa, xb, xl, Option.bind_some, Option.map_some, implies_true, imp_self, true_and, and_true, if_true, if_false, decide_true, decide_false, Int.cast_ofNat_Int, Int.reduceLT, Int.reduceLE, Int.reduceEq, Nat.reduceAdd, Nat.reduceMul, Nat.reduceLeDiff, setL, bfill, eqV, lookRes, hc]) | skip) | ((refine e_gn _ _ _ _ _ (fun hc => ?_) (fun hc => ?_)) <;> first | (exfalso; omega) | (simp (disch := (first | omega | (simp only [sz]; done) | (simp only [lz, Nat.reduceAdd, Nat.reduceLeDiff, Nat.le_refl]; done) | (simp only [sz]; omega))) only [↓xa, xb, xl, Option.bind_some, Option.map_some, implies_true, imp_self, true_and, and_true, if_true, if_false, decide_true, decide_false, Int.cast_ofNat_Int, Int.reduceLT, Int.reduceLE, Int.reduceEq, Nat.reduceAdd, Nat.reduceMul, Nat.reduceLeDiff, setL, bfill, eqV, lookRes, hc]) | skip) | ((refine e_pd _ _ _ _ _ (fun hc => ?_) (fun hc => ?_)) <;> first | (exfalso; omega) | (simp (disch := (first | omega | (simp only [sz]; done) | (simp only [lz, Nat.reduceAdd, Nat.reduceLeDiff, Nat.le_refl]; done) | (simp only [sz]; omega))) only [↓xa, xb, xl, Option.bind_some, Option.map_some, implies_true, imp_self, true_and, and_true, if_true, if_false, decide_true, decide_false, Int.cast_ofNat_Int, Int.reduceLT, Int.reduceLE, Int.reduceEq, Nat.reduceAdd, Nat.reduceMul, Nat.reduceLeDiff, setL, bfill, eqV, lookRes, hc]) | skip) | ((refine e_pn _ _ _ _ _ (fun hc => ?_) (fun hc => ?_)) <;> first | (exfalso; omega) | (simp (disch := (first | omega | (simp only [sz]; done) | (simp only [lz, Nat.reduceAdd, Nat.reduceLeDiff, Nat.le_refl]; done) | (simp only [sz]; omega))) only [↓xa, xb, xl, Option.bind_some, Option.map_some, implies_true, imp_self, true_and, and_true, if_true, if_false, decide_true, decide_false, Int.cast_ofNat_Int, Int.reduceLT, Int.reduceLE, Int.reduceEq, Nat.reduceAdd, Nat.reduceMul, Nat.reduceLeDiff, setL, bfill, eqV, lookRes, hc]) | skip) | ((refine e_if2 _ _ _ (fun hc => ?_) (fun hc => ?_)) <;> first | (exfalso; omega) | (simp (disch := (first | omega | (simp only [sz]; done) | (simp only [lz, Nat.reduceAdd, Nat.reduceLeDiff, Nat.le_refl]; done) | (simp only [sz]; omega))) only [↓xa, xb, xl, Option.bind_some, Option.map_some, implies_true, imp_self, true_and, and_true, if_true, if_false, decide_true, decide_false, Int.cast_ofNat_Int, Int.reduceLT, Int.reduceLE, Int.reduceEq, Nat.reduceAdd, Nat.reduceMul, Nat.reduceLeDiff, setL, bfill, eqV, lookRes, hc]) | skip) | ((refine e_g2 _ _ _ _ _ (fun hc => ?_) (fun hc => ?_)) <;> first | (exfalso; omega) | (simp (disch := (first | omega | (simp only [sz]; done) | (simp only [lz, Nat.reduceAdd, Nat.reduceLeDiff, Nat.le_refl]; done) | (simp only [sz]; omega))) only [↓xa, xb, xl, Option.bind_some, Option.map_some, implies_true, imp_self, true_and, and_true, if_true, if_false, decide_true, decide_false, Int.cast_ofNat_Int, Int.reduceLT, Int.reduceLE, Int.reduceEq, Nat.reduceAdd, Nat.reduceMul, Nat.reduceLeDiff, setL, bfill, eqV, lookRes, hc]) | skip)))
  all_goals first | exact k_cast hK (by congr 1; rw [decide_eq_decide]; omega) | exact k_cast hK (by congr 1; simp; omega)

/-- Who from k to m. -/
def fromQ (k m : Int) : Int → Bool := fun j => decide (k ≤ j ∧ j ≤ m)
theorem enough_from {m k : Int} (hm : isM m) (h1 : 1 ≤ k) (h2 : k ≤ m) : enoughQ (fromQ k m) m = decide (m / 2 + 1 ≤ m - k + 1) := by
  have hk : isM k := by unfold isM at *; omega
  rcases hm with rfl | rfl | rfl | rfl | rfl <;> rcases hk with rfl | rfl | rfl | rfl | rfl <;> first | rfl | omega
theorem fromQ_add {k m : Int} (h : k ≤ m) : addQ (fromQ (k + 1) m) k = fromQ k m := by
  funext j
  simp only [addQ, fromQ]
  by_cases e : j = k
  · subst e; simp [h]
  · have : (decide (k + 1 ≤ j ∧ j ≤ m)) = decide (k ≤ j ∧ j ≤ m) := by congr 1; apply propext; omega
    rw [this]; simp [e]
theorem fromQ_none (m : Int) : fromQ (m + 1) m = noneQ := by
  funext j
  simp only [fromQ, noneQ, decide_eq_false_iff_not]
  omega
theorem cameP_new {came : List (Int × LV)} {who : Int} (h : who ∉ came.map (·.1)) (a : LV) : cameP came who a = came ++ [(who, a)] := by
  unfold cameP
  cases hg : mget came who with
  | none => exact mset_new h a
  | some q => exact absurd (List.mem_map.2 ⟨_, mget_mem hg, rfl⟩) h
theorem votes_none {came : List (Int × LV)} (h : ∀ e ∈ came, e.2.2 = []) : votesOf (allL came) = [] := by
  unfold votesOf
  rw [List.flatMap_eq_nil_iff]
  intro a ha
  obtain ⟨k, hk⟩ := allKs_mem ha
  exact h _ hk
theorem promO_none {x : LS} {came : List (Int × LV)} (h : ∀ e ∈ came, e.2.2 = []) : promO x came = [] := by
  unfold promO
  rw [votes_none h]
  rfl
theorem promX_none {x : LS} {came : List (Int × LV)} (h : ∀ e ∈ came, e.2.2 = []) : promX x came = { x with state := 2, next := x.frm } := by
  unfold promX
  rw [votes_none h]
  have : fillN x.frm (rBestL []) = 0 := rfl
  rw [this]
  simp
theorem openL_none (x : LS) : openL x [] = [] := List.eq_nil_of_length_eq_zero (Nat.le_zero.1 (openL_len x []))
theorem nextE_zero {me : Int} (h : 1 ≤ me ∧ me ≤ 5) : nextE 0 me = 0 := by
  have : isM me := isM_of h.1 h.2
  rcases this with rfl | rfl | rfl | rfl | rfl <;> decide
end Go.Proofs.Ytdolepapmpcpiaa

/- LeadChooses, its loops. -/
namespace Go.Proofs.Ytdolepapmpcpiaa
open Go Go.RowKit Go.Maps Go.Shelf
set_option linter.unusedSectionVars false
variable [Base]
set_option linter.unusedVariables false
set_option linter.unusedSimpArgs false
set_option maxRecDepth 10000

instance : Inhabited Cmd := ⟨⟨0, 0, 0, 0⟩⟩
theorem ccells_len (c : Cmd) : (ccells c).length = 4 := rfl
def opK (m n k s : Int) (c : Cmd) : List (Int × Prp) := if k = m - n then [] else [(s, ⟨c, fromQ (k + 1) m⟩)]
theorem opK_get {m n k s : Int} {c : Cmd} (h : k ≠ m - n) : opK m n k s c = [(s, ⟨c, fromQ (k + 1) m⟩)] := if_neg h
theorem opK_end {m n k s : Int} {c : Cmd} (h : k = m - n) : opK m n k s c = [] := if_pos h
theorem one_get (s : Int) (q : Prp) : mget [(s, q)] s = some q := by rw [mget_cons, if_pos rfl]
theorem one_set (s : Int) (q q' : Prp) : mset [(s, q)] s q' = [(s, q')] := by simp [mset, mfind]
theorem one_del (s : Int) (q : Prp) : mdel [(s, q)] s = [] := by simp [mdel, mfind]

set_option maxHeartbeats 2000000 in
theorem sp_ch4 {h : Hp} (hB : Base.b ≤ h.size) {p rc ro r : Nat} {x : LS} {came : List (Int × LV)} {m n i s : Int} {cv : Value} {cl : List Cmd} {c : Cmd} {b : Int} (hxb : x.ballot = b) {K : Kont} {s0 : Self} {d : Nat → Value}
    (hp : h.size ≤ p ∧ h.size ≤ rc ∧ h.size ≤ ro) (hr : h.size ≤ r) (hm : isM m) (hn : n = m / 2 + 1) (hxm : x.masters = m) (hxs : x.state = 2) {h0 : Hp} (e0 : Ext h h0) (hL : Lead h0 p rc ro x came [(s, ⟨c, noneQ⟩)])
    (hb : h0[r]? = some (.cells (vcells ⟨s, b, c⟩).toArray)) (hne : r ≠ p ∧ r ≠ rc ∧ r ≠ ro) (hS : Sl h 4 ccells cv cl) (hi : 0 ≤ i ∧ i < cl.length ∧ cl.length ≤ 60) (hc : nth cl i.toNat = c)
    (hK : ∀ d' h', Ext h h' → Lead h' p rc ro x came [] → s0 (E_l13_LeadChooses_2 (.int .i64 m) cv (pt p 0) (.int .u64 b) (.int .i64 n) (.int .i64 (i + 1)) d') h') :
    G_l13_LeadChooses_4 K s0 (.int .i64 m) cv (pt p 0) (.int .u64 b) (.int .i64 n) (.int .i64 i) (.int .i64 s) (pt r 0) (.int .i64 m) d h0 := by
  subst hxb
  have hm5 : 1 ≤ m ∧ m ≤ 5 := by unfold isM at hm; omega
  refine rule_l13_LeadChooses_4 (fun v19 h' => ∃ k : Int, v19 = .int .i64 k ∧ m - n ≤ k ∧ k ≤ m ∧ Ext h h' ∧ Lead h' p rc ro x came (opK m n k s c) ∧ h'[r]? = some (.cells (vcells ⟨s, x.ballot, c⟩).toArray)) (fun v19 h' => ival v19) ?_ _ _ _ ⟨m, rfl, by omega, by omega, e0, ?_, hb⟩
  rotate_left
  · rw [opK_get (by omega), fromQ_none]; exact hL
  rintro self v19 d h1 ⟨k, rfl, k1, k2, e1, hL1, hb1⟩ hself
  unfold B_l13_LeadChooses_4
  have hB1 := e1.hB hB
  have lr := lt_of_get hb1
  by_cases hk : k = m - n
  · simp (disch := (first | omega | (simp only [sz]; done) | (simp only [lz, Nat.reduceAdd, Nat.reduceLeDiff, Nat.le_refl]; done) | (simp only [sz]; omega))) only [↓xa, xb, xl, Option.bind_some, Option.map_some, implies_true, imp_self, true_and, and_true, if_true, if_false, decide_true, decide_false, Int.cast_ofNat_Int, Int.reduceLT, Int.reduceLE, Int.reduceEq, Nat.reduceAdd, Nat.reduceMul, Nat.reduceLeDiff, setL, bfill, eqV, lookRes, decide_eq_false (show ¬ m - n < k by omega)]
    rw [req_l13_LeadChooses_3]
    unfold R_l13_LeadChooses_3
    (try simp (disch := (first | omega | (simp only [sz]; done) | (simp only [lz, Nat.reduceAdd, Nat.reduceLeDiff, Nat.le_refl]; done) | (simp only [sz]; omega))) only [↓xa, xb, xl, Option.bind_some, Option.map_some, implies_true, imp_self, true_and, and_true, if_true, if_false, decide_true, decide_false, Int.cast_ofNat_Int, Int.reduceLT, Int.reduceLE, Int.reduceEq, Nat.reduceAdd, Nat.reduceMul, Nat.reduceLeDiff, setL, bfill, eqV, lookRes])
    rw [opK_end hk] at hL1
    exact hK _ _ e1 hL1
  · rw [opK_get hk] at hL1
    simp (disch := (first | omega | (simp only [sz]; done) | (simp only [lz, Nat.reduceAdd, Nat.reduceLeDiff, Nat.le_refl]; done) | (simp only [sz]; omega))) only [↓xa, xb, xl, Option.bind_some, Option.map_some, implies_true, imp_self, true_and, and_true, if_true, if_false, decide_true, decide_false, Int.cast_ofNat_Int, Int.reduceLT, Int.reduceLE, Int.reduceEq, Nat.reduceAdd, Nat.reduceMul, Nat.reduceLeDiff, setL, bfill, eqV, lookRes, decide_eq_true (show m - n < k by omega), rdC_blk hb1, vcells]
    have lp := lt_of_get hL1.blk
    have hS1 := hS.ext e1
    obtain ⟨c1, c2, c3, c4⟩ := c
    have hmany : enoughQ (addQ (fromQ (k + 1) m) k) m = decide (n ≤ m - k + 1) := by
      rw [fromQ_add k2, enough_from hm (by omega) k2, hn]
    refine sp_lAccepted hB1 hL1 (by omega) x.ballot s k ⟨⟨hxs, rfl⟩, by omega, by omega⟩ ?_ ?_ ?_
    · intro hg
      rw [one_get] at hg
      cases hg
    · intro q hg he h2 u2 hL2
      rw [one_get] at hg
      cases hg
      rw [one_set] at hL2
      rw [hxm, hmany, decide_eq_false_iff_not] at he
      have e2 : Ext h h2 := Upd.fresh e1 u2 (fun b hb => .inl (by omega))
      have hb2 := u2.get hb1 hne.2.2
      have lr2 := lt_of_get hb2
      simp (disch := (first | omega | (simp only [sz]; done) | (simp only [lz, Nat.reduceAdd, Nat.reduceLeDiff, Nat.le_refl]; done) | (simp only [sz]; omega))) only [↓xa, xb, xl, Option.bind_some, Option.map_some, implies_true, imp_self, true_and, and_true, if_true, if_false, decide_true, decide_false, Int.cast_ofNat_Int, Int.reduceLT, Int.reduceLE, Int.reduceEq, Nat.reduceAdd, Nat.reduceMul, Nat.reduceLeDiff, setL, bfill, eqV, lookRes, decide_eq_false (show ¬ k = m - n + 1 by omega), beq_self_eq_true, voteV, vote0, cmd0]
      refine hself _ _ _ ⟨k - 1, rfl, by omega, by omega, e2.trans (by repeat' (first | with_reducible exact Upd.refl _ | with_reducible refine Upd.push ?_ _ | with_reducible refine Upd.set ?_ _ _ ?_ | exact .inl (by (first | omega | (simp only [sz]; done) | (simp only [lz, Nat.reduceAdd, Nat.reduceLeDiff, Nat.le_refl]; done) | (simp only [sz]; omega))) | exact .inr rfl | exact .inr (by simp; done))), ?_, ?_⟩ ?_
      · rw [opK_get (by omega), show k - 1 + 1 = k by omega, ← fromQ_add k2]
        exact hL2.ext (by repeat' (first | with_reducible exact Upd.refl _ | with_reducible refine Upd.push ?_ _ | with_reducible refine Upd.set ?_ _ _ ?_ | exact .inl (by (first | omega | (simp only [sz]; done) | (simp only [lz, Nat.reduceAdd, Nat.reduceLeDiff, Nat.le_refl]; done) | (simp only [sz]; omega))) | exact .inr rfl | exact .inr (by simp; done)))
      · refine Upd.get (S := fun _ => False) (a := h2) ?_ hb2 id
        exact (by repeat' (first | with_reducible exact Upd.refl _ | with_reducible refine Upd.push ?_ _ | with_reducible refine Upd.set ?_ _ _ ?_ | exact .inl (by (first | omega | (simp only [sz]; done) | (simp only [lz, Nat.reduceAdd, Nat.reduceLeDiff, Nat.le_refl]; done) | (simp only [sz]; omega))) | exact .inr rfl | exact .inr (by simp; done)))
      · simp only [ival]; omega
    · intro q hg he h2 u2 hL2
      rw [one_get] at hg
      cases hg
      rw [one_set, one_del] at hL2
      rw [hxm, hmany, decide_eq_true_eq] at he
      have e2 : Ext h h2 := Upd.fresh e1 u2 (fun b hb => .inl (by omega))
      have hb2 := u2.get hb1 hne.2.2
      have hS2 := hS.ext e2
      have lr2 := lt_of_get hb2
      have lS := hS2.lt ccells_len (by omega) (by omega)
      simp only [voteP, vcells] at *
      simp (disch := (first | omega | (simp only [sz]; done) | (simp only [lz, Nat.reduceAdd, Nat.reduceLeDiff, Nat.le_refl]; done) | (simp only [sz]; omega))) only [↓xa, xb, xl, Option.bind_some, Option.map_some, implies_true, imp_self, true_and, and_true, if_true, if_false, decide_true, decide_false, Int.cast_ofNat_Int, Int.reduceLT, Int.reduceLE, Int.reduceEq, Nat.reduceAdd, Nat.reduceMul, Nat.reduceLeDiff, setL, bfill, eqV, lookRes, decide_eq_true (show k = m - n + 1 by omega), beq_self_eq_true, voteV, rdN_all hb2, eq_vote, rdC_blk hb2, rdN_of hb2, eq_cmd, ↓hS2.idx, hS2.row ccells_len, hc, ccells]
      refine hself _ _ _ ⟨k - 1, rfl, by omega, by omega, e2.trans (by repeat' (first | with_reducible exact Upd.refl _ | with_reducible refine Upd.push ?_ _ | with_reducible refine Upd.set ?_ _ _ ?_ | exact .inl (by (first | omega | (simp only [sz]; done) | (simp only [lz, Nat.reduceAdd, Nat.reduceLeDiff, Nat.le_refl]; done) | (simp only [sz]; omega))) | exact .inr rfl | exact .inr (by simp; done))), ?_, ?_⟩ ?_
      · rw [opK_end (by omega)]
        exact hL2.ext (by repeat' (first | with_reducible exact Upd.refl _ | with_reducible refine Upd.push ?_ _ | with_reducible refine Upd.set ?_ _ _ ?_ | exact .inl (by (first | omega | (simp only [sz]; done) | (simp only [lz, Nat.reduceAdd, Nat.reduceLeDiff, Nat.le_refl]; done) | (simp only [sz]; omega))) | exact .inr rfl | exact .inr (by simp; done)))
      · refine Upd.get (S := fun _ => False) (a := h2) ?_ hb2 id
        exact (by repeat' (first | with_reducible exact Upd.refl _ | with_reducible refine Upd.push ?_ _ | with_reducible refine Upd.set ?_ _ _ ?_ | exact .inl (by (first | omega | (simp only [sz]; done) | (simp only [lz, Nat.reduceAdd, Nat.reduceLeDiff, Nat.le_refl]; done) | (simp only [sz]; omega))) | exact .inr rfl | exact .inr (by simp; done)))
      · simp only [ival]; omega
end Go.Proofs.Ytdolepapmpcpiaa

/- LeadChooses, its other loops, and all of it. -/
namespace Go.Proofs.Ytdolepapmpcpiaa
open Go Go.RowKit Go.Maps Go.Shelf
set_option linter.unusedSectionVars false
variable [Base]
set_option linter.unusedVariables false
set_option linter.unusedSimpArgs false
set_option maxRecDepth 10000

theorem fine_nil {α : Type} : KeysFine ([] : List (Int × α)) := ⟨List.nodup_nil, by simp, by simp⟩
set_option maxHeartbeats 2000000 in
theorem sp_ch2 {h : Hp} (hB : Base.b ≤ h.size) {p rc ro : Nat} {x : LS} {came : List (Int × LV)} {m n b : Int} {cv : Value} {cl : List Cmd} {K : Kont} {d : Nat → Value}
    (hp : h.size ≤ p ∧ h.size ≤ rc ∧ h.size ≤ ro) (hm : isM m) (hn : n = m / 2 + 1) (hxm : x.masters = m) (hxs : x.state = 2) (hxb : x.ballot = b) (hxn : 0 ≤ x.next ∧ x.next ≤ 512) {h0 : Hp} (e0 : Ext h h0) (hL : Lead h0 p rc ro x came [])
    (hS : Sl h 4 ccells cv cl) (hi : cl.length ≤ 60) (hK : ∀ h', Ext h h' → K (.bool true) h') :
    G_l13_LeadChooses_2 K (.int .i64 m) cv (pt p 0) (.int .u64 b) (.int .i64 n) (.int .i64 0) d h0 := by
  refine rule_l13_LeadChooses_2 (fun v15 h' => ∃ i : Nat, v15 = .int .i64 i ∧ i ≤ cl.length ∧ Ext h h' ∧ ∃ y : LS, y.masters = m ∧ y.state = 2 ∧ y.ballot = b ∧ 0 ≤ y.next ∧ y.next ≤ 512 ∧ Lead h' p rc ro y came []) (fun v15 h' => cl.length - ival v15) ?_ _ _ _ ⟨0, rfl, Nat.zero_le _, e0, x, hxm, hxs, hxb, hxn.1, hxn.2, hL⟩
  clear hL e0 hxn hxb hxs hxm x h0
  rintro self v15 d h1 ⟨i, rfl, hil, e1, x, hxm, hxs, hxb, n0, n1, hL⟩ hself
  unfold B_l13_LeadChooses_2
  have hB1 := e1.hB hB
  have hS1 := hS.ext e1
  have hb1 := hL.blk
  by_cases hlt : i < cl.length
  · simp (disch := (first | omega | (simp only [sz]; done) | (simp only [lz, Nat.reduceAdd, Nat.reduceLeDiff, Nat.le_refl]; done) | (simp only [sz]; omega))) only [↓xa, xb, xl, Option.bind_some, Option.map_some, implies_true, imp_self, true_and, and_true, if_true, if_false, decide_true, decide_false, Int.cast_ofNat_Int, Int.reduceLT, Int.reduceLE, Int.reduceEq, Nat.reduceAdd, Nat.reduceMul, Nat.reduceLeDiff, setL, bfill, eqV, lookRes, ↓hS1.len', decide_eq_true (Int.ofNat_lt.2 hlt)]
    refine sp_lNext hb1 ?_
    simp (disch := (first | omega | (simp only [sz]; done) | (simp only [lz, Nat.reduceAdd, Nat.reduceLeDiff, Nat.le_refl]; done) | (simp only [sz]; omega))) only [↓xa, xb, xl, Option.bind_some, Option.map_some, implies_true, imp_self, true_and, and_true, if_true, if_false, decide_true, decide_false, Int.cast_ofNat_Int, Int.reduceLT, Int.reduceLE, Int.reduceEq, Nat.reduceAdd, Nat.reduceMul, Nat.reduceLeDiff, setL, bfill, eqV, lookRes, ↓hS1.idx, hS1.row ccells_len, ccells]
    refine sp_lPropose hB1 hL fine_nil ⟨n0, n1⟩ (nth cl i) ?_ ?_
    · intro he h2 e2
      have hB2 := e2.hB hB1
      have l2 := e2.1
      simp (disch := (first | omega | (simp only [sz]; done) | (simp only [lz, Nat.reduceAdd, Nat.reduceLeDiff, Nat.le_refl]; done) | (simp only [sz]; omega))) only [↓xa, xb, xl, Option.bind_some, Option.map_some, implies_true, imp_self, true_and, and_true, if_true, if_false, decide_true, decide_false, Int.cast_ofNat_Int, Int.reduceLT, Int.reduceLE, Int.reduceEq, Nat.reduceAdd, Nat.reduceMul, Nat.reduceLeDiff, setL, bfill, eqV, lookRes, decide_eq_false he, voteV, vote0, cmd0]
      rw [req_l13_LeadChooses_3]
      unfold R_l13_LeadChooses_3
      (try simp (disch := (first | omega | (simp only [sz]; done) | (simp only [lz, Nat.reduceAdd, Nat.reduceLeDiff, Nat.le_refl]; done) | (simp only [sz]; omega))) only [↓xa, xb, xl, Option.bind_some, Option.map_some, implies_true, imp_self, true_and, and_true, if_true, if_false, decide_true, decide_false, Int.cast_ofNat_Int, Int.reduceLT, Int.reduceLE, Int.reduceEq, Nat.reduceAdd, Nat.reduceMul, Nat.reduceLeDiff, setL, bfill, eqV, lookRes])
      refine hself _ _ _ ⟨i + 1, rfl, by omega, e1.trans (e2.trans (by repeat' (first | with_reducible exact Upd.refl _ | with_reducible refine Upd.push ?_ _ | with_reducible refine Upd.set ?_ _ _ ?_ | exact .inl (by (first | omega | (simp only [sz]; done) | (simp only [lz, Nat.reduceAdd, Nat.reduceLeDiff, Nat.le_refl]; done) | (simp only [sz]; omega))) | exact .inr rfl | exact .inr (by simp; done)))), x, hxm, hxs, hxb, n0, n1, (hL.ext e2).ext (by repeat' (first | with_reducible exact Upd.refl _ | with_reducible refine Upd.push ?_ _ | with_reducible refine Upd.set ?_ _ _ ?_ | exact .inl (by (first | omega | (simp only [sz]; done) | (simp only [lz, Nat.reduceAdd, Nat.reduceLeDiff, Nat.le_refl]; done) | (simp only [sz]; omega))) | exact .inr rfl | exact .inr (by simp; done)))⟩ ?_
      simp only [ival]; omega
    · intro he h2 u2 hL2
      have e2 : Ext h h2 := Upd.fresh e1 u2 (fun r hr => .inl (by omega))
      have hB2 := e2.hB hB
      have l2 := e2.1
      have lp := lt_of_get hL2.blk
      have lc := lt_of_get hL2.came
      have lo := lt_of_get hL2.opn
      have hms : mset ([] : List (Int × Prp)) x.next ⟨nth cl i, noneQ⟩ = [(x.next, ⟨nth cl i, noneQ⟩)] := rfl
      rw [hms] at hL2
      have hn1 : x.next < 512 := by
        unfold propE at he
        by_cases h512 : 512 ≤ x.next
        · repeat' split at he
          all_goals first | omega | (exfalso; simp_all; done)
        · omega
      simp (disch := (first | omega | (simp only [sz]; done) | (simp only [lz, Nat.reduceAdd, Nat.reduceLeDiff, Nat.le_refl]; done) | (simp only [sz]; omega))) only [↓xa, xb, xl, Option.bind_some, Option.map_some, implies_true, imp_self, true_and, and_true, if_true, if_false, decide_true, decide_false, Int.cast_ofNat_Int, Int.reduceLT, Int.reduceLE, Int.reduceEq, Nat.reduceAdd, Nat.reduceMul, Nat.reduceLeDiff, setL, bfill, eqV, lookRes, voteV, voteP]
      refine sp_ch4 hB (x := layX x) hxb hp l2 hm hn hxm hxs (e2.trans (by repeat' (first | with_reducible exact Upd.refl _ | with_reducible refine Upd.push ?_ _ | with_reducible refine Upd.set ?_ _ _ ?_ | exact .inl (by (first | omega | (simp only [sz]; done) | (simp only [lz, Nat.reduceAdd, Nat.reduceLeDiff, Nat.le_refl]; done) | (simp only [sz]; omega))) | exact .inr rfl | exact .inr (by simp; done)))) (hL2.ext (by repeat' (first | with_reducible exact Upd.refl _ | with_reducible refine Upd.push ?_ _ | with_reducible refine Upd.set ?_ _ _ ?_ | exact .inl (by (first | omega | (simp only [sz]; done) | (simp only [lz, Nat.reduceAdd, Nat.reduceLeDiff, Nat.le_refl]; done) | (simp only [sz]; omega))) | exact .inr rfl | exact .inr (by simp; done)))) ?_ ⟨by omega, by omega, by omega⟩ hS ⟨by omega, by omega, hi⟩ (c := nth cl i) (by simp) ?_
      · rw [g_set_eq (by simp) rfl]
        subst hxb
        rfl
      · intro d' h3 e3 hL3
        refine hself _ _ _ ⟨i + 1, rfl, by omega, e3, layX x, hxm, hxs, hxb, by show 0 ≤ x.next + 1; omega, by show x.next + 1 ≤ 512; omega, hL3⟩ ?_
        simp only [ival]; omega
  · simp (disch := (first | omega | (simp only [sz]; done) | (simp only [lz, Nat.reduceAdd, Nat.reduceLeDiff, Nat.le_refl]; done) | (simp only [sz]; omega))) only [↓xa, xb, xl, Option.bind_some, Option.map_some, implies_true, imp_self, true_and, and_true, if_true, if_false, decide_true, decide_false, Int.cast_ofNat_Int, Int.reduceLT, Int.reduceLE, Int.reduceEq, Nat.reduceAdd, Nat.reduceMul, Nat.reduceLeDiff, setL, bfill, eqV, lookRes, ↓hS1.len', decide_eq_false (show ¬ ((i : Int) < (cl.length : Int)) by omega)]
    refine sp_lOpen hB1 hL fine_nil ?_
    intro v h2 e2 o2
    rw [openL_none] at o2
    have s2 := o2.sl
    have hB2 := e2.hB hB1
    simp (disch := (first | omega | (simp only [sz]; done) | (simp only [lz, Nat.reduceAdd, Nat.reduceLeDiff, Nat.le_refl]; done) | (simp only [sz]; omega))) only [↓xa, xb, xl, Option.bind_some, Option.map_some, implies_true, imp_self, true_and, and_true, if_true, if_false, decide_true, decide_false, Int.cast_ofNat_Int, Int.reduceLT, Int.reduceLE, Int.reduceEq, Nat.reduceAdd, Nat.reduceMul, Nat.reduceLeDiff, setL, bfill, eqV, lookRes, ↓s2.len', List.length_nil, Int.natCast_zero, Int.ofNat_zero]
    refine sp_lawake hB2 ?_
    intro h3 e3
    (try simp (disch := (first | omega | (simp only [sz]; done) | (simp only [lz, Nat.reduceAdd, Nat.reduceLeDiff, Nat.le_refl]; done) | (simp only [sz]; omega))) only [↓xa, xb, xl, Option.bind_some, Option.map_some, implies_true, imp_self, true_and, and_true, if_true, if_false, decide_true, decide_false, Int.cast_ofNat_Int, Int.reduceLT, Int.reduceLE, Int.reduceEq, Nat.reduceAdd, Nat.reduceMul, Nat.reduceLeDiff, setL, bfill, eqV, lookRes])
    exact hK _ (e1.trans (e2.trans e3))

def upTo (k : Int) : Int → Bool := fun j => decide (1 ≤ j ∧ j < k + 1)
theorem enough_upTo {m k : Int} (hm : isM m) (h1 : 1 ≤ k) (h2 : k ≤ m) : enoughQ (upTo k) m = decide (m / 2 + 1 ≤ k) := by
  have hk : isM k := by unfold isM at *; omega
  rcases hm with rfl | rfl | rfl | rfl | rfl <;> rcases hk with rfl | rfl | rfl | rfl | rfl <;> first | rfl | omega
theorem memQ_upTo {l : List Int} {k : Int} (h : ∀ j, j ∈ l ↔ 1 ≤ j ∧ j < k + 1) : memQ l = upTo k := by
  funext j
  simp only [memQ, upTo, h]
set_option maxHeartbeats 2000000 in
theorem sp_ch1 {h : Hp} (hB : Base.b ≤ h.size) {p rc ro : Nat} {me m n b : Int} {cv : Value} {cl : List Cmd} {K : Kont} {d : Nat → Value}
    (hp : h.size ≤ p ∧ h.size ≤ rc ∧ h.size ≤ ro) (hm : isM m) (hn : n = m / 2 + 1) {h0 : Hp} (e0 : Ext h h0) (hL : Lead h0 p rc ro ⟨me, m, 1, b, 0, 0⟩ [] [])
    (hS : Sl h 4 ccells cv cl) (hi : cl.length ≤ 60) (hK : ∀ h', Ext h h' → K (.bool true) h') :
    G_l13_LeadChooses_1 K (.int .i64 m) cv (pt p 0) (.int .u64 b) (.int .i64 n) (.int .i64 1) d h0 := by
  have hm5 : 1 ≤ m ∧ m ≤ 5 := by unfold isM at hm; omega
  refine rule_l13_LeadChooses_1 (fun v12 h' => ∃ i : Int, v12 = .int .i64 i ∧ 1 ≤ i ∧ i ≤ n + 1 ∧ Ext h h' ∧ (i ≤ n → ∃ came, Lead h' p rc ro ⟨me, m, 1, b, 0, 0⟩ came [] ∧ CameIn h' came ∧ CameOk ⟨me, m, 1, b, 0, 0⟩ came ∧ (∀ e ∈ came, e.2.2 = []) ∧ (∀ e ∈ came, ∀ b, blk e.2.1 = some b → b ≠ p ∧ b ≠ rc ∧ b ≠ ro) ∧ (∀ j, j ∈ came.map (·.1) ↔ 1 ≤ j ∧ j < i)) ∧ (n < i → ∃ came, Lead h' p rc ro ⟨me, m, 2, b, 0, 0⟩ came [])) (fun v12 h' => (n + 1 - ival v12).toNat) ?_ _ _ _ ⟨1, rfl, by omega, by omega, e0, fun _ => ⟨[], hL, fun e he => (by cases he), CameOk.nil hm5 ⟨Int.le_refl _, show (0 : Int) ≤ 512 by decide⟩, by simp, by simp, fun j => by simp only [List.map_nil, List.not_mem_nil, false_iff]; omega⟩, fun _ => by omega⟩
  clear hL e0 h0
  rintro self v12 d h1 ⟨i, rfl, i1, i2, e1, hA, hZ⟩ hself
  unfold B_l13_LeadChooses_1
  have hB1 := e1.hB hB
  by_cases hle : i ≤ n
  · obtain ⟨came, hL, hc, hco, hv, hcb, hk⟩ := hA hle
    have hi5 : i ≤ m := by omega
    have hnew : i ∉ came.map (·.1) := by rw [hk]; omega
    have hmap : ∀ a : LV, (cameP came i a).map (·.1) = came.map (·.1) ++ [i] := fun a => by rw [cameP_new hnew]; simp
    have hmem : ∀ (a : LV) (j : Int), j ∈ (cameP came i a).map (·.1) ↔ 1 ≤ j ∧ j < i + 1 := fun a j => by
      rw [hmap, List.mem_append, hk, List.mem_singleton]; omega
    have hen : ∀ a : LV, enoughQ (memQ ((cameP came i a).map (·.1))) m = decide (n ≤ i) := fun a => by
      rw [memQ_upTo (hmem a), enough_upTo hm i1 hi5, hn]
    have hcut : cutV (0 : Int) [] = [] := rfl
    simp (disch := (first | omega | (simp only [sz]; done) | (simp only [lz, Nat.reduceAdd, Nat.reduceLeDiff, Nat.le_refl]; done) | (simp only [sz]; omega))) only [↓xa, xb, xl, Option.bind_some, Option.map_some, implies_true, imp_self, true_and, and_true, if_true, if_false, decide_true, decide_false, Int.cast_ofNat_Int, Int.reduceLT, Int.reduceLE, Int.reduceEq, Nat.reduceAdd, Nat.reduceMul, Nat.reduceLeDiff, setL, bfill, eqV, lookRes, decide_eq_true hle]
    refine sp_lPromise hB1 hL rfl hc hco hcb (b := b) (who := i) ⟨⟨rfl, rfl⟩, i1, hi5⟩ (va := .slice none 0 0) (vl := []) Sl.nil (by simp) ?_ ?_
    · intro h2 v' came' he u2 hL2 hc2 hv2
      rw [hen, decide_eq_false_iff_not] at he
      have e2 : Ext h h2 := Upd.fresh e1 u2 (fun r hr => .inl (by omega))
      have hne : ¬ i = n := by omega
      simp (disch := (first | omega | (simp only [sz]; done) | (simp only [lz, Nat.reduceAdd, Nat.reduceLeDiff, Nat.le_refl]; done) | (simp only [sz]; omega))) only [↓xa, xb, xl, Option.bind_some, Option.map_some, implies_true, imp_self, true_and, and_true, if_true, if_false, decide_true, decide_false, Int.cast_ofNat_Int, Int.reduceLT, Int.reduceLE, Int.reduceEq, Nat.reduceAdd, Nat.reduceMul, Nat.reduceLeDiff, setL, bfill, eqV, lookRes, decide_eq_false hne, beq_self_eq_true]
      refine hself _ _ _ ⟨i + 1, rfl, by omega, by omega, e2, fun _ => ⟨came', hL2, hc2, CameOk.put hco ⟨i1, hi5⟩ (by simp [cutV]) (by simp [cutV]), ?_, ?_, hmem _⟩, fun _ => by omega⟩ ?_
      · intro e he'
        rcases mem_cameP he' with he' | rfl
        · exact hv e he'
        · rfl
      · intro e he' g hg
        rcases mem_cameP he' with he' | rfl
        · exact hcb e he' g hg
        · have := (hv2 g hg).1
          have h6 := lt_of_get hL.blk
          have h7 := lt_of_get hL.came
          have h8 := lt_of_get hL.opn
          omega
      · simp only [ival]; omega
    · intro h2 v' w came' he u2 hL2 hv2 o2
      rw [hen, decide_eq_true_eq] at he
      have hne : i = n := by omega
      have hv' : ∀ e ∈ came', e.2.2 = [] := by
        intro e he'
        rcases mem_cameP he' with he' | rfl
        · exact hv e he'
        · rfl
      rw [promO_none hv', promX_none hv'] at hL2 o2
      rw [openL_none] at o2
      have s2 := o2.sl
      have e2 : Ext h h2 := Upd.fresh e1 u2 (fun r hr => .inl (by omega))
      simp (disch := (first | omega | (simp only [sz]; done) | (simp only [lz, Nat.reduceAdd, Nat.reduceLeDiff, Nat.le_refl]; done) | (simp only [sz]; omega))) only [↓xa, xb, xl, Option.bind_some, Option.map_some, implies_true, imp_self, true_and, and_true, if_true, if_false, decide_true, decide_false, Int.cast_ofNat_Int, Int.reduceLT, Int.reduceLE, Int.reduceEq, Nat.reduceAdd, Nat.reduceMul, Nat.reduceLeDiff, setL, bfill, eqV, lookRes, decide_eq_true hne, beq_self_eq_true, ↓s2.len', List.length_nil, Int.natCast_zero, Int.ofNat_zero]
      refine hself _ _ _ ⟨i + 1, rfl, by omega, by omega, e2, fun _ => by omega, fun _ => ⟨_, hL2⟩⟩ ?_
      simp only [ival]; omega
  · obtain ⟨came, hL⟩ := hZ (by omega)
    simp (disch := (first | omega | (simp only [sz]; done) | (simp only [lz, Nat.reduceAdd, Nat.reduceLeDiff, Nat.le_refl]; done) | (simp only [sz]; omega))) only [↓xa, xb, xl, Option.bind_some, Option.map_some, implies_true, imp_self, true_and, and_true, if_true, if_false, decide_true, decide_false, Int.cast_ofNat_Int, Int.reduceLT, Int.reduceLE, Int.reduceEq, Nat.reduceAdd, Nat.reduceMul, Nat.reduceLeDiff, setL, bfill, eqV, lookRes, decide_eq_false hle]
    exact sp_ch2 hB hp hm hn rfl rfl rfl ⟨Int.le_refl _, show (0 : Int) ≤ 512 by decide⟩ e1 hL hS hi hK

set_option maxHeartbeats 2000000 in
theorem sp_LeadChooses {h : Hp} (hB : Base.b ≤ h.size) (me m : Int) {cv : Value} {cl : List Cmd} (hS : Sl h 4 ccells cv cl) {K : Kont} (hK : ∀ h', Ext h h' → K (.bool true) h') :
    C_l13_LeadChooses [.int .i64 me, .int .i64 m, cv] h K := by
  refine ok_l13_LeadChooses ?_
  unfold G_l13_LeadChooses
  refine sp_rRight me m ?_
  by_cases hr : 1 ≤ m ∧ m ≤ 5 ∧ 1 ≤ me ∧ me ≤ m
  · by_cases hl : 60 < cl.length
    · simp (disch := (first | omega | (simp only [sz]; done) | (simp only [lz, Nat.reduceAdd, Nat.reduceLeDiff, Nat.le_refl]; done) | (simp only [sz]; omega))) only [↓xa, xb, xl, Option.bind_some, Option.map_some, implies_true, imp_self, true_and, and_true, if_true, if_false, decide_true, decide_false, Int.cast_ofNat_Int, Int.reduceLT, Int.reduceLE, Int.reduceEq, Nat.reduceAdd, Nat.reduceMul, Nat.reduceLeDiff, setL, bfill, eqV, lookRes, decide_eq_true hr, ↓hS.len', decide_eq_true (show (60 : Int) < (cl.length : Int) by omega)]
      exact sp_lawake hB hK
    · simp (disch := (first | omega | (simp only [sz]; done) | (simp only [lz, Nat.reduceAdd, Nat.reduceLeDiff, Nat.le_refl]; done) | (simp only [sz]; omega))) only [↓xa, xb, xl, Option.bind_some, Option.map_some, implies_true, imp_self, true_and, and_true, if_true, if_false, decide_true, decide_false, Int.cast_ofNat_Int, Int.reduceLT, Int.reduceLE, Int.reduceEq, Nat.reduceAdd, Nat.reduceMul, Nat.reduceLeDiff, setL, bfill, eqV, lookRes, decide_eq_true hr, ↓hS.len', decide_eq_false (show ¬ (60 : Int) < (cl.length : Int) by omega)]
      refine sp_lNew hB me m (fun hb => absurd hr (by omega)) (fun _ => ?_)
      have x1 : Ext h (h.push (.cells (lcells ⟨me, m, 0, 0, 0, 0⟩ none none))) := (by repeat' (first | with_reducible exact Upd.refl _ | with_reducible refine Upd.push ?_ _ | with_reducible refine Upd.set ?_ _ _ ?_ | exact .inl (by (first | omega | (simp only [sz]; done) | (simp only [lz, Nat.reduceAdd, Nat.reduceLeDiff, Nat.le_refl]; done) | (simp only [sz]; omega))) | exact .inr rfl | exact .inr (by simp; done)))
      have hb1 : (h.push (.cells (lcells ⟨me, m, 0, 0, 0, 0⟩ none none)))[h.size]? = some (.cells (lcells ⟨me, m, 0, 0, 0, 0⟩ none none)) := g_push_eq rfl
      have l1 : (h.push (.cells (lcells ⟨me, m, 0, 0, 0, 0⟩ none none))).size = h.size + 1 := by simp
      generalize h.push (.cells (lcells ⟨me, m, 0, 0, 0, 0⟩ none none)) = h1 at *
      have hB1 := x1.hB hB
      (try simp (disch := (first | omega | (simp only [sz]; done) | (simp only [lz, Nat.reduceAdd, Nat.reduceLeDiff, Nat.le_refl]; done) | (simp only [sz]; omega))) only [↓xa, xb, xl, Option.bind_some, Option.map_some, implies_true, imp_self, true_and, and_true, if_true, if_false, decide_true, decide_false, Int.cast_ofNat_Int, Int.reduceLT, Int.reduceLE, Int.reduceEq, Nat.reduceAdd, Nat.reduceMul, Nat.reduceLeDiff, setL, bfill, eqV, lookRes])
      have e1 : startE ⟨me, m, 0, 0, 0, 0⟩ 0 0 = 0 := nextE_zero (me := me) ⟨hr.2.2.1, by omega⟩
      have e3 : startX ⟨me, m, 0, 0, 0, 0⟩ 0 0 = ⟨me, m, 1, nextB 0 me, 0, 0⟩ := by unfold startX; rw [if_pos e1]; rfl
      have e2 : startB ⟨me, m, 0, 0, 0, 0⟩ 0 0 = nextB 0 me := by unfold startB; rw [if_pos e1]; rfl
      refine sp_lStart hB1 hb1 (show i64ok me by unfold i64ok; omega) (show u64ok 0 by decide) (by decide) 0 (fun h => absurd e1 h) (fun _ => ?_)
      intro h2 u2 hL2
      rw [e3] at hL2
      rw [e2]
      have hB2 := u2.hB hB1
      have hmm : isM m := isM_of hr.1 hr.2.1
      have hq : IntKind.i64.wrap (IntKind.i64.wrap (m.tdiv 2) + 1) = m / 2 + 1 := by rcases hmm with rfl | rfl | rfl | rfl | rfl <;> rfl
      have E2 : Ext h h2 := Upd.fresh x1 u2 (fun r hr => .inl (by omega))
      simp (disch := (first | omega | (simp only [sz]; done) | (simp only [lz, Nat.reduceAdd, Nat.reduceLeDiff, Nat.le_refl]; done) | (simp only [sz]; omega))) only [↓xa, xb, xl, Option.bind_some, Option.map_some, implies_true, imp_self, true_and, and_true, if_true, if_false, decide_true, decide_false, Int.cast_ofNat_Int, Int.reduceLT, Int.reduceLE, Int.reduceEq, Nat.reduceAdd, Nat.reduceMul, Nat.reduceLeDiff, setL, bfill, eqV, lookRes, hq]
      exact sp_ch1 hB ⟨by omega, by omega, by omega⟩ hmm rfl E2 hL2 hS (by omega) hK
  · simp (disch := (first | omega | (simp only [sz]; done) | (simp only [lz, Nat.reduceAdd, Nat.reduceLeDiff, Nat.le_refl]; done) | (simp only [sz]; omega))) only [↓xa, xb, xl, Option.bind_some, Option.map_some, implies_true, imp_self, true_and, and_true, if_true, if_false, decide_true, decide_false, Int.cast_ofNat_Int, Int.reduceLT, Int.reduceLE, Int.reduceEq, Nat.reduceAdd, Nat.reduceMul, Nat.reduceLeDiff, setL, bfill, eqV, lookRes, decide_eq_false hr]
    exact sp_lawake hB hK
end Go.Proofs.Ytdolepapmpcpiaa

namespace Go.Proofs.Ytdolepapmpcpiaa
open Go
open Go.ChangeShapes Go.WideShapes Go.RowKit
set_option linter.unusedVariables false

section
variable {H : Type} {enc : TypeId × Value → H} {W : World}
theorem u_cmds : Try.prog.underlying 57 = some (.slice 32) := by kernel_rfl
theorem rd_cmds : Rd enc Try.prog W 57 (fun cs => ∃ v l, cs = [v] ∧ Sl (@hv ⟨W.heap.size⟩ W) 4 ccells v l ∧ (∀ a ∈ l, cmdOk a) ∧ l.length ≤ maxLen) :=
  Rd.slice u_cmds (by kernel_rfl) (by decide) (@ccells_len ⟨0⟩) rd_cmd
end

set_option maxRecDepth 100000 in
theorem law_LeadChooses {H : Type} {enc : TypeId × Value → H} : LawDoes enc Try.prog 7 Try.f7 := by
  intro W base args ds ps h0 hlt hval hA
  letI : Base := ⟨W.heap.size⟩
  have hp : Try.f7.params = #[3, 3, 57] := by kernel_rfl
  rw [hp] at hA hval
  obtain ⟨v0, vs, d0, ds, p0, p1, hargs, rfl, rfl, t0, hA⟩ := trodAll_cons hA
  obtain ⟨v1, vs, d1, ds, p1, p2, rfl, rfl, rfl, t1, hA⟩ := trodAll_cons hA
  obtain ⟨v2, vs, d2, ds, p2, p3, rfl, rfl, rfl, t2, hA⟩ := trodAll_cons hA
  obtain ⟨rfl, rfl, rfl⟩ := trodAll_nil hA
  obtain ⟨args⟩ := args
  cases hargs
  obtain ⟨f, rfl, _, _⟩ := arg_int u_int (hval 0 3 v0 rfl rfl) t0
  obtain ⟨g, rfl, _, _⟩ := arg_int u_int (hval 1 3 v1 rfl rfl) t1
  obtain ⟨v, l, hv, s, hl, hm⟩ := arg_slice u_cmds (hval 2 57 v2 rfl rfl) rd_cmds t2
  cases hv
  exact sp_LeadChooses (by rw [hv_size]; exact Nat.le_refl _) f g s (fun h' x => ⟨rfl, x⟩)
set_option maxRecDepth 100000 in
theorem lifted_LeadChooses (os : Os) (started : os.Started) (H : Type) (enc : TypeId × Value → H) :
    ReturnsInHanded {} Try.checked os 7 .any (Rows.leadChoosesSpec.pre6 enc Try.prog Try.f7 Rows.leadChoosesRow.domain false) (Rows.leadChoosesSpec.post enc Try.prog Try.f7 false true false false) :=
  lifted_law (C := Try.checked) (s := Rows.leadChoosesSpec) (tb := 4) own_try started (by kernel_rfl) Try.func7
      (ChangeSpec.witness6 (enc := enc) (C := Try.checked) false ⟨#[], #[.int .i64 0, .int .i64 0, .slice none 0 0], []⟩ 8 (by kernel_rfl) (by kernel_rfl) (by kernel_rfl) (by kernel_rfl))
      rfl (by kernel_rfl) u_bool (fun ds h => by
        have hp : Try.f7.params = #[3, 3, 57] := by kernel_rfl
        rw [hp] at h
        match ds, h with | [d0, d1, d2], _ => rfl) laid_try (by kernel_rfl) glob_try law_LeadChooses
theorem LeadChooses_holds : Rows.LeadChoosesSaid :=
  OpenClaim.holds_of_wide 7 Try.f7 rfl rfl rfl rfl rfl rfl rfl ⟨rfl, rfl, rfl, rfl, rfl⟩ rfl rfl rfl rfl rfl (by kernel_rfl) Try.func7 (by kernel_rfl)
    (of_decide_eq_true (by kernel_rfl)) (by unfold Func.isWrapper; rw [if_neg (of_decide_eq_false (by kernel_rfl))]; exact ⟨rfl, rfl⟩)
    (fun os started H enc _ => lifted_LeadChooses os started H enc)
#print axioms LeadChooses_holds

end Go.Proofs.Ytdolepapmpcpiaa

