/- Lemmas for the theorem of the last text; no condition. -/
import Derived.Test.YtdolepapmpcpiaaLp0
import Derived.Test.YtdolepapmpcpiaaLp1
import Derived.Test.YtdolepapmpcpiaaLp2
import Derived.Test.YtdolepapmpcpiaaLp3
import Derived.Test.YtdolepapmpcpiaaLp4
import Derived.Test.YtdolepapmpcpiaaLp5
import Derived.Test.YtdolepapmpcpiaaLp6
import Derived.Test.YtdolepapmpcpiaaLp7
import Derived.Test.YtdolepapmpcpiaaLp8
import Derived.Test.YtdolepapmpcpiaaLp9
import Derived.Test.YtdolepapmpcpiaaLp10
import Derived.Test.YtdolepapmpcpiaaLp11
import Derived.Test.YtdolepapmpcpiaaRows
namespace Go.Proofs.Ytdolepapmpcpiaa
open Go
open Go.ChangeShapes Go.WideShapes Go.RowKit
set_option linter.unusedVariables false
theorem own_try : ownKnob Try.prog.godebug = none := by kernel_rfl
theorem laid_try : laidOutB Try.prog = true := by kernel_rfl
theorem glob_try : decide (Try.prog.globals.size < (begin Try.prog (fun _ _ => 0) default).world.heap.size) = true := by kernel_rfl
def fieldsOf (P : Program) (t : TypeId) : Array Field := match P.underlying t with | some (.struct fs) => fs | _ => #[]
theorem u_int : Try.prog.underlying 3 = some (.int .i64) := by kernel_rfl
theorem u_u64 : Try.prog.underlying 25 = some (.int .u64) := by kernel_rfl
theorem u_bool : Try.prog.underlying 4 = some .bool := by kernel_rfl
theorem u_cmd : Try.prog.underlying 32 = some (.struct (fieldsOf Try.prog 32)) := by kernel_rfl
def cmdOk (c : Cmd) : Prop := i64ok c.kind ∧ i64ok c.chain ∧ u64ok c.epoch ∧ i64ok c.node
def ccells (c : Cmd) : List Value := [.int .i64 c.kind, .int .i64 c.chain, .int .u64 c.epoch, .int .i64 c.node]
section
variable {H : Type} {enc : TypeId × Value → H} {W : World}
theorem i64r_ok {a : Int} (h1 : IntKind.i64.min ≤ a) (h2 : a ≤ IntKind.i64.max) : i64ok a := by
  simp only [IntKind.min, IntKind.max, IntKind.signed, IntKind.bits, if_true] at h1 h2
  unfold i64ok
  omega
theorem u64r_ok {a : Int} (h1 : IntKind.u64.min ≤ a) (h2 : a ≤ IntKind.u64.max) : u64ok a := by
  simp only [IntKind.min, IntKind.max, IntKind.signed, IntKind.bits, Bool.false_eq_true, if_false] at h1 h2
  omega
theorem rd_int : Rd enc Try.prog W 3 (fun cs => ∃ a, cs = [.int .i64 a] ∧ i64ok a) := (Rd.int u_int).mono fun cs ⟨a, h, h1, h2⟩ => ⟨a, h, i64r_ok h1 h2⟩
theorem rd_u64 : Rd enc Try.prog W 25 (fun cs => ∃ a, cs = [.int .u64 a] ∧ u64ok a) := (Rd.int u_u64).mono fun cs ⟨a, h, h1, h2⟩ => ⟨a, h, u64r_ok h1 h2⟩
theorem rd_cmd : Rd enc Try.prog W 32 (fun cs => ∃ c, cs = ccells c ∧ cmdOk c) := by
  refine (Rd.struct (ts := [3, 3, 25, 3]) u_cmd (by kernel_rfl) (by kernel_rfl) (.cons rd_int (.cons rd_int (.cons rd_u64 (.cons rd_int .nil))))).mono ?_
  rintro cs ⟨_, _, rfl, ⟨a, rfl, ha⟩, _, _, rfl, ⟨b, rfl, hb⟩, _, _, rfl, ⟨c, rfl, hc⟩, _, _, rfl, ⟨d, rfl, hd⟩, rfl⟩
  exact ⟨⟨a, b, c, d⟩, rfl, ha, hb, hc, hd⟩
structure Op where
  kind : Int
  ballot : Int
  slot : Int
  cmd : Cmd
end
section
variable {H : Type} {enc : TypeId × Value → H} {W : World}
theorem u_vote : Try.prog.underlying 36 = some (.struct (fieldsOf Try.prog 36)) := by kernel_rfl
theorem u_votes : Try.prog.underlying 26 = some (.slice 36) := by kernel_rfl
def voteOk (v : Vote) : Prop := i64ok v.slot ∧ u64ok v.ballot ∧ cmdOk v.cmd
theorem rd_vote : Rd enc Try.prog W 36 (fun cs => ∃ v, cs = vcells v ∧ voteOk v) := by
  refine (Rd.struct (ts := [3, 25, 32]) u_vote (by kernel_rfl) (by kernel_rfl) (.cons rd_int (.cons rd_u64 (.cons rd_cmd .nil)))).mono ?_
  rintro cs ⟨_, _, rfl, ⟨a, rfl, ha⟩, _, _, rfl, ⟨b, rfl, hb⟩, _, _, rfl, ⟨c, rfl, hc⟩, rfl⟩
  exact ⟨⟨a, b, c⟩, rfl, ha, hb, hc⟩
theorem rd_votes : Rd enc Try.prog W 26 (fun cs => ∃ v l, cs = [v] ∧ Sl (@hv ⟨W.heap.size⟩ W) 6 vcells v l ∧ (∀ a ∈ l, voteOk a) ∧ l.length ≤ maxLen) :=
  Rd.slice u_votes (by kernel_rfl) (by decide) (@vcells_len ⟨0⟩) rd_vote
def lvOk (W : World) (a : LV) : Prop := Sl (@hv ⟨W.heap.size⟩ W) 6 vcells a.1 a.2 ∧ (∀ v ∈ a.2, voteOk v) ∧ a.2.length ≤ maxLen
end
end Go.Proofs.Ytdolepapmpcpiaa

namespace Go.Proofs.Ytdolepapmpcpiaa
open Go
open Go.ChangeShapes Go.WideShapes Go.RowKit
set_option linter.unusedSectionVars false
set_option linter.unusedVariables false
set_option linter.unusedSimpArgs false
set_option maxRecDepth 10000
section
variable [Base]
theorem sp_lisN {h : Hp} (s b : Value) {K : Kont} (hK : K (.bool false) h) : C_q126 [.pointer none, s, b] h K := by
  refine ok_q126 ?_
  unfold G_q126
  (try simp (disch := (first | omega | (simp only [sz]; done) | (simp only [lz, Nat.reduceAdd, Nat.reduceLeDiff, Nat.le_refl]; done) | (simp only [sz]; omega))) only [↓xa, xb, xl, Option.bind_some, Option.map_some, implies_true, imp_self, true_and, and_true, if_true, if_false, decide_true, decide_false, Int.cast_ofNat_Int, Int.reduceLT, Int.reduceLE, Int.reduceEq, Nat.reduceAdd, Nat.reduceMul, Nat.reduceLeDiff, setL, bfill, eqV, lookRes])
  exact hK
theorem sp_lStartN {h : Hp} (a b : Value) {K : Kont} (hK : K (.tuple #[.int .u64 0, .int .i64 2]) h) : C_q82 [.pointer none, a, b] h K := by
  refine ok_q82 ?_
  unfold G_q82
  (try simp (disch := (first | omega | (simp only [sz]; done) | (simp only [lz, Nat.reduceAdd, Nat.reduceLeDiff, Nat.le_refl]; done) | (simp only [sz]; omega))) only [↓xa, xb, xl, Option.bind_some, Option.map_some, implies_true, imp_self, true_and, and_true, if_true, if_false, decide_true, decide_false, Int.cast_ofNat_Int, Int.reduceLT, Int.reduceLE, Int.reduceEq, Nat.reduceAdd, Nat.reduceMul, Nat.reduceLeDiff, setL, bfill, eqV, lookRes])
  exact hK
theorem sp_lPromiseN {h : Hp} (hB : Base.b ≤ h.size) (a b c : Value) {K : Kont} (hK : ∀ h', Ext h h' → K (.tuple #[.slice none 0 0, .bool false]) h') : C_q57 [.pointer none, a, b, c] h K := by
  refine ok_q57 ?_
  unfold G_q57
  (try simp (disch := (first | omega | (simp only [sz]; done) | (simp only [lz, Nat.reduceAdd, Nat.reduceLeDiff, Nat.le_refl]; done) | (simp only [sz]; omega))) only [↓xa, xb, xl, Option.bind_some, Option.map_some, implies_true, imp_self, true_and, and_true, if_true, if_false, decide_true, decide_false, Int.cast_ofNat_Int, Int.reduceLT, Int.reduceLE, Int.reduceEq, Nat.reduceAdd, Nat.reduceMul, Nat.reduceLeDiff, setL, bfill, eqV, lookRes])
  refine sp_lisN _ _ ?_
  (try simp (disch := (first | omega | (simp only [sz]; done) | (simp only [lz, Nat.reduceAdd, Nat.reduceLeDiff, Nat.le_refl]; done) | (simp only [sz]; omega))) only [↓xa, xb, xl, Option.bind_some, Option.map_some, implies_true, imp_self, true_and, and_true, if_true, if_false, decide_true, decide_false, Int.cast_ofNat_Int, Int.reduceLT, Int.reduceLE, Int.reduceEq, Nat.reduceAdd, Nat.reduceMul, Nat.reduceLeDiff, setL, bfill, eqV, lookRes])
  exact hK _ (by repeat' (first | with_reducible exact Upd.refl _ | with_reducible refine Upd.push ?_ _ | with_reducible refine Upd.set ?_ _ _ ?_ | exact .inl (by (first | omega | (simp only [sz]; done) | (simp only [lz, Nat.reduceAdd, Nat.reduceLeDiff, Nat.le_refl]; done) | (simp only [sz]; omega))) | exact .inr rfl | exact .inr (by simp; done)))
theorem sp_lProposeN {h : Hp} (hB : Base.b ≤ h.size) (c : Cmd) {K : Kont} (hK : ∀ h', Ext h h' → K (.tuple #[voteV vote0, .int .i64 2]) h') : C_q58 [.pointer none, cmdV c] h K := by
  refine ok_q58 ?_
  unfold G_q58 cmdV
  unfold voteV at hK
  (try simp (disch := (first | omega | (simp only [sz]; done) | (simp only [lz, Nat.reduceAdd, Nat.reduceLeDiff, Nat.le_refl]; done) | (simp only [sz]; omega))) only [↓xa, xb, xl, Option.bind_some, Option.map_some, implies_true, imp_self, true_and, and_true, if_true, if_false, decide_true, decide_false, Int.cast_ofNat_Int, Int.reduceLT, Int.reduceLE, Int.reduceEq, Nat.reduceAdd, Nat.reduceMul, Nat.reduceLeDiff, setL, bfill, eqV, lookRes])
  exact hK _ (by repeat' (first | with_reducible exact Upd.refl _ | with_reducible refine Upd.push ?_ _ | with_reducible refine Upd.set ?_ _ _ ?_ | exact .inl (by (first | omega | (simp only [sz]; done) | (simp only [lz, Nat.reduceAdd, Nat.reduceLeDiff, Nat.le_refl]; done) | (simp only [sz]; omega))) | exact .inr rfl | exact .inr (by simp; done)))
theorem sp_lAcceptedN {h : Hp} (hB : Base.b ≤ h.size) (a b c : Value) {K : Kont} (hK : ∀ h', Ext h h' → K (.tuple #[voteV vote0, .bool false]) h') : C_q47 [.pointer none, a, b, c] h K := by
  refine ok_q47 ?_
  unfold G_q47
  unfold voteV at hK
  (try simp (disch := (first | omega | (simp only [sz]; done) | (simp only [lz, Nat.reduceAdd, Nat.reduceLeDiff, Nat.le_refl]; done) | (simp only [sz]; omega))) only [↓xa, xb, xl, Option.bind_some, Option.map_some, implies_true, imp_self, true_and, and_true, if_true, if_false, decide_true, decide_false, Int.cast_ofNat_Int, Int.reduceLT, Int.reduceLE, Int.reduceEq, Nat.reduceAdd, Nat.reduceMul, Nat.reduceLeDiff, setL, bfill, eqV, lookRes])
  refine sp_lisN _ _ ?_
  (try simp (disch := (first | omega | (simp only [sz]; done) | (simp only [lz, Nat.reduceAdd, Nat.reduceLeDiff, Nat.le_refl]; done) | (simp only [sz]; omega))) only [↓xa, xb, xl, Option.bind_some, Option.map_some, implies_true, imp_self, true_and, and_true, if_true, if_false, decide_true, decide_false, Int.cast_ofNat_Int, Int.reduceLT, Int.reduceLE, Int.reduceEq, Nat.reduceAdd, Nat.reduceMul, Nat.reduceLeDiff, setL, bfill, eqV, lookRes])
  exact hK _ (by repeat' (first | with_reducible exact Upd.refl _ | with_reducible refine Upd.push ?_ _ | with_reducible refine Upd.set ?_ _ _ ?_ | exact .inl (by (first | omega | (simp only [sz]; done) | (simp only [lz, Nat.reduceAdd, Nat.reduceLeDiff, Nat.le_refl]; done) | (simp only [sz]; omega))) | exact .inr rfl | exact .inr (by simp; done)))
theorem sp_lRefuseN {h : Hp} (a : Value) {K : Kont} (hK : K (.bool false) h) : C_q71 [.pointer none, a] h K := by
  refine ok_q71 ?_
  unfold G_q71
  (try simp (disch := (first | omega | (simp only [sz]; done) | (simp only [lz, Nat.reduceAdd, Nat.reduceLeDiff, Nat.le_refl]; done) | (simp only [sz]; omega))) only [↓xa, xb, xl, Option.bind_some, Option.map_some, implies_true, imp_self, true_and, and_true, if_true, if_false, decide_true, decide_false, Int.cast_ofNat_Int, Int.reduceLT, Int.reduceLE, Int.reduceEq, Nat.reduceAdd, Nat.reduceMul, Nat.reduceLeDiff, setL, bfill, eqV, lookRes])
  exact hK
theorem sp_lOpenN {h : Hp} {K : Kont} (hK : K (.slice none 0 0) h) : C_q94 [.pointer none] h K := by
  refine ok_q94 ?_
  unfold G_q94
  (try simp (disch := (first | omega | (simp only [sz]; done) | (simp only [lz, Nat.reduceAdd, Nat.reduceLeDiff, Nat.le_refl]; done) | (simp only [sz]; omega))) only [↓xa, xb, xl, Option.bind_some, Option.map_some, implies_true, imp_self, true_and, and_true, if_true, if_false, decide_true, decide_false, Int.cast_ofNat_Int, Int.reduceLT, Int.reduceLE, Int.reduceEq, Nat.reduceAdd, Nat.reduceMul, Nat.reduceLeDiff, setL, bfill, eqV, lookRes])
  exact hK
theorem sp_lStateN {h : Hp} {K : Kont} (hK : K (.int .i64 0) h) : C_q83 [.pointer none] h K := by
  refine ok_q83 ?_
  unfold G_q83
  (try simp (disch := (first | omega | (simp only [sz]; done) | (simp only [lz, Nat.reduceAdd, Nat.reduceLeDiff, Nat.le_refl]; done) | (simp only [sz]; omega))) only [↓xa, xb, xl, Option.bind_some, Option.map_some, implies_true, imp_self, true_and, and_true, if_true, if_false, decide_true, decide_false, Int.cast_ofNat_Int, Int.reduceLT, Int.reduceLE, Int.reduceEq, Nat.reduceAdd, Nat.reduceMul, Nat.reduceLeDiff, setL, bfill, eqV, lookRes])
  exact hK
theorem sp_lBallotN {h : Hp} {K : Kont} (hK : K (.int .u64 0) h) : C_q70 [.pointer none] h K := by
  refine ok_q70 ?_
  unfold G_q70
  (try simp (disch := (first | omega | (simp only [sz]; done) | (simp only [lz, Nat.reduceAdd, Nat.reduceLeDiff, Nat.le_refl]; done) | (simp only [sz]; omega))) only [↓xa, xb, xl, Option.bind_some, Option.map_some, implies_true, imp_self, true_and, and_true, if_true, if_false, decide_true, decide_false, Int.cast_ofNat_Int, Int.reduceLT, Int.reduceLE, Int.reduceEq, Nat.reduceAdd, Nat.reduceMul, Nat.reduceLeDiff, setL, bfill, eqV, lookRes])
  exact hK
theorem sp_lFromN {h : Hp} {K : Kont} (hK : K (.int .i64 0) h) : C_q92 [.pointer none] h K := by
  refine ok_q92 ?_
  unfold G_q92
  (try simp (disch := (first | omega | (simp only [sz]; done) | (simp only [lz, Nat.reduceAdd, Nat.reduceLeDiff, Nat.le_refl]; done) | (simp only [sz]; omega))) only [↓xa, xb, xl, Option.bind_some, Option.map_some, implies_true, imp_self, true_and, and_true, if_true, if_false, decide_true, decide_false, Int.cast_ofNat_Int, Int.reduceLT, Int.reduceLE, Int.reduceEq, Nat.reduceAdd, Nat.reduceMul, Nat.reduceLeDiff, setL, bfill, eqV, lookRes])
  exact hK
theorem sp_lNextN {h : Hp} {K : Kont} (hK : K (.int .i64 0) h) : C_q93 [.pointer none] h K := by
  refine ok_q93 ?_
  unfold G_q93
  (try simp (disch := (first | omega | (simp only [sz]; done) | (simp only [lz, Nat.reduceAdd, Nat.reduceLeDiff, Nat.le_refl]; done) | (simp only [sz]; omega))) only [↓xa, xb, xl, Option.bind_some, Option.map_some, implies_true, imp_self, true_and, and_true, if_true, if_false, decide_true, decide_false, Int.cast_ofNat_Int, Int.reduceLT, Int.reduceLE, Int.reduceEq, Nat.reduceAdd, Nat.reduceMul, Nat.reduceLeDiff, setL, bfill, eqV, lookRes])
  exact hK
set_option maxHeartbeats 2000000 in
theorem sp_lawake {h : Hp} (hB : Base.b ≤ h.size) {K : Kont} (hK : ∀ h', Ext h h' → K (.bool true) h') : C_q162 [] h K := by
  refine ok_q162 ?_
  unfold G_q162
  refine sp_lNew hB 2 3 (fun h => absurd ⟨by decide, by decide, by decide, by decide⟩ h) (fun _ => ?_)
  have x1 : Ext h (h.push (.cells (lcells ⟨2, 3, 0, 0, 0, 0⟩ none none))) := (by repeat' (first | with_reducible exact Upd.refl _ | with_reducible refine Upd.push ?_ _ | with_reducible refine Upd.set ?_ _ _ ?_ | exact .inl (by (first | omega | (simp only [sz]; done) | (simp only [lz, Nat.reduceAdd, Nat.reduceLeDiff, Nat.le_refl]; done) | (simp only [sz]; omega))) | exact .inr rfl | exact .inr (by simp; done)))
  have hb1 : (h.push (.cells (lcells ⟨2, 3, 0, 0, 0, 0⟩ none none)))[h.size]? = some (.cells (lcells ⟨2, 3, 0, 0, 0, 0⟩ none none)) := g_push_eq rfl
  have l1 : (h.push (.cells (lcells ⟨2, 3, 0, 0, 0, 0⟩ none none))).size = h.size + 1 := by simp
  generalize h.push (.cells (lcells ⟨2, 3, 0, 0, 0, 0⟩ none none)) = h1 at *
  have hB1 := x1.hB hB
  (try simp (disch := (first | omega | (simp only [sz]; done) | (simp only [lz, Nat.reduceAdd, Nat.reduceLeDiff, Nat.le_refl]; done) | (simp only [sz]; omega))) only [↓xa, xb, xl, Option.bind_some, Option.map_some, implies_true, imp_self, true_and, and_true, if_true, if_false, decide_true, decide_false, Int.cast_ofNat_Int, Int.reduceLT, Int.reduceLE, Int.reduceEq, Nat.reduceAdd, Nat.reduceMul, Nat.reduceLeDiff, setL, bfill, eqV, lookRes])
  have e1 : startE ⟨2, 3, 0, 0, 0, 0⟩ 0 0 = 0 := by decide
  have e2 : startB ⟨2, 3, 0, 0, 0, 0⟩ 0 0 = 10 := by decide
  have e3 : startX ⟨2, 3, 0, 0, 0, 0⟩ 0 0 = ⟨2, 3, 1, 10, 0, 0⟩ := by unfold startX; rw [if_pos e1]; rfl
  refine sp_lStart hB1 hb1 (by decide) (by decide) (by decide) 0 (fun h => absurd e1 h) (fun _ => ?_)
  intro h2 u2 hL2
  rw [e3] at hL2
  rw [e2]
  have hB2 := u2.hB hB1
  (try simp (disch := (first | omega | (simp only [sz]; done) | (simp only [lz, Nat.reduceAdd, Nat.reduceLeDiff, Nat.le_refl]; done) | (simp only [sz]; omega))) only [↓xa, xb, xl, Option.bind_some, Option.map_some, implies_true, imp_self, true_and, and_true, if_true, if_false, decide_true, decide_false, Int.cast_ofNat_Int, Int.reduceLT, Int.reduceLE, Int.reduceEq, Nat.reduceAdd, Nat.reduceMul, Nat.reduceLeDiff, setL, bfill, eqV, lookRes])
  have n1 : (cutV 0 []) = [] := rfl
  refine sp_lPromise hB2 hL2 rfl (fun e he => by cases he) (CameOk.nil (by decide) (by decide)) (fun e he => by cases he) (b := 10) (who := 2) (by decide) (va := .slice none 0 0) (vl := []) Sl.nil (by simp) ?_ ?_
  rotate_left
  · intro h3 v w came' he
    have k1 : came'.map (·.1) = [2] := rfl
    rw [k1] at he
    exact absurd he (by decide)
  intro h3 v came' _ u3 hL3 hc3 hv3
  have hB3 := u3.hB hB2
  (try simp (disch := (first | omega | (simp only [sz]; done) | (simp only [lz, Nat.reduceAdd, Nat.reduceLeDiff, Nat.le_refl]; done) | (simp only [sz]; omega))) only [↓xa, xb, xl, Option.bind_some, Option.map_some, implies_true, imp_self, true_and, and_true, if_true, if_false, decide_true, decide_false, Int.cast_ofNat_Int, Int.reduceLT, Int.reduceLE, Int.reduceEq, Nat.reduceAdd, Nat.reduceMul, Nat.reduceLeDiff, setL, bfill, eqV, lookRes])
  have hco3 : CameOk ⟨2, 3, 1, 10, 0, 0⟩ came' := CameOk.put (CameOk.nil (by decide) (by decide)) (by decide) (by simp [cutV]) (by simp [cutV])
  have l2 := u2.1
  have l3 := u3.1
  refine sp_lPromise hB3 hL3 rfl hc3 hco3 (fun e he b hb => ?_) (b := 10) (who := 3) (by decide) (va := .slice none 0 0) (vl := []) Sl.nil (by simp) ?_ ?_
  · rcases mem_cameP he with he | rfl
    · cases he
    · have := (hv3 b hb).1
      have h6 := lt_of_get hL2.blk
      have h7 := lt_of_get hL2.came
      have h8 := lt_of_get hL2.opn
      omega
  · intro h4 v' came2 he
    have k2 : came2.map (·.1) = [2, 3] := rfl
    rw [k2] at he
    exact absurd he (by decide)
  intro h4 v' w came2 _ u4 hL4 hv4 o4
  (try simp (disch := (first | omega | (simp only [sz]; done) | (simp only [lz, Nat.reduceAdd, Nat.reduceLeDiff, Nat.le_refl]; done) | (simp only [sz]; omega))) only [↓xa, xb, xl, Option.bind_some, Option.map_some, implies_true, imp_self, true_and, and_true, if_true, if_false, decide_true, decide_false, Int.cast_ofNat_Int, Int.reduceLT, Int.reduceLE, Int.reduceEq, Nat.reduceAdd, Nat.reduceMul, Nat.reduceLeDiff, setL, bfill, eqV, lookRes])
  refine sp_lState hL4.blk ?_
  (try simp (disch := (first | omega | (simp only [sz]; done) | (simp only [lz, Nat.reduceAdd, Nat.reduceLeDiff, Nat.le_refl]; done) | (simp only [sz]; omega))) only [↓xa, xb, xl, Option.bind_some, Option.map_some, implies_true, imp_self, true_and, and_true, if_true, if_false, decide_true, decide_false, Int.cast_ofNat_Int, Int.reduceLT, Int.reduceLE, Int.reduceEq, Nat.reduceAdd, Nat.reduceMul, Nat.reduceLeDiff, setL, bfill, eqV, lookRes])
  refine hK _ ?_
  have U2 : Upd (fun r => h.size ≤ r) h1 h2 := u2.mono (fun r _ e => by omega)
  have U3 : Upd (fun r => h.size ≤ r) h2 h3 := u3.mono (fun r _ e => by omega)
  have U4 : Upd (fun r => h.size ≤ r) h3 h4 := u4.mono (fun r _ e => by omega)
  exact x1.ext (U2.trans (U3.trans U4)) (Nat.le_refl _)
structure Op13 where
  kind : Int
  own : Bool
  ballot : Int
  n : Int
  who : Int
  votes : LV
  cmd : Cmd
def o13cells (o : Op13) : List Value := .int .i64 o.kind :: .bool o.own :: .int .u64 o.ballot :: .int .i64 o.n :: .int .i64 o.who :: o.votes.1 :: ccells o.cmd
set_option maxHeartbeats 4000000 in
theorem sp_LeadNil {h : Hp} (hB : Base.b ≤ h.size) (o : Op13) (hv : one o.votes.1 = true) {K : Kont} (hK : ∀ h', Ext h h' → K (.bool true) h') : C_q135 [.agg (o13cells o).toArray] h K := by
  refine ok_q135 ?_
  unfold G_q135
  obtain ⟨kd, ow, b, n, w, vs, c⟩ := o
  obtain ⟨c1, c2, c3, c4⟩ := c
  unfold o13cells ccells
  have x1 : Ext h (h.push (.cells #[.int .i64 kd, .bool ow, .int .u64 b, .int .i64 n, .int .i64 w, vs.1, .int .i64 c1, .int .i64 c2, .int .u64 c3, .int .i64 c4])) := (by repeat' (first | with_reducible exact Upd.refl _ | with_reducible refine Upd.push ?_ _ | with_reducible refine Upd.set ?_ _ _ ?_ | exact .inl (by (first | omega | (simp only [sz]; done) | (simp only [lz, Nat.reduceAdd, Nat.reduceLeDiff, Nat.le_refl]; done) | (simp only [sz]; omega))) | exact .inr rfl | exact .inr (by simp; done)))
  have hb1 : (h.push (.cells #[.int .i64 kd, .bool ow, .int .u64 b, .int .i64 n, .int .i64 w, vs.1, .int .i64 c1, .int .i64 c2, .int .u64 c3, .int .i64 c4]))[h.size]? = some (.cells #[.int .i64 kd, .bool ow, .int .u64 b, .int .i64 n, .int .i64 w, vs.1, .int .i64 c1, .int .i64 c2, .int .u64 c3, .int .i64 c4]) := g_push_eq rfl
  have hB1 := x1.hB hB
  (try simp (disch := (first | omega | (simp only [sz]; done) | (simp only [lz, Nat.reduceAdd, Nat.reduceLeDiff, Nat.le_refl]; done) | (simp only [sz]; omega))) only [↓xa, xb, xl, Option.bind_some, Option.map_some, implies_true, imp_self, true_and, and_true, if_true, if_false, decide_true, decide_false, Int.cast_ofNat_Int, Int.reduceLT, Int.reduceLE, Int.reduceEq, Nat.reduceAdd, Nat.reduceMul, Nat.reduceLeDiff, setL, bfill, eqV, lookRes])
  generalize h.push (.cells #[.int .i64 kd, .bool ow, .int .u64 b, .int .i64 n, .int .i64 w, vs.1, .int .i64 c1, .int .i64 c2, .int .u64 c3, .int .i64 c4]) = h1 at *
  refine sp_lStartN _ _ ?_
  simp (disch := (first | omega | (simp only [sz]; done) | (simp only [lz, Nat.reduceAdd, Nat.reduceLeDiff, Nat.le_refl]; done) | (simp only [sz]; omega))) only [↓xa, xb, xl, Option.bind_some, Option.map_some, implies_true, imp_self, true_and, and_true, if_true, if_false, decide_true, decide_false, Int.cast_ofNat_Int, Int.reduceLT, Int.reduceLE, Int.reduceEq, Nat.reduceAdd, Nat.reduceMul, Nat.reduceLeDiff, setL, bfill, eqV, lookRes, rdC_blk hb1]
  refine sp_lPromiseN hB1 _ _ _ ?_
  intro h2 x2
  have hb2 := x2.get hb1 id
  have hB2 := x2.hB hB1
  simp (disch := (first | omega | (simp only [sz]; done) | (simp only [lz, Nat.reduceAdd, Nat.reduceLeDiff, Nat.le_refl]; done) | (simp only [sz]; omega))) only [↓xa, xb, xl, Option.bind_some, Option.map_some, implies_true, imp_self, true_and, and_true, if_true, if_false, decide_true, decide_false, Int.cast_ofNat_Int, Int.reduceLT, Int.reduceLE, Int.reduceEq, Nat.reduceAdd, Nat.reduceMul, Nat.reduceLeDiff, setL, bfill, eqV, lookRes, rdN_of hb2]
  refine sp_lProposeN hB2 ⟨c1, c2, c3, c4⟩ ?_
  intro h3 x3
  have hb3 := x3.get hb2 id
  have hB3 := x3.hB hB2
  have lb3 := lt_of_get hb3
  unfold voteV vote0 cmd0
  simp (disch := (first | omega | (simp only [sz]; done) | (simp only [lz, Nat.reduceAdd, Nat.reduceLeDiff, Nat.le_refl]; done) | (simp only [sz]; omega))) only [↓xa, xb, xl, Option.bind_some, Option.map_some, implies_true, imp_self, true_and, and_true, if_true, if_false, decide_true, decide_false, Int.cast_ofNat_Int, Int.reduceLT, Int.reduceLE, Int.reduceEq, Nat.reduceAdd, Nat.reduceMul, Nat.reduceLeDiff, setL, bfill, eqV, lookRes, rdC_blk hb3]
  have x4 : Ext h3 (Array.setIfInBounds (h3.push (.cells #[.int .i64 0, .int .u64 0, .int .i64 0, .int .i64 0, .int .u64 0, .int .i64 0])) h3.size (.cells #[.int .i64 0, .int .u64 0, .int .i64 0, .int .i64 0, .int .u64 0, .int .i64 0])) := (by repeat' (first | with_reducible exact Upd.refl _ | with_reducible refine Upd.push ?_ _ | with_reducible refine Upd.set ?_ _ _ ?_ | exact .inl (by (first | omega | (simp only [sz]; done) | (simp only [lz, Nat.reduceAdd, Nat.reduceLeDiff, Nat.le_refl]; done) | (simp only [sz]; omega))) | exact .inr rfl | exact .inr (by simp; done)))
  have hd4 : (Array.setIfInBounds (h3.push (.cells #[.int .i64 0, .int .u64 0, .int .i64 0, .int .i64 0, .int .u64 0, .int .i64 0])) h3.size (.cells #[.int .i64 0, .int .u64 0, .int .i64 0, .int .i64 0, .int .u64 0, .int .i64 0]))[h3.size]? = some (.cells #[.int .i64 0, .int .u64 0, .int .i64 0, .int .i64 0, .int .u64 0, .int .i64 0]) := g_set_eq (by simp) rfl
  have hb4 := x4.get hb3 id
  generalize Array.setIfInBounds (h3.push (.cells #[.int .i64 0, .int .u64 0, .int .i64 0, .int .i64 0, .int .u64 0, .int .i64 0])) h3.size (.cells #[.int .i64 0, .int .u64 0, .int .i64 0, .int .i64 0, .int .u64 0, .int .i64 0]) = h4 at *
  have hB4 := x4.hB hB3
  refine sp_lAcceptedN hB4 _ _ _ ?_
  intro h5 x5
  have hb5 := x5.get hb4 id
  have hd5 := x5.get hd4 id
  have hB5 := x5.hB hB4
  have lb5 := lt_of_get hb5
  have ld5 := lt_of_get hd5
  unfold voteV vote0 cmd0
  simp (disch := (first | omega | (simp only [sz]; done) | (simp only [lz, Nat.reduceAdd, Nat.reduceLeDiff, Nat.le_refl]; done) | (simp only [sz]; omega))) only [↓xa, xb, xl, Option.bind_some, Option.map_some, implies_true, imp_self, true_and, and_true, if_true, if_false, decide_true, decide_false, Int.cast_ofNat_Int, Int.reduceLT, Int.reduceLE, Int.reduceEq, Nat.reduceAdd, Nat.reduceMul, Nat.reduceLeDiff, setL, bfill, eqV, lookRes, rdC_blk hb5, rdN_all hd5, eq_vote]
  refine sp_lRefuseN _ ?_
  simp (disch := (first | omega | (simp only [sz]; done) | (simp only [lz, Nat.reduceAdd, Nat.reduceLeDiff, Nat.le_refl]; done) | (simp only [sz]; omega))) only [↓xa, xb, xl, Option.bind_some, Option.map_some, implies_true, imp_self, true_and, and_true, if_true, if_false, decide_true, decide_false, Int.cast_ofNat_Int, Int.reduceLT, Int.reduceLE, Int.reduceEq, Nat.reduceAdd, Nat.reduceMul, Nat.reduceLeDiff, setL, bfill, eqV, lookRes, rdC_blk hb5, rdN_all hd5, eq_vote]
  refine sp_lOpenN ?_
  simp (disch := (first | omega | (simp only [sz]; done) | (simp only [lz, Nat.reduceAdd, Nat.reduceLeDiff, Nat.le_refl]; done) | (simp only [sz]; omega))) only [↓xa, xb, xl, Option.bind_some, Option.map_some, implies_true, imp_self, true_and, and_true, if_true, if_false, decide_true, decide_false, Int.cast_ofNat_Int, Int.reduceLT, Int.reduceLE, Int.reduceEq, Nat.reduceAdd, Nat.reduceMul, Nat.reduceLeDiff, setL, bfill, eqV, lookRes, rdC_blk hb5, rdN_all hd5, eq_vote]
  refine sp_lStateN ?_
  (try simp (disch := (first | omega | (simp only [sz]; done) | (simp only [lz, Nat.reduceAdd, Nat.reduceLeDiff, Nat.le_refl]; done) | (simp only [sz]; omega))) only [↓xa, xb, xl, Option.bind_some, Option.map_some, implies_true, imp_self, true_and, and_true, if_true, if_false, decide_true, decide_false, Int.cast_ofNat_Int, Int.reduceLT, Int.reduceLE, Int.reduceEq, Nat.reduceAdd, Nat.reduceMul, Nat.reduceLeDiff, setL, bfill, eqV, lookRes])
  refine sp_lBallotN ?_
  (try simp (disch := (first | omega | (simp only [sz]; done) | (simp only [lz, Nat.reduceAdd, Nat.reduceLeDiff, Nat.le_refl]; done) | (simp only [sz]; omega))) only [↓xa, xb, xl, Option.bind_some, Option.map_some, implies_true, imp_self, true_and, and_true, if_true, if_false, decide_true, decide_false, Int.cast_ofNat_Int, Int.reduceLT, Int.reduceLE, Int.reduceEq, Nat.reduceAdd, Nat.reduceMul, Nat.reduceLeDiff, setL, bfill, eqV, lookRes])
  refine sp_lFromN ?_
  (try simp (disch := (first | omega | (simp only [sz]; done) | (simp only [lz, Nat.reduceAdd, Nat.reduceLeDiff, Nat.le_refl]; done) | (simp only [sz]; omega))) only [↓xa, xb, xl, Option.bind_some, Option.map_some, implies_true, imp_self, true_and, and_true, if_true, if_false, decide_true, decide_false, Int.cast_ofNat_Int, Int.reduceLT, Int.reduceLE, Int.reduceEq, Nat.reduceAdd, Nat.reduceMul, Nat.reduceLeDiff, setL, bfill, eqV, lookRes])
  refine sp_lNextN ?_
  (try simp (disch := (first | omega | (simp only [sz]; done) | (simp only [lz, Nat.reduceAdd, Nat.reduceLeDiff, Nat.le_refl]; done) | (simp only [sz]; omega))) only [↓xa, xb, xl, Option.bind_some, Option.map_some, implies_true, imp_self, true_and, and_true, if_true, if_false, decide_true, decide_false, Int.cast_ofNat_Int, Int.reduceLT, Int.reduceLE, Int.reduceEq, Nat.reduceAdd, Nat.reduceMul, Nat.reduceLeDiff, setL, bfill, eqV, lookRes])
  have x6 : Ext h5 (Array.setIfInBounds (h5.push (.cells #[.int .i64 0, .int .u64 0, .int .i64 0, .int .i64 0, .int .u64 0, .int .i64 0])) h5.size (.cells #[.int .i64 0, .int .u64 0, .int .i64 0, .int .i64 0, .int .u64 0, .int .i64 0])) := (by repeat' (first | with_reducible exact Upd.refl _ | with_reducible refine Upd.push ?_ _ | with_reducible refine Upd.set ?_ _ _ ?_ | exact .inl (by (first | omega | (simp only [sz]; done) | (simp only [lz, Nat.reduceAdd, Nat.reduceLeDiff, Nat.le_refl]; done) | (simp only [sz]; omega))) | exact .inr rfl | exact .inr (by simp; done)))
  refine sp_lawake (x6.hB hB5) ?_
  intro h7 x7
  (try simp (disch := (first | omega | (simp only [sz]; done) | (simp only [lz, Nat.reduceAdd, Nat.reduceLeDiff, Nat.le_refl]; done) | (simp only [sz]; omega))) only [↓xa, xb, xl, Option.bind_some, Option.map_some, implies_true, imp_self, true_and, and_true, if_true, if_false, decide_true, decide_false, Int.cast_ofNat_Int, Int.reduceLT, Int.reduceLE, Int.reduceEq, Nat.reduceAdd, Nat.reduceMul, Nat.reduceLeDiff, setL, bfill, eqV, lookRes])
  exact hK _ (x1.trans (x2.trans (x3.trans (x4.trans (x5.trans (x6.trans x7))))))
end
section
variable {H : Type} {enc : TypeId × Value → H} {W : World}
theorem u_op13 : Try.prog.underlying 77 = some (.struct (fieldsOf Try.prog 77)) := by kernel_rfl
def op13Ok (W : World) (o : Op13) : Prop := i64ok o.kind ∧ u64ok o.ballot ∧ i64ok o.n ∧ i64ok o.who ∧ lvOk W o.votes ∧ cmdOk o.cmd
theorem rd_bool : Rd enc Try.prog W 4 (fun cs => ∃ a, cs = [.bool a]) := Rd.bool u_bool
theorem rd_op13 : Rd enc Try.prog W 77 (fun cs => ∃ o, cs = o13cells o ∧ op13Ok W o) := by
  refine (Rd.struct (ts := [3, 4, 25, 3, 3, 26, 32]) u_op13 (by kernel_rfl) (by kernel_rfl) (.cons rd_int (.cons rd_bool (.cons rd_u64 (.cons rd_int (.cons rd_int (.cons rd_votes (.cons rd_cmd .nil)))))))).mono ?_
  rintro cs ⟨_, _, rfl, ⟨a, rfl, ha⟩, _, _, rfl, ⟨b, rfl⟩, _, _, rfl, ⟨c, rfl, hc⟩, _, _, rfl, ⟨d, rfl, hd⟩, _, _, rfl, ⟨e, rfl, he⟩, _, _, rfl, ⟨v, l, rfl, hv⟩, _, _, rfl, ⟨f, rfl, hf⟩, rfl⟩
  exact ⟨⟨a, b, c, d, e, (v, l), f⟩, rfl, ha, hc, hd, he, hv, hf⟩
end
set_option maxRecDepth 100000 in
theorem law_LeadNil {H : Type} {enc : TypeId × Value → H} : LawDoes enc Try.prog 9 Try.f9 := by
  intro W base args ds ps h0 hlt hval hA
  letI : Base := ⟨W.heap.size⟩
  have hp : Try.f9.params = #[77] := by kernel_rfl
  rw [hp] at hA hval
  obtain ⟨v0, d0, rfl, rfl, t0⟩ := trodAll_one hA
  obtain ⟨cs, rfl, o, hc, ho⟩ := arg_struct u_op13 (hval 0 77 v0 rfl rfl) rd_op13 t0
  obtain ⟨cs⟩ := cs
  cases hc
  exact sp_LeadNil (by rw [hv_size]; exact Nat.le_refl _) o (sl_one ho.2.2.2.2.1.1) (fun h' x => ⟨rfl, x⟩)
set_option maxRecDepth 100000 in
theorem lifted_LeadNil (os : Os) (started : os.Started) (H : Type) (enc : TypeId × Value → H) :
    ReturnsInHanded {} Try.checked os 9 .any (Rows.leadNilSpec.pre6 enc Try.prog Try.f9 Rows.leadNilRow.domain false) (Rows.leadNilSpec.post enc Try.prog Try.f9 false true false false) :=
  lifted_law (C := Try.checked) (s := Rows.leadNilSpec) (tb := 4) own_try started (by kernel_rfl) Try.func9
      (ChangeSpec.witness6 (enc := enc) (C := Try.checked) false ⟨#[], #[.agg #[.int .i64 0, .bool false, .int .u64 0, .int .i64 0, .int .i64 0, .slice none 0 0, .int .i64 0, .int .i64 0, .int .u64 0, .int .i64 0]], []⟩ 8 (by kernel_rfl) (by kernel_rfl) (by kernel_rfl) (by kernel_rfl))
      rfl (by kernel_rfl) u_bool (fun ds h => by
        have hp : Try.f9.params = #[77] := by kernel_rfl
        rw [hp] at h
        match ds, h with | [d0], _ => rfl) laid_try (by kernel_rfl) glob_try law_LeadNil
theorem LeadNil_holds : Rows.LeadNilSaid :=
  OpenClaim.holds_of_wide 9 Try.f9 rfl rfl rfl rfl rfl rfl rfl ⟨rfl, rfl, rfl, rfl, rfl⟩ rfl rfl rfl rfl rfl (by kernel_rfl) Try.func9 (by kernel_rfl)
    (of_decide_eq_true (by kernel_rfl)) (by unfold Func.isWrapper; rw [if_neg (of_decide_eq_false (by kernel_rfl))]; exact ⟨rfl, rfl⟩)
    (fun os started H enc _ => lifted_LeadNil os started H enc)
#print axioms LeadNil_holds
end Go.Proofs.Ytdolepapmpcpiaa

namespace Go.Proofs.Ytdolepapmpcpiaa
open Go Go.RowKit Go.Maps Go.Shelf
set_option linter.unusedSectionVars false
variable [Base]
set_option linter.unusedVariables false
set_option linter.unusedSimpArgs false
set_option maxRecDepth 10000
theorem sp_rRight {h : Hp} (me masters : Int) {K : Kont} (hK : K (.bool (decide (1 ≤ masters ∧ masters ≤ 5 ∧ 1 ≤ me ∧ me ≤ masters))) h) : C_q167 [.int .i64 me, .int .i64 masters] h K := by
  refine ok_q167 ?_
  unfold G_q167
  (repeat' (first | (simp (disch := (first | omega | (simp only [sz]; done) | (simp only [lz, Nat.reduceAdd, Nat.reduceLeDiff, Nat.le_refl]; done) | (simp only [sz]; omega))) only [↓xa, xb, xl, Option.bind_some, Option.map_some, implies_true, imp_self, true_and, and_true, if_true, if_false, decide_true, decide_false, Int.cast_ofNat_Int, Int.reduceLT, Int.reduceLE, Int.reduceEq, Nat.reduceAdd, Nat.reduceMul, Nat.reduceLeDiff, setL, bfill, eqV, lookRes]) | ((refine e_ifd _ _ _ (fun hc => ?_) (fun hc => ?_)) <;> first | (exfalso; omega) | (simp (disch := (first | omega | (simp only [sz]; done) | (simp only [lz, Nat.reduceAdd, Nat.reduceLeDiff, Nat.le_refl]; done) | (simp only [sz]; omega))) only [↓xa, xb, xl, Option.bind_some, Option.map_some, implies_true, imp_self, true_and, and_true, if_true, if_false, decide_true, decide_false, Int.cast_ofNat_Int, Int.reduceLT, Int.reduceLE, Int.reduceEq, Nat.reduceAdd, Nat.reduceMul, Nat.reduceLeDiff, setL, bfill, eqV, lookRes, hc]) | skip) | ((refine e_ifn _ _ _ (fun hc => ?_) (fun hc => ?_)) <;> first | (exfalso; omega) | (simp (disch := (first | omega | (simp only [sz]; done) | (simp only [lz, Nat.reduceAdd, Nat.reduceLeDiff, Nat.le_refl]; done) | (simp only [sz]; omega))) only [↓xa, xb, xl, Option.bind_some, Option.map_some, implies_true, imp_self, true_and, and_true, if_true, if_false, decide_true, decide_false, Int.cast_ofNat_Int, Int.reduceLT, Int.reduceLE, Int.reduceEq, Nat.reduceAdd, Nat.reduceMul, Nat.reduceLeDiff, setL, bfill, eqV, lookRes, hc]) | skip) | ((refine e_gd _ _ _ _ _ (fun hc => ?_) (fun hc => ?_)) <;> first | (exfalso; omega) | (simp (disch := (first | omega | (simp only [sz]; done) | (simp only [lz, Nat.reduceAdd, Nat.reduceLeDiff, Nat.le_refl]; done) | (simp only [sz]; omega))) only [↓xa, xb, xl, Option.bind_some, Option.map_some, implies_true, imp_self, true_and, and_true, if_true, if_false, decide_true, decide_false, Int.cast_ofNat_Int, Int.reduceLT, Int.reduceLE, Int.reduceEq, Nat.reduceAdd, Nat.reduceMul, Nat.reduceLeDiff, setL, bfill, eqV, lookRes, hc]) | skip) | ((refine e_gn _ _ _ _ _ (fun hc => ?_) (fun hc => ?_)) <;> first | (exfalso; omega) | (simp (disch := (first | omega | (simp only [sz]; done) | (simp only [lz, Nat.reduceAdd, Nat.reduceLeDiff, Nat.le_refl]; done) | (simp only [sz]; omega))) only [↓xa, xb, xl, Option.bind_some, Option.map_some, implies_true, imp_self, true_and, and_true, if_true, if_false, decide_true, decide_false, Int.cast_ofNat_Int, Int.reduceLT, Int.reduceLE, Int.reduceEq, Nat.reduceAdd, Nat.reduceMul, Nat.reduceLeDiff, setL, bfill, eqV, lookRes, hc]) | skip) | ((refine e_pd _ _ _ _ _ (fun hc => ?_) (fun hc => ?_)) <;> first | (exfalso; omega) | (simp (disch := (first | omega | (simp only [sz]; done) | (simp only [lz, Nat.reduceAdd, Nat.reduceLeDiff, Nat.le_refl]; done) | (simp only [sz]; omega))) only [↓xa, xb, xl, Option.bind_some, Option.map_some, implies_true, imp_self, true_and, and_true, if_true, if_false, decide_true, decide_false, Int.cast_ofNat_Int, Int.reduceLT, Int.reduceLE, Int.reduceEq, Nat.reduceAdd, Nat.reduceMul, Nat.reduceLeDiff, setL, bfill, eqV, lookRes, hc]) | skip) | ((refine e_pn _ _ _ _ _ (fun hc => ?_) (fun hc => ?_)) <;> first | (exfalso; omega) | (simp (disch := (first | omega | (simp only [sz]; done) | (simp only [lz, Nat.reduceAdd, Nat.reduceLeDiff, Nat.le_refl]; done) | (simp only [sz]; omega))) only [↓xa, xb, xl, Option.bind_some, Option.map_some, implies_true, imp_self, true_and, and_true, if_true, if_false, decide_true, decide_false, Int.cast_ofNat_Int, Int.reduceLT, Int.reduceLE, Int.reduceEq, Nat.reduceAdd, Nat.reduceMul, Nat.reduceLeDiff, setL, bfill, eqV, lookRes, hc]) | skip) | ((refine e_if2 _ _ _ (fun hc => ?_) (fun hc => ?_)) <;> first | (exfalso; omega) | (simp (disch := (first | omega | (simp only [sz]; done) | (simp only [lz, Nat.reduceAdd, Nat.reduceLeDiff, Nat.le_refl]; done) | (simp only [sz]; omega))) only [↓xa, xb, xl, Option.bind_some, Option.map_some, implies_true, imp_self, true_and, and_true, if_true, if_false, decide_true, decide_false, Int.cast_ofNat_Int, Int.reduceLT, Int.reduceLE, Int.reduceEq, Nat.reduceAdd, Nat.reduceMul, Nat.reduceLeDiff, setL, bfill, eqV, lookRes, hc]) | skip) | ((refine e_g2 _ _ _ _ _ (fun hc => ?_) (fun hc => ?_)) <;> first | (exfalso; omega) | (simp (disch := (first | omega | (simp only [sz]; done) | (simp only [lz, Nat.reduceAdd, Nat.reduceLeDiff, Nat.le_refl]; done) | (simp only [sz]; omega))) only [↓xa, xb, xl, Option.bind_some, Option.map_some, implies_true, imp_self, true_and, and_true, if_true, if_false, decide_true, decide_false, Int.cast_ofNat_Int, Int.reduceLT, Int.reduceLE, Int.reduceEq, Nat.reduceAdd, Nat.reduceMul, Nat.reduceLeDiff, setL, bfill, eqV, lookRes, hc]) | skip)))
  all_goals first | exact k_cast hK (by congr 1; rw [decide_eq_decide]; omega) | exact k_cast hK (by congr 1; simp; omega)
theorem cameP_new {came : List (Int × LV)} {who : Int} (h : who ∉ came.map (·.1)) (a : LV) : cameP came who a = came ++ [(who, a)] := by
  unfold cameP
  cases hg : mget came who with
  | none => exact mset_new h a
  | some q => exact absurd (List.mem_map.2 ⟨_, mget_mem hg, rfl⟩) h
end Go.Proofs.Ytdolepapmpcpiaa

namespace Go.Proofs.Ytdolepapmpcpiaa
open Go Go.RowKit Go.Maps Go.Shelf
set_option linter.unusedSectionVars false
variable [Base]
set_option linter.unusedVariables false
set_option linter.unusedSimpArgs false
set_option maxRecDepth 10000
theorem isucc (i : Nat) : (i : Int) + 1 = ((i + 1 : Nat) : Int) := rfl
theorem sp_r04Has {h : Hp} {a : Value} {l : List Int} (hS : Sl h 1 icell a l) (hl : l.length ≤ 1048576) (x : Int) {K : Kont} (hK : K (.bool (decide (x ∈ l))) h) : C_q177 [a, .int .i64 x] h K := by
  refine ok_q177 ?_
  unfold G_q177
  refine rule_q177_1 (fun v5 h' => ∃ i : Nat, v5 = .int .i64 i ∧ i ≤ l.length ∧ h' = h ∧ x ∉ l.take i) (fun v5 h' => l.length - ival v5) ?_ _ _ _ ⟨0, rfl, Nat.zero_le _, rfl, by simp⟩
  rintro self v5 d h' ⟨i, rfl, hi, rfl, hn⟩ hself
  unfold B_q177_1
  by_cases hlt : i < l.length
  · by_cases he : nth l i = x
    · simp (maxSteps := 1000000) (disch := (first | omega | (simp only [sz]; done) | (simp only [lz, Nat.reduceAdd, Nat.reduceLeDiff, Nat.le_refl]; done) | (simp only [sz]; omega))) only [↓xa, xb, xl, Option.bind_some, Option.map_some, implies_true, imp_self, true_and, and_true, if_true, if_false, decide_true, decide_false, Int.cast_ofNat_Int, Int.reduceLT, Int.reduceLE, Int.reduceEq, Nat.reduceAdd, Nat.reduceMul, Nat.reduceLeDiff, setL, bfill, eqV, lookRes, ↓hS.len', decide_eq_true (Int.ofNat_lt.2 hlt), ↓hS.idx, hS.cell0 icell_len, Go.encZ, decide_eq_true he]
      rw [decide_eq_true (he ▸ nth_mem hlt)] at hK
      exact hK
    · simp (maxSteps := 1000000) (disch := (first | omega | (simp only [sz]; done) | (simp only [lz, Nat.reduceAdd, Nat.reduceLeDiff, Nat.le_refl]; done) | (simp only [sz]; omega))) only [↓xa, xb, xl, Option.bind_some, Option.map_some, implies_true, imp_self, true_and, and_true, if_true, if_false, decide_true, decide_false, Int.cast_ofNat_Int, Int.reduceLT, Int.reduceLE, Int.reduceEq, Nat.reduceAdd, Nat.reduceMul, Nat.reduceLeDiff, setL, bfill, eqV, lookRes, ↓hS.len', decide_eq_true (Int.ofNat_lt.2 hlt), ↓hS.idx, hS.cell0 icell_len, Go.encZ, decide_eq_false he]
      refine hself _ _ _ ⟨i + 1, rfl, hlt, rfl, ?_⟩ (by simp only [ival_nat, isucc]; omega)
      rw [take_nth hlt, List.mem_append, List.mem_singleton]
      rintro (h | h)
      · exact hn h
      · exact he h.symm
  · simp (maxSteps := 1000000) (disch := (first | omega | (simp only [sz]; done) | (simp only [lz, Nat.reduceAdd, Nat.reduceLeDiff, Nat.le_refl]; done) | (simp only [sz]; omega))) only [↓xa, xb, xl, Option.bind_some, Option.map_some, implies_true, imp_self, true_and, and_true, if_true, if_false, decide_true, decide_false, Int.cast_ofNat_Int, Int.reduceLT, Int.reduceLE, Int.reduceEq, Nat.reduceAdd, Nat.reduceMul, Nat.reduceLeDiff, setL, bfill, eqV, lookRes, ↓hS.len', decide_eq_false (show ¬ (i : Int) < (l.length : Int) by omega)]
    rw [List.take_of_length_le (by omega)] at hn
    rw [decide_eq_false hn] at hK
    exact hK
theorem icell_one (a : Int) : (icell a).all one = true := rfl
set_option maxHeartbeats 1000000 in
theorem sp_r04With {h : Hp} (hB : Base.b ≤ h.size) {a : Value} {l : List Int} (hS : Sl h 1 icell a l) (hl : l.length ≤ 1000000) (x : Int) {K : Kont}
    (hK : ∀ v h' r, Ext h h' → Sl h' 1 icell v r → (∀ y, y ∈ r ↔ y ∈ l ∨ y = x) → r.length ≤ l.length + 1 → (∀ b, blk v = some b → (h.size ≤ b ∧ b < h'.size) ∨ blk a = some b) → K v h') : C_q172 [a, .int .i64 x] h K := by
  refine ok_q172 ?_
  unfold G_q172
  refine sp_r04Has hS (by omega) x ?_
  by_cases hx : x ∈ l
  · simp (maxSteps := 1000000) (disch := (first | omega | (simp only [sz]; done) | (simp only [lz, Nat.reduceAdd, Nat.reduceLeDiff, Nat.le_refl]; done) | (simp only [sz]; omega))) only [↓xa, xb, xl, Option.bind_some, Option.map_some, implies_true, imp_self, true_and, and_true, if_true, if_false, decide_true, decide_false, Int.cast_ofNat_Int, Int.reduceLT, Int.reduceLE, Int.reduceEq, Nat.reduceAdd, Nat.reduceMul, Nat.reduceLeDiff, setL, bfill, eqV, lookRes, decide_eq_true hx]
    exact hK _ _ l (Upd.refl _) hS (fun y => ⟨.inl, fun h => h.elim id (fun e => e ▸ hx)⟩) (by omega) (fun b hb => .inr hb)
  · simp (maxSteps := 1000000) (disch := (first | omega | (simp only [sz]; done) | (simp only [lz, Nat.reduceAdd, Nat.reduceLeDiff, Nat.le_refl]; done) | (simp only [sz]; omega))) only [↓xa, xb, xl, Option.bind_some, Option.map_some, implies_true, imp_self, true_and, and_true, if_true, if_false, decide_true, decide_false, Int.cast_ofNat_Int, Int.reduceLT, Int.reduceLE, Int.reduceEq, Nat.reduceAdd, Nat.reduceMul, Nat.reduceLeDiff, setL, bfill, eqV, lookRes, decide_eq_false hx]
    refine rule_q172_1 (fun v5 h' => ∃ i : Nat, v5 = .int .i64 i ∧ i ≤ l.length ∧ h' = h) (fun v5 h' => l.length - ival v5) ?_ _ _ _ ⟨0, rfl, Nat.zero_le _, rfl⟩
    rintro self v5 d h' ⟨i, rfl, hi, rfl⟩ hself
    unfold B_q172_1
    have stop : ∀ (lo hi0 : Option Value), lo = some (.int .i64 i) → hi0 = some (.int .i64 i) → oSlice 0 1 a none hi0 none h' (fun t27 h11 =>
        oAppend 1 8 #[.int .i64 0] (Value.slice none 0 0) t27 h11 fun t28 h12 =>
        oSlice 0 1 a lo none none h12 fun t35 h13 =>
        oBuildSlice #[.int .i64 0] 1 [(0, 1, .int .i64 x)] h13 fun t31 h14 =>
        oAppend 1 8 #[.int .i64 0] t28 t31 h14 fun t32 h15 =>
        oAppend 1 8 #[.int .i64 0] t32 t35 h15 fun t36 h16 => K t36 h16) := by
      rintro lo hi0 rfl rfl
      refine hS.sub icell_len (a := 0) (b := i) (fun m _ => rfl) (fun m hm => bnd_int (by omega) (by omega)) (by omega) hi ?_
      intro v1 s1 _
      rw [List.drop_zero] at s1
      refine Own.append (bytes := 8) Own.nil icell_len icell_one hB rfl s1 (Nat.le_refl _) (by simp; omega) ?_
      intro v2 h2 o2 u2
      rw [List.nil_append] at o2
      have x2 : Ext h' h2 := Upd.ext (Upd.refl _) u2 (Nat.le_refl _)
      refine hS.sub icell_len (a := i) (b := l.length) (fun m _ => bnd_int (by omega) (by omega)) (fun m hm => rfl) hi (Nat.le_refl _) ?_
      intro v3 s3 hb3
      rw [List.take_length] at s3
      have hB2 := x2.hB hB
      (try simp (maxSteps := 1000000) (disch := (first | omega | (simp only [sz]; done) | (simp only [lz, Nat.reduceAdd, Nat.reduceLeDiff, Nat.le_refl]; done) | (simp only [sz]; omega))) only [↓xa, xb, xl, Option.bind_some, Option.map_some, implies_true, imp_self, true_and, and_true, if_true, if_false, decide_true, decide_false, Int.cast_ofNat_Int, Int.reduceLT, Int.reduceLE, Int.reduceEq, Nat.reduceAdd, Nat.reduceMul, Nat.reduceLeDiff, setL, bfill, eqV, lookRes])
      refine Own.push1 (bytes := 8) o2 icell_len icell_one x ?_ (x2.hB hB) ?_ x2.1 (by simp; omega) ?_
      · rfl
      · rfl
      intro v4 h4 o4 u4
      have x4 : Ext h' h4 := x2.ext u4 (Nat.le_refl _)
      refine Own.append (bytes := 8) o4 icell_len icell_one (x4.hB hB) rfl (s3.ext x4) x4.1 (by simp; omega) ?_
      intro v5 h5 o5 u5
      have x5 : Ext h' h5 := x4.ext u5 (Nat.le_refl _)
      refine hK _ _ _ x5 o5.sl ?_ (by simp; omega) (fun b hb => .inl ⟨o5.blk_ge hb, o5.blk_lt hb⟩)
      intro y
      rw [List.mem_append, List.mem_append, List.mem_singleton]
      have : y ∈ l ↔ y ∈ l.take i ∨ y ∈ l.drop i := by rw [← List.mem_append, List.take_append_drop]
      rw [this]
      constructor
      · rintro ((h | h) | h)
        · exact .inl (.inl h)
        · exact .inr h
        · exact .inl (.inr h)
      · rintro ((h | h) | h)
        · exact .inl (.inl h)
        · exact .inr h
        · exact .inl (.inr h)
    by_cases hlt : i < l.length
    · by_cases he : nth l i < x
      · simp (maxSteps := 1000000) (disch := (first | omega | (simp only [sz]; done) | (simp only [lz, Nat.reduceAdd, Nat.reduceLeDiff, Nat.le_refl]; done) | (simp only [sz]; omega))) only [↓xa, xb, xl, Option.bind_some, Option.map_some, implies_true, imp_self, true_and, and_true, if_true, if_false, decide_true, decide_false, Int.cast_ofNat_Int, Int.reduceLT, Int.reduceLE, Int.reduceEq, Nat.reduceAdd, Nat.reduceMul, Nat.reduceLeDiff, setL, bfill, eqV, lookRes, ↓hS.len', decide_eq_true (Int.ofNat_lt.2 hlt), ↓hS.idx, hS.cell0 icell_len, Go.encZ, decide_eq_true he]
        exact hself _ _ _ ⟨i + 1, rfl, hlt, rfl⟩ (by simp only [ival_nat, isucc]; omega)
      · simp (maxSteps := 1000000) (disch := (first | omega | (simp only [sz]; done) | (simp only [lz, Nat.reduceAdd, Nat.reduceLeDiff, Nat.le_refl]; done) | (simp only [sz]; omega))) only [↓xa, xb, xl, Option.bind_some, Option.map_some, implies_true, imp_self, true_and, and_true, if_true, if_false, decide_true, decide_false, Int.cast_ofNat_Int, Int.reduceLT, Int.reduceLE, Int.reduceEq, Nat.reduceAdd, Nat.reduceMul, Nat.reduceLeDiff, setL, bfill, eqV, lookRes, ↓hS.len', decide_eq_true (Int.ofNat_lt.2 hlt), ↓hS.idx, hS.cell0 icell_len, Go.encZ, decide_eq_false he]
        exact stop _ _ rfl rfl
    · simp (maxSteps := 1000000) (disch := (first | omega | (simp only [sz]; done) | (simp only [lz, Nat.reduceAdd, Nat.reduceLeDiff, Nat.le_refl]; done) | (simp only [sz]; omega))) only [↓xa, xb, xl, Option.bind_some, Option.map_some, implies_true, imp_self, true_and, and_true, if_true, if_false, decide_true, decide_false, Int.cast_ofNat_Int, Int.reduceLT, Int.reduceLE, Int.reduceEq, Nat.reduceAdd, Nat.reduceMul, Nat.reduceLeDiff, setL, bfill, eqV, lookRes, ↓hS.len', decide_eq_false (show ¬ (i : Int) < (l.length : Int) by omega)]
      exact stop _ _ rfl rfl
/-- Bits: who is in. -/
theorem bits_div (q : Int → Bool) (n : Int) (h : isM n) : decide ((bitsOf q / 2 ^ n.toNat) % 2 = 1) = q n := by
  unfold bitsOf
  rcases h with rfl | rfl | rfl | rfl | rfl <;> generalize q 1 = a, q 2 = b, q 3 = c, q 4 = d, q 5 = e <;> revert a b c d e <;> decide +kernel
theorem bits_add (q : Int → Bool) (n : Int) (h : isM n) (hn : q n = false) : bitsOf q + shlI .u64 1 n.toNat = bitsOf (addQ q n) := by
  rw [← or_bits q n h]
  unfold bitsOf
  revert hn
  rcases h with rfl | rfl | rfl | rfl | rfl <;> generalize q 1 = a, q 2 = b, q 3 = c, q 4 = d, q 5 = e <;> revert a b c d e <;> decide +kernel
theorem bits_range (q : Int → Bool) : 0 ≤ bitsOf q ∧ bitsOf q < 64 := by
  unfold bitsOf
  generalize q 1 = a, q 2 = b, q 3 = c, q 4 = d, q 5 = e
  revert a b c d e
  decide +kernel
theorem sp_r07Has {h : Hp} (x n : Int) (hx : u64ok x) (hn : 1 ≤ n ∧ n ≤ 63) {K : Kont} (hK : K (.bool (decide ((x / 2 ^ n.toNat) % 2 = 1))) h) : C_q178 [.int .u64 x, .int .i64 n] h K := by
  refine ok_q178 ?_
  unfold G_q178
  simp (maxSteps := 1000000) (disch := (first | omega | (simp only [sz]; done) | (simp only [lz, Nat.reduceAdd, Nat.reduceLeDiff, Nat.le_refl]; done) | (simp only [sz]; omega))) only [↓xa, xb, xl, Option.bind_some, Option.map_some, implies_true, imp_self, true_and, and_true, if_true, if_false, decide_true, decide_false, Int.cast_ofNat_Int, Int.reduceLT, Int.reduceLE, Int.reduceEq, Nat.reduceAdd, Nat.reduceMul, Nat.reduceLeDiff, setL, bfill, eqV, lookRes, decide_eq_false (show ¬ n < 1 by omega), decide_eq_false (show ¬ 63 < n by omega)]
  unfold u64ok at hx
  refine rule_q178_1 (fun v0 v5 h' => ∃ i : Nat, v5 = .int .i64 i ∧ (i : Int) ≤ n ∧ h' = h ∧ v0 = .int .u64 (x / 2 ^ i)) (fun v0 v5 h' => n.toNat - ival v5) ?_ _ _ _ _ ⟨0, rfl, by omega, rfl, by simp⟩
  rintro self v0 v5 d h' ⟨i, rfl, hi, rfl, rfl⟩ hself
  unfold B_q178_1
  have hp : (0 : Int) < 2 ^ i := Int.pow_pos (by decide)
  have h0 : 0 ≤ x / 2 ^ i := Int.ediv_nonneg hx.1 (by omega)
  have h1 : x / 2 ^ i ≤ x := Int.ediv_le_self _ hx.1
  have e2 : (2 : Int) ≠ 0 := by decide
  generalize hq : x / 2 ^ i = y at *
  have q1 : y.tdiv 2 = y / 2 := Int.tdiv_eq_ediv_of_nonneg h0
  have q2 : y.tmod 2 = y % 2 := Int.tmod_eq_emod_of_nonneg h0
  by_cases hlt : (i : Int) < n
  · simp (maxSteps := 1000000) (disch := (first | omega | (simp only [sz]; done) | (simp only [lz, Nat.reduceAdd, Nat.reduceLeDiff, Nat.le_refl]; done) | (simp only [sz]; omega))) only [↓xa, xb, xl, Option.bind_some, Option.map_some, implies_true, imp_self, true_and, and_true, if_true, if_false, decide_true, decide_false, Int.cast_ofNat_Int, Int.reduceLT, Int.reduceLE, Int.reduceEq, Nat.reduceAdd, Nat.reduceMul, Nat.reduceLeDiff, setL, bfill, eqV, lookRes, decide_eq_true hlt, q1]
    refine hself _ _ _ _ ⟨i + 1, rfl, by omega, rfl, ?_⟩ (by simp only [ival_nat, isucc]; omega)
    rw [Int.pow_succ, ← Int.ediv_ediv_of_nonneg (by omega), hq]
  · have : n.toNat = i := by omega
    rw [this, hq] at hK
    simp (maxSteps := 1000000) (disch := (first | omega | (simp only [sz]; done) | (simp only [lz, Nat.reduceAdd, Nat.reduceLeDiff, Nat.le_refl]; done) | (simp only [sz]; omega))) only [↓xa, xb, xl, Option.bind_some, Option.map_some, implies_true, imp_self, true_and, and_true, if_true, if_false, decide_true, decide_false, Int.cast_ofNat_Int, Int.reduceLT, Int.reduceLE, Int.reduceEq, Nat.reduceAdd, Nat.reduceMul, Nat.reduceLeDiff, setL, bfill, eqV, lookRes, decide_eq_false hlt, q2]
    exact hK
theorem sp_r07HasB {h : Hp} (q : Int → Bool) (n : Int) (hn : isM n) {K : Kont} (hK : K (.bool (q n)) h) : C_q178 [.int .u64 (bitsOf q), .int .i64 n] h K := by
  have := bits_range q
  refine sp_r07Has _ n (by unfold u64ok; omega) (by unfold isM at hn; omega) ?_
  rw [bits_div q n hn]
  exact hK
theorem sp_r07Quorum {h : Hp} (n : Int) (h0 : 1 ≤ n) (h1 : n ≤ 5) {K : Kont} (hK : K (.int .i64 (n / 2 + 1)) h) : C_q152 [.int .i64 n] h K := by
  refine ok_q152 ?_
  unfold G_q152
  have q : n.tdiv 2 = n / 2 := Int.tdiv_eq_ediv_of_nonneg (by omega)
  have e2 : (2 : Int) ≠ 0 := by decide
  simp (maxSteps := 1000000) (disch := (first | omega | (simp only [sz]; done) | (simp only [lz, Nat.reduceAdd, Nat.reduceLeDiff, Nat.le_refl]; done) | (simp only [sz]; omega))) only [↓xa, xb, xl, Option.bind_some, Option.map_some, implies_true, imp_self, true_and, and_true, if_true, if_false, decide_true, decide_false, Int.cast_ofNat_Int, Int.reduceLT, Int.reduceLE, Int.reduceEq, Nat.reduceAdd, Nat.reduceMul, Nat.reduceLeDiff, setL, bfill, eqV, lookRes, decide_eq_false (show ¬ n < 1 by omega), q]
  exact hK
theorem cntQ_succ (q : Int → Bool) (n : Int) (h : isM n) : cntQ q n = cntQ q (n - 1) + cond (q n) 1 0 := by
  unfold cntQ
  rcases h with rfl | rfl | rfl | rfl | rfl <;> generalize q 1 = a, q 2 = b, q 3 = c, q 4 = d, q 5 = e <;> revert a b c d e <;> decide +kernel
theorem cntQ_range (q : Int → Bool) (n : Int) : 0 ≤ cntQ q n ∧ cntQ q n ≤ 5 := by
  unfold cntQ
  generalize (q 1 && decide (1 ≤ n)) = a, (q 2 && decide (2 ≤ n)) = b, (q 3 && decide (3 ≤ n)) = c, (q 4 && decide (4 ≤ n)) = d, (q 5 && decide (5 ≤ n)) = e
  revert a b c d e
  decide +kernel
theorem cntQ_zero (q : Int → Bool) : cntQ q 0 = 0 := by
  unfold cntQ
  generalize q 1 = a, q 2 = b, q 3 = c, q 4 = d, q 5 = e
  revert a b c d e
  decide +kernel
set_option maxHeartbeats 1000000 in
theorem sp_r07Enough {h : Hp} (q : Int → Bool) (m : Int) (hm : isM m) {K : Kont} (hK : K (.bool (enoughQ q m)) h) : C_q149 [.int .u64 (bitsOf q), .int .i64 m] h K := by
  refine ok_q149 ?_
  unfold G_q149
  have hm5 : 1 ≤ m ∧ m ≤ 5 := by unfold isM at hm; omega
  refine rule_q149_1 (fun v5 v6 h' => ∃ j : Int, v6 = .int .i64 j ∧ 1 ≤ j ∧ j ≤ m + 1 ∧ h' = h ∧ v5 = .int .i64 (cntQ q (j - 1))) (fun v5 v6 h' => (m + 1).toNat - ival v6) ?_ _ _ _ _ ⟨1, rfl, by omega, by omega, rfl, by rw [show (1 : Int) - 1 = 0 by omega, cntQ_zero]⟩
  rintro self v5 v6 d h' ⟨j, rfl, j1, j2, rfl, rfl⟩ hself
  unfold B_q149_1
  by_cases hlt : j ≤ m
  · have hj : isM j := isM_of j1 (by omega)
    have hc := cntQ_succ q j hj
    have hr := cntQ_range q (j - 1)
    simp (maxSteps := 1000000) (disch := (first | omega | (simp only [sz]; done) | (simp only [lz, Nat.reduceAdd, Nat.reduceLeDiff, Nat.le_refl]; done) | (simp only [sz]; omega))) only [↓xa, xb, xl, Option.bind_some, Option.map_some, implies_true, imp_self, true_and, and_true, if_true, if_false, decide_true, decide_false, Int.cast_ofNat_Int, Int.reduceLT, Int.reduceLE, Int.reduceEq, Nat.reduceAdd, Nat.reduceMul, Nat.reduceLeDiff, setL, bfill, eqV, lookRes, decide_eq_true (show j ≤ 63 by omega), decide_eq_true hlt]
    refine sp_r07HasB q j hj ?_
    have next : ∀ v5' d, v5' = .int .i64 (cntQ q j) → G_q149_2 K self (.int .u64 (bitsOf q)) (.int .i64 m) v5' (.int .i64 j) d h' := by
      rintro v5' d rfl
      rw [req_q149_2]
      unfold R_q149_2
      (try simp (maxSteps := 1000000) (disch := (first | omega | (simp only [sz]; done) | (simp only [lz, Nat.reduceAdd, Nat.reduceLeDiff, Nat.le_refl]; done) | (simp only [sz]; omega))) only [↓xa, xb, xl, Option.bind_some, Option.map_some, implies_true, imp_self, true_and, and_true, if_true, if_false, decide_true, decide_false, Int.cast_ofNat_Int, Int.reduceLT, Int.reduceLE, Int.reduceEq, Nat.reduceAdd, Nat.reduceMul, Nat.reduceLeDiff, setL, bfill, eqV, lookRes])
      exact hself _ _ _ _ ⟨j + 1, rfl, by omega, by omega, rfl, by rw [show j + 1 - 1 = j by omega]⟩ (by simp only [ival]; omega)
    cases hq : q j with
    | true =>
      (try simp (maxSteps := 1000000) (disch := (first | omega | (simp only [sz]; done) | (simp only [lz, Nat.reduceAdd, Nat.reduceLeDiff, Nat.le_refl]; done) | (simp only [sz]; omega))) only [↓xa, xb, xl, Option.bind_some, Option.map_some, implies_true, imp_self, true_and, and_true, if_true, if_false, decide_true, decide_false, Int.cast_ofNat_Int, Int.reduceLT, Int.reduceLE, Int.reduceEq, Nat.reduceAdd, Nat.reduceMul, Nat.reduceLeDiff, setL, bfill, eqV, lookRes])
      refine next _ _ ?_
      rw [hc, hq]; rfl
    | false =>
      (try simp (maxSteps := 1000000) (disch := (first | omega | (simp only [sz]; done) | (simp only [lz, Nat.reduceAdd, Nat.reduceLeDiff, Nat.le_refl]; done) | (simp only [sz]; omega))) only [↓xa, xb, xl, Option.bind_some, Option.map_some, implies_true, imp_self, true_and, and_true, if_true, if_false, decide_true, decide_false, Int.cast_ofNat_Int, Int.reduceLT, Int.reduceLE, Int.reduceEq, Nat.reduceAdd, Nat.reduceMul, Nat.reduceLeDiff, setL, bfill, eqV, lookRes])
      refine next _ _ ?_
      rw [hc, hq]; simp
  · have e : j - 1 = m := by omega
    rw [e]
    simp (maxSteps := 1000000) (disch := (first | omega | (simp only [sz]; done) | (simp only [lz, Nat.reduceAdd, Nat.reduceLeDiff, Nat.le_refl]; done) | (simp only [sz]; omega))) only [↓xa, xb, xl, Option.bind_some, Option.map_some, implies_true, imp_self, true_and, and_true, if_true, if_false, decide_true, decide_false, Int.cast_ofNat_Int, Int.reduceLT, Int.reduceLE, Int.reduceEq, Nat.reduceAdd, Nat.reduceMul, Nat.reduceLeDiff, setL, bfill, eqV, lookRes, decide_eq_true (show j ≤ 63 by omega), decide_eq_false hlt, decide_eq_true hm5.1]
    refine sp_r07Quorum m hm5.1 hm5.2 ?_
    (try simp (maxSteps := 1000000) (disch := (first | omega | (simp only [sz]; done) | (simp only [lz, Nat.reduceAdd, Nat.reduceLeDiff, Nat.le_refl]; done) | (simp only [sz]; omega))) only [↓xa, xb, xl, Option.bind_some, Option.map_some, implies_true, imp_self, true_and, and_true, if_true, if_false, decide_true, decide_false, Int.cast_ofNat_Int, Int.reduceLT, Int.reduceLE, Int.reduceEq, Nat.reduceAdd, Nat.reduceMul, Nat.reduceLeDiff, setL, bfill, eqV, lookRes])
    exact hK
/-- Who of the list is below j. -/
def belowQ (l : List Int) (j : Int) : Int → Bool := fun i => decide (i ∈ l ∧ i < j)
theorem belowQ_add {l : List Int} {j : Int} (h : j ∈ l) : belowQ l (j + 1) = addQ (belowQ l j) j := by
  funext i
  simp only [belowQ, addQ]
  by_cases h1 : i = j
  · subst h1; simp [h]; omega
  · by_cases h2 : i ∈ l <;> simp [h1, h2] <;> omega
theorem belowQ_not {l : List Int} {j : Int} (h : j ∉ l) : belowQ l (j + 1) = belowQ l j := by
  funext i
  simp only [belowQ]
  by_cases h2 : i ∈ l
  · have : i ≠ j := fun e => h (e ▸ h2)
    simp only [h2, true_and, decide_eq_decide]; omega
  · simp [h2]
theorem belowQ_all {l : List Int} (hm : ∀ x ∈ l, isM x) {j : Int} (h : 6 ≤ j) : belowQ l j = memQ l := by
  funext i
  simp only [belowQ, memQ, decide_eq_decide]
  exact ⟨fun h => h.1, fun h1 => ⟨h1, by have := hm i h1; unfold isM at this; omega⟩⟩
theorem belowQ_none {l : List Int} (hm : ∀ x ∈ l, isM x) : belowQ l 1 = noneQ := by
  funext i
  simp only [belowQ, noneQ, decide_eq_false_iff_not]
  rintro ⟨h1, h2⟩
  have := hm i h1; unfold isM at this; omega
set_option maxHeartbeats 2000000 in
theorem sp_r07Set {h : Hp} {a : Value} {l : List Int} (hS : Sl h 1 icell a l) (hl : l.length ≤ 1048576) (hm : ∀ x ∈ l, isM x) {K : Kont} (hK : K (.int .u64 (bitsOf (memQ l))) h) : C_q179 [a] h K := by
  refine ok_q179 ?_
  unfold G_q179
  refine rule_q179_1 (fun v3 v4 h' => ∃ j : Int, v4 = .int .i64 j ∧ 1 ≤ j ∧ j ≤ 64 ∧ h' = h ∧ v3 = .int .u64 (bitsOf (belowQ l j))) (fun v3 v4 h' => 64 - ival v4) ?_ _ _ _ _ ⟨1, rfl, by omega, by omega, rfl, by rw [belowQ_none hm, bits_none]⟩
  rintro self v3 v4 d h' ⟨j, rfl, j1, j2, rfl, rfl⟩ hself
  unfold B_q179_1
  by_cases hlt : j ≤ 63
  rotate_left
  · simp (maxSteps := 1000000) (disch := (first | omega | (simp only [sz]; done) | (simp only [lz, Nat.reduceAdd, Nat.reduceLeDiff, Nat.le_refl]; done) | (simp only [sz]; omega))) only [↓xa, xb, xl, Option.bind_some, Option.map_some, implies_true, imp_self, true_and, and_true, if_true, if_false, decide_true, decide_false, Int.cast_ofNat_Int, Int.reduceLT, Int.reduceLE, Int.reduceEq, Nat.reduceAdd, Nat.reduceMul, Nat.reduceLeDiff, setL, bfill, eqV, lookRes, decide_eq_false hlt]
    rw [belowQ_all hm (by omega)]
    exact hK
  simp (maxSteps := 1000000) (disch := (first | omega | (simp only [sz]; done) | (simp only [lz, Nat.reduceAdd, Nat.reduceLeDiff, Nat.le_refl]; done) | (simp only [sz]; omega))) only [↓xa, xb, xl, Option.bind_some, Option.map_some, implies_true, imp_self, true_and, and_true, if_true, if_false, decide_true, decide_false, Int.cast_ofNat_Int, Int.reduceLT, Int.reduceLE, Int.reduceEq, Nat.reduceAdd, Nat.reduceMul, Nat.reduceLeDiff, setL, bfill, eqV, lookRes, decide_eq_true hlt]
  refine rule_q179_2 (fun v3 v5 h2 => ∃ i : Nat, v5 = .int .i64 i ∧ i ≤ l.length ∧ h2 = h' ∧ v3 = .int .u64 (bitsOf (if j ∈ l.take i then addQ (belowQ l j) j else belowQ l j))) (fun v3 v5 h' => l.length - ival v5) ?_ _ _ _ _ ⟨0, rfl, Nat.zero_le _, rfl, by simp⟩
  rintro self2 v3 v5 d h2 ⟨i, rfl, hi, rfl, rfl⟩ hself2
  unfold B_q179_2
  by_cases hil : i < l.length
  rotate_left
  · rw [List.take_of_length_le (by omega)]
    simp (maxSteps := 1000000) (disch := (first | omega | (simp only [sz]; done) | (simp only [lz, Nat.reduceAdd, Nat.reduceLeDiff, Nat.le_refl]; done) | (simp only [sz]; omega))) only [↓xa, xb, xl, Option.bind_some, Option.map_some, implies_true, imp_self, true_and, and_true, if_true, if_false, decide_true, decide_false, Int.cast_ofNat_Int, Int.reduceLT, Int.reduceLE, Int.reduceEq, Nat.reduceAdd, Nat.reduceMul, Nat.reduceLeDiff, setL, bfill, eqV, lookRes, ↓hS.len', decide_eq_false (show ¬ (i : Int) < (l.length : Int) by omega)]
    refine hself _ _ _ _ ⟨j + 1, rfl, by omega, by omega, rfl, ?_⟩ (by simp only [ival]; omega)
    by_cases hj : j ∈ l
    · rw [if_pos hj, belowQ_add hj]
    · rw [if_neg hj, belowQ_not hj]
  have next : ∀ q d, q = (if j ∈ l.take (i + 1) then addQ (belowQ l j) j else belowQ l j) → G_q179_3 K self self2 a (.int .u64 (bitsOf q)) (.int .i64 j) (.int .i64 i) d h2 := by
    rintro q d rfl
    rw [req_q179_3]
    unfold R_q179_3
    (try simp (maxSteps := 1000000) (disch := (first | omega | (simp only [sz]; done) | (simp only [lz, Nat.reduceAdd, Nat.reduceLeDiff, Nat.le_refl]; done) | (simp only [sz]; omega))) only [↓xa, xb, xl, Option.bind_some, Option.map_some, implies_true, imp_self, true_and, and_true, if_true, if_false, decide_true, decide_false, Int.cast_ofNat_Int, Int.reduceLT, Int.reduceLE, Int.reduceEq, Nat.reduceAdd, Nat.reduceMul, Nat.reduceLeDiff, setL, bfill, eqV, lookRes])
    exact hself2 _ _ _ _ ⟨i + 1, rfl, hil, rfl, rfl⟩ (by simp only [ival_nat, isucc]; omega)
  have htk : ∀ y, y ∈ l.take (i + 1) ↔ y ∈ l.take i ∨ y = nth l i := fun y => by rw [take_nth hil, List.mem_append, List.mem_singleton]
  by_cases he : nth l i = j
  · have hj : isM j := hm j (he ▸ nth_mem hil)
    rw [if_pos ((htk j).2 (.inr he.symm))] at next
    have hbn : belowQ l j j = false := by simp [belowQ]
    simp (maxSteps := 1000000) (disch := (first | omega | (simp only [sz]; done) | (simp only [lz, Nat.reduceAdd, Nat.reduceLeDiff, Nat.le_refl]; done) | (simp only [sz]; omega))) only [↓xa, xb, xl, Option.bind_some, Option.map_some, implies_true, imp_self, true_and, and_true, if_true, if_false, decide_true, decide_false, Int.cast_ofNat_Int, Int.reduceLT, Int.reduceLE, Int.reduceEq, Nat.reduceAdd, Nat.reduceMul, Nat.reduceLeDiff, setL, bfill, eqV, lookRes, ↓hS.len', decide_eq_true (Int.ofNat_lt.2 hil), ↓hS.idx, hS.cell0 icell_len, Go.encZ, decide_eq_true he]
    by_cases ht : j ∈ l.take i
    · rw [if_pos ht]
      refine sp_r07HasB _ j hj ?_
      have : addQ (belowQ l j) j j = true := by simp [addQ]
      simp (maxSteps := 1000000) (disch := (first | omega | (simp only [sz]; done) | (simp only [lz, Nat.reduceAdd, Nat.reduceLeDiff, Nat.le_refl]; done) | (simp only [sz]; omega))) only [↓xa, xb, xl, Option.bind_some, Option.map_some, implies_true, imp_self, true_and, and_true, if_true, if_false, decide_true, decide_false, Int.cast_ofNat_Int, Int.reduceLT, Int.reduceLE, Int.reduceEq, Nat.reduceAdd, Nat.reduceMul, Nat.reduceLeDiff, setL, bfill, eqV, lookRes, this]
      exact next _ _ rfl
    · rw [if_neg ht]
      refine sp_r07HasB _ j hj ?_
      have hb2 := bits_range (addQ (belowQ l j) j)
      have hadd := bits_add _ j hj hbn
      simp (maxSteps := 1000000) (disch := (first | omega | (simp only [sz]; done) | (simp only [lz, Nat.reduceAdd, Nat.reduceLeDiff, Nat.le_refl]; done) | (simp only [sz]; omega))) only [↓xa, xb, xl, Option.bind_some, Option.map_some, implies_true, imp_self, true_and, and_true, if_true, if_false, decide_true, decide_false, Int.cast_ofNat_Int, Int.reduceLT, Int.reduceLE, Int.reduceEq, Nat.reduceAdd, Nat.reduceMul, Nat.reduceLeDiff, setL, bfill, eqV, lookRes, hbn, n_shl', hadd]
      exact next _ _ rfl
  · simp (maxSteps := 1000000) (disch := (first | omega | (simp only [sz]; done) | (simp only [lz, Nat.reduceAdd, Nat.reduceLeDiff, Nat.le_refl]; done) | (simp only [sz]; omega))) only [↓xa, xb, xl, Option.bind_some, Option.map_some, implies_true, imp_self, true_and, and_true, if_true, if_false, decide_true, decide_false, Int.cast_ofNat_Int, Int.reduceLT, Int.reduceLE, Int.reduceEq, Nat.reduceAdd, Nat.reduceMul, Nat.reduceLeDiff, setL, bfill, eqV, lookRes, ↓hS.len', decide_eq_true (Int.ofNat_lt.2 hil), ↓hS.idx, hS.cell0 icell_len, Go.encZ, decide_eq_false he]
    refine next _ _ ?_
    have : j ∈ l.take (i + 1) ↔ j ∈ l.take i := by rw [htk]; exact ⟨fun h => h.elim id (fun e => absurd e.symm he), .inl⟩
    simp only [this]
theorem sp_r13enough {h : Hp} {a : Value} {l : List Int} (hS : Sl h 1 icell a l) (hl : l.length ≤ 1048576) (hm : ∀ x ∈ l, isM x) (m : Int) (hmm : isM m) {K : Kont} (hK : K (.bool (enoughQ (memQ l) m)) h) : C_q157 [a, .int .i64 m] h K := by
  refine ok_q157 ?_
  unfold G_q157
  refine sp_r07Set hS hl hm ?_
  refine sp_r07Enough _ m hmm ?_
  exact hK
theorem sp_rOf2 {h : Hp} {a b : Int} (ha : 0 ≤ a ∧ a < 4611686018427387904) (hb : 0 ≤ b ∧ b < 8) {K : Kont}
    (hK : K (.tuple #[.int .u64 (if 1 ≤ a ∧ a < 1152921504606846976 ∧ 1 ≤ b ∧ b ≤ 5 then a * 8 + b else 0), .int .i64 (if 1 ≤ a ∧ a < 1152921504606846976 ∧ 1 ≤ b ∧ b ≤ 5 then 0 else 1)]) h) : C_q182 [.int .u64 a, .int .i64 b] h K := by
  refine ok_q182 ?_
  unfold G_q182
  (repeat' (first | (simp (maxSteps := 1000000) (disch := (first | omega | (simp only [sz]; done) | (simp only [lz, Nat.reduceAdd, Nat.reduceLeDiff, Nat.le_refl]; done) | (simp only [sz]; omega))) only [↓xa, xb, xl, Option.bind_some, Option.map_some, implies_true, imp_self, true_and, and_true, if_true, if_false, decide_true, decide_false, Int.cast_ofNat_Int, Int.reduceLT, Int.reduceLE, Int.reduceEq, Nat.reduceAdd, Nat.reduceMul, Nat.reduceLeDiff, setL, bfill, eqV, lookRes]) | refine sp_rMaster _ ?_ | ((refine e_ifd _ _ _ (fun hc => ?_) (fun hc => ?_)) <;> first | (exfalso; omega) | (simp (maxSteps := 1000000) (disch := (first | omega | (simp only [sz]; done) | (simp only [lz, Nat.reduceAdd, Nat.reduceLeDiff, Nat.le_refl]; done) | (simp only [sz]; omega))) only [↓xa, xb, xl, Option.bind_some, Option.map_some, implies_true, imp_self, true_and, and_true, if_true, if_false, decide_true, decide_false, Int.cast_ofNat_Int, Int.reduceLT, Int.reduceLE, Int.reduceEq, Nat.reduceAdd, Nat.reduceMul, Nat.reduceLeDiff, setL, bfill, eqV, lookRes, hc]) | skip) | ((refine e_ifn _ _ _ (fun hc => ?_) (fun hc => ?_)) <;> first | (exfalso; omega) | (simp (maxSteps := 1000000) (disch := (first | omega | (simp only [sz]; done) | (simp only [lz, Nat.reduceAdd, Nat.reduceLeDiff, Nat.le_refl]; done) | (simp only [sz]; omega))) only [↓xa, xb, xl, Option.bind_some, Option.map_some, implies_true, imp_self, true_and, and_true, if_true, if_false, decide_true, decide_false, Int.cast_ofNat_Int, Int.reduceLT, Int.reduceLE, Int.reduceEq, Nat.reduceAdd, Nat.reduceMul, Nat.reduceLeDiff, setL, bfill, eqV, lookRes, hc]) | skip) | ((refine e_gd _ _ _ _ _ (fun hc => ?_) (fun hc => ?_)) <;> first | (exfalso; omega) | (simp (maxSteps := 1000000) (disch := (first | omega | (simp only [sz]; done) | (simp only [lz, Nat.reduceAdd, Nat.reduceLeDiff, Nat.le_refl]; done) | (simp only [sz]; omega))) only [↓xa, xb, xl, Option.bind_some, Option.map_some, implies_true, imp_self, true_and, and_true, if_true, if_false, decide_true, decide_false, Int.cast_ofNat_Int, Int.reduceLT, Int.reduceLE, Int.reduceEq, Nat.reduceAdd, Nat.reduceMul, Nat.reduceLeDiff, setL, bfill, eqV, lookRes, hc]) | skip) | ((refine e_gn _ _ _ _ _ (fun hc => ?_) (fun hc => ?_)) <;> first | (exfalso; omega) | (simp (maxSteps := 1000000) (disch := (first | omega | (simp only [sz]; done) | (simp only [lz, Nat.reduceAdd, Nat.reduceLeDiff, Nat.le_refl]; done) | (simp only [sz]; omega))) only [↓xa, xb, xl, Option.bind_some, Option.map_some, implies_true, imp_self, true_and, and_true, if_true, if_false, decide_true, decide_false, Int.cast_ofNat_Int, Int.reduceLT, Int.reduceLE, Int.reduceEq, Nat.reduceAdd, Nat.reduceMul, Nat.reduceLeDiff, setL, bfill, eqV, lookRes, hc]) | skip) | ((refine e_pd _ _ _ _ _ (fun hc => ?_) (fun hc => ?_)) <;> first | (exfalso; omega) | (simp (maxSteps := 1000000) (disch := (first | omega | (simp only [sz]; done) | (simp only [lz, Nat.reduceAdd, Nat.reduceLeDiff, Nat.le_refl]; done) | (simp only [sz]; omega))) only [↓xa, xb, xl, Option.bind_some, Option.map_some, implies_true, imp_self, true_and, and_true, if_true, if_false, decide_true, decide_false, Int.cast_ofNat_Int, Int.reduceLT, Int.reduceLE, Int.reduceEq, Nat.reduceAdd, Nat.reduceMul, Nat.reduceLeDiff, setL, bfill, eqV, lookRes, hc]) | skip) | ((refine e_pn _ _ _ _ _ (fun hc => ?_) (fun hc => ?_)) <;> first | (exfalso; omega) | (simp (maxSteps := 1000000) (disch := (first | omega | (simp only [sz]; done) | (simp only [lz, Nat.reduceAdd, Nat.reduceLeDiff, Nat.le_refl]; done) | (simp only [sz]; omega))) only [↓xa, xb, xl, Option.bind_some, Option.map_some, implies_true, imp_self, true_and, and_true, if_true, if_false, decide_true, decide_false, Int.cast_ofNat_Int, Int.reduceLT, Int.reduceLE, Int.reduceEq, Nat.reduceAdd, Nat.reduceMul, Nat.reduceLeDiff, setL, bfill, eqV, lookRes, hc]) | skip) | ((refine e_if2 _ _ _ (fun hc => ?_) (fun hc => ?_)) <;> first | (exfalso; omega) | (simp (maxSteps := 1000000) (disch := (first | omega | (simp only [sz]; done) | (simp only [lz, Nat.reduceAdd, Nat.reduceLeDiff, Nat.le_refl]; done) | (simp only [sz]; omega))) only [↓xa, xb, xl, Option.bind_some, Option.map_some, implies_true, imp_self, true_and, and_true, if_true, if_false, decide_true, decide_false, Int.cast_ofNat_Int, Int.reduceLT, Int.reduceLE, Int.reduceEq, Nat.reduceAdd, Nat.reduceMul, Nat.reduceLeDiff, setL, bfill, eqV, lookRes, hc]) | skip) | ((refine e_g2 _ _ _ _ _ (fun hc => ?_) (fun hc => ?_)) <;> first | (exfalso; omega) | (simp (maxSteps := 1000000) (disch := (first | omega | (simp only [sz]; done) | (simp only [lz, Nat.reduceAdd, Nat.reduceLeDiff, Nat.le_refl]; done) | (simp only [sz]; omega))) only [↓xa, xb, xl, Option.bind_some, Option.map_some, implies_true, imp_self, true_and, and_true, if_true, if_false, decide_true, decide_false, Int.cast_ofNat_Int, Int.reduceLT, Int.reduceLE, Int.reduceEq, Nat.reduceAdd, Nat.reduceMul, Nat.reduceLeDiff, setL, bfill, eqV, lookRes, hc]) | skip)))
  all_goals first
    | (rw [if_neg (by omega), if_neg (by omega)] at hK; exact hK)
    | (rw [if_pos (by omega), if_pos (by omega)] at hK; exact hK)
    | skip
set_option maxHeartbeats 1000000 in
theorem sp_r07Next {h : Hp} {b me : Int} (hb : u64ok b) (hm : i64ok me) {K : Kont} (hK : K (.tuple #[.int .u64 (nextB b me), .int .i64 (nextE b me)]) h) : C_q173 [.int .u64 b, .int .i64 me] h K := by
  refine ok_q173 ?_
  unfold G_q173
  obtain ⟨hb1, hb2⟩ := hb
  refine sp_rMaster _ ?_
  by_cases hme : 1 ≤ me ∧ me ≤ 5
  rotate_left
  · simp (maxSteps := 1000000) (disch := (first | omega | (simp only [sz]; done) | (simp only [lz, Nat.reduceAdd, Nat.reduceLeDiff, Nat.le_refl]; done) | (simp only [sz]; omega))) only [↓xa, xb, xl, Option.bind_some, Option.map_some, implies_true, imp_self, true_and, and_true, if_true, if_false, decide_true, decide_false, Int.cast_ofNat_Int, Int.reduceLT, Int.reduceLE, Int.reduceEq, Nat.reduceAdd, Nat.reduceMul, Nat.reduceLeDiff, setL, bfill, eqV, lookRes, decide_eq_false hme]
    have e : nextE b me = 1 := by unfold nextE; rw [if_pos hme]
    simp only [nextB, e] at hK
    exact hK
  have q1 : b.tdiv 8 = b / 8 := Int.tdiv_eq_ediv_of_nonneg hb1
  have e8 : (8 : Int) ≠ 0 := by decide
  have hw : IntKind.u64.wrap (b / 8) = b / 8 := wrap_u _ (by omega) (by omega)
  simp (maxSteps := 1000000) (disch := (first | omega | (simp only [sz]; done) | (simp only [lz, Nat.reduceAdd, Nat.reduceLeDiff, Nat.le_refl]; done) | (simp only [sz]; omega))) only [↓xa, xb, xl, Option.bind_some, Option.map_some, implies_true, imp_self, true_and, and_true, if_true, if_false, decide_true, decide_false, Int.cast_ofNat_Int, Int.reduceLT, Int.reduceLE, Int.reduceEq, Nat.reduceAdd, Nat.reduceMul, Nat.reduceLeDiff, setL, bfill, eqV, lookRes, decide_eq_true hme]
  refine rule_q173_1 (fun v6 h' => ∃ i : Nat, v6 = .int .u64 i ∧ i ≤ 3 ∧ h' = h ∧ ∀ j : Nat, j < i → ¬ (1 ≤ b / 8 + j ∧ b / 8 + j < 1152921504606846976 ∧ b < 8 * (b / 8 + j) + me)) (fun v6 h' => 3 - ival v6) ?_ _ _ _ ⟨0, rfl, by omega, rfl, fun j hj => by omega⟩
  rintro self v6 d h' ⟨i, rfl, hi, rfl, hbad⟩ hself
  unfold B_q173_1
  have hme' : ¬ ¬ (1 ≤ me ∧ me ≤ 5) := by omega
  by_cases hlt : i < 3
  rotate_left
  · have h0 := hbad 0 (by omega)
    have h1 := hbad 1 (by omega)
    have h2 := hbad 2 (by omega)
    have e : nextE b me = 9 := by
      have hr : 1152921504606846976 ≤ nextRound b me := by
        unfold nextRound
        simp only
        split <;> split <;> omega
      unfold nextE
      rw [if_neg hme', if_pos hr]
    simp only [nextB, e] at hK
    simp (maxSteps := 1000000) (disch := (first | omega | (simp only [sz]; done) | (simp only [lz, Nat.reduceAdd, Nat.reduceLeDiff, Nat.le_refl]; done) | (simp only [sz]; omega))) only [↓xa, xb, xl, Option.bind_some, Option.map_some, implies_true, imp_self, true_and, and_true, if_true, if_false, decide_true, decide_false, Int.cast_ofNat_Int, Int.reduceLT, Int.reduceLE, Int.reduceEq, Nat.reduceAdd, Nat.reduceMul, Nat.reduceLeDiff, setL, bfill, eqV, lookRes, decide_eq_false (show ¬ (i : Int) < 3 by omega)]
    exact hK
  · simp (maxSteps := 1000000) (disch := (first | omega | (simp only [sz]; done) | (simp only [lz, Nat.reduceAdd, Nat.reduceLeDiff, Nat.le_refl]; done) | (simp only [sz]; omega))) only [↓xa, xb, xl, Option.bind_some, Option.map_some, implies_true, imp_self, true_and, and_true, if_true, if_false, decide_true, decide_false, Int.cast_ofNat_Int, Int.reduceLT, Int.reduceLE, Int.reduceEq, Nat.reduceAdd, Nat.reduceMul, Nat.reduceLeDiff, setL, bfill, eqV, lookRes, decide_eq_true (show (i : Int) < 3 by omega), q1, hw]
    refine sp_rOf2 (by omega) (by omega) ?_
    by_cases hc : 1 ≤ b / 8 + (i : Int) ∧ b / 8 + (i : Int) < 1152921504606846976 ∧ 1 ≤ me ∧ me ≤ 5
    · rw [if_pos hc, if_pos hc]
      by_cases hg : b < (b / 8 + (i : Int)) * 8 + me
      · simp (maxSteps := 1000000) (disch := (first | omega | (simp only [sz]; done) | (simp only [lz, Nat.reduceAdd, Nat.reduceLeDiff, Nat.le_refl]; done) | (simp only [sz]; omega))) only [↓xa, xb, xl, Option.bind_some, Option.map_some, implies_true, imp_self, true_and, and_true, if_true, if_false, decide_true, decide_false, Int.cast_ofNat_Int, Int.reduceLT, Int.reduceLE, Int.reduceEq, Nat.reduceAdd, Nat.reduceMul, Nat.reduceLeDiff, setL, bfill, eqV, lookRes, decide_eq_true hg]
        have hr : nextRound b me = b / 8 + i := by
          unfold nextRound
          simp only
          have hb0 := hbad
          match i, hlt, hb0 with
          | 0, _, _ => split <;> split <;> omega
          | 1, _, hb0 => have := hb0 0 (by omega); split <;> split <;> omega
          | 2, _, hb0 => have := hb0 0 (by omega); have := hb0 1 (by omega); split <;> split <;> omega
        have e : nextE b me = 0 := by unfold nextE; rw [if_neg hme', if_neg (by omega)]
        simp only [nextB, e, if_true, hr] at hK
        rw [show (b / 8 + (i : Int)) * 8 + me = 8 * (b / 8 + (i : Int)) + me by omega]
        exact hK
      · simp (maxSteps := 1000000) (disch := (first | omega | (simp only [sz]; done) | (simp only [lz, Nat.reduceAdd, Nat.reduceLeDiff, Nat.le_refl]; done) | (simp only [sz]; omega))) only [↓xa, xb, xl, Option.bind_some, Option.map_some, implies_true, imp_self, true_and, and_true, if_true, if_false, decide_true, decide_false, Int.cast_ofNat_Int, Int.reduceLT, Int.reduceLE, Int.reduceEq, Nat.reduceAdd, Nat.reduceMul, Nat.reduceLeDiff, setL, bfill, eqV, lookRes, decide_eq_false hg]
        refine hself _ _ _ ⟨i + 1, rfl, hlt, rfl, fun j hj => ?_⟩ (by simp only [ival_nat, isucc]; omega)
        by_cases hji : j = i
        · subst hji; omega
        · exact hbad j (by omega)
    · rw [if_neg hc, if_neg hc]
      (try simp (maxSteps := 1000000) (disch := (first | omega | (simp only [sz]; done) | (simp only [lz, Nat.reduceAdd, Nat.reduceLeDiff, Nat.le_refl]; done) | (simp only [sz]; omega))) only [↓xa, xb, xl, Option.bind_some, Option.map_some, implies_true, imp_self, true_and, and_true, if_true, if_false, decide_true, decide_false, Int.cast_ofNat_Int, Int.reduceLT, Int.reduceLE, Int.reduceEq, Nat.reduceAdd, Nat.reduceMul, Nat.reduceLeDiff, setL, bfill, eqV, lookRes])
      refine hself _ _ _ ⟨i + 1, rfl, hlt, rfl, fun j hj => ?_⟩ (by simp only [ival_nat, isucc]; omega)
      by_cases hji : j = i
      · subst hji; omega
      · exact hbad j (by omega)
end Go.Proofs.Ytdolepapmpcpiaa

