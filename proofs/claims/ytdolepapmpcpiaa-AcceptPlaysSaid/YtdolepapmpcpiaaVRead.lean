/- How this seat's arguments read. -/
import Derived.Test.YtdolepapmpcpiaaVAcc5
import Derived.Test.YtdolepapmpcpiaaVBest
import Derived.Test.YtdolepapmpcpiaaVArgs
import Derived.Test.YtdolepapmpcpiaaRows
namespace Go.Proofs.Ytdolepapmpcpiaa
open Go
open Go.ChangeShapes Go.WideShapes Go.RowKit
set_option linter.unusedVariables false

theorem own_try : ownKnob Try.prog.godebug = none := by kernel_rfl
theorem laid_try : laidOutB Try.prog = true := by kernel_rfl
theorem glob_try : decide (Try.prog.globals.size < (begin Try.prog (fun _ _ => 0) default).world.heap.size) = true := by kernel_rfl
def fieldsOf (P : Program) (t : TypeId) : Array Field := match P.underlying t with | some (.struct fs) => fs | _ => #[]
theorem u_int : Try.prog.underlying 3 = some (.int .i64) := by kernel_rfl
theorem u_u64 : Try.prog.underlying 25 = some (.int .u64) := by kernel_rfl
theorem u_bool : Try.prog.underlying 4 = some .bool := by kernel_rfl
theorem u_cmd : Try.prog.underlying 32 = some (.struct (fieldsOf Try.prog 32)) := by kernel_rfl
theorem u_op : Try.prog.underlying 34 = some (.struct (fieldsOf Try.prog 34)) := by kernel_rfl

abbrev i64r (x : Int) : Prop := -9223372036854775808 ≤ x ∧ x ≤ 9223372036854775807
def cmdOk (c : Cmd) : Prop := i64ok c.kind ∧ i64ok c.chain ∧ u64ok c.epoch ∧ i64ok c.node
def ccells (c : Cmd) : List Value := [.int .i64 c.kind, .int .i64 c.chain, .int .u64 c.epoch, .int .i64 c.node]

section
variable {H : Type} {enc : TypeId × Value → H} {W : World}
theorem i64r_ok {a : Int} (h1 : IntKind.i64.min ≤ a) (h2 : a ≤ IntKind.i64.max) : i64ok a := by
  simp only [IntKind.min, IntKind.max, IntKind.signed, IntKind.bits, if_true] at h1 h2
  unfold i64ok
  omega
theorem u64r_ok {a : Int} (h1 : IntKind.u64.min ≤ a) (h2 : a ≤ IntKind.u64.max) : u64ok a := by
  simp only [IntKind.min, IntKind.max, IntKind.signed, IntKind.bits, Bool.false_eq_true, if_false] at h1 h2
  omega
theorem rd_int : Rd enc Try.prog W 3 (fun cs => ∃ a, cs = [.int .i64 a] ∧ i64ok a) := (Rd.int u_int).mono fun cs ⟨a, h, h1, h2⟩ => ⟨a, h, i64r_ok h1 h2⟩
theorem rd_u64 : Rd enc Try.prog W 25 (fun cs => ∃ a, cs = [.int .u64 a] ∧ u64ok a) := (Rd.int u_u64).mono fun cs ⟨a, h, h1, h2⟩ => ⟨a, h, u64r_ok h1 h2⟩
theorem rd_cmd : Rd enc Try.prog W 32 (fun cs => ∃ c, cs = ccells c ∧ cmdOk c) := by
  refine (Rd.struct (ts := [3, 3, 25, 3]) u_cmd (by kernel_rfl) (by kernel_rfl) (.cons rd_int (.cons rd_int (.cons rd_u64 (.cons rd_int .nil))))).mono ?_
  rintro cs ⟨_, _, rfl, ⟨a, rfl, ha⟩, _, _, rfl, ⟨b, rfl, hb⟩, _, _, rfl, ⟨c, rfl, hc⟩, _, _, rfl, ⟨d, rfl, hd⟩, rfl⟩
  exact ⟨⟨a, b, c, d⟩, rfl, ha, hb, hc, hd⟩
structure Op where
  kind : Int
  ballot : Int
  slot : Int
  cmd : Cmd
def ocells (o : Op) : List Value := .int .i64 o.kind :: .int .u64 o.ballot :: .int .i64 o.slot :: ccells o.cmd
def opOk (o : Op) : Prop := i64ok o.kind ∧ u64ok o.ballot ∧ i64ok o.slot ∧ cmdOk o.cmd
theorem rd_op : Rd enc Try.prog W 34 (fun cs => ∃ o, cs = ocells o ∧ opOk o) := by
  refine (Rd.struct (ts := [3, 25, 3, 32]) u_op (by kernel_rfl) (by kernel_rfl) (.cons rd_int (.cons rd_u64 (.cons rd_int (.cons rd_cmd .nil))))).mono ?_
  rintro cs ⟨_, _, rfl, ⟨a, rfl, ha⟩, _, _, rfl, ⟨b, rfl, hb⟩, _, _, rfl, ⟨c, rfl, hc⟩, _, _, rfl, ⟨d, rfl, hd⟩, rfl⟩
  exact ⟨⟨a, b, c, d⟩, rfl, ha, hb, hc, hd⟩
end
section
variable {H : Type} {enc : TypeId × Value → H} {W : World}
theorem u_vote : Try.prog.underlying 36 = some (.struct (fieldsOf Try.prog 36)) := by kernel_rfl
theorem u_votes : Try.prog.underlying 26 = some (.slice 36) := by kernel_rfl
theorem u_votess : Try.prog.underlying 53 = some (.slice 26) := by kernel_rfl
theorem u_ops : Try.prog.underlying 22 = some (.slice 34) := by kernel_rfl
def voteOk (v : Vote) : Prop := i64ok v.slot ∧ u64ok v.ballot ∧ cmdOk v.cmd
theorem rd_vote : Rd enc Try.prog W 36 (fun cs => ∃ v, cs = vcells v ∧ voteOk v) := by
  refine (Rd.struct (ts := [3, 25, 32]) u_vote (by kernel_rfl) (by kernel_rfl) (.cons rd_int (.cons rd_u64 (.cons rd_cmd .nil)))).mono ?_
  rintro cs ⟨_, _, rfl, ⟨a, rfl, ha⟩, _, _, rfl, ⟨b, rfl, hb⟩, _, _, rfl, ⟨c, rfl, hc⟩, rfl⟩
  exact ⟨⟨a, b, c⟩, rfl, ha, hb, hc⟩
theorem rd_votes : Rd enc Try.prog W 26 (fun cs => ∃ v l, cs = [v] ∧ Sl (@hv ⟨W.heap.size⟩ W) 6 vcells v l ∧ (∀ a ∈ l, voteOk a) ∧ l.length ≤ maxLen) :=
  Rd.slice u_votes (by kernel_rfl) (by decide) (@vcells_len ⟨0⟩) rd_vote
def lvOk (W : World) (a : LV) : Prop := Sl (@hv ⟨W.heap.size⟩ W) 6 vcells a.1 a.2 ∧ (∀ v ∈ a.2, voteOk v) ∧ a.2.length ≤ maxLen
theorem rd_votess : Rd enc Try.prog W 53 (fun cs => ∃ v l, cs = [v] ∧ Sl (@hv ⟨W.heap.size⟩ W) 1 lvc v l ∧ (∀ a ∈ l, lvOk W a) ∧ l.length ≤ maxLen) :=
  Rd.slice u_votess (by kernel_rfl) (by decide) (@lvc_len ⟨0⟩) (rd_votes.mono fun cs ⟨v, l, h1, h2, h3, h4⟩ => ⟨(v, l), h1, h2, h3, h4⟩)
theorem ocells_len (o : Op) : (ocells o).length = 7 := rfl
theorem rd_ops : Rd enc Try.prog W 22 (fun cs => ∃ v l, cs = [v] ∧ Sl (@hv ⟨W.heap.size⟩ W) 7 ocells v l ∧ (∀ a ∈ l, opOk a) ∧ l.length ≤ maxLen) :=
  Rd.slice u_ops (by kernel_rfl) (by decide) ocells_len rd_op
end
end Go.Proofs.Ytdolepapmpcpiaa
