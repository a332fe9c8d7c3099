/- No acceptor promises and accepts nothing: AcceptNil returns true for every operation, without any condition. -/
import Derived.Test.YtdolepapmpcpiaaVAcc5
import Derived.Test.YtdolepapmpcpiaaVArgs
import Derived.Test.YtdolepapmpcpiaaRows
namespace Go.Proofs.Ytdolepapmpcpiaa
open Go
open Go.ChangeShapes Go.WideShapes Go.RowKit
set_option linter.unusedVariables false

theorem own_try : ownKnob Try.prog.godebug = none := by kernel_rfl
theorem laid_try : laidOutB Try.prog = true := by kernel_rfl
theorem glob_try : decide (Try.prog.globals.size < (begin Try.prog (fun _ _ => 0) default).world.heap.size) = true := by kernel_rfl
def fieldsOf (P : Program) (t : TypeId) : Array Field := match P.underlying t with | some (.struct fs) => fs | _ => #[]
theorem u_int : Try.prog.underlying 3 = some (.int .i64) := by kernel_rfl
theorem u_u64 : Try.prog.underlying 25 = some (.int .u64) := by kernel_rfl
theorem u_bool : Try.prog.underlying 4 = some .bool := by kernel_rfl
theorem u_cmd : Try.prog.underlying 32 = some (.struct (fieldsOf Try.prog 32)) := by kernel_rfl
theorem u_op : Try.prog.underlying 34 = some (.struct (fieldsOf Try.prog 34)) := by kernel_rfl

abbrev i64r (x : Int) : Prop := -9223372036854775808 ≤ x ∧ x ≤ 9223372036854775807
def cmdOk (c : Cmd) : Prop := i64ok c.kind ∧ i64ok c.chain ∧ u64ok c.epoch ∧ i64ok c.node
def ccells (c : Cmd) : List Value := [.int .i64 c.kind, .int .i64 c.chain, .int .u64 c.epoch, .int .i64 c.node]

section
variable {H : Type} {enc : TypeId × Value → H} {W : World}
theorem i64r_ok {a : Int} (h1 : IntKind.i64.min ≤ a) (h2 : a ≤ IntKind.i64.max) : i64ok a := by
  simp only [IntKind.min, IntKind.max, IntKind.signed, IntKind.bits, if_true] at h1 h2
  unfold i64ok
  omega
theorem u64r_ok {a : Int} (h1 : IntKind.u64.min ≤ a) (h2 : a ≤ IntKind.u64.max) : u64ok a := by
  simp only [IntKind.min, IntKind.max, IntKind.signed, IntKind.bits, Bool.false_eq_true, if_false] at h1 h2
  omega
theorem rd_int : Rd enc Try.prog W 3 (fun cs => ∃ a, cs = [.int .i64 a] ∧ i64ok a) := (Rd.int u_int).mono fun cs ⟨a, h, h1, h2⟩ => ⟨a, h, i64r_ok h1 h2⟩
theorem rd_u64 : Rd enc Try.prog W 25 (fun cs => ∃ a, cs = [.int .u64 a] ∧ u64ok a) := (Rd.int u_u64).mono fun cs ⟨a, h, h1, h2⟩ => ⟨a, h, u64r_ok h1 h2⟩
theorem rd_cmd : Rd enc Try.prog W 32 (fun cs => ∃ c, cs = ccells c ∧ cmdOk c) := by
  refine (Rd.struct (ts := [3, 3, 25, 3]) u_cmd (by kernel_rfl) (by kernel_rfl) (.cons rd_int (.cons rd_int (.cons rd_u64 (.cons rd_int .nil))))).mono ?_
  rintro cs ⟨_, _, rfl, ⟨a, rfl, ha⟩, _, _, rfl, ⟨b, rfl, hb⟩, _, _, rfl, ⟨c, rfl, hc⟩, _, _, rfl, ⟨d, rfl, hd⟩, rfl⟩
  exact ⟨⟨a, b, c, d⟩, rfl, ha, hb, hc, hd⟩
structure Op where
  kind : Int
  ballot : Int
  slot : Int
  cmd : Cmd
def ocells (o : Op) : List Value := .int .i64 o.kind :: .int .u64 o.ballot :: .int .i64 o.slot :: ccells o.cmd
def opOk (o : Op) : Prop := i64ok o.kind ∧ u64ok o.ballot ∧ i64ok o.slot ∧ cmdOk o.cmd
theorem rd_op : Rd enc Try.prog W 34 (fun cs => ∃ o, cs = ocells o ∧ opOk o) := by
  refine (Rd.struct (ts := [3, 25, 3, 32]) u_op (by kernel_rfl) (by kernel_rfl) (.cons rd_int (.cons rd_u64 (.cons rd_int (.cons rd_cmd .nil))))).mono ?_
  rintro cs ⟨_, _, rfl, ⟨a, rfl, ha⟩, _, _, rfl, ⟨b, rfl, hb⟩, _, _, rfl, ⟨c, rfl, hc⟩, _, _, rfl, ⟨d, rfl, hd⟩, rfl⟩
  exact ⟨⟨a, b, c, d⟩, rfl, ha, hb, hc, hd⟩
end

set_option maxRecDepth 100000 in
theorem law_AcceptNil {H : Type} {enc : TypeId × Value → H} : LawDoes enc Try.prog 5 Try.f5 := by
  intro W base args ds ps h0 hlt hval hA
  letI : Base := ⟨W.heap.size⟩
  have hp : Try.f5.params = #[34] := by kernel_rfl
  rw [hp] at hA hval
  obtain ⟨v0, d0, rfl, rfl, t0⟩ := trodAll_one hA
  obtain ⟨cs, rfl, o, hc, _⟩ := arg_struct u_op (hval 0 34 v0 rfl rfl) rd_op t0
  obtain ⟨cs⟩ := cs
  cases hc
  exact sp_AcceptNil (by rw [hv_size]; exact Nat.le_refl _) o.kind o.ballot o.slot o.cmd (fun h' x => ⟨rfl, x⟩)

set_option maxRecDepth 100000 in
theorem lifted_AcceptNil (os : Os) (started : os.Started) (H : Type) (enc : TypeId × Value → H) :
    ReturnsInHanded {} Try.checked os 5 .any (Rows.acceptNilSpec.pre6 enc Try.prog Try.f5 Rows.acceptNilRow.domain false) (Rows.acceptNilSpec.post enc Try.prog Try.f5 false true false false) :=
  lifted_law (C := Try.checked) (s := Rows.acceptNilSpec) (tb := 4) own_try started (by kernel_rfl) Try.func5
      (ChangeSpec.witness6 (enc := enc) (C := Try.checked) false ⟨#[], #[.agg #[.int .i64 0, .int .u64 0, .int .i64 0, .int .i64 0, .int .i64 0, .int .u64 0, .int .i64 0]], []⟩ 8 (by kernel_rfl) (by kernel_rfl) (by kernel_rfl) (by kernel_rfl))
      rfl (by kernel_rfl) u_bool (fun ds h => by
        have hp : Try.f5.params = #[34] := by kernel_rfl
        rw [hp] at h
        match ds, h with | [d], _ => rfl) laid_try (by kernel_rfl) glob_try law_AcceptNil

theorem AcceptNil_holds : Rows.AcceptNilSaid :=
  OpenClaim.holds_of_wide 5 Try.f5 rfl rfl rfl rfl rfl rfl rfl ⟨rfl, rfl, rfl, rfl, rfl⟩ rfl rfl rfl rfl rfl (by kernel_rfl) Try.func5 (by kernel_rfl)
    (of_decide_eq_true (by kernel_rfl)) (by unfold Func.isWrapper; rw [if_neg (of_decide_eq_false (by kernel_rfl))]; exact ⟨rfl, rfl⟩)
    (fun os started H enc _ => lifted_AcceptNil os started H enc)

#print axioms AcceptNil_holds
end Go.Proofs.Ytdolepapmpcpiaa
