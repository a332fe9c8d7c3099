/- What functions of the program ask of the seen heap (written by a program of this proof, vgen.py). -/
import Derived.Test.YtdolepapmpcpiaaFC
import Derived.Test.YtdolepapmpcpiaaProg
namespace Go.Proofs.Ytdolepapmpcpiaa
open Go
set_option linter.unusedSectionVars false
variable [Base]
set_option linter.unusedVariables false
set_option maxRecDepth 100000

/-! ### catenary/catenarylaw11.AcceptNil: function 5 -/
def O_catenarylaw11_AcceptNil : Od := []
def G_catenarylaw11_AcceptNil (a0 : Value) (h : Hp) (K : Kont) : Prop :=
  oBox a0 h fun t1 h1 =>
  oFieldAddr 1 t1 h1 fun t10 h2 =>
  oLd1 t10 h2 fun t11 h3 =>
  oFieldAddr 2 t1 h3 fun t12 h4 =>
  oLd1 t12 h4 fun t13 h5 =>
  C_accept_Acceptor_Prepare [(Go.Value.pointer none), t11, t13] h5 fun t14 h6 =>
  oExtract t14 0 h6 fun t15 h7 =>
  oExtract t14 1 h7 fun t16 h8 =>
  oFieldAddr 2 t1 h8 fun t19 h9 =>
  oLd1 t19 h9 fun t20 h10 =>
  C_accept_Acceptor_Vote [(Go.Value.pointer none), t20] h10 fun t21 h11 =>
  oExtract t21 0 h11 fun t22 h12 =>
  oExtract t21 1 h12 fun t23 h13 =>
  oAlloc #[.int .i64 0, .int .u64 0, .int .i64 0, .int .i64 0, .int .u64 0, .int .i64 0] h13 fun t6 h14 =>
  oSt 6 t6 t22 h14 fun _ h15 =>
  oLen 0 t15 h15 fun t25 h16 =>
  oBin .eql t25 (Go.Value.int Go.IntKind.i64 0) h16 fun t26 h17 =>
  oGuard t26 true (fun K => K t16 h17) h17 fun t28 h18 =>
  oGuard t26 true (fun K => oBin .eql t28 (Go.Value.int Go.IntKind.i64 2) h18 K) h18 fun t29 h19 =>
  oPick t26 t29 (Go.Value.bool false) h19 fun t30 h20 =>
  oGuard t30 true (fun K => K (Go.Value.pointer none) h20) h20 fun t32 h21 =>
  oGuard t30 true (fun K => oFieldAddr 1 t1 h21 K) h21 fun t33 h22 =>
  oGuard t30 true (fun K => oLd1 t33 h22 K) h22 fun t34 h23 =>
  oGuard t30 true (fun K => oFieldAddr 2 t1 h23 K) h23 fun t35 h24 =>
  oGuard t30 true (fun K => oLd1 t35 h24 K) h24 fun t36 h25 =>
  oGuard t30 true (fun K => oFieldAddr 3 t1 h25 K) h25 fun t37 h26 =>
  oGuard t30 true (fun K => oLdN 4 t37 h26 K) h26 fun t38 h27 =>
  oGuard t30 true (fun K => C_accept_Acceptor_Accept [t32, t34, t36, t38] h27 K) h27 fun t39 h28 =>
  oGuard t30 true (fun K => oBin .eql t39 (Go.Value.int Go.IntKind.i64 2) h28 K) h28 fun t40 h29 =>
  oPick t30 t40 (Go.Value.bool false) h29 fun t41 h30 =>
  oGuard t41 true (fun K => K (Go.Value.pointer none) h30) h30 fun t43 h31 =>
  oGuard t41 true (fun K => C_accept_Acceptor_Promised [t43] h31 K) h31 fun t44 h32 =>
  oGuard t41 true (fun K => oBin .eql t44 (Go.Value.int Go.IntKind.u64 0) h32 K) h32 fun t45 h33 =>
  oPick t41 t45 (Go.Value.bool false) h33 fun t46 h34 =>
  oGuard t46 true (fun K => oLdN 6 t6 h34 K) h34 fun t48 h35 =>
  oGuard t46 true (fun K => oBuild #[.int .i64 0, .int .u64 0, .int .i64 0, .int .i64 0, .int .u64 0, .int .i64 0] [] h35 K) h35 fun t49 h36 =>
  oGuard t46 true (fun K => oEq 4 false (some [(0, (.int .i64)), (1, (.int .u64)), (2, (.int .i64)), (3, (.int .i64)), (4, (.int .u64)), (5, (.int .i64))]) t48 t49 h36 K) h36 fun t50 h37 =>
  oPick t46 t50 (Go.Value.bool false) h37 fun t51 h38 =>
  oGuard t51 true (fun K => K t23 h38) h38 fun t53 h39 =>
  oGuard t51 true (fun K => oNot t53 h39 K) h39 fun t54 h40 =>
  oPick t51 t54 (Go.Value.bool false) h40 fun t55 h41 =>
  oGuard t55 true (fun K => K (Go.Value.pointer none) h41) h41 fun t57 h42 =>
  oGuard t55 true (fun K => oFieldAddr 2 t1 h42 K) h42 fun t58 h43 =>
  oGuard t55 true (fun K => oLd1 t58 h43 K) h43 fun t59 h44 =>
  oGuard t55 true (fun K => C_accept_Acceptor_Votes [t57, t59] h44 K) h44 fun t60 h45 =>
  oGuard t55 true (fun K => oLen 0 t60 h45 K) h45 fun t61 h46 =>
  oGuard t55 true (fun K => oBin .eql t61 (Go.Value.int Go.IntKind.i64 0) h46 K) h46 fun t62 h47 =>
  oPick t55 t62 (Go.Value.bool false) h47 fun t63 h48 =>
  oGuard t63 true (fun K => K (Go.Value.pointer none) h48) h48 fun t65 h49 =>
  oGuard t63 true (fun K => C_accept_Acceptor_Len [t65] h49 K) h49 fun t66 h50 =>
  oGuard t63 true (fun K => oBin .eql t66 (Go.Value.int Go.IntKind.i64 0) h50 K) h50 fun t67 h51 =>
  oPick t63 t67 (Go.Value.bool false) h51 fun t68 h52 =>
  oGuard t68 true (fun K => C_catenarylaw11_awake [] h52 K) h52 fun t70 h53 =>
  oPick t68 t70 (Go.Value.bool false) h53 fun t71 h54 =>
  K t71 h54
theorem ga_catenarylaw11_AcceptNil (Qv : Post) (a0 : Value) (h : Hp) : aw Try.prog O_catenarylaw11_AcceptNil (bodyC Try.f5) Qv [a0, undef, undef, undef, undef, undef, undef, undef, undef, undef, undef, undef, undef, undef, undef, undef, undef, undef, undef, undef, undef, undef, undef, undef, undef, undef, undef, undef, undef, undef, undef, undef, undef, undef, undef, undef, undef, undef, undef, undef, undef, undef, undef, undef, undef, undef, undef, undef, undef, undef, undef, undef, undef, undef, undef, undef, undef, undef, undef, undef, undef, undef, undef, undef, undef, undef, undef, undef, undef, undef, undef, undef] h = (oBox a0 h fun t1 h1 =>
  oFieldAddr 1 t1 h1 fun t10 h2 =>
  oLd1 t10 h2 fun t11 h3 =>
  oFieldAddr 2 t1 h3 fun t12 h4 =>
  oLd1 t12 h4 fun t13 h5 =>
  C_accept_Acceptor_Prepare [(Go.Value.pointer none), t11, t13] h5 fun t14 h6 =>
  oExtract t14 0 h6 fun t15 h7 =>
  oExtract t14 1 h7 fun t16 h8 =>
  oFieldAddr 2 t1 h8 fun t19 h9 =>
  oLd1 t19 h9 fun t20 h10 =>
  C_accept_Acceptor_Vote [(Go.Value.pointer none), t20] h10 fun t21 h11 =>
  oExtract t21 0 h11 fun t22 h12 =>
  oExtract t21 1 h12 fun t23 h13 =>
  oAlloc #[.int .i64 0, .int .u64 0, .int .i64 0, .int .i64 0, .int .u64 0, .int .i64 0] h13 fun t6 h14 =>
  oSt 6 t6 t22 h14 fun _ h15 =>
  oLen 0 t15 h15 fun t25 h16 =>
  oBin .eql t25 (Go.Value.int Go.IntKind.i64 0) h16 fun t26 h17 =>
  oGuard t26 true (fun K => K t16 h17) h17 fun t28 h18 =>
  oGuard t26 true (fun K => oBin .eql t28 (Go.Value.int Go.IntKind.i64 2) h18 K) h18 fun t29 h19 =>
  oPick t26 t29 (Go.Value.bool false) h19 fun t30 h20 =>
  oGuard t30 true (fun K => K (Go.Value.pointer none) h20) h20 fun t32 h21 =>
  oGuard t30 true (fun K => oFieldAddr 1 t1 h21 K) h21 fun t33 h22 =>
  oGuard t30 true (fun K => oLd1 t33 h22 K) h22 fun t34 h23 =>
  oGuard t30 true (fun K => oFieldAddr 2 t1 h23 K) h23 fun t35 h24 =>
  oGuard t30 true (fun K => oLd1 t35 h24 K) h24 fun t36 h25 =>
  oGuard t30 true (fun K => oFieldAddr 3 t1 h25 K) h25 fun t37 h26 =>
  oGuard t30 true (fun K => oLdN 4 t37 h26 K) h26 fun t38 h27 =>
  oGuard t30 true (fun K => C_accept_Acceptor_Accept [t32, t34, t36, t38] h27 K) h27 fun t39 h28 =>
  oGuard t30 true (fun K => oBin .eql t39 (Go.Value.int Go.IntKind.i64 2) h28 K) h28 fun t40 h29 =>
  oPick t30 t40 (Go.Value.bool false) h29 fun t41 h30 =>
  oGuard t41 true (fun K => K (Go.Value.pointer none) h30) h30 fun t43 h31 =>
  oGuard t41 true (fun K => C_accept_Acceptor_Promised [t43] h31 K) h31 fun t44 h32 =>
  oGuard t41 true (fun K => oBin .eql t44 (Go.Value.int Go.IntKind.u64 0) h32 K) h32 fun t45 h33 =>
  oPick t41 t45 (Go.Value.bool false) h33 fun t46 h34 =>
  oGuard t46 true (fun K => oLdN 6 t6 h34 K) h34 fun t48 h35 =>
  oGuard t46 true (fun K => oBuild #[.int .i64 0, .int .u64 0, .int .i64 0, .int .i64 0, .int .u64 0, .int .i64 0] [] h35 K) h35 fun t49 h36 =>
  oGuard t46 true (fun K => oEq 4 false (some [(0, (.int .i64)), (1, (.int .u64)), (2, (.int .i64)), (3, (.int .i64)), (4, (.int .u64)), (5, (.int .i64))]) t48 t49 h36 K) h36 fun t50 h37 =>
  oPick t46 t50 (Go.Value.bool false) h37 fun t51 h38 =>
  oGuard t51 true (fun K => K t23 h38) h38 fun t53 h39 =>
  oGuard t51 true (fun K => oNot t53 h39 K) h39 fun t54 h40 =>
  oPick t51 t54 (Go.Value.bool false) h40 fun t55 h41 =>
  oGuard t55 true (fun K => K (Go.Value.pointer none) h41) h41 fun t57 h42 =>
  oGuard t55 true (fun K => oFieldAddr 2 t1 h42 K) h42 fun t58 h43 =>
  oGuard t55 true (fun K => oLd1 t58 h43 K) h43 fun t59 h44 =>
  oGuard t55 true (fun K => C_accept_Acceptor_Votes [t57, t59] h44 K) h44 fun t60 h45 =>
  oGuard t55 true (fun K => oLen 0 t60 h45 K) h45 fun t61 h46 =>
  oGuard t55 true (fun K => oBin .eql t61 (Go.Value.int Go.IntKind.i64 0) h46 K) h46 fun t62 h47 =>
  oPick t55 t62 (Go.Value.bool false) h47 fun t63 h48 =>
  oGuard t63 true (fun K => K (Go.Value.pointer none) h48) h48 fun t65 h49 =>
  oGuard t63 true (fun K => C_accept_Acceptor_Len [t65] h49 K) h49 fun t66 h50 =>
  oGuard t63 true (fun K => oBin .eql t66 (Go.Value.int Go.IntKind.i64 0) h50 K) h50 fun t67 h51 =>
  oPick t63 t67 (Go.Value.bool false) h51 fun t68 h52 =>
  oGuard t68 true (fun K => C_catenarylaw11_awake [] h52 K) h52 fun t70 h53 =>
  oPick t68 t70 (Go.Value.bool false) h53 fun t71 h54 =>
  Qv .ret [a0, t1, t71, (Go.Value.pointer none), t15, t16, t6, t23, t14, (Go.Value.pointer none), t10, t11, t12, t13, t14, t15, t16, t21, (Go.Value.pointer none), t19, t20, t21, t22, t23, t15, t25, t26, t26, t28, t29, t30, t30, t32, t33, t34, t35, t36, t37, t38, t39, t40, t41, t41, t43, t44, t45, t46, t46, t48, t49, t50, t51, t51, t53, t54, t55, t55, t57, t58, t59, t60, t61, t62, t63, t63, t65, t66, t67, t68, t68, t70, t71] h54) := by kernel_rfl
theorem gb_catenarylaw11_AcceptNil (a0 : Value) (h : Hp) (K : Kont) : (oBox a0 h fun t1 h1 =>
  oFieldAddr 1 t1 h1 fun t10 h2 =>
  oLd1 t10 h2 fun t11 h3 =>
  oFieldAddr 2 t1 h3 fun t12 h4 =>
  oLd1 t12 h4 fun t13 h5 =>
  C_accept_Acceptor_Prepare [(Go.Value.pointer none), t11, t13] h5 fun t14 h6 =>
  oExtract t14 0 h6 fun t15 h7 =>
  oExtract t14 1 h7 fun t16 h8 =>
  oFieldAddr 2 t1 h8 fun t19 h9 =>
  oLd1 t19 h9 fun t20 h10 =>
  C_accept_Acceptor_Vote [(Go.Value.pointer none), t20] h10 fun t21 h11 =>
  oExtract t21 0 h11 fun t22 h12 =>
  oExtract t21 1 h12 fun t23 h13 =>
  oAlloc #[.int .i64 0, .int .u64 0, .int .i64 0, .int .i64 0, .int .u64 0, .int .i64 0] h13 fun t6 h14 =>
  oSt 6 t6 t22 h14 fun _ h15 =>
  oLen 0 t15 h15 fun t25 h16 =>
  oBin .eql t25 (Go.Value.int Go.IntKind.i64 0) h16 fun t26 h17 =>
  oGuard t26 true (fun K => K t16 h17) h17 fun t28 h18 =>
  oGuard t26 true (fun K => oBin .eql t28 (Go.Value.int Go.IntKind.i64 2) h18 K) h18 fun t29 h19 =>
  oPick t26 t29 (Go.Value.bool false) h19 fun t30 h20 =>
  oGuard t30 true (fun K => K (Go.Value.pointer none) h20) h20 fun t32 h21 =>
  oGuard t30 true (fun K => oFieldAddr 1 t1 h21 K) h21 fun t33 h22 =>
  oGuard t30 true (fun K => oLd1 t33 h22 K) h22 fun t34 h23 =>
  oGuard t30 true (fun K => oFieldAddr 2 t1 h23 K) h23 fun t35 h24 =>
  oGuard t30 true (fun K => oLd1 t35 h24 K) h24 fun t36 h25 =>
  oGuard t30 true (fun K => oFieldAddr 3 t1 h25 K) h25 fun t37 h26 =>
  oGuard t30 true (fun K => oLdN 4 t37 h26 K) h26 fun t38 h27 =>
  oGuard t30 true (fun K => C_accept_Acceptor_Accept [t32, t34, t36, t38] h27 K) h27 fun t39 h28 =>
  oGuard t30 true (fun K => oBin .eql t39 (Go.Value.int Go.IntKind.i64 2) h28 K) h28 fun t40 h29 =>
  oPick t30 t40 (Go.Value.bool false) h29 fun t41 h30 =>
  oGuard t41 true (fun K => K (Go.Value.pointer none) h30) h30 fun t43 h31 =>
  oGuard t41 true (fun K => C_accept_Acceptor_Promised [t43] h31 K) h31 fun t44 h32 =>
  oGuard t41 true (fun K => oBin .eql t44 (Go.Value.int Go.IntKind.u64 0) h32 K) h32 fun t45 h33 =>
  oPick t41 t45 (Go.Value.bool false) h33 fun t46 h34 =>
  oGuard t46 true (fun K => oLdN 6 t6 h34 K) h34 fun t48 h35 =>
  oGuard t46 true (fun K => oBuild #[.int .i64 0, .int .u64 0, .int .i64 0, .int .i64 0, .int .u64 0, .int .i64 0] [] h35 K) h35 fun t49 h36 =>
  oGuard t46 true (fun K => oEq 4 false (some [(0, (.int .i64)), (1, (.int .u64)), (2, (.int .i64)), (3, (.int .i64)), (4, (.int .u64)), (5, (.int .i64))]) t48 t49 h36 K) h36 fun t50 h37 =>
  oPick t46 t50 (Go.Value.bool false) h37 fun t51 h38 =>
  oGuard t51 true (fun K => K t23 h38) h38 fun t53 h39 =>
  oGuard t51 true (fun K => oNot t53 h39 K) h39 fun t54 h40 =>
  oPick t51 t54 (Go.Value.bool false) h40 fun t55 h41 =>
  oGuard t55 true (fun K => K (Go.Value.pointer none) h41) h41 fun t57 h42 =>
  oGuard t55 true (fun K => oFieldAddr 2 t1 h42 K) h42 fun t58 h43 =>
  oGuard t55 true (fun K => oLd1 t58 h43 K) h43 fun t59 h44 =>
  oGuard t55 true (fun K => C_accept_Acceptor_Votes [t57, t59] h44 K) h44 fun t60 h45 =>
  oGuard t55 true (fun K => oLen 0 t60 h45 K) h45 fun t61 h46 =>
  oGuard t55 true (fun K => oBin .eql t61 (Go.Value.int Go.IntKind.i64 0) h46 K) h46 fun t62 h47 =>
  oPick t55 t62 (Go.Value.bool false) h47 fun t63 h48 =>
  oGuard t63 true (fun K => K (Go.Value.pointer none) h48) h48 fun t65 h49 =>
  oGuard t63 true (fun K => C_accept_Acceptor_Len [t65] h49 K) h49 fun t66 h50 =>
  oGuard t63 true (fun K => oBin .eql t66 (Go.Value.int Go.IntKind.i64 0) h50 K) h50 fun t67 h51 =>
  oPick t63 t67 (Go.Value.bool false) h51 fun t68 h52 =>
  oGuard t68 true (fun K => C_catenarylaw11_awake [] h52 K) h52 fun t70 h53 =>
  oPick t68 t70 (Go.Value.bool false) h53 fun t71 h54 =>
  (qTop Try.prog Try.f5 K) .ret [a0, t1, t71, (Go.Value.pointer none), t15, t16, t6, t23, t14, (Go.Value.pointer none), t10, t11, t12, t13, t14, t15, t16, t21, (Go.Value.pointer none), t19, t20, t21, t22, t23, t15, t25, t26, t26, t28, t29, t30, t30, t32, t33, t34, t35, t36, t37, t38, t39, t40, t41, t41, t43, t44, t45, t46, t46, t48, t49, t50, t51, t51, t53, t54, t55, t55, t57, t58, t59, t60, t61, t62, t63, t63, t65, t66, t67, t68, t68, t70, t71] h54) = G_catenarylaw11_AcceptNil a0 h K := by kernel_rfl
theorem gc_catenarylaw11_AcceptNil (a0 : Value) (h : Hp) (K : Kont) : abody Try.prog O_catenarylaw11_AcceptNil Try.f5 (bodyC Try.f5) [a0] h K = aw Try.prog O_catenarylaw11_AcceptNil (bodyC Try.f5) (qTop Try.prog Try.f5 K) [a0, undef, undef, undef, undef, undef, undef, undef, undef, undef, undef, undef, undef, undef, undef, undef, undef, undef, undef, undef, undef, undef, undef, undef, undef, undef, undef, undef, undef, undef, undef, undef, undef, undef, undef, undef, undef, undef, undef, undef, undef, undef, undef, undef, undef, undef, undef, undef, undef, undef, undef, undef, undef, undef, undef, undef, undef, undef, undef, undef, undef, undef, undef, undef, undef, undef, undef, undef, undef, undef, undef, undef] h := by kernel_rfl
theorem eq_catenarylaw11_AcceptNil (a0 : Value) (h : Hp) (K : Kont) : abody Try.prog O_catenarylaw11_AcceptNil Try.f5 (bodyC Try.f5) [a0] h K = G_catenarylaw11_AcceptNil a0 h K := (gc_catenarylaw11_AcceptNil a0 h K).trans ((ga_catenarylaw11_AcceptNil _ a0 h).trans (gb_catenarylaw11_AcceptNil a0 h K))
theorem ok_catenarylaw11_AcceptNil {a0 : Value} {h : Hp} {K : Kont} (hk : G_catenarylaw11_AcceptNil a0 h K) : C_catenarylaw11_AcceptNil [a0] h K := ac_of_body prog_mixed (fn := Try.f5) Try.func5 (c := bodyC Try.f5) (by kernel_rfl) ((eq_catenarylaw11_AcceptNil a0 h K).mpr hk)

/-! ### catenary/catenarylaw11.AcceptBest: function 6 -/
def O_catenarylaw11_AcceptBest : Od := []
noncomputable def K_catenarylaw11_AcceptBest_0 : Code := (cI (cB (cA (cB (cB (bodyC Try.f6))))))
noncomputable def K_catenarylaw11_AcceptBest_1 : Code := (cB (cB (cB (bodyC Try.f6))))
def Q_catenarylaw11_AcceptBest_0 (K : Kont) : Post := qSeq (aw Try.prog O_catenarylaw11_AcceptBest K_catenarylaw11_AcceptBest_1 (qTop Try.prog Try.f6 K)) (qTop Try.prog Try.f6 K)
def Q_catenarylaw11_AcceptBest_1 (K : Kont) : Post := qBlk 0 (Q_catenarylaw11_AcceptBest_0 K)
def E_catenarylaw11_AcceptBest_1 (v0 : Value) (v3 : Value) (d : Nat → Value) : List Value := [v0, d 1, d 2, v3, d 4, d 5, d 6, d 7, d 8, d 9, d 10, d 11, d 12, d 13, d 14, d 15, d 16, d 17, d 18, d 19, d 20, d 21, d 22, d 23, d 24, d 25, d 26, d 27, d 28]
def G_catenarylaw11_AcceptBest_1 (K : Kont) (v0 : Value) (v3 : Value) (d : Nat → Value) (h : Hp) : Prop := aw Try.prog O_catenarylaw11_AcceptBest K_catenarylaw11_AcceptBest_0 (Q_catenarylaw11_AcceptBest_1 K) (E_catenarylaw11_AcceptBest_1 v0 v3 d) h
noncomputable def K_catenarylaw11_AcceptBest_2 : Code := (cB (cB (bodyC Try.f6)))
def Q_catenarylaw11_AcceptBest_2 (K : Kont) (s0 : Self) : Post := qSeq s0 (Q_catenarylaw11_AcceptBest_1 K)
noncomputable def K_catenarylaw11_AcceptBest_3 : Code := (cI (cI (cB (cA (cB (cB (bodyC Try.f6)))))))
noncomputable def K_catenarylaw11_AcceptBest_4 : Code := (cB (cB (cI (cI (cB (cA (cB (cB (bodyC Try.f6)))))))))
noncomputable def K_catenarylaw11_AcceptBest_5 : Code := (cB (cI (cI (cB (cA (cB (cB (bodyC Try.f6))))))))
def G_catenarylaw11_AcceptBest (a0 : Value) (h : Hp) (K : Kont) : Prop :=
  oLen 0 a0 h fun t5 h1 =>
  oBin .gtr t5 (Go.Value.int Go.IntKind.i64 8) h1 fun t6 h2 =>
  oIf t6
  (C_catenarylaw11_awake [] h2 fun t7 h3 =>
  K t7 h3)
  (G_catenarylaw11_AcceptBest_1 K a0 (Go.Value.int Go.IntKind.i64 0) (dl [a0, undef, (Go.Value.bool false), (Go.Value.int Go.IntKind.i64 0), a0, t5, t6, undef, undef, undef, undef, undef, undef, undef, undef, undef, undef, undef, undef, undef, undef, undef, undef, undef, undef, undef, undef, undef, undef]) h2)
theorem ga_catenarylaw11_AcceptBest (Qv : Post) (a0 : Value) (h : Hp) : aw Try.prog O_catenarylaw11_AcceptBest (bodyC Try.f6) Qv [a0, undef, undef, undef, undef, undef, undef, undef, undef, undef, undef, undef, undef, undef, undef, undef, undef, undef, undef, undef, undef, undef, undef, undef, undef, undef, undef, undef, undef] h = (oLen 0 a0 h fun t5 h1 =>
  oBin .gtr t5 (Go.Value.int Go.IntKind.i64 8) h1 fun t6 h2 =>
  oIf t6
  (C_catenarylaw11_awake [] h2 fun t7 h3 =>
  (qSeq (aw Try.prog O_catenarylaw11_AcceptBest K_catenarylaw11_AcceptBest_2 Qv) Qv) .ret [a0, undef, t7, undef, a0, t5, t6, t7, undef, undef, undef, undef, undef, undef, undef, undef, undef, undef, undef, undef, undef, undef, undef, undef, undef, undef, undef, undef, undef] h3)
  (aw Try.prog O_catenarylaw11_AcceptBest K_catenarylaw11_AcceptBest_0 (qBlk 0 (qSeq (aw Try.prog O_catenarylaw11_AcceptBest K_catenarylaw11_AcceptBest_1 Qv) Qv)) [a0, undef, (Go.Value.bool false), (Go.Value.int Go.IntKind.i64 0), a0, t5, t6, undef, undef, undef, undef, undef, undef, undef, undef, undef, undef, undef, undef, undef, undef, undef, undef, undef, undef, undef, undef, undef, undef] h2)) := by kernel_rfl
theorem gb_catenarylaw11_AcceptBest (a0 : Value) (h : Hp) (K : Kont) : (oLen 0 a0 h fun t5 h1 =>
  oBin .gtr t5 (Go.Value.int Go.IntKind.i64 8) h1 fun t6 h2 =>
  oIf t6
  (C_catenarylaw11_awake [] h2 fun t7 h3 =>
  (qSeq (aw Try.prog O_catenarylaw11_AcceptBest K_catenarylaw11_AcceptBest_2 (qTop Try.prog Try.f6 K)) (qTop Try.prog Try.f6 K)) .ret [a0, undef, t7, undef, a0, t5, t6, t7, undef, undef, undef, undef, undef, undef, undef, undef, undef, undef, undef, undef, undef, undef, undef, undef, undef, undef, undef, undef, undef] h3)
  (aw Try.prog O_catenarylaw11_AcceptBest K_catenarylaw11_AcceptBest_0 (qBlk 0 (qSeq (aw Try.prog O_catenarylaw11_AcceptBest K_catenarylaw11_AcceptBest_1 (qTop Try.prog Try.f6 K)) (qTop Try.prog Try.f6 K))) [a0, undef, (Go.Value.bool false), (Go.Value.int Go.IntKind.i64 0), a0, t5, t6, undef, undef, undef, undef, undef, undef, undef, undef, undef, undef, undef, undef, undef, undef, undef, undef, undef, undef, undef, undef, undef, undef] h2)) = G_catenarylaw11_AcceptBest a0 h K := by kernel_rfl
theorem gc_catenarylaw11_AcceptBest (a0 : Value) (h : Hp) (K : Kont) : abody Try.prog O_catenarylaw11_AcceptBest Try.f6 (bodyC Try.f6) [a0] h K = aw Try.prog O_catenarylaw11_AcceptBest (bodyC Try.f6) (qTop Try.prog Try.f6 K) [a0, undef, undef, undef, undef, undef, undef, undef, undef, undef, undef, undef, undef, undef, undef, undef, undef, undef, undef, undef, undef, undef, undef, undef, undef, undef, undef, undef, undef] h := by kernel_rfl
theorem eq_catenarylaw11_AcceptBest (a0 : Value) (h : Hp) (K : Kont) : abody Try.prog O_catenarylaw11_AcceptBest Try.f6 (bodyC Try.f6) [a0] h K = G_catenarylaw11_AcceptBest a0 h K := (gc_catenarylaw11_AcceptBest a0 h K).trans ((ga_catenarylaw11_AcceptBest _ a0 h).trans (gb_catenarylaw11_AcceptBest a0 h K))
theorem ok_catenarylaw11_AcceptBest {a0 : Value} {h : Hp} {K : Kont} (hk : G_catenarylaw11_AcceptBest a0 h K) : C_catenarylaw11_AcceptBest [a0] h K := ac_of_body prog_mixed (fn := Try.f6) Try.func6 (c := bodyC Try.f6) (by kernel_rfl) ((eq_catenarylaw11_AcceptBest a0 h K).mpr hk)
def B_catenarylaw11_AcceptBest_1 (K : Kont) (s0 : Self) (v0 : Value) (v3 : Value) (d : Nat → Value) (h : Hp) : Prop :=
  oLen 0 v0 h fun t10 h1 =>
  oBin .lss v3 t10 h1 fun t11 h2 =>
  oIf t11
  (oIdxS 1 v0 v3 h2 fun t16 h3 =>
  oLd1 t16 h3 fun t17 h4 =>
  oLen 0 t17 h4 fun t18 h5 =>
  oBin .gtr t18 (Go.Value.int Go.IntKind.i64 40) h5 fun t19 h6 =>
  oIf t19
  (C_catenarylaw11_awake [] h6 fun t20 h7 =>
  K t20 h7)
  (oBin .add v3 (Go.Value.int Go.IntKind.i64 1) h6 fun t13 h8 =>
  s0 (E_catenarylaw11_AcceptBest_1 v0 t13 (dl [v0, (d 1), (d 2), t13, (d 4), (d 5), (d 6), (d 7), v3, v0, t10, t11, v3, t13, v0, v3, t16, t17, t18, t19, (d 20), (d 21), (d 22), (d 23), (d 24), (d 25), (d 26), (d 27), (d 28)])) h8))
  (C_accept_Best [v0] h2 fun t22 h9 =>
  C_catenaryref11_Best [v0] h9 fun t24 h10 =>
  C_catenaryref10_SameVotes [t22, t24] h10 fun t25 h11 =>
  oGuard t25 true (fun K => C_catenarylaw11_awake [] h11 K) h11 fun t27 h12 =>
  oPick t25 t27 (Go.Value.bool false) h12 fun t28 h13 =>
  K t28 h13)
theorem ga_catenarylaw11_AcceptBest_1 (Qv : Post) (v0 : Value) (v3 : Value) (d : Nat → Value) (h : Hp) : aw Try.prog O_catenarylaw11_AcceptBest K_catenarylaw11_AcceptBest_3 Qv (E_catenarylaw11_AcceptBest_1 v0 v3 d) h = (oLen 0 v0 h fun t10 h1 =>
  oBin .lss v3 t10 h1 fun t11 h2 =>
  oIf t11
  (oIdxS 1 v0 v3 h2 fun t16 h3 =>
  oLd1 t16 h3 fun t17 h4 =>
  oLen 0 t17 h4 fun t18 h5 =>
  oBin .gtr t18 (Go.Value.int Go.IntKind.i64 40) h5 fun t19 h6 =>
  oIf t19
  (C_catenarylaw11_awake [] h6 fun t20 h7 =>
  (qBlk 1 (qSeq (aw Try.prog O_catenarylaw11_AcceptBest K_catenarylaw11_AcceptBest_4 Qv) Qv)) .ret [v0, (d 1), t20, v3, (d 4), (d 5), (d 6), (d 7), v3, v0, t10, t11, (d 12), (d 13), v0, v3, t16, t17, t18, t19, t20, (d 21), (d 22), (d 23), (d 24), (d 25), (d 26), (d 27), (d 28)] h7)
  (oBin .add v3 (Go.Value.int Go.IntKind.i64 1) h6 fun t13 h8 =>
  Qv .normal [v0, (d 1), (d 2), t13, (d 4), (d 5), (d 6), (d 7), v3, v0, t10, t11, v3, t13, v0, v3, t16, t17, t18, t19, (d 20), (d 21), (d 22), (d 23), (d 24), (d 25), (d 26), (d 27), (d 28)] h8))
  ((qSeq (aw Try.prog O_catenarylaw11_AcceptBest K_catenarylaw11_AcceptBest_5 Qv) Qv) (.exit 0) [v0, (d 1), (d 2), v3, (d 4), (d 5), (d 6), (d 7), v3, v0, t10, t11, (d 12), (d 13), (d 14), (d 15), (d 16), (d 17), (d 18), (d 19), (d 20), (d 21), (d 22), (d 23), (d 24), (d 25), (d 26), (d 27), (d 28)] h2)) := by kernel_rfl
theorem gb_catenarylaw11_AcceptBest_1 (K : Kont) (s0 : Self) (v0 : Value) (v3 : Value) (d : Nat → Value) (h : Hp) : (oLen 0 v0 h fun t10 h1 =>
  oBin .lss v3 t10 h1 fun t11 h2 =>
  oIf t11
  (oIdxS 1 v0 v3 h2 fun t16 h3 =>
  oLd1 t16 h3 fun t17 h4 =>
  oLen 0 t17 h4 fun t18 h5 =>
  oBin .gtr t18 (Go.Value.int Go.IntKind.i64 40) h5 fun t19 h6 =>
  oIf t19
  (C_catenarylaw11_awake [] h6 fun t20 h7 =>
  (qBlk 1 (qSeq (aw Try.prog O_catenarylaw11_AcceptBest K_catenarylaw11_AcceptBest_4 (Q_catenarylaw11_AcceptBest_2 K s0)) (Q_catenarylaw11_AcceptBest_2 K s0))) .ret [v0, (d 1), t20, v3, (d 4), (d 5), (d 6), (d 7), v3, v0, t10, t11, (d 12), (d 13), v0, v3, t16, t17, t18, t19, t20, (d 21), (d 22), (d 23), (d 24), (d 25), (d 26), (d 27), (d 28)] h7)
  (oBin .add v3 (Go.Value.int Go.IntKind.i64 1) h6 fun t13 h8 =>
  (Q_catenarylaw11_AcceptBest_2 K s0) .normal [v0, (d 1), (d 2), t13, (d 4), (d 5), (d 6), (d 7), v3, v0, t10, t11, v3, t13, v0, v3, t16, t17, t18, t19, (d 20), (d 21), (d 22), (d 23), (d 24), (d 25), (d 26), (d 27), (d 28)] h8))
  ((qSeq (aw Try.prog O_catenarylaw11_AcceptBest K_catenarylaw11_AcceptBest_5 (Q_catenarylaw11_AcceptBest_2 K s0)) (Q_catenarylaw11_AcceptBest_2 K s0)) (.exit 0) [v0, (d 1), (d 2), v3, (d 4), (d 5), (d 6), (d 7), v3, v0, t10, t11, (d 12), (d 13), (d 14), (d 15), (d 16), (d 17), (d 18), (d 19), (d 20), (d 21), (d 22), (d 23), (d 24), (d 25), (d 26), (d 27), (d 28)] h2)) = B_catenarylaw11_AcceptBest_1 K s0 v0 v3 d h := by kernel_rfl
theorem beq_catenarylaw11_AcceptBest_1 (K : Kont) (s0 : Self) (v0 : Value) (v3 : Value) (d : Nat → Value) (h : Hp) : aw Try.prog O_catenarylaw11_AcceptBest K_catenarylaw11_AcceptBest_3 (Q_catenarylaw11_AcceptBest_2 K s0) (E_catenarylaw11_AcceptBest_1 v0 v3 d) h = B_catenarylaw11_AcceptBest_1 K s0 v0 v3 d h := (ga_catenarylaw11_AcceptBest_1 _ v0 v3 d h).trans (gb_catenarylaw11_AcceptBest_1 K s0 v0 v3 d h)
theorem rule_catenarylaw11_AcceptBest_1 {K : Kont} {v0 : Value} (Inv : Value → Hp → Prop) (μ : Value → Hp → Nat)
    (step : ∀ (s0 : Self) (v3 : Value) (d : Nat → Value) (h : Hp), Inv v3 h → (∀ (v3' : Value) (d' : Nat → Value) (h' : Hp), Inv v3' h' → μ v3' h' < μ v3 h → s0 (E_catenarylaw11_AcceptBest_1 v0 v3' d') h') → B_catenarylaw11_AcceptBest_1 K s0 v0 v3 d h) (v3 : Value) (d : Nat → Value) (h : Hp) (hi : Inv v3 h) : G_catenarylaw11_AcceptBest_1 K v0 v3 d h :=
  oLoop_rule (α := Value × (Nat → Value)) (fun x => E_catenarylaw11_AcceptBest_1 v0 x.1 x.2) (fun x h => Inv x.1 h) (fun x h => μ x.1 h)
    (fun self x h hx hs => (beq_catenarylaw11_AcceptBest_1 K self v0 x.1 x.2 h).mpr (step self x.1 x.2 h hx (fun v3' d' h' h1 h2 => hs ⟨v3', d'⟩ h' h1 h2))) ⟨v3, d⟩ h hi

/-! ### catenary/accept.New: function 11 -/
def O_accept_New : Od := []
def G_accept_New (h : Hp) (K : Kont) : Prop :=
  oMakeMap h fun t1 h1 =>
  oBuild #[.int .u64 0, .map none] [(1, 1, t1)] h1 fun t2 h2 =>
  oBox t2 h2 fun t3 h3 =>
  K t3 h3
theorem ga_accept_New (Qv : Post) (h : Hp) : aw Try.prog O_accept_New (bodyC Try.f11) Qv [undef, undef, undef, undef] h = (oMakeMap h fun t1 h1 =>
  oBuild #[.int .u64 0, .map none] [(1, 1, t1)] h1 fun t2 h2 =>
  oBox t2 h2 fun t3 h3 =>
  Qv .ret [t3, t1, t2, t3] h3) := by kernel_rfl
theorem gb_accept_New (h : Hp) (K : Kont) : (oMakeMap h fun t1 h1 =>
  oBuild #[.int .u64 0, .map none] [(1, 1, t1)] h1 fun t2 h2 =>
  oBox t2 h2 fun t3 h3 =>
  (qTop Try.prog Try.f11 K) .ret [t3, t1, t2, t3] h3) = G_accept_New  h K := by kernel_rfl
theorem gc_accept_New (h : Hp) (K : Kont) : abody Try.prog O_accept_New Try.f11 (bodyC Try.f11) [] h K = aw Try.prog O_accept_New (bodyC Try.f11) (qTop Try.prog Try.f11 K) [undef, undef, undef, undef] h := by kernel_rfl
theorem eq_accept_New (h : Hp) (K : Kont) : abody Try.prog O_accept_New Try.f11 (bodyC Try.f11) [] h K = G_accept_New  h K := (gc_accept_New  h K).trans ((ga_accept_New _  h).trans (gb_accept_New  h K))
theorem ok_accept_New {h : Hp} {K : Kont} (hk : G_accept_New  h K) : C_accept_New [] h K := ac_of_body prog_mixed (fn := Try.f11) Try.func11 (c := bodyC Try.f11) (by kernel_rfl) ((eq_accept_New  h K).mpr hk)

/-! ### catenary/catenarylaw11.step: function 12 -/
def O_catenarylaw11_step : Od := [(4, (.one 0 true (.one 1 true (.one 2 true (.one 3 false (.one 4 true (.one 5 true (.one 6 true (.one 7 true (.one 8 true (.one 9 false (.one 10 true .nil)))))))))))), (6, (.one 0 true (.one 1 true (.one 2 true (.one 3 true (.one 4 true (.one 5 true (.one 6 true (.one 7 true (.one 9 true (.one 8 false (.one 10 true (.one 11 false (.one 12 true .nil))))))))))))))]
noncomputable def K_catenarylaw11_step_0 : Code := (cB (cB (bodyC Try.f12)))
def G_catenarylaw11_step (a0 a1 a2 : Value) (h : Hp) (K : Kont) : Prop :=
  oBox a1 h fun t4 h1 =>
  oBox a2 h1 fun t5 h2 =>
  oAlloc #[.int .u64 0, .slice none 0 0] h2 fun t6 h3 =>
  oFieldAddr 0 t5 h3 fun t15 h4 =>
  oLd1 t15 h4 fun t16 h5 =>
  oBin .eql t16 (Go.Value.int Go.IntKind.i64 0) h5 fun t17 h6 =>
  oIf t17
  (oFieldAddr 1 t5 h6 fun t20 h7 =>
  oLd1 t20 h7 fun t21 h8 =>
  oFieldAddr 2 t5 h8 fun t22 h9 =>
  oLd1 t22 h9 fun t23 h10 =>
  C_accept_Acceptor_Prepare [a0, t21, t23] h10 fun t24 h11 =>
  oExtract t24 0 h11 fun t25 h12 =>
  oExtract t24 1 h12 fun t26 h13 =>
  oLdN 2 t4 h13 fun t28 h14 =>
  oFieldAddr 1 t5 h14 fun t29 h15 =>
  oLd1 t29 h15 fun t30 h16 =>
  oFieldAddr 2 t5 h16 fun t31 h17 =>
  oLd1 t31 h17 fun t32 h18 =>
  C_catenaryref11_Prepare [t28, t30, t32] h18 fun t33 h19 =>
  oExtract t33 0 h19 fun t34 h20 =>
  oExtract t33 1 h20 fun t35 h21 =>
  oExtract t33 2 h21 fun t36 h22 =>
  oAlloc #[.int .u64 0, .slice none 0 0] h22 fun t10 h23 =>
  oSt 2 t10 t34 h23 fun _ h24 =>
  oLdN 2 t10 h24 fun t37 h25 =>
  C_catenaryref10_SameVotes [t25, t35] h25 fun t40 h26 =>
  ((oLdN 2 t10 h25 (fun v' _ => v' = t37) → oLdN 2 t10 h26 (fun v' _ => v' = t37)) ∧ True) ∧
  oGuard t40 true (fun K => K t26 h26) h26 fun t42 h27 =>
  oGuard t40 true (fun K => K t36 h27) h27 fun t43 h28 =>
  oGuard t40 true (fun K => oBin .eql t42 t43 h28 K) h28 fun t44 h29 =>
  oPick t40 t44 (Go.Value.bool false) h29 fun t45 h30 =>
  oSt 2 t6 t37 h30 fun _ h31 =>
  (True) ∧
  oLdN 2 t6 h31 fun r1 _ =>
  K (.tuple #[r1, t45]) h31)
  (oLdN 2 t4 h6 fun t47 h32 =>
  oFieldAddr 1 t5 h32 fun t48 h33 =>
  oLd1 t48 h33 fun t49 h34 =>
  oFieldAddr 2 t5 h34 fun t50 h35 =>
  oLd1 t50 h35 fun t51 h36 =>
  oFieldAddr 3 t5 h36 fun t52 h37 =>
  oLdN 4 t52 h37 fun t53 h38 =>
  C_catenaryref11_Accept [t47, t49, t51, t53] h38 fun t54 h39 =>
  oExtract t54 0 h39 fun t55 h40 =>
  oExtract t54 1 h40 fun t56 h41 =>
  oAlloc #[.int .u64 0, .slice none 0 0] h41 fun t13 h42 =>
  oSt 2 t13 t55 h42 fun _ h43 =>
  oLdN 2 t13 h43 fun t57 h44 =>
  oFieldAddr 1 t5 h44 fun t59 h45 =>
  oLd1 t59 h45 fun t60 h46 =>
  oFieldAddr 2 t5 h46 fun t61 h47 =>
  oLd1 t61 h47 fun t62 h48 =>
  oFieldAddr 3 t5 h48 fun t63 h49 =>
  oLdN 4 t63 h49 fun t64 h50 =>
  C_accept_Acceptor_Accept [a0, t60, t62, t64] h50 fun t65 h51 =>
  ((oLdN 2 t13 h50 (fun v' _ => v' = t57) → oLdN 2 t13 h51 (fun v' _ => v' = t57)) ∧ True) ∧
  oBin .eql t65 t56 h51 fun t67 h52 =>
  oSt 2 t6 t57 h52 fun _ h53 =>
  ((oLdN 4 t63 h52 (fun v' _ => v' = t64) → oLdN 4 t63 h53 (fun v' _ => v' = t64)) ∧ (oLd1 t61 h52 (fun v' _ => v' = t62) → oLd1 t61 h53 (fun v' _ => v' = t62)) ∧ (oLd1 t59 h52 (fun v' _ => v' = t60) → oLd1 t59 h53 (fun v' _ => v' = t60)) ∧ True) ∧
  oLdN 2 t6 h53 fun r2 _ =>
  K (.tuple #[r2, t67]) h53)
theorem ga_catenarylaw11_step (Qv : Post) (a0 a1 a2 : Value) (h : Hp) : aw Try.prog O_catenarylaw11_step (bodyC Try.f12) Qv [a0, a1, a2, undef, undef, undef, undef, undef, undef, undef, undef, undef, undef, undef, undef, undef, undef, undef, undef, undef, undef, undef, undef, undef, undef, undef, undef, undef, undef, undef, undef, undef, undef, undef, undef, undef, undef, undef, undef, undef, undef, undef, undef, undef, undef, undef, undef, undef, undef, undef, undef, undef, undef, undef, undef, undef, undef, undef, undef, undef, undef, undef, undef, undef, undef, undef, undef, undef] h = (oBox a1 h fun t4 h1 =>
  oBox a2 h1 fun t5 h2 =>
  oAlloc #[.int .u64 0, .slice none 0 0] h2 fun t6 h3 =>
  oFieldAddr 0 t5 h3 fun t15 h4 =>
  oLd1 t15 h4 fun t16 h5 =>
  oBin .eql t16 (Go.Value.int Go.IntKind.i64 0) h5 fun t17 h6 =>
  oIf t17
  (oFieldAddr 1 t5 h6 fun t20 h7 =>
  oLd1 t20 h7 fun t21 h8 =>
  oFieldAddr 2 t5 h8 fun t22 h9 =>
  oLd1 t22 h9 fun t23 h10 =>
  C_accept_Acceptor_Prepare [a0, t21, t23] h10 fun t24 h11 =>
  oExtract t24 0 h11 fun t25 h12 =>
  oExtract t24 1 h12 fun t26 h13 =>
  oLdN 2 t4 h13 fun t28 h14 =>
  oFieldAddr 1 t5 h14 fun t29 h15 =>
  oLd1 t29 h15 fun t30 h16 =>
  oFieldAddr 2 t5 h16 fun t31 h17 =>
  oLd1 t31 h17 fun t32 h18 =>
  C_catenaryref11_Prepare [t28, t30, t32] h18 fun t33 h19 =>
  oExtract t33 0 h19 fun t34 h20 =>
  oExtract t33 1 h20 fun t35 h21 =>
  oExtract t33 2 h21 fun t36 h22 =>
  oAlloc #[.int .u64 0, .slice none 0 0] h22 fun t10 h23 =>
  oSt 2 t10 t34 h23 fun _ h24 =>
  oLdN 2 t10 h24 fun t37 h25 =>
  C_catenaryref10_SameVotes [t25, t35] h25 fun t40 h26 =>
  ((oLdN 2 t10 h25 (fun v' _ => v' = t37) → oLdN 2 t10 h26 (fun v' _ => v' = t37)) ∧ True) ∧
  oGuard t40 true (fun K => K t26 h26) h26 fun t42 h27 =>
  oGuard t40 true (fun K => K t36 h27) h27 fun t43 h28 =>
  oGuard t40 true (fun K => oBin .eql t42 t43 h28 K) h28 fun t44 h29 =>
  oPick t40 t44 (Go.Value.bool false) h29 fun t45 h30 =>
  oSt 2 t6 t37 h30 fun _ h31 =>
  (True) ∧
  (qSeq (aw Try.prog O_catenarylaw11_step K_catenarylaw11_step_0 Qv) Qv) .ret [a0, a1, a2, undef, t4, t5, t6, t45, t25, t26, t10, t35, t36, undef, undef, t15, t16, t17, t24, a0, t20, t21, t22, t23, t24, t25, t26, t33, t28, t29, t30, t31, t32, t33, t34, t35, t36, t37, t25, t35, t40, t40, t42, t43, t44, t45, undef, undef, undef, undef, undef, undef, undef, undef, undef, undef, undef, undef, undef, undef, undef, undef, undef, undef, undef, undef, undef, undef] h31)
  (oLdN 2 t4 h6 fun t47 h32 =>
  oFieldAddr 1 t5 h32 fun t48 h33 =>
  oLd1 t48 h33 fun t49 h34 =>
  oFieldAddr 2 t5 h34 fun t50 h35 =>
  oLd1 t50 h35 fun t51 h36 =>
  oFieldAddr 3 t5 h36 fun t52 h37 =>
  oLdN 4 t52 h37 fun t53 h38 =>
  C_catenaryref11_Accept [t47, t49, t51, t53] h38 fun t54 h39 =>
  oExtract t54 0 h39 fun t55 h40 =>
  oExtract t54 1 h40 fun t56 h41 =>
  oAlloc #[.int .u64 0, .slice none 0 0] h41 fun t13 h42 =>
  oSt 2 t13 t55 h42 fun _ h43 =>
  oLdN 2 t13 h43 fun t57 h44 =>
  oFieldAddr 1 t5 h44 fun t59 h45 =>
  oLd1 t59 h45 fun t60 h46 =>
  oFieldAddr 2 t5 h46 fun t61 h47 =>
  oLd1 t61 h47 fun t62 h48 =>
  oFieldAddr 3 t5 h48 fun t63 h49 =>
  oLdN 4 t63 h49 fun t64 h50 =>
  C_accept_Acceptor_Accept [a0, t60, t62, t64] h50 fun t65 h51 =>
  ((oLdN 2 t13 h50 (fun v' _ => v' = t57) → oLdN 2 t13 h51 (fun v' _ => v' = t57)) ∧ True) ∧
  oBin .eql t65 t56 h51 fun t67 h52 =>
  oSt 2 t6 t57 h52 fun _ h53 =>
  ((oLdN 4 t63 h52 (fun v' _ => v' = t64) → oLdN 4 t63 h53 (fun v' _ => v' = t64)) ∧ (oLd1 t61 h52 (fun v' _ => v' = t62) → oLd1 t61 h53 (fun v' _ => v' = t62)) ∧ (oLd1 t59 h52 (fun v' _ => v' = t60) → oLd1 t59 h53 (fun v' _ => v' = t60)) ∧ True) ∧
  Qv .ret [a0, a1, a2, undef, t4, t5, t6, t67, undef, undef, undef, undef, undef, t13, t56, t15, t16, t17, undef, undef, undef, undef, undef, undef, undef, undef, undef, undef, undef, undef, undef, undef, undef, undef, undef, undef, undef, undef, undef, undef, undef, undef, undef, undef, undef, undef, t54, t47, t48, t49, t50, t51, t52, t53, t54, t55, t56, t57, a0, t59, t60, t61, t62, t63, t64, t65, t56, t67] h53)) := by kernel_rfl
theorem gb_catenarylaw11_step (a0 a1 a2 : Value) (h : Hp) (K : Kont) : (oBox a1 h fun t4 h1 =>
  oBox a2 h1 fun t5 h2 =>
  oAlloc #[.int .u64 0, .slice none 0 0] h2 fun t6 h3 =>
  oFieldAddr 0 t5 h3 fun t15 h4 =>
  oLd1 t15 h4 fun t16 h5 =>
  oBin .eql t16 (Go.Value.int Go.IntKind.i64 0) h5 fun t17 h6 =>
  oIf t17
  (oFieldAddr 1 t5 h6 fun t20 h7 =>
  oLd1 t20 h7 fun t21 h8 =>
  oFieldAddr 2 t5 h8 fun t22 h9 =>
  oLd1 t22 h9 fun t23 h10 =>
  C_accept_Acceptor_Prepare [a0, t21, t23] h10 fun t24 h11 =>
  oExtract t24 0 h11 fun t25 h12 =>
  oExtract t24 1 h12 fun t26 h13 =>
  oLdN 2 t4 h13 fun t28 h14 =>
  oFieldAddr 1 t5 h14 fun t29 h15 =>
  oLd1 t29 h15 fun t30 h16 =>
  oFieldAddr 2 t5 h16 fun t31 h17 =>
  oLd1 t31 h17 fun t32 h18 =>
  C_catenaryref11_Prepare [t28, t30, t32] h18 fun t33 h19 =>
  oExtract t33 0 h19 fun t34 h20 =>
  oExtract t33 1 h20 fun t35 h21 =>
  oExtract t33 2 h21 fun t36 h22 =>
  oAlloc #[.int .u64 0, .slice none 0 0] h22 fun t10 h23 =>
  oSt 2 t10 t34 h23 fun _ h24 =>
  oLdN 2 t10 h24 fun t37 h25 =>
  C_catenaryref10_SameVotes [t25, t35] h25 fun t40 h26 =>
  ((oLdN 2 t10 h25 (fun v' _ => v' = t37) → oLdN 2 t10 h26 (fun v' _ => v' = t37)) ∧ True) ∧
  oGuard t40 true (fun K => K t26 h26) h26 fun t42 h27 =>
  oGuard t40 true (fun K => K t36 h27) h27 fun t43 h28 =>
  oGuard t40 true (fun K => oBin .eql t42 t43 h28 K) h28 fun t44 h29 =>
  oPick t40 t44 (Go.Value.bool false) h29 fun t45 h30 =>
  oSt 2 t6 t37 h30 fun _ h31 =>
  (True) ∧
  (qSeq (aw Try.prog O_catenarylaw11_step K_catenarylaw11_step_0 (qTop Try.prog Try.f12 K)) (qTop Try.prog Try.f12 K)) .ret [a0, a1, a2, undef, t4, t5, t6, t45, t25, t26, t10, t35, t36, undef, undef, t15, t16, t17, t24, a0, t20, t21, t22, t23, t24, t25, t26, t33, t28, t29, t30, t31, t32, t33, t34, t35, t36, t37, t25, t35, t40, t40, t42, t43, t44, t45, undef, undef, undef, undef, undef, undef, undef, undef, undef, undef, undef, undef, undef, undef, undef, undef, undef, undef, undef, undef, undef, undef] h31)
  (oLdN 2 t4 h6 fun t47 h32 =>
  oFieldAddr 1 t5 h32 fun t48 h33 =>
  oLd1 t48 h33 fun t49 h34 =>
  oFieldAddr 2 t5 h34 fun t50 h35 =>
  oLd1 t50 h35 fun t51 h36 =>
  oFieldAddr 3 t5 h36 fun t52 h37 =>
  oLdN 4 t52 h37 fun t53 h38 =>
  C_catenaryref11_Accept [t47, t49, t51, t53] h38 fun t54 h39 =>
  oExtract t54 0 h39 fun t55 h40 =>
  oExtract t54 1 h40 fun t56 h41 =>
  oAlloc #[.int .u64 0, .slice none 0 0] h41 fun t13 h42 =>
  oSt 2 t13 t55 h42 fun _ h43 =>
  oLdN 2 t13 h43 fun t57 h44 =>
  oFieldAddr 1 t5 h44 fun t59 h45 =>
  oLd1 t59 h45 fun t60 h46 =>
  oFieldAddr 2 t5 h46 fun t61 h47 =>
  oLd1 t61 h47 fun t62 h48 =>
  oFieldAddr 3 t5 h48 fun t63 h49 =>
  oLdN 4 t63 h49 fun t64 h50 =>
  C_accept_Acceptor_Accept [a0, t60, t62, t64] h50 fun t65 h51 =>
  ((oLdN 2 t13 h50 (fun v' _ => v' = t57) → oLdN 2 t13 h51 (fun v' _ => v' = t57)) ∧ True) ∧
  oBin .eql t65 t56 h51 fun t67 h52 =>
  oSt 2 t6 t57 h52 fun _ h53 =>
  ((oLdN 4 t63 h52 (fun v' _ => v' = t64) → oLdN 4 t63 h53 (fun v' _ => v' = t64)) ∧ (oLd1 t61 h52 (fun v' _ => v' = t62) → oLd1 t61 h53 (fun v' _ => v' = t62)) ∧ (oLd1 t59 h52 (fun v' _ => v' = t60) → oLd1 t59 h53 (fun v' _ => v' = t60)) ∧ True) ∧
  (qTop Try.prog Try.f12 K) .ret [a0, a1, a2, undef, t4, t5, t6, t67, undef, undef, undef, undef, undef, t13, t56, t15, t16, t17, undef, undef, undef, undef, undef, undef, undef, undef, undef, undef, undef, undef, undef, undef, undef, undef, undef, undef, undef, undef, undef, undef, undef, undef, undef, undef, undef, undef, t54, t47, t48, t49, t50, t51, t52, t53, t54, t55, t56, t57, a0, t59, t60, t61, t62, t63, t64, t65, t56, t67] h53)) = G_catenarylaw11_step a0 a1 a2 h K := by kernel_rfl
theorem gc_catenarylaw11_step (a0 a1 a2 : Value) (h : Hp) (K : Kont) : abody Try.prog O_catenarylaw11_step Try.f12 (bodyC Try.f12) [a0, a1, a2] h K = aw Try.prog O_catenarylaw11_step (bodyC Try.f12) (qTop Try.prog Try.f12 K) [a0, a1, a2, undef, undef, undef, undef, undef, undef, undef, undef, undef, undef, undef, undef, undef, undef, undef, undef, undef, undef, undef, undef, undef, undef, undef, undef, undef, undef, undef, undef, undef, undef, undef, undef, undef, undef, undef, undef, undef, undef, undef, undef, undef, undef, undef, undef, undef, undef, undef, undef, undef, undef, undef, undef, undef, undef, undef, undef, undef, undef, undef, undef, undef, undef, undef, undef, undef] h := by kernel_rfl
theorem eq_catenarylaw11_step (a0 a1 a2 : Value) (h : Hp) (K : Kont) : abody Try.prog O_catenarylaw11_step Try.f12 (bodyC Try.f12) [a0, a1, a2] h K = G_catenarylaw11_step a0 a1 a2 h K := (gc_catenarylaw11_step a0 a1 a2 h K).trans ((ga_catenarylaw11_step _ a0 a1 a2 h).trans (gb_catenarylaw11_step a0 a1 a2 h K))
theorem ok_catenarylaw11_step {a0 a1 a2 : Value} {h : Hp} {K : Kont} (hk : G_catenarylaw11_step a0 a1 a2 h K) : C_catenarylaw11_step [a0, a1, a2] h K := ac_of_body prog_mixed (fn := Try.f12) Try.func12 (c := bodyC Try.f12) (by kernel_rfl) ((eq_catenarylaw11_step a0 a1 a2 h K).mpr hk)

/-! ### (*catenary/accept.Acceptor).Vote: function 13 -/
def O_accept_Acceptor_Vote : Od := []
noncomputable def K_accept_Acceptor_Vote_0 : Code := (cB (cB (bodyC Try.f13)))
def G_accept_Acceptor_Vote (a0 a1 : Value) (h : Hp) (K : Kont) : Prop :=
  oAlloc #[.int .i64 0, .int .u64 0, .int .i64 0, .int .i64 0, .int .u64 0, .int .i64 0] h fun t4 h1 =>
  oEq 1 false none a0 (Go.Value.pointer none) h1 fun t9 h2 =>
  oIf t9
  (oBuild #[.int .i64 0, .int .u64 0, .int .i64 0, .int .i64 0, .int .u64 0, .int .i64 0] [] h2 fun t10 h3 =>
  oSt 6 t4 t10 h3 fun _ h4 =>
  oLdN 6 t4 h4 fun r1 _ =>
  K (.tuple #[r1, (Go.Value.bool false)]) h4)
  (oNilCheck a0 h2 fun t13 h5 =>
  oFieldAddr 1 t13 h5 fun t14 h6 =>
  oLd1 t14 h6 fun t15 h7 =>
  oLookup (.int .i64) (.agg #[.int .i64 0, .int .u64 0, .int .i64 0, .int .i64 0, .int .u64 0, .int .i64 0]) t15 a1 true h7 fun t17 h8 =>
  oExtract t17 0 h8 fun t18 h9 =>
  oExtract t17 1 h9 fun t19 h10 =>
  oAlloc #[.int .i64 0, .int .u64 0, .int .i64 0, .int .i64 0, .int .u64 0, .int .i64 0] h10 fun t6 h11 =>
  oSt 6 t6 t18 h11 fun _ h12 =>
  oLdN 6 t6 h12 fun t20 h13 =>
  oSt 6 t4 t20 h13 fun _ h14 =>
  oLdN 6 t4 h14 fun r2 _ =>
  K (.tuple #[r2, t19]) h14)
theorem ga_accept_Acceptor_Vote (Qv : Post) (a0 a1 : Value) (h : Hp) : aw Try.prog O_accept_Acceptor_Vote (bodyC Try.f13) Qv [a0, a1, undef, undef, undef, undef, undef, undef, undef, undef, undef, undef, undef, undef, undef, undef, undef, undef, undef, undef, undef, undef] h = (oAlloc #[.int .i64 0, .int .u64 0, .int .i64 0, .int .i64 0, .int .u64 0, .int .i64 0] h fun t4 h1 =>
  oEq 1 false none a0 (Go.Value.pointer none) h1 fun t9 h2 =>
  oIf t9
  (oBuild #[.int .i64 0, .int .u64 0, .int .i64 0, .int .i64 0, .int .u64 0, .int .i64 0] [] h2 fun t10 h3 =>
  oSt 6 t4 t10 h3 fun _ h4 =>
  (qSeq (aw Try.prog O_accept_Acceptor_Vote K_accept_Acceptor_Vote_0 Qv) Qv) .ret [a0, a1, undef, undef, t4, (Go.Value.bool false), undef, undef, a0, t9, t10, undef, undef, undef, undef, undef, undef, undef, undef, undef, undef, undef] h4)
  (oNilCheck a0 h2 fun t13 h5 =>
  oFieldAddr 1 t13 h5 fun t14 h6 =>
  oLd1 t14 h6 fun t15 h7 =>
  oLookup (.int .i64) (.agg #[.int .i64 0, .int .u64 0, .int .i64 0, .int .i64 0, .int .u64 0, .int .i64 0]) t15 a1 true h7 fun t17 h8 =>
  oExtract t17 0 h8 fun t18 h9 =>
  oExtract t17 1 h9 fun t19 h10 =>
  oAlloc #[.int .i64 0, .int .u64 0, .int .i64 0, .int .i64 0, .int .u64 0, .int .i64 0] h10 fun t6 h11 =>
  oSt 6 t6 t18 h11 fun _ h12 =>
  oLdN 6 t6 h12 fun t20 h13 =>
  oSt 6 t4 t20 h13 fun _ h14 =>
  Qv .ret [a0, a1, undef, undef, t4, t19, t6, t19, a0, t9, undef, t17, a0, t13, t14, t15, a1, t17, t18, t19, t20, t19] h14)) := by kernel_rfl
theorem gb_accept_Acceptor_Vote (a0 a1 : Value) (h : Hp) (K : Kont) : (oAlloc #[.int .i64 0, .int .u64 0, .int .i64 0, .int .i64 0, .int .u64 0, .int .i64 0] h fun t4 h1 =>
  oEq 1 false none a0 (Go.Value.pointer none) h1 fun t9 h2 =>
  oIf t9
  (oBuild #[.int .i64 0, .int .u64 0, .int .i64 0, .int .i64 0, .int .u64 0, .int .i64 0] [] h2 fun t10 h3 =>
  oSt 6 t4 t10 h3 fun _ h4 =>
  (qSeq (aw Try.prog O_accept_Acceptor_Vote K_accept_Acceptor_Vote_0 (qTop Try.prog Try.f13 K)) (qTop Try.prog Try.f13 K)) .ret [a0, a1, undef, undef, t4, (Go.Value.bool false), undef, undef, a0, t9, t10, undef, undef, undef, undef, undef, undef, undef, undef, undef, undef, undef] h4)
  (oNilCheck a0 h2 fun t13 h5 =>
  oFieldAddr 1 t13 h5 fun t14 h6 =>
  oLd1 t14 h6 fun t15 h7 =>
  oLookup (.int .i64) (.agg #[.int .i64 0, .int .u64 0, .int .i64 0, .int .i64 0, .int .u64 0, .int .i64 0]) t15 a1 true h7 fun t17 h8 =>
  oExtract t17 0 h8 fun t18 h9 =>
  oExtract t17 1 h9 fun t19 h10 =>
  oAlloc #[.int .i64 0, .int .u64 0, .int .i64 0, .int .i64 0, .int .u64 0, .int .i64 0] h10 fun t6 h11 =>
  oSt 6 t6 t18 h11 fun _ h12 =>
  oLdN 6 t6 h12 fun t20 h13 =>
  oSt 6 t4 t20 h13 fun _ h14 =>
  (qTop Try.prog Try.f13 K) .ret [a0, a1, undef, undef, t4, t19, t6, t19, a0, t9, undef, t17, a0, t13, t14, t15, a1, t17, t18, t19, t20, t19] h14)) = G_accept_Acceptor_Vote a0 a1 h K := by kernel_rfl
theorem gc_accept_Acceptor_Vote (a0 a1 : Value) (h : Hp) (K : Kont) : abody Try.prog O_accept_Acceptor_Vote Try.f13 (bodyC Try.f13) [a0, a1] h K = aw Try.prog O_accept_Acceptor_Vote (bodyC Try.f13) (qTop Try.prog Try.f13 K) [a0, a1, undef, undef, undef, undef, undef, undef, undef, undef, undef, undef, undef, undef, undef, undef, undef, undef, undef, undef, undef, undef] h := by kernel_rfl
theorem eq_accept_Acceptor_Vote (a0 a1 : Value) (h : Hp) (K : Kont) : abody Try.prog O_accept_Acceptor_Vote Try.f13 (bodyC Try.f13) [a0, a1] h K = G_accept_Acceptor_Vote a0 a1 h K := (gc_accept_Acceptor_Vote a0 a1 h K).trans ((ga_accept_Acceptor_Vote _ a0 a1 h).trans (gb_accept_Acceptor_Vote a0 a1 h K))
theorem ok_accept_Acceptor_Vote {a0 a1 : Value} {h : Hp} {K : Kont} (hk : G_accept_Acceptor_Vote a0 a1 h K) : C_accept_Acceptor_Vote [a0, a1] h K := ac_of_body prog_mixed (fn := Try.f13) Try.func13 (c := bodyC Try.f13) (by kernel_rfl) ((eq_accept_Acceptor_Vote a0 a1 h K).mpr hk)

/-! ### catenary/catenaryref11.At: function 14 -/
def O_catenaryref11_At : Od := []
noncomputable def K_catenaryref11_At_0 : Code := (cI (cB (cA (cB (bodyC Try.f14)))))
noncomputable def K_catenaryref11_At_1 : Code := (cB (cB (bodyC Try.f14)))
def Q_catenaryref11_At_0 (K : Kont) : Post := qSeq (aw Try.prog O_catenaryref11_At K_catenaryref11_At_1 (qTop Try.prog Try.f14 K)) (qTop Try.prog Try.f14 K)
def Q_catenaryref11_At_1 (K : Kont) : Post := qBlk 0 (Q_catenaryref11_At_0 K)
def E_catenaryref11_At_1 (v0 : Value) (v1 : Value) (v4 : Value) (v6 : Value) (d : Nat → Value) : List Value := [v0, v1, d 2, d 3, v4, d 5, v6, d 7, d 8, d 9, d 10, d 11, d 12, d 13, d 14, d 15, d 16, d 17, d 18, d 19, d 20, d 21, d 22, d 23, d 24]
def G_catenaryref11_At_1 (K : Kont) (v0 : Value) (v1 : Value) (v4 : Value) (v6 : Value) (d : Nat → Value) (h : Hp) : Prop := aw Try.prog O_catenaryref11_At K_catenaryref11_At_0 (Q_catenaryref11_At_1 K) (E_catenaryref11_At_1 v0 v1 v4 v6 d) h
def Q_catenaryref11_At_2 (K : Kont) (s0 : Self) : Post := qSeq s0 (Q_catenaryref11_At_1 K)
noncomputable def K_catenaryref11_At_2 : Code := (cI (cI (cB (cA (cB (bodyC Try.f14))))))
noncomputable def K_catenaryref11_At_3 : Code := (cB (cB (cI (cI (cB (cA (cB (bodyC Try.f14))))))))
noncomputable def K_catenaryref11_At_4 : Code := (cB (cI (cI (cB (cA (cB (bodyC Try.f14)))))))
def G_catenaryref11_At (a0 a1 : Value) (h : Hp) (K : Kont) : Prop :=
  oAlloc #[.int .i64 0, .int .u64 0, .int .i64 0, .int .i64 0, .int .u64 0, .int .i64 0] h fun t4 h1 =>
  G_catenaryref11_At_1 K a0 a1 t4 (Go.Value.int Go.IntKind.i64 0) (dl [a0, a1, undef, undef, t4, (Go.Value.bool false), (Go.Value.int Go.IntKind.i64 0), undef, undef, undef, undef, undef, undef, undef, undef, undef, undef, undef, undef, undef, undef, undef, undef, undef, undef]) h1
theorem ga_catenaryref11_At (Qv : Post) (a0 a1 : Value) (h : Hp) : aw Try.prog O_catenaryref11_At (bodyC Try.f14) Qv [a0, a1, undef, undef, undef, undef, undef, undef, undef, undef, undef, undef, undef, undef, undef, undef, undef, undef, undef, undef, undef, undef, undef, undef, undef] h = (oAlloc #[.int .i64 0, .int .u64 0, .int .i64 0, .int .i64 0, .int .u64 0, .int .i64 0] h fun t4 h1 =>
  aw Try.prog O_catenaryref11_At K_catenaryref11_At_0 (qBlk 0 (qSeq (aw Try.prog O_catenaryref11_At K_catenaryref11_At_1 Qv) Qv)) [a0, a1, undef, undef, t4, (Go.Value.bool false), (Go.Value.int Go.IntKind.i64 0), undef, undef, undef, undef, undef, undef, undef, undef, undef, undef, undef, undef, undef, undef, undef, undef, undef, undef] h1) := by kernel_rfl
theorem gb_catenaryref11_At (a0 a1 : Value) (h : Hp) (K : Kont) : (oAlloc #[.int .i64 0, .int .u64 0, .int .i64 0, .int .i64 0, .int .u64 0, .int .i64 0] h fun t4 h1 =>
  aw Try.prog O_catenaryref11_At K_catenaryref11_At_0 (qBlk 0 (qSeq (aw Try.prog O_catenaryref11_At K_catenaryref11_At_1 (qTop Try.prog Try.f14 K)) (qTop Try.prog Try.f14 K))) [a0, a1, undef, undef, t4, (Go.Value.bool false), (Go.Value.int Go.IntKind.i64 0), undef, undef, undef, undef, undef, undef, undef, undef, undef, undef, undef, undef, undef, undef, undef, undef, undef, undef] h1) = G_catenaryref11_At a0 a1 h K := by kernel_rfl
theorem gc_catenaryref11_At (a0 a1 : Value) (h : Hp) (K : Kont) : abody Try.prog O_catenaryref11_At Try.f14 (bodyC Try.f14) [a0, a1] h K = aw Try.prog O_catenaryref11_At (bodyC Try.f14) (qTop Try.prog Try.f14 K) [a0, a1, undef, undef, undef, undef, undef, undef, undef, undef, undef, undef, undef, undef, undef, undef, undef, undef, undef, undef, undef, undef, undef, undef, undef] h := by kernel_rfl
theorem eq_catenaryref11_At (a0 a1 : Value) (h : Hp) (K : Kont) : abody Try.prog O_catenaryref11_At Try.f14 (bodyC Try.f14) [a0, a1] h K = G_catenaryref11_At a0 a1 h K := (gc_catenaryref11_At a0 a1 h K).trans ((ga_catenaryref11_At _ a0 a1 h).trans (gb_catenaryref11_At a0 a1 h K))
theorem ok_catenaryref11_At {a0 a1 : Value} {h : Hp} {K : Kont} (hk : G_catenaryref11_At a0 a1 h K) : C_catenaryref11_At [a0, a1] h K := ac_of_body prog_mixed (fn := Try.f14) Try.func14 (c := bodyC Try.f14) (by kernel_rfl) ((eq_catenaryref11_At a0 a1 h K).mpr hk)
def B_catenaryref11_At_1 (K : Kont) (s0 : Self) (v0 : Value) (v1 : Value) (v4 : Value) (v6 : Value) (d : Nat → Value) (h : Hp) : Prop :=
  oLen 0 v0 h fun t9 h1 =>
  oBin .lss v6 t9 h1 fun t10 h2 =>
  oIf t10
  (oIdxS 6 v0 v6 h2 fun t15 h3 =>
  oFieldAddr 0 t15 h3 fun t16 h4 =>
  oLd1 t16 h4 fun t17 h5 =>
  oBin .eql t17 v1 h5 fun t19 h6 =>
  oIf t19
  (oIdxS 6 v0 v6 h6 fun t22 h7 =>
  oLdN 6 t22 h7 fun t23 h8 =>
  oSt 6 v4 t23 h8 fun _ h9 =>
  oLdN 6 v4 h9 fun r1 _ =>
  K (.tuple #[r1, (Go.Value.bool true)]) h9)
  (oBin .add v6 (Go.Value.int Go.IntKind.i64 1) h6 fun t12 h10 =>
  s0 (E_catenaryref11_At_1 v0 v1 v4 t12 (dl [v0, v1, (d 2), (d 3), v4, (d 5), t12, v6, v0, t9, t10, v6, t12, v0, v6, t15, t16, t17, v1, t19, (d 20), (d 21), (d 22), (d 23), (d 24)])) h10))
  (oBuild #[.int .i64 0, .int .u64 0, .int .i64 0, .int .i64 0, .int .u64 0, .int .i64 0] [] h2 fun t24 h11 =>
  oSt 6 v4 t24 h11 fun _ h12 =>
  oLdN 6 v4 h12 fun r2 _ =>
  K (.tuple #[r2, (Go.Value.bool false)]) h12)
theorem ga_catenaryref11_At_1 (Qv : Post) (v0 : Value) (v1 : Value) (v4 : Value) (v6 : Value) (d : Nat → Value) (h : Hp) : aw Try.prog O_catenaryref11_At K_catenaryref11_At_2 Qv (E_catenaryref11_At_1 v0 v1 v4 v6 d) h = (oLen 0 v0 h fun t9 h1 =>
  oBin .lss v6 t9 h1 fun t10 h2 =>
  oIf t10
  (oIdxS 6 v0 v6 h2 fun t15 h3 =>
  oFieldAddr 0 t15 h3 fun t16 h4 =>
  oLd1 t16 h4 fun t17 h5 =>
  oBin .eql t17 v1 h5 fun t19 h6 =>
  oIf t19
  (oIdxS 6 v0 v6 h6 fun t22 h7 =>
  oLdN 6 t22 h7 fun t23 h8 =>
  oSt 6 v4 t23 h8 fun _ h9 =>
  (qBlk 1 (qSeq (aw Try.prog O_catenaryref11_At K_catenaryref11_At_3 Qv) Qv)) .ret [v0, v1, (d 2), (d 3), v4, (Go.Value.bool true), v6, v6, v0, t9, t10, (d 11), (d 12), v0, v6, t15, t16, t17, v1, t19, v0, v6, t22, t23, (d 24)] h9)
  (oBin .add v6 (Go.Value.int Go.IntKind.i64 1) h6 fun t12 h10 =>
  Qv .normal [v0, v1, (d 2), (d 3), v4, (d 5), t12, v6, v0, t9, t10, v6, t12, v0, v6, t15, t16, t17, v1, t19, (d 20), (d 21), (d 22), (d 23), (d 24)] h10))
  ((qSeq (aw Try.prog O_catenaryref11_At K_catenaryref11_At_4 Qv) Qv) (.exit 0) [v0, v1, (d 2), (d 3), v4, (d 5), v6, v6, v0, t9, t10, (d 11), (d 12), (d 13), (d 14), (d 15), (d 16), (d 17), (d 18), (d 19), (d 20), (d 21), (d 22), (d 23), (d 24)] h2)) := by kernel_rfl
theorem gb_catenaryref11_At_1 (K : Kont) (s0 : Self) (v0 : Value) (v1 : Value) (v4 : Value) (v6 : Value) (d : Nat → Value) (h : Hp) : (oLen 0 v0 h fun t9 h1 =>
  oBin .lss v6 t9 h1 fun t10 h2 =>
  oIf t10
  (oIdxS 6 v0 v6 h2 fun t15 h3 =>
  oFieldAddr 0 t15 h3 fun t16 h4 =>
  oLd1 t16 h4 fun t17 h5 =>
  oBin .eql t17 v1 h5 fun t19 h6 =>
  oIf t19
  (oIdxS 6 v0 v6 h6 fun t22 h7 =>
  oLdN 6 t22 h7 fun t23 h8 =>
  oSt 6 v4 t23 h8 fun _ h9 =>
  (qBlk 1 (qSeq (aw Try.prog O_catenaryref11_At K_catenaryref11_At_3 (Q_catenaryref11_At_2 K s0)) (Q_catenaryref11_At_2 K s0))) .ret [v0, v1, (d 2), (d 3), v4, (Go.Value.bool true), v6, v6, v0, t9, t10, (d 11), (d 12), v0, v6, t15, t16, t17, v1, t19, v0, v6, t22, t23, (d 24)] h9)
  (oBin .add v6 (Go.Value.int Go.IntKind.i64 1) h6 fun t12 h10 =>
  (Q_catenaryref11_At_2 K s0) .normal [v0, v1, (d 2), (d 3), v4, (d 5), t12, v6, v0, t9, t10, v6, t12, v0, v6, t15, t16, t17, v1, t19, (d 20), (d 21), (d 22), (d 23), (d 24)] h10))
  ((qSeq (aw Try.prog O_catenaryref11_At K_catenaryref11_At_4 (Q_catenaryref11_At_2 K s0)) (Q_catenaryref11_At_2 K s0)) (.exit 0) [v0, v1, (d 2), (d 3), v4, (d 5), v6, v6, v0, t9, t10, (d 11), (d 12), (d 13), (d 14), (d 15), (d 16), (d 17), (d 18), (d 19), (d 20), (d 21), (d 22), (d 23), (d 24)] h2)) = B_catenaryref11_At_1 K s0 v0 v1 v4 v6 d h := by kernel_rfl
theorem beq_catenaryref11_At_1 (K : Kont) (s0 : Self) (v0 : Value) (v1 : Value) (v4 : Value) (v6 : Value) (d : Nat → Value) (h : Hp) : aw Try.prog O_catenaryref11_At K_catenaryref11_At_2 (Q_catenaryref11_At_2 K s0) (E_catenaryref11_At_1 v0 v1 v4 v6 d) h = B_catenaryref11_At_1 K s0 v0 v1 v4 v6 d h := (ga_catenaryref11_At_1 _ v0 v1 v4 v6 d h).trans (gb_catenaryref11_At_1 K s0 v0 v1 v4 v6 d h)
theorem rule_catenaryref11_At_1 {K : Kont} {v0 : Value} {v1 : Value} {v4 : Value} (Inv : Value → Hp → Prop) (μ : Value → Hp → Nat)
    (step : ∀ (s0 : Self) (v6 : Value) (d : Nat → Value) (h : Hp), Inv v6 h → (∀ (v6' : Value) (d' : Nat → Value) (h' : Hp), Inv v6' h' → μ v6' h' < μ v6 h → s0 (E_catenaryref11_At_1 v0 v1 v4 v6' d') h') → B_catenaryref11_At_1 K s0 v0 v1 v4 v6 d h) (v6 : Value) (d : Nat → Value) (h : Hp) (hi : Inv v6 h) : G_catenaryref11_At_1 K v0 v1 v4 v6 d h :=
  oLoop_rule (α := Value × (Nat → Value)) (fun x => E_catenaryref11_At_1 v0 v1 v4 x.1 x.2) (fun x h => Inv x.1 h) (fun x h => μ x.1 h)
    (fun self x h hx hs => (beq_catenaryref11_At_1 K self v0 v1 v4 x.1 x.2 h).mpr (step self x.1 x.2 h hx (fun v6' d' h' h1 h2 => hs ⟨v6', d'⟩ h' h1 h2))) ⟨v6, d⟩ h hi

/-! ### (*catenary/accept.Acceptor).Promised: function 15 -/
def O_accept_Acceptor_Promised : Od := []
noncomputable def K_accept_Acceptor_Promised_0 : Code := (cB (cB (bodyC Try.f15)))
def G_accept_Acceptor_Promised (a0 : Value) (h : Hp) (K : Kont) : Prop :=
  oEq 1 false none a0 (Go.Value.pointer none) h fun t4 h1 =>
  oIf t4
  (K (Go.Value.int Go.IntKind.u64 0) h1)
  (oNilCheck a0 h1 fun t6 h2 =>
  oFieldAddr 0 t6 h2 fun t7 h3 =>
  oLd1 t7 h3 fun t8 h4 =>
  K t8 h4)
theorem ga_accept_Acceptor_Promised (Qv : Post) (a0 : Value) (h : Hp) : aw Try.prog O_accept_Acceptor_Promised (bodyC Try.f15) Qv [a0, undef, undef, undef, undef, undef, undef, undef, undef] h = (oEq 1 false none a0 (Go.Value.pointer none) h fun t4 h1 =>
  oIf t4
  ((qSeq (aw Try.prog O_accept_Acceptor_Promised K_accept_Acceptor_Promised_0 Qv) Qv) .ret [a0, undef, (Go.Value.int Go.IntKind.u64 0), a0, t4, undef, undef, undef, undef] h1)
  (oNilCheck a0 h1 fun t6 h2 =>
  oFieldAddr 0 t6 h2 fun t7 h3 =>
  oLd1 t7 h3 fun t8 h4 =>
  Qv .ret [a0, undef, t8, a0, t4, a0, t6, t7, t8] h4)) := by kernel_rfl
theorem gb_accept_Acceptor_Promised (a0 : Value) (h : Hp) (K : Kont) : (oEq 1 false none a0 (Go.Value.pointer none) h fun t4 h1 =>
  oIf t4
  ((qSeq (aw Try.prog O_accept_Acceptor_Promised K_accept_Acceptor_Promised_0 (qTop Try.prog Try.f15 K)) (qTop Try.prog Try.f15 K)) .ret [a0, undef, (Go.Value.int Go.IntKind.u64 0), a0, t4, undef, undef, undef, undef] h1)
  (oNilCheck a0 h1 fun t6 h2 =>
  oFieldAddr 0 t6 h2 fun t7 h3 =>
  oLd1 t7 h3 fun t8 h4 =>
  (qTop Try.prog Try.f15 K) .ret [a0, undef, t8, a0, t4, a0, t6, t7, t8] h4)) = G_accept_Acceptor_Promised a0 h K := by kernel_rfl
theorem gc_accept_Acceptor_Promised (a0 : Value) (h : Hp) (K : Kont) : abody Try.prog O_accept_Acceptor_Promised Try.f15 (bodyC Try.f15) [a0] h K = aw Try.prog O_accept_Acceptor_Promised (bodyC Try.f15) (qTop Try.prog Try.f15 K) [a0, undef, undef, undef, undef, undef, undef, undef, undef] h := by kernel_rfl
theorem eq_accept_Acceptor_Promised (a0 : Value) (h : Hp) (K : Kont) : abody Try.prog O_accept_Acceptor_Promised Try.f15 (bodyC Try.f15) [a0] h K = G_accept_Acceptor_Promised a0 h K := (gc_accept_Acceptor_Promised a0 h K).trans ((ga_accept_Acceptor_Promised _ a0 h).trans (gb_accept_Acceptor_Promised a0 h K))
theorem ok_accept_Acceptor_Promised {a0 : Value} {h : Hp} {K : Kont} (hk : G_accept_Acceptor_Promised a0 h K) : C_accept_Acceptor_Promised [a0] h K := ac_of_body prog_mixed (fn := Try.f15) Try.func15 (c := bodyC Try.f15) (by kernel_rfl) ((eq_accept_Acceptor_Promised a0 h K).mpr hk)

/-! ### (*catenary/accept.Acceptor).Len: function 16 -/
def O_accept_Acceptor_Len : Od := []
noncomputable def K_accept_Acceptor_Len_0 : Code := (cB (cB (bodyC Try.f16)))
def G_accept_Acceptor_Len (a0 : Value) (h : Hp) (K : Kont) : Prop :=
  oEq 1 false none a0 (Go.Value.pointer none) h fun t4 h1 =>
  oIf t4
  (K (Go.Value.int Go.IntKind.i64 0) h1)
  (oNilCheck a0 h1 fun t6 h2 =>
  oFieldAddr 1 t6 h2 fun t7 h3 =>
  oLd1 t7 h3 fun t8 h4 =>
  oLen 2 t8 h4 fun t9 h5 =>
  K t9 h5)
theorem ga_accept_Acceptor_Len (Qv : Post) (a0 : Value) (h : Hp) : aw Try.prog O_accept_Acceptor_Len (bodyC Try.f16) Qv [a0, undef, undef, undef, undef, undef, undef, undef, undef, undef] h = (oEq 1 false none a0 (Go.Value.pointer none) h fun t4 h1 =>
  oIf t4
  ((qSeq (aw Try.prog O_accept_Acceptor_Len K_accept_Acceptor_Len_0 Qv) Qv) .ret [a0, undef, (Go.Value.int Go.IntKind.i64 0), a0, t4, undef, undef, undef, undef, undef] h1)
  (oNilCheck a0 h1 fun t6 h2 =>
  oFieldAddr 1 t6 h2 fun t7 h3 =>
  oLd1 t7 h3 fun t8 h4 =>
  oLen 2 t8 h4 fun t9 h5 =>
  Qv .ret [a0, undef, t9, a0, t4, a0, t6, t7, t8, t9] h5)) := by kernel_rfl
theorem gb_accept_Acceptor_Len (a0 : Value) (h : Hp) (K : Kont) : (oEq 1 false none a0 (Go.Value.pointer none) h fun t4 h1 =>
  oIf t4
  ((qSeq (aw Try.prog O_accept_Acceptor_Len K_accept_Acceptor_Len_0 (qTop Try.prog Try.f16 K)) (qTop Try.prog Try.f16 K)) .ret [a0, undef, (Go.Value.int Go.IntKind.i64 0), a0, t4, undef, undef, undef, undef, undef] h1)
  (oNilCheck a0 h1 fun t6 h2 =>
  oFieldAddr 1 t6 h2 fun t7 h3 =>
  oLd1 t7 h3 fun t8 h4 =>
  oLen 2 t8 h4 fun t9 h5 =>
  (qTop Try.prog Try.f16 K) .ret [a0, undef, t9, a0, t4, a0, t6, t7, t8, t9] h5)) = G_accept_Acceptor_Len a0 h K := by kernel_rfl
theorem gc_accept_Acceptor_Len (a0 : Value) (h : Hp) (K : Kont) : abody Try.prog O_accept_Acceptor_Len Try.f16 (bodyC Try.f16) [a0] h K = aw Try.prog O_accept_Acceptor_Len (bodyC Try.f16) (qTop Try.prog Try.f16 K) [a0, undef, undef, undef, undef, undef, undef, undef, undef, undef] h := by kernel_rfl
theorem eq_accept_Acceptor_Len (a0 : Value) (h : Hp) (K : Kont) : abody Try.prog O_accept_Acceptor_Len Try.f16 (bodyC Try.f16) [a0] h K = G_accept_Acceptor_Len a0 h K := (gc_accept_Acceptor_Len a0 h K).trans ((ga_accept_Acceptor_Len _ a0 h).trans (gb_accept_Acceptor_Len a0 h K))
theorem ok_accept_Acceptor_Len {a0 : Value} {h : Hp} {K : Kont} (hk : G_accept_Acceptor_Len a0 h K) : C_accept_Acceptor_Len [a0] h K := ac_of_body prog_mixed (fn := Try.f16) Try.func16 (c := bodyC Try.f16) (by kernel_rfl) ((eq_accept_Acceptor_Len a0 h K).mpr hk)

end Go.Proofs.Ytdolepapmpcpiaa
