/- Lemmas for the theorem of the last text; no condition. -/
import Derived.Test.YtdolepapmpcpiaaLs0
import Derived.Test.YtdolepapmpcpiaaLs1
import Derived.Test.YtdolepapmpcpiaaLs2
import Derived.Test.YtdolepapmpcpiaaProg
namespace Go.Proofs.Ytdolepapmpcpiaa
open Go
set_option linter.unusedSectionVars false
variable [Base]
set_option linter.unusedVariables false
set_option maxRecDepth 100000
def O_q135 : Od := []
def G_q135 (a0 : Value) (h : Hp) (K : Kont) : Prop :=
  oBox a0 h fun t1 h1 =>
  oFieldAddr 2 t1 h1 fun t14 h2 =>
  oLd1 t14 h2 fun t15 h3 =>
  oFieldAddr 3 t1 h3 fun t16 h4 =>
  oLd1 t16 h4 fun t17 h5 =>
  C_q82 [(Value.pointer none), t15, t17] h5 fun t18 h6 =>
  oExtract t18 0 h6 fun t19 h7 =>
  oExtract t18 1 h7 fun t20 h8 =>
  oFieldAddr 2 t1 h8 fun t23 h9 =>
  oLd1 t23 h9 fun t24 h10 =>
  oFieldAddr 4 t1 h10 fun t25 h11 =>
  oLd1 t25 h11 fun t26 h12 =>
  oFieldAddr 5 t1 h12 fun t27 h13 =>
  oLd1 t27 h13 fun t28 h14 =>
  C_q57 [(Value.pointer none), t24, t26, t28] h14 fun t29 h15 =>
  oExtract t29 0 h15 fun t30 h16 =>
  oExtract t29 1 h16 fun t31 h17 =>
  oFieldAddr 6 t1 h17 fun t34 h18 =>
  oLdN 4 t34 h18 fun t35 h19 =>
  C_q58 [(Value.pointer none), t35] h19 fun t36 h20 =>
  oExtract t36 0 h20 fun t37 h21 =>
  oExtract t36 1 h21 fun t38 h22 =>
  oAlloc #[.int .i64 0, .int .u64 0, .int .i64 0, .int .i64 0, .int .u64 0, .int .i64 0] h22 fun t8 h23 =>
  oSt 6 t8 t37 h23 fun _ h24 =>
  oFieldAddr 2 t1 h24 fun t41 h25 =>
  oLd1 t41 h25 fun t42 h26 =>
  oFieldAddr 3 t1 h26 fun t43 h27 =>
  oLd1 t43 h27 fun t44 h28 =>
  oFieldAddr 4 t1 h28 fun t45 h29 =>
  oLd1 t45 h29 fun t46 h30 =>
  C_q47 [(Value.pointer none), t42, t44, t46] h30 fun t47 h31 =>
  oExtract t47 0 h31 fun t48 h32 =>
  oExtract t47 1 h32 fun t49 h33 =>
  oAlloc #[.int .i64 0, .int .u64 0, .int .i64 0, .int .i64 0, .int .u64 0, .int .i64 0] h33 fun t10 h34 =>
  oSt 6 t10 t48 h34 fun _ h35 =>
  oBin .eql t19 (Value.int .u64 0) h35 fun t51 h36 =>
  oGuard t51 true (fun K => K t20 h36) h36 fun t53 h37 =>
  oGuard t51 true (fun K => oBin .eql t53 (Value.int .i64 2) h37 K) h37 fun t54 h38 =>
  oPick t51 t54 (Value.bool false) h38 fun t55 h39 =>
  oGuard t55 true (fun K => K t30 h39) h39 fun t57 h40 =>
  oGuard t55 true (fun K => oLen 0 t57 h40 K) h40 fun t58 h41 =>
  oGuard t55 true (fun K => oBin .eql t58 (Value.int .i64 0) h41 K) h41 fun t59 h42 =>
  oPick t55 t59 (Value.bool false) h42 fun t60 h43 =>
  oGuard t60 true (fun K => K t31 h43) h43 fun t62 h44 =>
  oGuard t60 true (fun K => oNot t62 h44 K) h44 fun t63 h45 =>
  oPick t60 t63 (Value.bool false) h45 fun t64 h46 =>
  oGuard t64 true (fun K => oLdN 6 t8 h46 K) h46 fun t66 h47 =>
  oGuard t64 true (fun K => oBuild #[.int .i64 0, .int .u64 0, .int .i64 0, .int .i64 0, .int .u64 0, .int .i64 0] [] h47 K) h47 fun t67 h48 =>
  oGuard t64 true (fun K => oEq 4 false (some [(0, (.int .i64)), (1, (.int .u64)), (2, (.int .i64)), (3, (.int .i64)), (4, (.int .u64)), (5, (.int .i64))]) t66 t67 h48 K) h48 fun t68 h49 =>
  oPick t64 t68 (Value.bool false) h49 fun t69 h50 =>
  oGuard t69 true (fun K => K t38 h50) h50 fun t71 h51 =>
  oGuard t69 true (fun K => oBin .eql t71 (Value.int .i64 2) h51 K) h51 fun t72 h52 =>
  oPick t69 t72 (Value.bool false) h52 fun t73 h53 =>
  oGuard t73 true (fun K => oLdN 6 t10 h53 K) h53 fun t75 h54 =>
  oGuard t73 true (fun K => oBuild #[.int .i64 0, .int .u64 0, .int .i64 0, .int .i64 0, .int .u64 0, .int .i64 0] [] h54 K) h54 fun t76 h55 =>
  oGuard t73 true (fun K => oEq 4 false (some [(0, (.int .i64)), (1, (.int .u64)), (2, (.int .i64)), (3, (.int .i64)), (4, (.int .u64)), (5, (.int .i64))]) t75 t76 h55 K) h55 fun t77 h56 =>
  oPick t73 t77 (Value.bool false) h56 fun t78 h57 =>
  oGuard t78 true (fun K => K t49 h57) h57 fun t80 h58 =>
  oGuard t78 true (fun K => oNot t80 h58 K) h58 fun t81 h59 =>
  oPick t78 t81 (Value.bool false) h59 fun t82 h60 =>
  oGuard t82 true (fun K => K (Value.pointer none) h60) h60 fun t84 h61 =>
  oGuard t82 true (fun K => oFieldAddr 2 t1 h61 K) h61 fun t85 h62 =>
  oGuard t82 true (fun K => oLd1 t85 h62 K) h62 fun t86 h63 =>
  oGuard t82 true (fun K => C_q71 [t84, t86] h63 K) h63 fun t87 h64 =>
  oGuard t82 true (fun K => oNot t87 h64 K) h64 fun t88 h65 =>
  oPick t82 t88 (Value.bool false) h65 fun t89 h66 =>
  oGuard t89 true (fun K => K (Value.pointer none) h66) h66 fun t91 h67 =>
  oGuard t89 true (fun K => C_q94 [t91] h67 K) h67 fun t92 h68 =>
  oGuard t89 true (fun K => oLen 0 t92 h68 K) h68 fun t93 h69 =>
  oGuard t89 true (fun K => oBin .eql t93 (Value.int .i64 0) h69 K) h69 fun t94 h70 =>
  oPick t89 t94 (Value.bool false) h70 fun t95 h71 =>
  oGuard t95 true (fun K => K (Value.pointer none) h71) h71 fun t97 h72 =>
  oGuard t95 true (fun K => C_q83 [t97] h72 K) h72 fun t98 h73 =>
  oGuard t95 true (fun K => oBin .eql t98 (Value.int .i64 0) h73 K) h73 fun t99 h74 =>
  oPick t95 t99 (Value.bool false) h74 fun t100 h75 =>
  oGuard t100 true (fun K => K (Value.pointer none) h75) h75 fun t102 h76 =>
  oGuard t100 true (fun K => C_q70 [t102] h76 K) h76 fun t103 h77 =>
  oGuard t100 true (fun K => oBin .eql t103 (Value.int .u64 0) h77 K) h77 fun t104 h78 =>
  oPick t100 t104 (Value.bool false) h78 fun t105 h79 =>
  oGuard t105 true (fun K => K (Value.pointer none) h79) h79 fun t107 h80 =>
  oGuard t105 true (fun K => C_q92 [t107] h80 K) h80 fun t108 h81 =>
  oGuard t105 true (fun K => oBin .eql t108 (Value.int .i64 0) h81 K) h81 fun t109 h82 =>
  oPick t105 t109 (Value.bool false) h82 fun t110 h83 =>
  oGuard t110 true (fun K => K (Value.pointer none) h83) h83 fun t112 h84 =>
  oGuard t110 true (fun K => C_q93 [t112] h84 K) h84 fun t113 h85 =>
  oGuard t110 true (fun K => oBin .eql t113 (Value.int .i64 0) h85 K) h85 fun t114 h86 =>
  oPick t110 t114 (Value.bool false) h86 fun t115 h87 =>
  oGuard t115 true (fun K => C_q162 [] h87 K) h87 fun t117 h88 =>
  oPick t115 t117 (Value.bool false) h88 fun t118 h89 =>
  K t118 h89
def E0_q135 (a0 : Value) : List Value := [a0, undef, undef, undef, undef, undef, undef, undef, undef, undef, undef, undef, undef, undef, undef, undef, undef, undef, undef, undef, undef, undef, undef, undef, undef, undef, undef, undef, undef, undef, undef, undef, undef, undef, undef, undef, undef, undef, undef, undef, undef, undef, undef, undef, undef, undef, undef, undef, undef, undef, undef, undef, undef, undef, undef, undef, undef, undef, undef, undef, undef, undef, undef, undef, undef, undef, undef, undef, undef, undef, undef, undef, undef, undef, undef, undef, undef, undef, undef, undef, undef, undef, undef, undef, undef, undef, undef, undef, undef, undef, undef, undef, undef, undef, undef, undef, undef, undef, undef, undef, undef, undef, undef, undef, undef, undef, undef, undef, undef, undef, undef, undef, undef, undef, undef, undef, undef, undef, undef]
def X_q135 (Qv : Post) (a0 : Value) (h : Hp) : Prop :=
  oBox a0 h fun t1 h1 =>
  oFieldAddr 2 t1 h1 fun t14 h2 =>
  oLd1 t14 h2 fun t15 h3 =>
  oFieldAddr 3 t1 h3 fun t16 h4 =>
  oLd1 t16 h4 fun t17 h5 =>
  C_q82 [(Value.pointer none), t15, t17] h5 fun t18 h6 =>
  oExtract t18 0 h6 fun t19 h7 =>
  oExtract t18 1 h7 fun t20 h8 =>
  oFieldAddr 2 t1 h8 fun t23 h9 =>
  oLd1 t23 h9 fun t24 h10 =>
  oFieldAddr 4 t1 h10 fun t25 h11 =>
  oLd1 t25 h11 fun t26 h12 =>
  oFieldAddr 5 t1 h12 fun t27 h13 =>
  oLd1 t27 h13 fun t28 h14 =>
  C_q57 [(Value.pointer none), t24, t26, t28] h14 fun t29 h15 =>
  oExtract t29 0 h15 fun t30 h16 =>
  oExtract t29 1 h16 fun t31 h17 =>
  oFieldAddr 6 t1 h17 fun t34 h18 =>
  oLdN 4 t34 h18 fun t35 h19 =>
  C_q58 [(Value.pointer none), t35] h19 fun t36 h20 =>
  oExtract t36 0 h20 fun t37 h21 =>
  oExtract t36 1 h21 fun t38 h22 =>
  oAlloc #[.int .i64 0, .int .u64 0, .int .i64 0, .int .i64 0, .int .u64 0, .int .i64 0] h22 fun t8 h23 =>
  oSt 6 t8 t37 h23 fun _ h24 =>
  oFieldAddr 2 t1 h24 fun t41 h25 =>
  oLd1 t41 h25 fun t42 h26 =>
  oFieldAddr 3 t1 h26 fun t43 h27 =>
  oLd1 t43 h27 fun t44 h28 =>
  oFieldAddr 4 t1 h28 fun t45 h29 =>
  oLd1 t45 h29 fun t46 h30 =>
  C_q47 [(Value.pointer none), t42, t44, t46] h30 fun t47 h31 =>
  oExtract t47 0 h31 fun t48 h32 =>
  oExtract t47 1 h32 fun t49 h33 =>
  oAlloc #[.int .i64 0, .int .u64 0, .int .i64 0, .int .i64 0, .int .u64 0, .int .i64 0] h33 fun t10 h34 =>
  oSt 6 t10 t48 h34 fun _ h35 =>
  oBin .eql t19 (Value.int .u64 0) h35 fun t51 h36 =>
  oGuard t51 true (fun K => K t20 h36) h36 fun t53 h37 =>
  oGuard t51 true (fun K => oBin .eql t53 (Value.int .i64 2) h37 K) h37 fun t54 h38 =>
  oPick t51 t54 (Value.bool false) h38 fun t55 h39 =>
  oGuard t55 true (fun K => K t30 h39) h39 fun t57 h40 =>
  oGuard t55 true (fun K => oLen 0 t57 h40 K) h40 fun t58 h41 =>
  oGuard t55 true (fun K => oBin .eql t58 (Value.int .i64 0) h41 K) h41 fun t59 h42 =>
  oPick t55 t59 (Value.bool false) h42 fun t60 h43 =>
  oGuard t60 true (fun K => K t31 h43) h43 fun t62 h44 =>
  oGuard t60 true (fun K => oNot t62 h44 K) h44 fun t63 h45 =>
  oPick t60 t63 (Value.bool false) h45 fun t64 h46 =>
  oGuard t64 true (fun K => oLdN 6 t8 h46 K) h46 fun t66 h47 =>
  oGuard t64 true (fun K => oBuild #[.int .i64 0, .int .u64 0, .int .i64 0, .int .i64 0, .int .u64 0, .int .i64 0] [] h47 K) h47 fun t67 h48 =>
  oGuard t64 true (fun K => oEq 4 false (some [(0, (.int .i64)), (1, (.int .u64)), (2, (.int .i64)), (3, (.int .i64)), (4, (.int .u64)), (5, (.int .i64))]) t66 t67 h48 K) h48 fun t68 h49 =>
  oPick t64 t68 (Value.bool false) h49 fun t69 h50 =>
  oGuard t69 true (fun K => K t38 h50) h50 fun t71 h51 =>
  oGuard t69 true (fun K => oBin .eql t71 (Value.int .i64 2) h51 K) h51 fun t72 h52 =>
  oPick t69 t72 (Value.bool false) h52 fun t73 h53 =>
  oGuard t73 true (fun K => oLdN 6 t10 h53 K) h53 fun t75 h54 =>
  oGuard t73 true (fun K => oBuild #[.int .i64 0, .int .u64 0, .int .i64 0, .int .i64 0, .int .u64 0, .int .i64 0] [] h54 K) h54 fun t76 h55 =>
  oGuard t73 true (fun K => oEq 4 false (some [(0, (.int .i64)), (1, (.int .u64)), (2, (.int .i64)), (3, (.int .i64)), (4, (.int .u64)), (5, (.int .i64))]) t75 t76 h55 K) h55 fun t77 h56 =>
  oPick t73 t77 (Value.bool false) h56 fun t78 h57 =>
  oGuard t78 true (fun K => K t49 h57) h57 fun t80 h58 =>
  oGuard t78 true (fun K => oNot t80 h58 K) h58 fun t81 h59 =>
  oPick t78 t81 (Value.bool false) h59 fun t82 h60 =>
  oGuard t82 true (fun K => K (Value.pointer none) h60) h60 fun t84 h61 =>
  oGuard t82 true (fun K => oFieldAddr 2 t1 h61 K) h61 fun t85 h62 =>
  oGuard t82 true (fun K => oLd1 t85 h62 K) h62 fun t86 h63 =>
  oGuard t82 true (fun K => C_q71 [t84, t86] h63 K) h63 fun t87 h64 =>
  oGuard t82 true (fun K => oNot t87 h64 K) h64 fun t88 h65 =>
  oPick t82 t88 (Value.bool false) h65 fun t89 h66 =>
  oGuard t89 true (fun K => K (Value.pointer none) h66) h66 fun t91 h67 =>
  oGuard t89 true (fun K => C_q94 [t91] h67 K) h67 fun t92 h68 =>
  oGuard t89 true (fun K => oLen 0 t92 h68 K) h68 fun t93 h69 =>
  oGuard t89 true (fun K => oBin .eql t93 (Value.int .i64 0) h69 K) h69 fun t94 h70 =>
  oPick t89 t94 (Value.bool false) h70 fun t95 h71 =>
  oGuard t95 true (fun K => K (Value.pointer none) h71) h71 fun t97 h72 =>
  oGuard t95 true (fun K => C_q83 [t97] h72 K) h72 fun t98 h73 =>
  oGuard t95 true (fun K => oBin .eql t98 (Value.int .i64 0) h73 K) h73 fun t99 h74 =>
  oPick t95 t99 (Value.bool false) h74 fun t100 h75 =>
  oGuard t100 true (fun K => K (Value.pointer none) h75) h75 fun t102 h76 =>
  oGuard t100 true (fun K => C_q70 [t102] h76 K) h76 fun t103 h77 =>
  oGuard t100 true (fun K => oBin .eql t103 (Value.int .u64 0) h77 K) h77 fun t104 h78 =>
  oPick t100 t104 (Value.bool false) h78 fun t105 h79 =>
  oGuard t105 true (fun K => K (Value.pointer none) h79) h79 fun t107 h80 =>
  oGuard t105 true (fun K => C_q92 [t107] h80 K) h80 fun t108 h81 =>
  oGuard t105 true (fun K => oBin .eql t108 (Value.int .i64 0) h81 K) h81 fun t109 h82 =>
  oPick t105 t109 (Value.bool false) h82 fun t110 h83 =>
  oGuard t110 true (fun K => K (Value.pointer none) h83) h83 fun t112 h84 =>
  oGuard t110 true (fun K => C_q93 [t112] h84 K) h84 fun t113 h85 =>
  oGuard t110 true (fun K => oBin .eql t113 (Value.int .i64 0) h85 K) h85 fun t114 h86 =>
  oPick t110 t114 (Value.bool false) h86 fun t115 h87 =>
  oGuard t115 true (fun K => C_q162 [] h87 K) h87 fun t117 h88 =>
  oPick t115 t117 (Value.bool false) h88 fun t118 h89 =>
  Qv .ret (ul (E0_q135 a0) [(1, t1), (2, t118), (3, (Value.pointer none)), (4, t19), (5, t20), (6, t30), (7, t31), (8, t8), (9, t38), (10, t10), (11, t49), (12, t18), (13, (Value.pointer none)), (14, t14), (15, t15), (16, t16), (17, t17), (18, t18), (19, t19), (20, t20), (21, t29), (22, (Value.pointer none)), (23, t23), (24, t24), (25, t25), (26, t26), (27, t27), (28, t28), (29, t29), (30, t30), (31, t31), (32, t36), (33, (Value.pointer none)), (34, t34), (35, t35), (36, t36), (37, t37), (38, t38), (39, t47), (40, (Value.pointer none)), (41, t41), (42, t42), (43, t43), (44, t44), (45, t45), (46, t46), (47, t47), (48, t48), (49, t49), (50, t19), (51, t51), (52, t51), (53, t53), (54, t54), (55, t55), (56, t55), (57, t57), (58, t58), (59, t59), (60, t60), (61, t60), (62, t62), (63, t63), (64, t64), (65, t64), (66, t66), (67, t67), (68, t68), (69, t69), (70, t69), (71, t71), (72, t72), (73, t73), (74, t73), (75, t75), (76, t76), (77, t77), (78, t78), (79, t78), (80, t80), (81, t81), (82, t82), (83, t82), (84, t84), (85, t85), (86, t86), (87, t87), (88, t88), (89, t89), (90, t89), (91, t91), (92, t92), (93, t93), (94, t94), (95, t95), (96, t95), (97, t97), (98, t98), (99, t99), (100, t100), (101, t100), (102, t102), (103, t103), (104, t104), (105, t105), (106, t105), (107, t107), (108, t108), (109, t109), (110, t110), (111, t110), (112, t112), (113, t113), (114, t114), (115, t115), (116, t115), (117, t117), (118, t118)]) h89
theorem ga_q135 (Qv : Post) (a0 : Value) (h : Hp) : aw Try.prog O_q135 (bodyC Try.f9) Qv (E0_q135 a0) h = X_q135 Qv a0 h := by kernel_rfl
theorem gb_q135 (a0 : Value) (h : Hp) (K : Kont) : X_q135 (qTop Try.prog Try.f9 K) a0 h = G_q135 a0 h K := by kernel_rfl
theorem gc_q135 (a0 : Value) (h : Hp) (K : Kont) : abody Try.prog O_q135 Try.f9 (bodyC Try.f9) [a0] h K = aw Try.prog O_q135 (bodyC Try.f9) (qTop Try.prog Try.f9 K) (E0_q135 a0) h := by kernel_rfl
theorem eq_q135 (a0 : Value) (h : Hp) (K : Kont) : abody Try.prog O_q135 Try.f9 (bodyC Try.f9) [a0] h K = G_q135 a0 h K := (gc_q135 a0 h K).trans ((ga_q135 _ a0 h).trans (gb_q135 a0 h K))
theorem ok_q135 {a0 : Value} {h : Hp} {K : Kont} (hk : G_q135 a0 h K) : C_q135 [a0] h K := ac_of_body prog_mixed (fn := Try.f9) Try.func9 (c := bodyC Try.f9) (by kernel_rfl) ((eq_q135 a0 h K).mpr hk)
end Go.Proofs.Ytdolepapmpcpiaa

namespace Go.Proofs.Ytdolepapmpcpiaa
open Go
set_option linter.unusedSectionVars false
variable [Base]
set_option linter.unusedVariables false
set_option maxRecDepth 100000
def O_q124 : Od := [(9, (.one 0 true (.one 1 true (.one 2 true (.one 3 true (.one 4 true (.one 5 false (.one 6 false (.one 7 false (.one 8 true (.one 9 true (.one 10 false .nil)))))))))))), (17, (.one 0 true (.one 1 true (.one 2 true (.one 3 true (.one 4 true (.one 5 true (.one 6 true (.one 7 true (.one 8 true (.one 9 true (.one 10 true (.one 11 true (.one 12 false .nil)))))))))))))), (26, (.one 0 true (.one 1 true (.one 2 true (.one 3 true (.one 4 true (.one 5 true (.one 6 true (.one 7 true (.one 8 true (.one 9 true (.one 10 true (.one 11 true (.one 12 false (.one 13 true (.one 14 true (.one 15 true (.one 16 true (.one 17 true .nil))))))))))))))))))), (30, (.one 0 true (.one 1 true (.one 2 true (.one 3 true (.one 4 true (.one 5 true (.one 6 true (.one 7 true (.one 8 true (.one 9 true (.one 10 true (.one 11 true (.both 12 16 (.one 13 true (.one 14 true (.one 15 true (.one 16 false (.one 17 false (.one 18 true .nil)))))) (.one 12 false (.one 13 true (.one 14 true (.one 15 true (.one 17 false (.one 18 true .nil))))))))))))))))))))]
noncomputable def K_q124_0 : Code := (cI (cB (cA (cB (cB (cB (bodyC Try.f10)))))))
noncomputable def K_q124_1 : Code := (cB (cB (cB (cB (bodyC Try.f10)))))
def Q_q124_0 (K : Kont) : Post := qSeq (aw Try.prog O_q124 K_q124_1 (qTop Try.prog Try.f10 K)) (qTop Try.prog Try.f10 K)
def Q_q124_1 (K : Kont) : Post := qBlk 0 (Q_q124_0 K)
def E_q124_1 (v0 v1 v5 v6 : Value) (d : Nat → Value) : List Value := [v0, v1, d 2, d 3, d 4, v5, v6, d 7, d 8, d 9, d 10, d 11, d 12, d 13, d 14, d 15, d 16, d 17, d 18, d 19, d 20, d 21, d 22, d 23, d 24, d 25, d 26, d 27, d 28, d 29, d 30, d 31, d 32, d 33, d 34, d 35, d 36, d 37, d 38, d 39, d 40, d 41, d 42, d 43, d 44, d 45, d 46, d 47, d 48, d 49, d 50, d 51, d 52, d 53, d 54, d 55, d 56, d 57, d 58, d 59, d 60, d 61, d 62, d 63, d 64, d 65, d 66, d 67, d 68, d 69, d 70, d 71, d 72, d 73, d 74, d 75, d 76, d 77, d 78, d 79, d 80, d 81, d 82, d 83, d 84, d 85, d 86, d 87, d 88, d 89, d 90, d 91, d 92, d 93, d 94, d 95, d 96, d 97, d 98, d 99, d 100, d 101, d 102, d 103, d 104, d 105, d 106, d 107, d 108, d 109, d 110, d 111, d 112, d 113, d 114, d 115, d 116, d 117, d 118, d 119, d 120, d 121, d 122, d 123, d 124, d 125, d 126, d 127, d 128, d 129, d 130, d 131, d 132, d 133, d 134, d 135, d 136, d 137, d 138, d 139, d 140, d 141, d 142, d 143, d 144, d 145, d 146, d 147, d 148, d 149, d 150, d 151, d 152, d 153, d 154, d 155, d 156, d 157, d 158, d 159, d 160, d 161, d 162, d 163, d 164, d 165, d 166, d 167, d 168, d 169, d 170, d 171, d 172, d 173, d 174, d 175, d 176, d 177, d 178, d 179, d 180, d 181, d 182, d 183, d 184, d 185, d 186, d 187, d 188, d 189, d 190, d 191, d 192, d 193, d 194, d 195, d 196, d 197, d 198, d 199, d 200, d 201, d 202, d 203, d 204, d 205, d 206, d 207, d 208, d 209, d 210, d 211, d 212, d 213, d 214, d 215, d 216, d 217, d 218, d 219, d 220, d 221, d 222, d 223, d 224]
def G_q124_1 (K : Kont) (v0 v1 v5 v6 : Value) (d : Nat → Value) (h : Hp) : Prop := aw Try.prog O_q124 K_q124_0 (Q_q124_1 K) (E_q124_1 v0 v1 v5 v6 d) h
noncomputable def K_q124_2 : Code := (cB (cB (bodyC Try.f10)))
def Q_q124_2 (K : Kont) (s0 : Self) : Post := qSeq s0 (Q_q124_1 K)
noncomputable def K_q124_3 : Code := (cI (cI (cB (cA (cB (cB (cB (bodyC Try.f10))))))))
noncomputable def K_q124_4 : Code := (cB (cB (cI (cI (cB (cA (cB (cB (cB (bodyC Try.f10))))))))))
def E_q124_2 (v0 v1 v5 v6 : Value) (d : Nat → Value) : List Value := [v0, v1, d 2, d 3, d 4, v5, v6, d 7, d 8, d 9, d 10, d 11, d 12, d 13, d 14, d 15, d 16, d 17, d 18, d 19, d 20, d 21, d 22, d 23, d 24, d 25, d 26, d 27, d 28, d 29, d 30, d 31, d 32, d 33, d 34, d 35, d 36, d 37, d 38, d 39, d 40, d 41, d 42, d 43, d 44, d 45, d 46, d 47, d 48, d 49, d 50, d 51, d 52, d 53, d 54, d 55, d 56, d 57, d 58, d 59, d 60, d 61, d 62, d 63, d 64, d 65, d 66, d 67, d 68, d 69, d 70, d 71, d 72, d 73, d 74, d 75, d 76, d 77, d 78, d 79, d 80, d 81, d 82, d 83, d 84, d 85, d 86, d 87, d 88, d 89, d 90, d 91, d 92, d 93, d 94, d 95, d 96, d 97, d 98, d 99, d 100, d 101, d 102, d 103, d 104, d 105, d 106, d 107, d 108, d 109, d 110, d 111, d 112, d 113, d 114, d 115, d 116, d 117, d 118, d 119, d 120, d 121, d 122, d 123, d 124, d 125, d 126, d 127, d 128, d 129, d 130, d 131, d 132, d 133, d 134, d 135, d 136, d 137, d 138, d 139, d 140, d 141, d 142, d 143, d 144, d 145, d 146, d 147, d 148, d 149, d 150, d 151, d 152, d 153, d 154, d 155, d 156, d 157, d 158, d 159, d 160, d 161, d 162, d 163, d 164, d 165, d 166, d 167, d 168, d 169, d 170, d 171, d 172, d 173, d 174, d 175, d 176, d 177, d 178, d 179, d 180, d 181, d 182, d 183, d 184, d 185, d 186, d 187, d 188, d 189, d 190, d 191, d 192, d 193, d 194, d 195, d 196, d 197, d 198, d 199, d 200, d 201, d 202, d 203, d 204, d 205, d 206, d 207, d 208, d 209, d 210, d 211, d 212, d 213, d 214, d 215, d 216, d 217, d 218, d 219, d 220, d 221, d 222, d 223, d 224]
def G_q124_2 (K : Kont) (s0 : Self) (v0 v1 v5 v6 : Value) (d : Nat → Value) (h : Hp) : Prop := aw Try.prog O_q124 K_q124_4 (Q_q124_2 K s0) (E_q124_2 v0 v1 v5 v6 d) h
noncomputable def K_q124_5 : Code := (cI (cB (cA (cB (cB (cB (cB (bodyC Try.f10))))))))
noncomputable def K_q124_6 : Code := (cB (cB (cB (cB (cB (bodyC Try.f10))))))
def Q_q124_3 (K : Kont) : Post := qSeq (aw Try.prog O_q124 K_q124_6 (qTop Try.prog Try.f10 K)) (qTop Try.prog Try.f10 K)
def Q_q124_4 (K : Kont) : Post := qBlk 2 (Q_q124_3 K)
def E_q124_3 (v0 v1 v5 v9 : Value) (d : Nat → Value) : List Value := [v0, v1, d 2, d 3, d 4, v5, d 6, d 7, d 8, v9, d 10, d 11, d 12, d 13, d 14, d 15, d 16, d 17, d 18, d 19, d 20, d 21, d 22, d 23, d 24, d 25, d 26, d 27, d 28, d 29, d 30, d 31, d 32, d 33, d 34, d 35, d 36, d 37, d 38, d 39, d 40, d 41, d 42, d 43, d 44, d 45, d 46, d 47, d 48, d 49, d 50, d 51, d 52, d 53, d 54, d 55, d 56, d 57, d 58, d 59, d 60, d 61, d 62, d 63, d 64, d 65, d 66, d 67, d 68, d 69, d 70, d 71, d 72, d 73, d 74, d 75, d 76, d 77, d 78, d 79, d 80, d 81, d 82, d 83, d 84, d 85, d 86, d 87, d 88, d 89, d 90, d 91, d 92, d 93, d 94, d 95, d 96, d 97, d 98, d 99, d 100, d 101, d 102, d 103, d 104, d 105, d 106, d 107, d 108, d 109, d 110, d 111, d 112, d 113, d 114, d 115, d 116, d 117, d 118, d 119, d 120, d 121, d 122, d 123, d 124, d 125, d 126, d 127, d 128, d 129, d 130, d 131, d 132, d 133, d 134, d 135, d 136, d 137, d 138, d 139, d 140, d 141, d 142, d 143, d 144, d 145, d 146, d 147, d 148, d 149, d 150, d 151, d 152, d 153, d 154, d 155, d 156, d 157, d 158, d 159, d 160, d 161, d 162, d 163, d 164, d 165, d 166, d 167, d 168, d 169, d 170, d 171, d 172, d 173, d 174, d 175, d 176, d 177, d 178, d 179, d 180, d 181, d 182, d 183, d 184, d 185, d 186, d 187, d 188, d 189, d 190, d 191, d 192, d 193, d 194, d 195, d 196, d 197, d 198, d 199, d 200, d 201, d 202, d 203, d 204, d 205, d 206, d 207, d 208, d 209, d 210, d 211, d 212, d 213, d 214, d 215, d 216, d 217, d 218, d 219, d 220, d 221, d 222, d 223, d 224]
def G_q124_3 (K : Kont) (v0 v1 v5 v9 : Value) (d : Nat → Value) (h : Hp) : Prop := aw Try.prog O_q124 K_q124_5 (Q_q124_4 K) (E_q124_3 v0 v1 v5 v9 d) h
noncomputable def K_q124_7 : Code := (cB (cI (cI (cB (cA (cB (cB (cB (bodyC Try.f10)))))))))
def Q_q124_5 (K : Kont) (s0 : Self) : Post := qSeq s0 (Q_q124_4 K)
noncomputable def K_q124_8 : Code := (cI (cI (cB (cA (cB (cB (cB (cB (bodyC Try.f10)))))))))
noncomputable def K_q124_9 : Code := (cT (cB (cI (cB (cA (cB (cB (cI (cA (cB (cI (cI (cB (cA (cB (cB (cB (cB (bodyC Try.f10)))))))))))))))))))
noncomputable def K_q124_10 : Code := (cB (cB (cI (cI (cB (cA (cB (cB (cB (cB (bodyC Try.f10)))))))))))
def Q_q124_6 (K : Kont) (s0 : Self) : Post := qSeq (aw Try.prog O_q124 K_q124_10 (Q_q124_5 K s0)) (Q_q124_5 K s0)
def Q_q124_7 (K : Kont) (s0 : Self) : Post := qBlk 3 (Q_q124_6 K s0)
noncomputable def K_q124_11 : Code := (cB (cB (cB (cI (cA (cB (cI (cI (cB (cA (cB (cB (cB (cB (bodyC Try.f10)))))))))))))))
def Q_q124_8 (K : Kont) (s0 : Self) : Post := qSeq (aw Try.prog O_q124 K_q124_11 (Q_q124_7 K s0)) (Q_q124_7 K s0)
def Q_q124_9 (K : Kont) (s0 : Self) : Post := qBlk 4 (Q_q124_8 K s0)
def E_q124_4 (v0 v1 v5 v9 : Value) (d : Nat → Value) : List Value := [v0, v1, d 2, d 3, d 4, v5, d 6, d 7, d 8, v9, d 10, d 11, d 12, d 13, d 14, d 15, d 16, d 17, d 18, d 19, d 20, d 21, d 22, d 23, d 24, d 25, d 26, d 27, d 28, d 29, d 30, d 31, d 32, d 33, d 34, d 35, d 36, d 37, d 38, d 39, d 40, d 41, d 42, d 43, d 44, d 45, d 46, d 47, d 48, d 49, d 50, d 51, d 52, d 53, d 54, d 55, d 56, d 57, d 58, d 59, d 60, d 61, d 62, d 63, d 64, d 65, d 66, d 67, d 68, d 69, d 70, d 71, d 72, d 73, d 74, d 75, d 76, d 77, d 78, d 79, d 80, d 81, d 82, d 83, d 84, d 85, d 86, d 87, d 88, d 89, d 90, d 91, d 92, d 93, d 94, d 95, d 96, d 97, d 98, d 99, d 100, d 101, d 102, d 103, d 104, d 105, d 106, d 107, d 108, d 109, d 110, d 111, d 112, d 113, d 114, d 115, d 116, d 117, d 118, d 119, d 120, d 121, d 122, d 123, d 124, d 125, d 126, d 127, d 128, d 129, d 130, d 131, d 132, d 133, d 134, d 135, d 136, d 137, d 138, d 139, d 140, d 141, d 142, d 143, d 144, d 145, d 146, d 147, d 148, d 149, d 150, d 151, d 152, d 153, d 154, d 155, d 156, d 157, d 158, d 159, d 160, d 161, d 162, d 163, d 164, d 165, d 166, d 167, d 168, d 169, d 170, d 171, d 172, d 173, d 174, d 175, d 176, d 177, d 178, d 179, d 180, d 181, d 182, d 183, d 184, d 185, d 186, d 187, d 188, d 189, d 190, d 191, d 192, d 193, d 194, d 195, d 196, d 197, d 198, d 199, d 200, d 201, d 202, d 203, d 204, d 205, d 206, d 207, d 208, d 209, d 210, d 211, d 212, d 213, d 214, d 215, d 216, d 217, d 218, d 219, d 220, d 221, d 222, d 223, d 224]
def G_q124_4 (K : Kont) (s0 : Self) (v0 v1 v5 v9 : Value) (d : Nat → Value) (h : Hp) : Prop := aw Try.prog O_q124 K_q124_9 (Q_q124_9 K s0) (E_q124_4 v0 v1 v5 v9 d) h
noncomputable def K_q124_12 : Code := (cE (cB (cI (cB (cA (cB (cB (cI (cA (cB (cI (cI (cB (cA (cB (cB (cB (cB (bodyC Try.f10)))))))))))))))))))
def E_q124_5 (v0 v1 v5 v9 v10 v92 : Value) (d : Nat → Value) : List Value := [v0, v1, d 2, d 3, d 4, v5, d 6, d 7, d 8, v9, v10, d 11, d 12, d 13, d 14, d 15, d 16, d 17, d 18, d 19, d 20, d 21, d 22, d 23, d 24, d 25, d 26, d 27, d 28, d 29, d 30, d 31, d 32, d 33, d 34, d 35, d 36, d 37, d 38, d 39, d 40, d 41, d 42, d 43, d 44, d 45, d 46, d 47, d 48, d 49, d 50, d 51, d 52, d 53, d 54, d 55, d 56, d 57, d 58, d 59, d 60, d 61, d 62, d 63, d 64, d 65, d 66, d 67, d 68, d 69, d 70, d 71, d 72, d 73, d 74, d 75, d 76, d 77, d 78, d 79, d 80, d 81, d 82, d 83, d 84, d 85, d 86, d 87, d 88, d 89, d 90, d 91, v92, d 93, d 94, d 95, d 96, d 97, d 98, d 99, d 100, d 101, d 102, d 103, d 104, d 105, d 106, d 107, d 108, d 109, d 110, d 111, d 112, d 113, d 114, d 115, d 116, d 117, d 118, d 119, d 120, d 121, d 122, d 123, d 124, d 125, d 126, d 127, d 128, d 129, d 130, d 131, d 132, d 133, d 134, d 135, d 136, d 137, d 138, d 139, d 140, d 141, d 142, d 143, d 144, d 145, d 146, d 147, d 148, d 149, d 150, d 151, d 152, d 153, d 154, d 155, d 156, d 157, d 158, d 159, d 160, d 161, d 162, d 163, d 164, d 165, d 166, d 167, d 168, d 169, d 170, d 171, d 172, d 173, d 174, d 175, d 176, d 177, d 178, d 179, d 180, d 181, d 182, d 183, d 184, d 185, d 186, d 187, d 188, d 189, d 190, d 191, d 192, d 193, d 194, d 195, d 196, d 197, d 198, d 199, d 200, d 201, d 202, d 203, d 204, d 205, d 206, d 207, d 208, d 209, d 210, d 211, d 212, d 213, d 214, d 215, d 216, d 217, d 218, d 219, d 220, d 221, d 222, d 223, d 224]
def G_q124_5 (K : Kont) (s0 : Self) (v0 v1 v5 v9 v10 v92 : Value) (d : Nat → Value) (h : Hp) : Prop := aw Try.prog O_q124 K_q124_12 (Q_q124_9 K s0) (E_q124_5 v0 v1 v5 v9 v10 v92 d) h
noncomputable def K_q124_13 : Code := (cB (cI (cA (cB (cI (cI (cB (cA (cB (cB (cB (cB (bodyC Try.f10)))))))))))))
noncomputable def K_q124_14 : Code := (cB (cI (cI (cB (cA (cB (cB (cB (cB (bodyC Try.f10))))))))))
def E_q124_6 (v0 v1 v5 v9 : Value) (d : Nat → Value) : List Value := [v0, v1, d 2, d 3, d 4, v5, d 6, d 7, d 8, v9, d 10, d 11, d 12, d 13, d 14, d 15, d 16, d 17, d 18, d 19, d 20, d 21, d 22, d 23, d 24, d 25, d 26, d 27, d 28, d 29, d 30, d 31, d 32, d 33, d 34, d 35, d 36, d 37, d 38, d 39, d 40, d 41, d 42, d 43, d 44, d 45, d 46, d 47, d 48, d 49, d 50, d 51, d 52, d 53, d 54, d 55, d 56, d 57, d 58, d 59, d 60, d 61, d 62, d 63, d 64, d 65, d 66, d 67, d 68, d 69, d 70, d 71, d 72, d 73, d 74, d 75, d 76, d 77, d 78, d 79, d 80, d 81, d 82, d 83, d 84, d 85, d 86, d 87, d 88, d 89, d 90, d 91, d 92, d 93, d 94, d 95, d 96, d 97, d 98, d 99, d 100, d 101, d 102, d 103, d 104, d 105, d 106, d 107, d 108, d 109, d 110, d 111, d 112, d 113, d 114, d 115, d 116, d 117, d 118, d 119, d 120, d 121, d 122, d 123, d 124, d 125, d 126, d 127, d 128, d 129, d 130, d 131, d 132, d 133, d 134, d 135, d 136, d 137, d 138, d 139, d 140, d 141, d 142, d 143, d 144, d 145, d 146, d 147, d 148, d 149, d 150, d 151, d 152, d 153, d 154, d 155, d 156, d 157, d 158, d 159, d 160, d 161, d 162, d 163, d 164, d 165, d 166, d 167, d 168, d 169, d 170, d 171, d 172, d 173, d 174, d 175, d 176, d 177, d 178, d 179, d 180, d 181, d 182, d 183, d 184, d 185, d 186, d 187, d 188, d 189, d 190, d 191, d 192, d 193, d 194, d 195, d 196, d 197, d 198, d 199, d 200, d 201, d 202, d 203, d 204, d 205, d 206, d 207, d 208, d 209, d 210, d 211, d 212, d 213, d 214, d 215, d 216, d 217, d 218, d 219, d 220, d 221, d 222, d 223, d 224]
def G_q124_6 (K : Kont) (s0 : Self) (v0 v1 v5 v9 : Value) (d : Nat → Value) (h : Hp) : Prop := aw Try.prog O_q124 K_q124_10 (Q_q124_5 K s0) (E_q124_6 v0 v1 v5 v9 d) h
noncomputable def K_q124_15 : Code := (cB (cB (cB (cB (cT (cB (cI (cB (cA (cB (cB (cI (cA (cB (cI (cI (cB (cA (cB (cB (cB (cB (bodyC Try.f10)))))))))))))))))))))))
def E_q124_7 (v0 v1 v5 v9 v12 : Value) (d : Nat → Value) : List Value := [v0, v1, d 2, d 3, d 4, v5, d 6, d 7, d 8, v9, d 10, d 11, v12, d 13, d 14, d 15, d 16, d 17, d 18, d 19, d 20, d 21, d 22, d 23, d 24, d 25, d 26, d 27, d 28, d 29, d 30, d 31, d 32, d 33, d 34, d 35, d 36, d 37, d 38, d 39, d 40, d 41, d 42, d 43, d 44, d 45, d 46, d 47, d 48, d 49, d 50, d 51, d 52, d 53, d 54, d 55, d 56, d 57, d 58, d 59, d 60, d 61, d 62, d 63, d 64, d 65, d 66, d 67, d 68, d 69, d 70, d 71, d 72, d 73, d 74, d 75, d 76, d 77, d 78, d 79, d 80, d 81, d 82, d 83, d 84, d 85, d 86, d 87, d 88, d 89, d 90, d 91, d 92, d 93, d 94, d 95, d 96, d 97, d 98, d 99, d 100, d 101, d 102, d 103, d 104, d 105, d 106, d 107, d 108, d 109, d 110, d 111, d 112, d 113, d 114, d 115, d 116, d 117, d 118, d 119, d 120, d 121, d 122, d 123, d 124, d 125, d 126, d 127, d 128, d 129, d 130, d 131, d 132, d 133, d 134, d 135, d 136, d 137, d 138, d 139, d 140, d 141, d 142, d 143, d 144, d 145, d 146, d 147, d 148, d 149, d 150, d 151, d 152, d 153, d 154, d 155, d 156, d 157, d 158, d 159, d 160, d 161, d 162, d 163, d 164, d 165, d 166, d 167, d 168, d 169, d 170, d 171, d 172, d 173, d 174, d 175, d 176, d 177, d 178, d 179, d 180, d 181, d 182, d 183, d 184, d 185, d 186, d 187, d 188, d 189, d 190, d 191, d 192, d 193, d 194, d 195, d 196, d 197, d 198, d 199, d 200, d 201, d 202, d 203, d 204, d 205, d 206, d 207, d 208, d 209, d 210, d 211, d 212, d 213, d 214, d 215, d 216, d 217, d 218, d 219, d 220, d 221, d 222, d 223, d 224]
def G_q124_7 (K : Kont) (s0 : Self) (v0 v1 v5 v9 v12 : Value) (d : Nat → Value) (h : Hp) : Prop := aw Try.prog O_q124 K_q124_15 (Q_q124_9 K s0) (E_q124_7 v0 v1 v5 v9 v12 d) h
noncomputable def K_q124_16 : Code := (cB (cB (cT (cB (cI (cB (cA (cB (cB (cI (cA (cB (cI (cI (cB (cA (cB (cB (cB (cB (bodyC Try.f10)))))))))))))))))))))
noncomputable def K_q124_17 : Code := (cT (cB (cE (cB (cI (cB (cA (cB (cB (cI (cA (cB (cI (cI (cB (cA (cB (cB (cB (cB (bodyC Try.f10)))))))))))))))))))))
def E_q124_8 (v0 v1 v5 v9 v10 : Value) (d : Nat → Value) : List Value := [v0, v1, d 2, d 3, d 4, v5, d 6, d 7, d 8, v9, v10, d 11, d 12, d 13, d 14, d 15, d 16, d 17, d 18, d 19, d 20, d 21, d 22, d 23, d 24, d 25, d 26, d 27, d 28, d 29, d 30, d 31, d 32, d 33, d 34, d 35, d 36, d 37, d 38, d 39, d 40, d 41, d 42, d 43, d 44, d 45, d 46, d 47, d 48, d 49, d 50, d 51, d 52, d 53, d 54, d 55, d 56, d 57, d 58, d 59, d 60, d 61, d 62, d 63, d 64, d 65, d 66, d 67, d 68, d 69, d 70, d 71, d 72, d 73, d 74, d 75, d 76, d 77, d 78, d 79, d 80, d 81, d 82, d 83, d 84, d 85, d 86, d 87, d 88, d 89, d 90, d 91, d 92, d 93, d 94, d 95, d 96, d 97, d 98, d 99, d 100, d 101, d 102, d 103, d 104, d 105, d 106, d 107, d 108, d 109, d 110, d 111, d 112, d 113, d 114, d 115, d 116, d 117, d 118, d 119, d 120, d 121, d 122, d 123, d 124, d 125, d 126, d 127, d 128, d 129, d 130, d 131, d 132, d 133, d 134, d 135, d 136, d 137, d 138, d 139, d 140, d 141, d 142, d 143, d 144, d 145, d 146, d 147, d 148, d 149, d 150, d 151, d 152, d 153, d 154, d 155, d 156, d 157, d 158, d 159, d 160, d 161, d 162, d 163, d 164, d 165, d 166, d 167, d 168, d 169, d 170, d 171, d 172, d 173, d 174, d 175, d 176, d 177, d 178, d 179, d 180, d 181, d 182, d 183, d 184, d 185, d 186, d 187, d 188, d 189, d 190, d 191, d 192, d 193, d 194, d 195, d 196, d 197, d 198, d 199, d 200, d 201, d 202, d 203, d 204, d 205, d 206, d 207, d 208, d 209, d 210, d 211, d 212, d 213, d 214, d 215, d 216, d 217, d 218, d 219, d 220, d 221, d 222, d 223, d 224]
def G_q124_8 (K : Kont) (s0 : Self) (v0 v1 v5 v9 v10 : Value) (d : Nat → Value) (h : Hp) : Prop := aw Try.prog O_q124 K_q124_17 (Q_q124_9 K s0) (E_q124_8 v0 v1 v5 v9 v10 d) h
noncomputable def K_q124_18 : Code := (cE (cB (cE (cB (cI (cB (cA (cB (cB (cI (cA (cB (cI (cI (cB (cA (cB (cB (cB (cB (bodyC Try.f10)))))))))))))))))))))
def E_q124_9 (v0 v1 v5 v9 v10 v92 : Value) (d : Nat → Value) : List Value := [v0, v1, d 2, d 3, d 4, v5, d 6, d 7, d 8, v9, v10, d 11, d 12, d 13, d 14, d 15, d 16, d 17, d 18, d 19, d 20, d 21, d 22, d 23, d 24, d 25, d 26, d 27, d 28, d 29, d 30, d 31, d 32, d 33, d 34, d 35, d 36, d 37, d 38, d 39, d 40, d 41, d 42, d 43, d 44, d 45, d 46, d 47, d 48, d 49, d 50, d 51, d 52, d 53, d 54, d 55, d 56, d 57, d 58, d 59, d 60, d 61, d 62, d 63, d 64, d 65, d 66, d 67, d 68, d 69, d 70, d 71, d 72, d 73, d 74, d 75, d 76, d 77, d 78, d 79, d 80, d 81, d 82, d 83, d 84, d 85, d 86, d 87, d 88, d 89, d 90, d 91, v92, d 93, d 94, d 95, d 96, d 97, d 98, d 99, d 100, d 101, d 102, d 103, d 104, d 105, d 106, d 107, d 108, d 109, d 110, d 111, d 112, d 113, d 114, d 115, d 116, d 117, d 118, d 119, d 120, d 121, d 122, d 123, d 124, d 125, d 126, d 127, d 128, d 129, d 130, d 131, d 132, d 133, d 134, d 135, d 136, d 137, d 138, d 139, d 140, d 141, d 142, d 143, d 144, d 145, d 146, d 147, d 148, d 149, d 150, d 151, d 152, d 153, d 154, d 155, d 156, d 157, d 158, d 159, d 160, d 161, d 162, d 163, d 164, d 165, d 166, d 167, d 168, d 169, d 170, d 171, d 172, d 173, d 174, d 175, d 176, d 177, d 178, d 179, d 180, d 181, d 182, d 183, d 184, d 185, d 186, d 187, d 188, d 189, d 190, d 191, d 192, d 193, d 194, d 195, d 196, d 197, d 198, d 199, d 200, d 201, d 202, d 203, d 204, d 205, d 206, d 207, d 208, d 209, d 210, d 211, d 212, d 213, d 214, d 215, d 216, d 217, d 218, d 219, d 220, d 221, d 222, d 223, d 224]
def G_q124_9 (K : Kont) (s0 : Self) (v0 v1 v5 v9 v10 v92 : Value) (d : Nat → Value) (h : Hp) : Prop := aw Try.prog O_q124 K_q124_18 (Q_q124_9 K s0) (E_q124_9 v0 v1 v5 v9 v10 v92 d) h
def E_q124_10 (v0 v1 v5 v9 : Value) (d : Nat → Value) : List Value := [v0, v1, d 2, d 3, d 4, v5, d 6, d 7, d 8, v9, d 10, d 11, d 12, d 13, d 14, d 15, d 16, d 17, d 18, d 19, d 20, d 21, d 22, d 23, d 24, d 25, d 26, d 27, d 28, d 29, d 30, d 31, d 32, d 33, d 34, d 35, d 36, d 37, d 38, d 39, d 40, d 41, d 42, d 43, d 44, d 45, d 46, d 47, d 48, d 49, d 50, d 51, d 52, d 53, d 54, d 55, d 56, d 57, d 58, d 59, d 60, d 61, d 62, d 63, d 64, d 65, d 66, d 67, d 68, d 69, d 70, d 71, d 72, d 73, d 74, d 75, d 76, d 77, d 78, d 79, d 80, d 81, d 82, d 83, d 84, d 85, d 86, d 87, d 88, d 89, d 90, d 91, d 92, d 93, d 94, d 95, d 96, d 97, d 98, d 99, d 100, d 101, d 102, d 103, d 104, d 105, d 106, d 107, d 108, d 109, d 110, d 111, d 112, d 113, d 114, d 115, d 116, d 117, d 118, d 119, d 120, d 121, d 122, d 123, d 124, d 125, d 126, d 127, d 128, d 129, d 130, d 131, d 132, d 133, d 134, d 135, d 136, d 137, d 138, d 139, d 140, d 141, d 142, d 143, d 144, d 145, d 146, d 147, d 148, d 149, d 150, d 151, d 152, d 153, d 154, d 155, d 156, d 157, d 158, d 159, d 160, d 161, d 162, d 163, d 164, d 165, d 166, d 167, d 168, d 169, d 170, d 171, d 172, d 173, d 174, d 175, d 176, d 177, d 178, d 179, d 180, d 181, d 182, d 183, d 184, d 185, d 186, d 187, d 188, d 189, d 190, d 191, d 192, d 193, d 194, d 195, d 196, d 197, d 198, d 199, d 200, d 201, d 202, d 203, d 204, d 205, d 206, d 207, d 208, d 209, d 210, d 211, d 212, d 213, d 214, d 215, d 216, d 217, d 218, d 219, d 220, d 221, d 222, d 223, d 224]
def G_q124_10 (K : Kont) (s0 : Self) (v0 v1 v5 v9 : Value) (d : Nat → Value) (h : Hp) : Prop := aw Try.prog O_q124 K_q124_11 (Q_q124_7 K s0) (E_q124_10 v0 v1 v5 v9 d) h
noncomputable def K_q124_19 : Code := (cT (cB (cE (cB (cE (cB (cI (cB (cA (cB (cB (cI (cA (cB (cI (cI (cB (cA (cB (cB (cB (cB (bodyC Try.f10)))))))))))))))))))))))
def E_q124_11 (v0 v1 v5 v9 v10 : Value) (d : Nat → Value) : List Value := [v0, v1, d 2, d 3, d 4, v5, d 6, d 7, d 8, v9, v10, d 11, d 12, d 13, d 14, d 15, d 16, d 17, d 18, d 19, d 20, d 21, d 22, d 23, d 24, d 25, d 26, d 27, d 28, d 29, d 30, d 31, d 32, d 33, d 34, d 35, d 36, d 37, d 38, d 39, d 40, d 41, d 42, d 43, d 44, d 45, d 46, d 47, d 48, d 49, d 50, d 51, d 52, d 53, d 54, d 55, d 56, d 57, d 58, d 59, d 60, d 61, d 62, d 63, d 64, d 65, d 66, d 67, d 68, d 69, d 70, d 71, d 72, d 73, d 74, d 75, d 76, d 77, d 78, d 79, d 80, d 81, d 82, d 83, d 84, d 85, d 86, d 87, d 88, d 89, d 90, d 91, d 92, d 93, d 94, d 95, d 96, d 97, d 98, d 99, d 100, d 101, d 102, d 103, d 104, d 105, d 106, d 107, d 108, d 109, d 110, d 111, d 112, d 113, d 114, d 115, d 116, d 117, d 118, d 119, d 120, d 121, d 122, d 123, d 124, d 125, d 126, d 127, d 128, d 129, d 130, d 131, d 132, d 133, d 134, d 135, d 136, d 137, d 138, d 139, d 140, d 141, d 142, d 143, d 144, d 145, d 146, d 147, d 148, d 149, d 150, d 151, d 152, d 153, d 154, d 155, d 156, d 157, d 158, d 159, d 160, d 161, d 162, d 163, d 164, d 165, d 166, d 167, d 168, d 169, d 170, d 171, d 172, d 173, d 174, d 175, d 176, d 177, d 178, d 179, d 180, d 181, d 182, d 183, d 184, d 185, d 186, d 187, d 188, d 189, d 190, d 191, d 192, d 193, d 194, d 195, d 196, d 197, d 198, d 199, d 200, d 201, d 202, d 203, d 204, d 205, d 206, d 207, d 208, d 209, d 210, d 211, d 212, d 213, d 214, d 215, d 216, d 217, d 218, d 219, d 220, d 221, d 222, d 223, d 224]
def G_q124_11 (K : Kont) (s0 : Self) (v0 v1 v5 v9 v10 : Value) (d : Nat → Value) (h : Hp) : Prop := aw Try.prog O_q124 K_q124_19 (Q_q124_9 K s0) (E_q124_11 v0 v1 v5 v9 v10 d) h
noncomputable def K_q124_20 : Code := (cB (cT (cB (cE (cB (cE (cB (cI (cB (cA (cB (cB (cI (cA (cB (cI (cI (cB (cA (cB (cB (cB (cB (bodyC Try.f10))))))))))))))))))))))))
def E_q124_12 (v0 v1 v5 v9 v10 v15 v16 : Value) (d : Nat → Value) : List Value := [v0, v1, d 2, d 3, d 4, v5, d 6, d 7, d 8, v9, v10, d 11, d 12, d 13, d 14, v15, v16, d 17, d 18, d 19, d 20, d 21, d 22, d 23, d 24, d 25, d 26, d 27, d 28, d 29, d 30, d 31, d 32, d 33, d 34, d 35, d 36, d 37, d 38, d 39, d 40, d 41, d 42, d 43, d 44, d 45, d 46, d 47, d 48, d 49, d 50, d 51, d 52, d 53, d 54, d 55, d 56, d 57, d 58, d 59, d 60, d 61, d 62, d 63, d 64, d 65, d 66, d 67, d 68, d 69, d 70, d 71, d 72, d 73, d 74, d 75, d 76, d 77, d 78, d 79, d 80, d 81, d 82, d 83, d 84, d 85, d 86, d 87, d 88, d 89, d 90, d 91, d 92, d 93, d 94, d 95, d 96, d 97, d 98, d 99, d 100, d 101, d 102, d 103, d 104, d 105, d 106, d 107, d 108, d 109, d 110, d 111, d 112, d 113, d 114, d 115, d 116, d 117, d 118, d 119, d 120, d 121, d 122, d 123, d 124, d 125, d 126, d 127, d 128, d 129, d 130, d 131, d 132, d 133, d 134, d 135, d 136, d 137, d 138, d 139, d 140, d 141, d 142, d 143, d 144, d 145, d 146, d 147, d 148, d 149, d 150, d 151, d 152, d 153, d 154, d 155, d 156, d 157, d 158, d 159, d 160, d 161, d 162, d 163, d 164, d 165, d 166, d 167, d 168, d 169, d 170, d 171, d 172, d 173, d 174, d 175, d 176, d 177, d 178, d 179, d 180, d 181, d 182, d 183, d 184, d 185, d 186, d 187, d 188, d 189, d 190, d 191, d 192, d 193, d 194, d 195, d 196, d 197, d 198, d 199, d 200, d 201, d 202, d 203, d 204, d 205, d 206, d 207, d 208, d 209, d 210, d 211, d 212, d 213, d 214, d 215, d 216, d 217, d 218, d 219, d 220, d 221, d 222, d 223, d 224]
def G_q124_12 (K : Kont) (s0 : Self) (v0 v1 v5 v9 v10 v15 v16 : Value) (d : Nat → Value) (h : Hp) : Prop := aw Try.prog O_q124 K_q124_20 (Q_q124_9 K s0) (E_q124_12 v0 v1 v5 v9 v10 v15 v16 d) h
def G_q124 (a0 a1 : Value) (h : Hp) (K : Kont) : Prop :=
  oBin .lss a0 (Value.int .i64 1) h fun t18 h1 =>
  oGuard t18 false (fun K => K a0 h1) h1 fun t20 h2 =>
  oGuard t18 false (fun K => oBin .gtr t20 (Value.int .i64 5) h2 K) h2 fun t21 h3 =>
  oPick t18 (Value.bool true) t21 h3 fun t22 h4 =>
  oGuard t22 false (fun K => K a1 h4) h4 fun t24 h5 =>
  oGuard t22 false (fun K => oLen 0 t24 h5 K) h5 fun t25 h6 =>
  oGuard t22 false (fun K => oBin .gtr t25 (Value.int .i64 300) h6 K) h6 fun t26 h7 =>
  oPick t22 (Value.bool true) t26 h7 fun t27 h8 =>
  oIf t27
  (C_q162 [] h8 fun t28 h9 =>
  K t28 h9)
  (oBuild #[.slice none 0 0, .slice none 0 0, .slice none 0 0, .slice none 0 0, .bool false] [(4, 1, (Value.bool true))] h8 fun t29 h10 =>
  oBox t29 h10 fun t30 h11 =>
  G_q124_1 K a0 a1 t30 (Value.int .i64 1) (ud [(4, (Value.bool false)), (17, a0), (18, t18), (19, t18), (20, t20), (21, t21), (22, t22), (23, t22), (24, t24), (25, t25), (26, t26), (27, t27), (29, t29), (30, t30)] dz) h11)
def E0_q124 (a0 a1 : Value) : List Value := [a0, a1, undef, undef, undef, undef, undef, undef, undef, undef, undef, undef, undef, undef, undef, undef, undef, undef, undef, undef, undef, undef, undef, undef, undef, undef, undef, undef, undef, undef, undef, undef, undef, undef, undef, undef, undef, undef, undef, undef, undef, undef, undef, undef, undef, undef, undef, undef, undef, undef, undef, undef, undef, undef, undef, undef, undef, undef, undef, undef, undef, undef, undef, undef, undef, undef, undef, undef, undef, undef, undef, undef, undef, undef, undef, undef, undef, undef, undef, undef, undef, undef, undef, undef, undef, undef, undef, undef, undef, undef, undef, undef, undef, undef, undef, undef, undef, undef, undef, undef, undef, undef, undef, undef, undef, undef, undef, undef, undef, undef, undef, undef, undef, undef, undef, undef, undef, undef, undef, undef, undef, undef, undef, undef, undef, undef, undef, undef, undef, undef, undef, undef, undef, undef, undef, undef, undef, undef, undef, undef, undef, undef, undef, undef, undef, undef, undef, undef, undef, undef, undef, undef, undef, undef, undef, undef, undef, undef, undef, undef, undef, undef, undef, undef, undef, undef, undef, undef, undef, undef, undef, undef, undef, undef, undef, undef, undef, undef, undef, undef, undef, undef, undef, undef, undef, undef, undef, undef, undef, undef, undef, undef, undef, undef, undef, undef, undef, undef, undef, undef, undef, undef, undef, undef, undef, undef, undef, undef, undef, undef, undef, undef, undef, undef, undef, undef, undef, undef, undef, undef, undef, undef, undef, undef, undef]
def X_q124 (Qv : Post) (a0 a1 : Value) (h : Hp) : Prop :=
  oBin .lss a0 (Value.int .i64 1) h fun t18 h1 =>
  oGuard t18 false (fun K => K a0 h1) h1 fun t20 h2 =>
  oGuard t18 false (fun K => oBin .gtr t20 (Value.int .i64 5) h2 K) h2 fun t21 h3 =>
  oPick t18 (Value.bool true) t21 h3 fun t22 h4 =>
  oGuard t22 false (fun K => K a1 h4) h4 fun t24 h5 =>
  oGuard t22 false (fun K => oLen 0 t24 h5 K) h5 fun t25 h6 =>
  oGuard t22 false (fun K => oBin .gtr t25 (Value.int .i64 300) h6 K) h6 fun t26 h7 =>
  oPick t22 (Value.bool true) t26 h7 fun t27 h8 =>
  oIf t27
  (C_q162 [] h8 fun t28 h9 =>
  (qSeq (aw Try.prog O_q124 K_q124_2 Qv) Qv) .ret (ul (E0_q124 a0 a1) [(4, t28), (17, a0), (18, t18), (19, t18), (20, t20), (21, t21), (22, t22), (23, t22), (24, t24), (25, t25), (26, t26), (27, t27), (28, t28)]) h9)
  (oBuild #[.slice none 0 0, .slice none 0 0, .slice none 0 0, .slice none 0 0, .bool false] [(4, 1, (Value.bool true))] h8 fun t29 h10 =>
  oBox t29 h10 fun t30 h11 =>
  aw Try.prog O_q124 K_q124_0 (qBlk 0 (qSeq (aw Try.prog O_q124 K_q124_1 Qv) Qv)) (ul (E0_q124 a0 a1) [(4, (Value.bool false)), (5, t30), (6, (Value.int .i64 1)), (17, a0), (18, t18), (19, t18), (20, t20), (21, t21), (22, t22), (23, t22), (24, t24), (25, t25), (26, t26), (27, t27), (29, t29), (30, t30)]) h11)
theorem ga_q124 (Qv : Post) (a0 a1 : Value) (h : Hp) : aw Try.prog O_q124 (bodyC Try.f10) Qv (E0_q124 a0 a1) h = X_q124 Qv a0 a1 h := by kernel_rfl
theorem gb_q124 (a0 a1 : Value) (h : Hp) (K : Kont) : X_q124 (qTop Try.prog Try.f10 K) a0 a1 h = G_q124 a0 a1 h K := by kernel_rfl
theorem gc_q124 (a0 a1 : Value) (h : Hp) (K : Kont) : abody Try.prog O_q124 Try.f10 (bodyC Try.f10) [a0, a1] h K = aw Try.prog O_q124 (bodyC Try.f10) (qTop Try.prog Try.f10 K) (E0_q124 a0 a1) h := by kernel_rfl
theorem eq_q124 (a0 a1 : Value) (h : Hp) (K : Kont) : abody Try.prog O_q124 Try.f10 (bodyC Try.f10) [a0, a1] h K = G_q124 a0 a1 h K := (gc_q124 a0 a1 h K).trans ((ga_q124 _ a0 a1 h).trans (gb_q124 a0 a1 h K))
theorem ok_q124 {a0 a1 : Value} {h : Hp} {K : Kont} (hk : G_q124 a0 a1 h K) : C_q124 [a0, a1] h K := ac_of_body prog_mixed (fn := Try.f10) Try.func10 (c := bodyC Try.f10) (by kernel_rfl) ((eq_q124 a0 a1 h K).mpr hk)
def B_q124_1 (K : Kont) (s0 : Self) (v0 v1 v5 v6 : Value) (d : Nat → Value) (h : Hp) : Prop :=
  oBin .leq v6 v0 h fun t33 h1 =>
  oIf t33
  (C_q171 [v6, v0] h1 fun t39 h2 =>
  oExtract t39 0 h2 fun t40 h3 =>
  oExtract t39 1 h3 fun t41 h4 =>
  oNilCheck v5 h4 fun t44 h5 =>
  oFieldAddr 0 t44 h5 fun t45 h6 =>
  oLd1 t45 h6 fun t46 h7 =>
  oBuildSlice #[.pointer none] 1 [(0 * 1, 1, t40)] h7 fun t48 h8 =>
  oAppend 1 8 #[.pointer none] t46 t48 h8 fun t49 h9 =>
  oNilCheck v5 h9 fun t50 h10 =>
  oFieldAddr 0 t50 h10 fun t51 h11 =>
  oSt 1 t51 t49 h11 fun _ h12 =>
  oNilCheck v5 h12 fun t54 h13 =>
  oFieldAddr 1 t54 h13 fun t55 h14 =>
  oLd1 t55 h14 fun t56 h15 =>
  C_q146 [] h15 fun t57 h16 =>
  ((oLd1 t55 h15 (fun v' _ => v' = t56) → oLd1 t55 h16 (fun v' _ => v' = t56)) ∧ True) ∧
  oBuildSlice #[.pointer none] 1 [(0 * 1, 1, t57)] h16 fun t58 h17 =>
  ((oLd1 t55 h16 (fun v' _ => v' = t56) → oLd1 t55 h17 (fun v' _ => v' = t56)) ∧ True) ∧
  oAppend 1 8 #[.pointer none] t56 t58 h17 fun t59 h18 =>
  (True) ∧
  oNilCheck v5 h18 fun t60 h19 =>
  oFieldAddr 1 t60 h19 fun t61 h20 =>
  oSt 1 t61 t59 h20 fun _ h21 =>
  (True) ∧
  G_q124_2 K s0 v0 v1 v5 v6 (ud [(7, t40), (8, t41), (31, v6), (32, v0), (33, t33), (36, t39), (37, v6), (38, v0), (39, t39), (40, t40), (41, t41), (42, v5), (43, v5), (44, t44), (45, t45), (46, t46), (47, t40), (48, t48), (49, t49), (50, t50), (51, t51), (52, v5), (53, v5), (54, t54), (55, t55), (56, t56), (57, t57), (58, t58), (59, t59), (60, t60), (61, t61)] d) h21)
  (G_q124_3 K v0 v1 v5 (Value.int .i64 0) (ud [(6, v6), (31, v6), (32, v0), (33, t33)] d) h1)
def X_q124_1 (Qv : Post) (v0 v1 v5 v6 : Value) (d : Nat → Value) (h : Hp) : Prop :=
  oBin .leq v6 v0 h fun t33 h1 =>
  oIf t33
  (C_q171 [v6, v0] h1 fun t39 h2 =>
  oExtract t39 0 h2 fun t40 h3 =>
  oExtract t39 1 h3 fun t41 h4 =>
  oNilCheck v5 h4 fun t44 h5 =>
  oFieldAddr 0 t44 h5 fun t45 h6 =>
  oLd1 t45 h6 fun t46 h7 =>
  oBuildSlice #[.pointer none] 1 [(0 * 1, 1, t40)] h7 fun t48 h8 =>
  oAppend 1 8 #[.pointer none] t46 t48 h8 fun t49 h9 =>
  oNilCheck v5 h9 fun t50 h10 =>
  oFieldAddr 0 t50 h10 fun t51 h11 =>
  oSt 1 t51 t49 h11 fun _ h12 =>
  oNilCheck v5 h12 fun t54 h13 =>
  oFieldAddr 1 t54 h13 fun t55 h14 =>
  oLd1 t55 h14 fun t56 h15 =>
  C_q146 [] h15 fun t57 h16 =>
  ((oLd1 t55 h15 (fun v' _ => v' = t56) → oLd1 t55 h16 (fun v' _ => v' = t56)) ∧ True) ∧
  oBuildSlice #[.pointer none] 1 [(0 * 1, 1, t57)] h16 fun t58 h17 =>
  ((oLd1 t55 h16 (fun v' _ => v' = t56) → oLd1 t55 h17 (fun v' _ => v' = t56)) ∧ True) ∧
  oAppend 1 8 #[.pointer none] t56 t58 h17 fun t59 h18 =>
  (True) ∧
  oNilCheck v5 h18 fun t60 h19 =>
  oFieldAddr 1 t60 h19 fun t61 h20 =>
  oSt 1 t61 t59 h20 fun _ h21 =>
  (True) ∧
  (qBlk 1 (qSeq (aw Try.prog O_q124 K_q124_4 Qv) Qv)) .normal (ul (E_q124_1 v0 v1 v5 v6 d) [(7, t40), (8, t41), (31, v6), (32, v0), (33, t33), (36, t39), (37, v6), (38, v0), (39, t39), (40, t40), (41, t41), (42, v5), (43, v5), (44, t44), (45, t45), (46, t46), (47, t40), (48, t48), (49, t49), (50, t50), (51, t51), (52, v5), (53, v5), (54, t54), (55, t55), (56, t56), (57, t57), (58, t58), (59, t59), (60, t60), (61, t61)]) h21)
  ((qSeq (aw Try.prog O_q124 K_q124_7 Qv) Qv) (.exit 0) (ul (E_q124_1 v0 v1 v5 v6 d) [(31, v6), (32, v0), (33, t33)]) h1)
theorem ga_q124_1 (Qv : Post) (v0 v1 v5 v6 : Value) (d : Nat → Value) (h : Hp) : aw Try.prog O_q124 K_q124_3 Qv (E_q124_1 v0 v1 v5 v6 d) h = X_q124_1 Qv v0 v1 v5 v6 d h := by kernel_rfl
theorem gb_q124_1 (K : Kont) (s0 : Self) (v0 v1 v5 v6 : Value) (d : Nat → Value) (h : Hp) : X_q124_1 (Q_q124_2 K s0) v0 v1 v5 v6 d h = B_q124_1 K s0 v0 v1 v5 v6 d h := by kernel_rfl
theorem beq_q124_1 (K : Kont) (s0 : Self) (v0 v1 v5 v6 : Value) (d : Nat → Value) (h : Hp) : aw Try.prog O_q124 K_q124_3 (Q_q124_2 K s0) (E_q124_1 v0 v1 v5 v6 d) h = B_q124_1 K s0 v0 v1 v5 v6 d h := (ga_q124_1 _ v0 v1 v5 v6 d h).trans (gb_q124_1 K s0 v0 v1 v5 v6 d h)
theorem rule_q124_1 {K : Kont} {v0 v1 v5 : Value} (Inv : Value → Hp → Prop) (μ : Value → Hp → Nat)
    (step : ∀ (s0 : Self) (v6 : Value) (d : Nat → Value) (h : Hp), Inv v6 h → (∀ (v6' : Value) (d' : Nat → Value) (h' : Hp), Inv v6' h' → μ v6' h' < μ v6 h → s0 (E_q124_1 v0 v1 v5 v6' d') h') → B_q124_1 K s0 v0 v1 v5 v6 d h) (v6 : Value) (d : Nat → Value) (h : Hp) (hi : Inv v6 h) : G_q124_1 K v0 v1 v5 v6 d h :=
  oLoop_rule (α := Value × (Nat → Value)) (fun x => E_q124_1 v0 v1 v5 x.1 x.2) (fun x h => Inv x.1 h) (fun x h => μ x.1 h)
    (fun self x h hx hs => (beq_q124_1 K self v0 v1 v5 x.1 x.2 h).mpr (step self x.1 x.2 h hx (fun v6' d' h' h1 h2 => hs ⟨v6', d'⟩ h' h1 h2))) ⟨v6, d⟩ h hi
def R_q124_2 (K : Kont) (s0 : Self) (v0 v1 v5 v6 : Value) (d : Nat → Value) (h : Hp) : Prop :=
  oBin .add v6 (Value.int .i64 1) h fun t35 h1 =>
  s0 (E_q124_1 v0 v1 v5 t35 (ud [(34, v6), (35, t35)] d)) h1
def X_q124_2 (Qv : Post) (v0 v1 v5 v6 : Value) (d : Nat → Value) (h : Hp) : Prop :=
  oBin .add v6 (Value.int .i64 1) h fun t35 h1 =>
  Qv .normal (ul (E_q124_2 v0 v1 v5 v6 d) [(6, t35), (34, v6), (35, t35)]) h1
theorem ga_q124_2 (Qv : Post) (v0 v1 v5 v6 : Value) (d : Nat → Value) (h : Hp) : aw Try.prog O_q124 K_q124_4 Qv (E_q124_2 v0 v1 v5 v6 d) h = X_q124_2 Qv v0 v1 v5 v6 d h := by kernel_rfl
theorem gb_q124_2 (K : Kont) (s0 : Self) (v0 v1 v5 v6 : Value) (d : Nat → Value) (h : Hp) : X_q124_2 (Q_q124_2 K s0) v0 v1 v5 v6 d h = R_q124_2 K s0 v0 v1 v5 v6 d h := by kernel_rfl
theorem req_q124_2 (K : Kont) (s0 : Self) (v0 v1 v5 v6 : Value) (d : Nat → Value) (h : Hp) : G_q124_2 K s0 v0 v1 v5 v6 d h = R_q124_2 K s0 v0 v1 v5 v6 d h := (ga_q124_2 _ v0 v1 v5 v6 d h).trans (gb_q124_2 K s0 v0 v1 v5 v6 d h)
def B_q124_3 (K : Kont) (s0 : Self) (v0 v1 v5 v9 : Value) (d : Nat → Value) (h : Hp) : Prop :=
  oLen 0 v1 h fun t64 h1 =>
  oBin .lss v9 t64 h1 fun t65 h2 =>
  oGuard t65 true (fun K => K v5 h2) h2 fun t67 h3 =>
  oGuard t65 true (fun K => oNilCheck t67 h3 K) h3 fun t68 h4 =>
  oGuard t65 true (fun K => oFieldAddr 4 t68 h4 K) h4 fun t69 h5 =>
  oGuard t65 true (fun K => oLd1 t69 h5 K) h5 fun t70 h6 =>
  oPick t65 t70 (Value.bool false) h6 fun t71 h7 =>
  oIf t71
  (oIdxS 8 v1 v9 h7 fun t76 h8 =>
  oFieldAddr 1 t76 h8 fun t77 h9 =>
  oLd1 t77 h9 fun t78 h10 =>
  oBin .lss t78 (Value.int .i64 0) h10 fun t79 h11 =>
  oIf t79
  (C_q162 [] h11 fun t80 h12 =>
  K t80 h12)
  (oIdxS 8 v1 v9 h11 fun t83 h13 =>
  oFieldAddr 1 t83 h13 fun t84 h14 =>
  oLd1 t84 h14 fun t85 h15 =>
  oBin .rem t85 v0 h15 fun t87 h16 =>
  oIdxS 8 v1 v9 h16 fun t90 h17 =>
  oFieldAddr 0 t90 h17 fun t91 h18 =>
  oLd1 t91 h18 fun t92 h19 =>
  oBin .eql t92 (Value.int .i64 0) h19 fun t107 h20 =>
  oIf t107
  (G_q124_4 K s0 v0 v1 v5 v9 (ud [(10, t87), (62, v9), (63, v1), (64, t64), (65, t65), (66, t65), (67, t67), (68, t68), (69, t69), (70, t70), (71, t71), (74, v1), (75, v9), (76, t76), (77, t77), (78, t78), (79, t79), (81, v1), (82, v9), (83, t83), (84, t84), (85, t85), (86, v0), (87, t87), (88, v1), (89, v9), (90, t90), (91, t91), (92, t92), (106, t107), (107, t107)] d) h20)
  (G_q124_5 K s0 v0 v1 v5 v9 t87 t92 (ud [(62, v9), (63, v1), (64, t64), (65, t65), (66, t65), (67, t67), (68, t68), (69, t69), (70, t70), (71, t71), (74, v1), (75, v9), (76, t76), (77, t77), (78, t78), (79, t79), (81, v1), (82, v9), (83, t83), (84, t84), (85, t85), (86, v0), (87, t87), (88, v1), (89, v9), (90, t90), (91, t91), (106, t107), (107, t107)] d) h20)))
  (oNilCheck v5 h7 fun t219 h21 =>
  oFieldAddr 4 t219 h21 fun t220 h22 =>
  oLd1 t220 h22 fun t221 h23 =>
  oGuard t221 true (fun K => C_q162 [] h23 K) h23 fun t223 h24 =>
  oPick t221 t223 (Value.bool false) h24 fun t224 h25 =>
  K t224 h25)
def X_q124_3 (Qv : Post) (v0 v1 v5 v9 : Value) (d : Nat → Value) (h : Hp) : Prop :=
  oLen 0 v1 h fun t64 h1 =>
  oBin .lss v9 t64 h1 fun t65 h2 =>
  oGuard t65 true (fun K => K v5 h2) h2 fun t67 h3 =>
  oGuard t65 true (fun K => oNilCheck t67 h3 K) h3 fun t68 h4 =>
  oGuard t65 true (fun K => oFieldAddr 4 t68 h4 K) h4 fun t69 h5 =>
  oGuard t65 true (fun K => oLd1 t69 h5 K) h5 fun t70 h6 =>
  oPick t65 t70 (Value.bool false) h6 fun t71 h7 =>
  oIf t71
  (oIdxS 8 v1 v9 h7 fun t76 h8 =>
  oFieldAddr 1 t76 h8 fun t77 h9 =>
  oLd1 t77 h9 fun t78 h10 =>
  oBin .lss t78 (Value.int .i64 0) h10 fun t79 h11 =>
  oIf t79
  (C_q162 [] h11 fun t80 h12 =>
  (qSeq (aw Try.prog O_q124 K_q124_13 (qBlk 3 (qSeq (aw Try.prog O_q124 K_q124_10 Qv) Qv))) (qBlk 3 (qSeq (aw Try.prog O_q124 K_q124_10 Qv) Qv))) .ret (ul (E_q124_3 v0 v1 v5 v9 d) [(4, t80), (62, v9), (63, v1), (64, t64), (65, t65), (66, t65), (67, t67), (68, t68), (69, t69), (70, t70), (71, t71), (74, v1), (75, v9), (76, t76), (77, t77), (78, t78), (79, t79), (80, t80)]) h12)
  (oIdxS 8 v1 v9 h11 fun t83 h13 =>
  oFieldAddr 1 t83 h13 fun t84 h14 =>
  oLd1 t84 h14 fun t85 h15 =>
  oBin .rem t85 v0 h15 fun t87 h16 =>
  oIdxS 8 v1 v9 h16 fun t90 h17 =>
  oFieldAddr 0 t90 h17 fun t91 h18 =>
  oLd1 t91 h18 fun t92 h19 =>
  oBin .eql t92 (Value.int .i64 0) h19 fun t107 h20 =>
  oIf t107
  (aw Try.prog O_q124 K_q124_9 (qBlk 4 (qSeq (aw Try.prog O_q124 K_q124_11 (qBlk 3 (qSeq (aw Try.prog O_q124 K_q124_10 Qv) Qv))) (qBlk 3 (qSeq (aw Try.prog O_q124 K_q124_10 Qv) Qv)))) (ul (E_q124_3 v0 v1 v5 v9 d) [(10, t87), (62, v9), (63, v1), (64, t64), (65, t65), (66, t65), (67, t67), (68, t68), (69, t69), (70, t70), (71, t71), (74, v1), (75, v9), (76, t76), (77, t77), (78, t78), (79, t79), (81, v1), (82, v9), (83, t83), (84, t84), (85, t85), (86, v0), (87, t87), (88, v1), (89, v9), (90, t90), (91, t91), (92, t92), (106, t107), (107, t107)]) h20)
  (aw Try.prog O_q124 K_q124_12 (qBlk 4 (qSeq (aw Try.prog O_q124 K_q124_11 (qBlk 3 (qSeq (aw Try.prog O_q124 K_q124_10 Qv) Qv))) (qBlk 3 (qSeq (aw Try.prog O_q124 K_q124_10 Qv) Qv)))) (ul (E_q124_3 v0 v1 v5 v9 d) [(10, t87), (62, v9), (63, v1), (64, t64), (65, t65), (66, t65), (67, t67), (68, t68), (69, t69), (70, t70), (71, t71), (74, v1), (75, v9), (76, t76), (77, t77), (78, t78), (79, t79), (81, v1), (82, v9), (83, t83), (84, t84), (85, t85), (86, v0), (87, t87), (88, v1), (89, v9), (90, t90), (91, t91), (92, t92), (106, t107), (107, t107)]) h20)))
  ((qSeq (aw Try.prog O_q124 K_q124_14 Qv) Qv) (.exit 2) (ul (E_q124_3 v0 v1 v5 v9 d) [(62, v9), (63, v1), (64, t64), (65, t65), (66, t65), (67, t67), (68, t68), (69, t69), (70, t70), (71, t71)]) h7)
theorem ga_q124_3 (Qv : Post) (v0 v1 v5 v9 : Value) (d : Nat → Value) (h : Hp) : aw Try.prog O_q124 K_q124_8 Qv (E_q124_3 v0 v1 v5 v9 d) h = X_q124_3 Qv v0 v1 v5 v9 d h := by kernel_rfl
theorem gb_q124_3 (K : Kont) (s0 : Self) (v0 v1 v5 v9 : Value) (d : Nat → Value) (h : Hp) : X_q124_3 (Q_q124_5 K s0) v0 v1 v5 v9 d h = B_q124_3 K s0 v0 v1 v5 v9 d h := by kernel_rfl
theorem beq_q124_3 (K : Kont) (s0 : Self) (v0 v1 v5 v9 : Value) (d : Nat → Value) (h : Hp) : aw Try.prog O_q124 K_q124_8 (Q_q124_5 K s0) (E_q124_3 v0 v1 v5 v9 d) h = B_q124_3 K s0 v0 v1 v5 v9 d h := (ga_q124_3 _ v0 v1 v5 v9 d h).trans (gb_q124_3 K s0 v0 v1 v5 v9 d h)
theorem rule_q124_3 {K : Kont} {v0 v1 v5 : Value} (Inv : Value → Hp → Prop) (μ : Value → Hp → Nat)
    (step : ∀ (s0 : Self) (v9 : Value) (d : Nat → Value) (h : Hp), Inv v9 h → (∀ (v9' : Value) (d' : Nat → Value) (h' : Hp), Inv v9' h' → μ v9' h' < μ v9 h → s0 (E_q124_3 v0 v1 v5 v9' d') h') → B_q124_3 K s0 v0 v1 v5 v9 d h) (v9 : Value) (d : Nat → Value) (h : Hp) (hi : Inv v9 h) : G_q124_3 K v0 v1 v5 v9 d h :=
  oLoop_rule (α := Value × (Nat → Value)) (fun x => E_q124_3 v0 v1 v5 x.1 x.2) (fun x h => Inv x.1 h) (fun x h => μ x.1 h)
    (fun self x h hx hs => (beq_q124_3 K self v0 v1 v5 x.1 x.2 h).mpr (step self x.1 x.2 h hx (fun v9' d' h' h1 h2 => hs ⟨v9', d'⟩ h' h1 h2))) ⟨v9, d⟩ h hi
def R_q124_4 (K : Kont) (s0 : Self) (v0 v1 v5 v9 : Value) (d : Nat → Value) (h : Hp) : Prop :=
  oNilCheck v5 h fun t109 h1 =>
  oFieldAddr 2 t109 h1 fun t110 h2 =>
  oLd1 t110 h2 fun t111 h3 =>
  oLen 0 t111 h3 fun t112 h4 =>
  oBin .eql t112 (Value.int .i64 0) h4 fun t114 h5 =>
  oIf t114
  (G_q124_6 K s0 v0 v1 v5 v9 (ud [(11, t112), (108, v5), (109, t109), (110, t110), (111, t111), (112, t112), (113, t112), (114, t114)] d) h5)
  (oIdxS 8 v1 v9 h5 fun t117 h6 =>
  oFieldAddr 1 t117 h6 fun t118 h7 =>
  oLd1 t118 h7 fun t119 h8 =>
  oBin .rem t119 t112 h8 fun t121 h9 =>
  oIdxS 8 v1 v9 h9 fun t124 h10 =>
  oFieldAddr 2 t124 h10 fun t125 h11 =>
  oLd1 t125 h11 fun t126 h12 =>
  oNot t126 h12 fun t127 h13 =>
  oIf t127
  (oBin .sub t112 (Value.int .i64 1) h13 fun t129 h14 =>
  oIdxS 8 v1 v9 h14 fun t132 h15 =>
  oFieldAddr 1 t132 h15 fun t133 h16 =>
  oLd1 t133 h16 fun t134 h17 =>
  oMinMax false [t112, (Value.int .i64 12)] h17 fun t136 h18 =>
  oBin .rem t134 t136 h18 fun t137 h19 =>
  oBin .sub t129 t137 h19 fun t138 h20 =>
  G_q124_7 K s0 v0 v1 v5 v9 t138 (ud [(11, t112), (108, v5), (109, t109), (110, t110), (111, t111), (112, t112), (113, t112), (114, t114), (115, v1), (116, v9), (117, t117), (118, t118), (119, t119), (120, t112), (121, t121), (122, v1), (123, v9), (124, t124), (125, t125), (126, t126), (127, t127), (128, t112), (129, t129), (130, v1), (131, v9), (132, t132), (133, t133), (134, t134), (135, t112), (136, t136), (137, t137), (138, t138)] d) h20)
  (G_q124_7 K s0 v0 v1 v5 v9 t121 (ud [(11, t112), (108, v5), (109, t109), (110, t110), (111, t111), (112, t112), (113, t112), (114, t114), (115, v1), (116, v9), (117, t117), (118, t118), (119, t119), (120, t112), (121, t121), (122, v1), (123, v9), (124, t124), (125, t125), (126, t126), (127, t127)] d) h13))
def X_q124_4 (Qv : Post) (v0 v1 v5 v9 : Value) (d : Nat → Value) (h : Hp) : Prop :=
  oNilCheck v5 h fun t109 h1 =>
  oFieldAddr 2 t109 h1 fun t110 h2 =>
  oLd1 t110 h2 fun t111 h3 =>
  oLen 0 t111 h3 fun t112 h4 =>
  oBin .eql t112 (Value.int .i64 0) h4 fun t114 h5 =>
  oIf t114
  ((qSeq (aw Try.prog O_q124 K_q124_16 Qv) Qv) (.exit 3) (ul (E_q124_4 v0 v1 v5 v9 d) [(11, t112), (108, v5), (109, t109), (110, t110), (111, t111), (112, t112), (113, t112), (114, t114)]) h5)
  (oIdxS 8 v1 v9 h5 fun t117 h6 =>
  oFieldAddr 1 t117 h6 fun t118 h7 =>
  oLd1 t118 h7 fun t119 h8 =>
  oBin .rem t119 t112 h8 fun t121 h9 =>
  oIdxS 8 v1 v9 h9 fun t124 h10 =>
  oFieldAddr 2 t124 h10 fun t125 h11 =>
  oLd1 t125 h11 fun t126 h12 =>
  oNot t126 h12 fun t127 h13 =>
  oIf t127
  (oBin .sub t112 (Value.int .i64 1) h13 fun t129 h14 =>
  oIdxS 8 v1 v9 h14 fun t132 h15 =>
  oFieldAddr 1 t132 h15 fun t133 h16 =>
  oLd1 t133 h16 fun t134 h17 =>
  oMinMax false [t112, (Value.int .i64 12)] h17 fun t136 h18 =>
  oBin .rem t134 t136 h18 fun t137 h19 =>
  oBin .sub t129 t137 h19 fun t138 h20 =>
  (qSeq (aw Try.prog O_q124 K_q124_15 Qv) Qv) .normal (ul (E_q124_4 v0 v1 v5 v9 d) [(11, t112), (12, t138), (108, v5), (109, t109), (110, t110), (111, t111), (112, t112), (113, t112), (114, t114), (115, v1), (116, v9), (117, t117), (118, t118), (119, t119), (120, t112), (121, t121), (122, v1), (123, v9), (124, t124), (125, t125), (126, t126), (127, t127), (128, t112), (129, t129), (130, v1), (131, v9), (132, t132), (133, t133), (134, t134), (135, t112), (136, t136), (137, t137), (138, t138)]) h20)
  ((qSeq (aw Try.prog O_q124 K_q124_15 Qv) Qv) .normal (ul (E_q124_4 v0 v1 v5 v9 d) [(11, t112), (12, t121), (108, v5), (109, t109), (110, t110), (111, t111), (112, t112), (113, t112), (114, t114), (115, v1), (116, v9), (117, t117), (118, t118), (119, t119), (120, t112), (121, t121), (122, v1), (123, v9), (124, t124), (125, t125), (126, t126), (127, t127)]) h13))
theorem ga_q124_4 (Qv : Post) (v0 v1 v5 v9 : Value) (d : Nat → Value) (h : Hp) : aw Try.prog O_q124 K_q124_9 Qv (E_q124_4 v0 v1 v5 v9 d) h = X_q124_4 Qv v0 v1 v5 v9 d h := by kernel_rfl
theorem gb_q124_4 (K : Kont) (s0 : Self) (v0 v1 v5 v9 : Value) (d : Nat → Value) (h : Hp) : X_q124_4 (Q_q124_9 K s0) v0 v1 v5 v9 d h = R_q124_4 K s0 v0 v1 v5 v9 d h := by kernel_rfl
theorem req_q124_4 (K : Kont) (s0 : Self) (v0 v1 v5 v9 : Value) (d : Nat → Value) (h : Hp) : G_q124_4 K s0 v0 v1 v5 v9 d h = R_q124_4 K s0 v0 v1 v5 v9 d h := (ga_q124_4 _ v0 v1 v5 v9 d h).trans (gb_q124_4 K s0 v0 v1 v5 v9 d h)
def R_q124_5 (K : Kont) (s0 : Self) (v0 v1 v5 v9 v10 v92 : Value) (d : Nat → Value) (h : Hp) : Prop :=
  oBin .eql v92 (Value.int .i64 1) h fun t149 h1 =>
  oIf t149
  (G_q124_8 K s0 v0 v1 v5 v9 v10 (ud [(92, v92), (148, t149), (149, t149)] d) h1)
  (G_q124_9 K s0 v0 v1 v5 v9 v10 v92 (ud [(148, t149), (149, t149)] d) h1)
def X_q124_5 (Qv : Post) (v0 v1 v5 v9 v10 v92 : Value) (d : Nat → Value) (h : Hp) : Prop :=
  oBin .eql v92 (Value.int .i64 1) h fun t149 h1 =>
  oIf t149
  (aw Try.prog O_q124 K_q124_17 Qv (ul (E_q124_5 v0 v1 v5 v9 v10 v92 d) [(148, t149), (149, t149)]) h1)
  (aw Try.prog O_q124 K_q124_18 Qv (ul (E_q124_5 v0 v1 v5 v9 v10 v92 d) [(148, t149), (149, t149)]) h1)
theorem ga_q124_5 (Qv : Post) (v0 v1 v5 v9 v10 v92 : Value) (d : Nat → Value) (h : Hp) : aw Try.prog O_q124 K_q124_12 Qv (E_q124_5 v0 v1 v5 v9 v10 v92 d) h = X_q124_5 Qv v0 v1 v5 v9 v10 v92 d h := by kernel_rfl
theorem gb_q124_5 (K : Kont) (s0 : Self) (v0 v1 v5 v9 v10 v92 : Value) (d : Nat → Value) (h : Hp) : X_q124_5 (Q_q124_9 K s0) v0 v1 v5 v9 v10 v92 d h = R_q124_5 K s0 v0 v1 v5 v9 v10 v92 d h := by kernel_rfl
theorem req_q124_5 (K : Kont) (s0 : Self) (v0 v1 v5 v9 v10 v92 : Value) (d : Nat → Value) (h : Hp) : G_q124_5 K s0 v0 v1 v5 v9 v10 v92 d h = R_q124_5 K s0 v0 v1 v5 v9 v10 v92 d h := (ga_q124_5 _ v0 v1 v5 v9 v10 v92 d h).trans (gb_q124_5 K s0 v0 v1 v5 v9 v10 v92 d h)
def R_q124_6 (K : Kont) (s0 : Self) (v0 v1 v5 v9 : Value) (d : Nat → Value) (h : Hp) : Prop :=
  oBin .add v9 (Value.int .i64 1) h fun t73 h1 =>
  s0 (E_q124_3 v0 v1 v5 t73 (ud [(72, v9), (73, t73)] d)) h1
def X_q124_6 (Qv : Post) (v0 v1 v5 v9 : Value) (d : Nat → Value) (h : Hp) : Prop :=
  oBin .add v9 (Value.int .i64 1) h fun t73 h1 =>
  Qv .normal (ul (E_q124_6 v0 v1 v5 v9 d) [(9, t73), (72, v9), (73, t73)]) h1
theorem ga_q124_6 (Qv : Post) (v0 v1 v5 v9 : Value) (d : Nat → Value) (h : Hp) : aw Try.prog O_q124 K_q124_10 Qv (E_q124_6 v0 v1 v5 v9 d) h = X_q124_6 Qv v0 v1 v5 v9 d h := by kernel_rfl
theorem gb_q124_6 (K : Kont) (s0 : Self) (v0 v1 v5 v9 : Value) (d : Nat → Value) (h : Hp) : X_q124_6 (Q_q124_5 K s0) v0 v1 v5 v9 d h = R_q124_6 K s0 v0 v1 v5 v9 d h := by kernel_rfl
theorem req_q124_6 (K : Kont) (s0 : Self) (v0 v1 v5 v9 : Value) (d : Nat → Value) (h : Hp) : G_q124_6 K s0 v0 v1 v5 v9 d h = R_q124_6 K s0 v0 v1 v5 v9 d h := (ga_q124_6 _ v0 v1 v5 v9 d h).trans (gb_q124_6 K s0 v0 v1 v5 v9 d h)
def R_q124_7 (K : Kont) (s0 : Self) (v0 v1 v5 v9 v12 : Value) (d : Nat → Value) (h : Hp) : Prop :=
  oNilCheck v5 h fun t141 h1 =>
  oFieldAddr 2 t141 h1 fun t142 h2 =>
  oLd1 t142 h2 fun t143 h3 =>
  oIdxS 10 t143 v12 h3 fun t145 h4 =>
  oLdN 10 t145 h4 fun t146 h5 =>
  C_q109 [v5, t146] h5 fun t147 h6 =>
  G_q124_10 K s0 v0 v1 v5 v9 (ud [(12, v12), (139, v5), (140, v5), (141, t141), (142, t142), (143, t143), (144, v12), (145, t145), (146, t146), (147, t147)] d) h6
def X_q124_7 (Qv : Post) (v0 v1 v5 v9 v12 : Value) (d : Nat → Value) (h : Hp) : Prop :=
  oNilCheck v5 h fun t141 h1 =>
  oFieldAddr 2 t141 h1 fun t142 h2 =>
  oLd1 t142 h2 fun t143 h3 =>
  oIdxS 10 t143 v12 h3 fun t145 h4 =>
  oLdN 10 t145 h4 fun t146 h5 =>
  C_q109 [v5, t146] h5 fun t147 h6 =>
  Qv .normal (ul (E_q124_7 v0 v1 v5 v9 v12 d) [(139, v5), (140, v5), (141, t141), (142, t142), (143, t143), (144, v12), (145, t145), (146, t146), (147, t147)]) h6
theorem ga_q124_7 (Qv : Post) (v0 v1 v5 v9 v12 : Value) (d : Nat → Value) (h : Hp) : aw Try.prog O_q124 K_q124_15 Qv (E_q124_7 v0 v1 v5 v9 v12 d) h = X_q124_7 Qv v0 v1 v5 v9 v12 d h := by kernel_rfl
theorem gb_q124_7 (K : Kont) (s0 : Self) (v0 v1 v5 v9 v12 : Value) (d : Nat → Value) (h : Hp) : X_q124_7 (Q_q124_9 K s0) v0 v1 v5 v9 v12 d h = R_q124_7 K s0 v0 v1 v5 v9 v12 d h := by kernel_rfl
theorem req_q124_7 (K : Kont) (s0 : Self) (v0 v1 v5 v9 v12 : Value) (d : Nat → Value) (h : Hp) : G_q124_7 K s0 v0 v1 v5 v9 v12 d h = R_q124_7 K s0 v0 v1 v5 v9 v12 d h := (ga_q124_7 _ v0 v1 v5 v9 v12 d h).trans (gb_q124_7 K s0 v0 v1 v5 v9 v12 d h)
def R_q124_8 (K : Kont) (s0 : Self) (v0 v1 v5 v9 v10 : Value) (d : Nat → Value) (h : Hp) : Prop :=
  oNilCheck v5 h fun t152 h1 =>
  oFieldAddr 0 t152 h1 fun t153 h2 =>
  oLd1 t153 h2 fun t154 h3 =>
  oIdxS 1 t154 v10 h3 fun t156 h4 =>
  oLd1 t156 h4 fun t157 h5 =>
  oIdxS 8 v1 v9 h5 fun t160 h6 =>
  oFieldAddr 3 t160 h6 fun t161 h7 =>
  oLd1 t161 h7 fun t162 h8 =>
  C_q82 [t157, t162, (Value.int .i64 0)] h8 fun t163 h9 =>
  ((oLd1 t153 h8 (fun v' _ => v' = t154) → oLd1 t153 h9 (fun v' _ => v' = t154)) ∧ True) ∧
  oExtract t163 0 h9 fun t164 h10 =>
  oExtract t163 1 h10 fun t165 h11 =>
  oBin .eql t165 (Value.int .i64 0) h11 fun t167 h12 =>
  oIf t167
  (oBin .add v10 (Value.int .i64 1) h12 fun t170 h13 =>
  oBuild #[.int .i64 0, .int .i64 0, .int .i64 0, .int .u64 0, .int .i64 0, .slice none 0 0, .int .i64 0, .int .i64 0, .int .u64 0, .int .i64 0] [(0, 1, (Value.int .i64 1)), (1, 1, t170), (3, 1, t164)] h13 fun t172 h14 =>
  C_q91 [v5, t172] h14 fun t173 h15 =>
  G_q124_10 K s0 v0 v1 v5 v9 (ud [(10, v10), (13, t164), (14, t165), (150, t163), (151, v5), (152, t152), (153, t153), (154, t154), (155, v10), (156, t156), (157, t157), (158, v1), (159, v9), (160, t160), (161, t161), (162, t162), (163, t163), (164, t164), (165, t165), (166, t165), (167, t167), (168, v5), (169, v10), (170, t170), (171, t164), (172, t172), (173, t173)] d) h15)
  (G_q124_10 K s0 v0 v1 v5 v9 (ud [(10, v10), (13, t164), (14, t165), (150, t163), (151, v5), (152, t152), (153, t153), (154, t154), (155, v10), (156, t156), (157, t157), (158, v1), (159, v9), (160, t160), (161, t161), (162, t162), (163, t163), (164, t164), (165, t165), (166, t165), (167, t167)] d) h12)
def X_q124_8 (Qv : Post) (v0 v1 v5 v9 v10 : Value) (d : Nat → Value) (h : Hp) : Prop :=
  oNilCheck v5 h fun t152 h1 =>
  oFieldAddr 0 t152 h1 fun t153 h2 =>
  oLd1 t153 h2 fun t154 h3 =>
  oIdxS 1 t154 v10 h3 fun t156 h4 =>
  oLd1 t156 h4 fun t157 h5 =>
  oIdxS 8 v1 v9 h5 fun t160 h6 =>
  oFieldAddr 3 t160 h6 fun t161 h7 =>
  oLd1 t161 h7 fun t162 h8 =>
  C_q82 [t157, t162, (Value.int .i64 0)] h8 fun t163 h9 =>
  ((oLd1 t153 h8 (fun v' _ => v' = t154) → oLd1 t153 h9 (fun v' _ => v' = t154)) ∧ True) ∧
  oExtract t163 0 h9 fun t164 h10 =>
  oExtract t163 1 h10 fun t165 h11 =>
  oBin .eql t165 (Value.int .i64 0) h11 fun t167 h12 =>
  oIf t167
  (oBin .add v10 (Value.int .i64 1) h12 fun t170 h13 =>
  oBuild #[.int .i64 0, .int .i64 0, .int .i64 0, .int .u64 0, .int .i64 0, .slice none 0 0, .int .i64 0, .int .i64 0, .int .u64 0, .int .i64 0] [(0, 1, (Value.int .i64 1)), (1, 1, t170), (3, 1, t164)] h13 fun t172 h14 =>
  C_q91 [v5, t172] h14 fun t173 h15 =>
  Qv .normal (ul (E_q124_8 v0 v1 v5 v9 v10 d) [(13, t164), (14, t165), (150, t163), (151, v5), (152, t152), (153, t153), (154, t154), (155, v10), (156, t156), (157, t157), (158, v1), (159, v9), (160, t160), (161, t161), (162, t162), (163, t163), (164, t164), (165, t165), (166, t165), (167, t167), (168, v5), (169, v10), (170, t170), (171, t164), (172, t172), (173, t173)]) h15)
  (Qv .normal (ul (E_q124_8 v0 v1 v5 v9 v10 d) [(13, t164), (14, t165), (150, t163), (151, v5), (152, t152), (153, t153), (154, t154), (155, v10), (156, t156), (157, t157), (158, v1), (159, v9), (160, t160), (161, t161), (162, t162), (163, t163), (164, t164), (165, t165), (166, t165), (167, t167)]) h12)
theorem ga_q124_8 (Qv : Post) (v0 v1 v5 v9 v10 : Value) (d : Nat → Value) (h : Hp) : aw Try.prog O_q124 K_q124_17 Qv (E_q124_8 v0 v1 v5 v9 v10 d) h = X_q124_8 Qv v0 v1 v5 v9 v10 d h := by kernel_rfl
theorem gb_q124_8 (K : Kont) (s0 : Self) (v0 v1 v5 v9 v10 : Value) (d : Nat → Value) (h : Hp) : X_q124_8 (Q_q124_9 K s0) v0 v1 v5 v9 v10 d h = R_q124_8 K s0 v0 v1 v5 v9 v10 d h := by kernel_rfl
theorem req_q124_8 (K : Kont) (s0 : Self) (v0 v1 v5 v9 v10 : Value) (d : Nat → Value) (h : Hp) : G_q124_8 K s0 v0 v1 v5 v9 v10 d h = R_q124_8 K s0 v0 v1 v5 v9 v10 d h := (ga_q124_8 _ v0 v1 v5 v9 v10 d h).trans (gb_q124_8 K s0 v0 v1 v5 v9 v10 d h)
def R_q124_9 (K : Kont) (s0 : Self) (v0 v1 v5 v9 v10 v92 : Value) (d : Nat → Value) (h : Hp) : Prop :=
  oBin .eql v92 (Value.int .i64 2) h fun t175 h1 =>
  oIf t175
  (G_q124_11 K s0 v0 v1 v5 v9 v10 (ud [(92, v92), (174, t175), (175, t175)] d) h1)
  (oNilCheck v5 h1 fun t94 h2 =>
  oFieldAddr 0 t94 h2 fun t95 h3 =>
  oLd1 t95 h3 fun t96 h4 =>
  oIdxS 1 t96 v10 h4 fun t98 h5 =>
  oLd1 t98 h5 fun t99 h6 =>
  oIdxS 8 v1 v9 h6 fun t102 h7 =>
  oFieldAddr 3 t102 h7 fun t103 h8 =>
  oLd1 t103 h8 fun t104 h9 =>
  C_q71 [t99, t104] h9 fun t105 h10 =>
  ((oLd1 t95 h9 (fun v' _ => v' = t96) → oLd1 t95 h10 (fun v' _ => v' = t96)) ∧ True) ∧
  G_q124_10 K s0 v0 v1 v5 v9 (ud [(10, v10), (92, v92), (93, v5), (94, t94), (95, t95), (96, t96), (97, v10), (98, t98), (99, t99), (100, v1), (101, v9), (102, t102), (103, t103), (104, t104), (105, t105), (174, t175), (175, t175)] d) h10)
def X_q124_9 (Qv : Post) (v0 v1 v5 v9 v10 v92 : Value) (d : Nat → Value) (h : Hp) : Prop :=
  oBin .eql v92 (Value.int .i64 2) h fun t175 h1 =>
  oIf t175
  (aw Try.prog O_q124 K_q124_19 Qv (ul (E_q124_9 v0 v1 v5 v9 v10 v92 d) [(174, t175), (175, t175)]) h1)
  (oNilCheck v5 h1 fun t94 h2 =>
  oFieldAddr 0 t94 h2 fun t95 h3 =>
  oLd1 t95 h3 fun t96 h4 =>
  oIdxS 1 t96 v10 h4 fun t98 h5 =>
  oLd1 t98 h5 fun t99 h6 =>
  oIdxS 8 v1 v9 h6 fun t102 h7 =>
  oFieldAddr 3 t102 h7 fun t103 h8 =>
  oLd1 t103 h8 fun t104 h9 =>
  C_q71 [t99, t104] h9 fun t105 h10 =>
  ((oLd1 t95 h9 (fun v' _ => v' = t96) → oLd1 t95 h10 (fun v' _ => v' = t96)) ∧ True) ∧
  Qv .normal (ul (E_q124_9 v0 v1 v5 v9 v10 v92 d) [(93, v5), (94, t94), (95, t95), (96, t96), (97, v10), (98, t98), (99, t99), (100, v1), (101, v9), (102, t102), (103, t103), (104, t104), (105, t105), (174, t175), (175, t175)]) h10)
theorem ga_q124_9 (Qv : Post) (v0 v1 v5 v9 v10 v92 : Value) (d : Nat → Value) (h : Hp) : aw Try.prog O_q124 K_q124_18 Qv (E_q124_9 v0 v1 v5 v9 v10 v92 d) h = X_q124_9 Qv v0 v1 v5 v9 v10 v92 d h := by kernel_rfl
theorem gb_q124_9 (K : Kont) (s0 : Self) (v0 v1 v5 v9 v10 v92 : Value) (d : Nat → Value) (h : Hp) : X_q124_9 (Q_q124_9 K s0) v0 v1 v5 v9 v10 v92 d h = R_q124_9 K s0 v0 v1 v5 v9 v10 v92 d h := by kernel_rfl
theorem req_q124_9 (K : Kont) (s0 : Self) (v0 v1 v5 v9 v10 v92 : Value) (d : Nat → Value) (h : Hp) : G_q124_9 K s0 v0 v1 v5 v9 v10 v92 d h = R_q124_9 K s0 v0 v1 v5 v9 v10 v92 d h := (ga_q124_9 _ v0 v1 v5 v9 v10 v92 d h).trans (gb_q124_9 K s0 v0 v1 v5 v9 v10 v92 d h)
def R_q124_10 (K : Kont) (s0 : Self) (v0 v1 v5 v9 : Value) (d : Nat → Value) (h : Hp) : Prop :=
  oNilCheck v5 h fun t206 h1 =>
  oFieldAddr 2 t206 h1 fun t207 h2 =>
  oLd1 t207 h2 fun t208 h3 =>
  oLen 0 t208 h3 fun t209 h4 =>
  oBin .gtr t209 (Value.int .i64 4000) h4 fun t210 h5 =>
  oIf t210
  (oNilCheck v5 h5 fun t212 h6 =>
  oFieldAddr 4 t212 h6 fun t213 h7 =>
  oLd1 t213 h7 fun t214 h8 =>
  oGuard t214 true (fun K => C_q162 [] h8 K) h8 fun t216 h9 =>
  oPick t214 t216 (Value.bool false) h9 fun t217 h10 =>
  K t217 h10)
  (G_q124_6 K s0 v0 v1 v5 v9 (ud [(205, v5), (206, t206), (207, t207), (208, t208), (209, t209), (210, t210)] d) h5)
def X_q124_10 (Qv : Post) (v0 v1 v5 v9 : Value) (d : Nat → Value) (h : Hp) : Prop :=
  oNilCheck v5 h fun t206 h1 =>
  oFieldAddr 2 t206 h1 fun t207 h2 =>
  oLd1 t207 h2 fun t208 h3 =>
  oLen 0 t208 h3 fun t209 h4 =>
  oBin .gtr t209 (Value.int .i64 4000) h4 fun t210 h5 =>
  oIf t210
  (oNilCheck v5 h5 fun t212 h6 =>
  oFieldAddr 4 t212 h6 fun t213 h7 =>
  oLd1 t213 h7 fun t214 h8 =>
  oGuard t214 true (fun K => C_q162 [] h8 K) h8 fun t216 h9 =>
  oPick t214 t216 (Value.bool false) h9 fun t217 h10 =>
  Qv .ret (ul (E_q124_10 v0 v1 v5 v9 d) [(4, t217), (205, v5), (206, t206), (207, t207), (208, t208), (209, t209), (210, t210), (211, v5), (212, t212), (213, t213), (214, t214), (215, t214), (216, t216), (217, t217)]) h10)
  (Qv .normal (ul (E_q124_10 v0 v1 v5 v9 d) [(205, v5), (206, t206), (207, t207), (208, t208), (209, t209), (210, t210)]) h5)
theorem ga_q124_10 (Qv : Post) (v0 v1 v5 v9 : Value) (d : Nat → Value) (h : Hp) : aw Try.prog O_q124 K_q124_11 Qv (E_q124_10 v0 v1 v5 v9 d) h = X_q124_10 Qv v0 v1 v5 v9 d h := by kernel_rfl
theorem gb_q124_10 (K : Kont) (s0 : Self) (v0 v1 v5 v9 : Value) (d : Nat → Value) (h : Hp) : X_q124_10 (Q_q124_7 K s0) v0 v1 v5 v9 d h = R_q124_10 K s0 v0 v1 v5 v9 d h := by kernel_rfl
theorem req_q124_10 (K : Kont) (s0 : Self) (v0 v1 v5 v9 : Value) (d : Nat → Value) (h : Hp) : G_q124_10 K s0 v0 v1 v5 v9 d h = R_q124_10 K s0 v0 v1 v5 v9 d h := (ga_q124_10 _ v0 v1 v5 v9 d h).trans (gb_q124_10 K s0 v0 v1 v5 v9 d h)
def R_q124_11 (K : Kont) (s0 : Self) (v0 v1 v5 v9 v10 : Value) (d : Nat → Value) (h : Hp) : Prop :=
  oNilCheck v5 h fun t178 h1 =>
  oFieldAddr 0 t178 h1 fun t179 h2 =>
  oLd1 t179 h2 fun t180 h3 =>
  oIdxS 1 t180 v10 h3 fun t182 h4 =>
  oLd1 t182 h4 fun t183 h5 =>
  oIdxS 8 v1 v9 h5 fun t186 h6 =>
  oFieldAddr 4 t186 h6 fun t187 h7 =>
  oLdN 4 t187 h7 fun t188 h8 =>
  (C_q58 [t183, t188] h8 fun t189 h9 =>
  ((oLd1 t179 h8 (fun v' _ => v' = t180) → oLd1 t179 h9 (fun v' _ => v' = t180)) ∧ True) ∧
  oExtract t189 0 h9 fun t190 h10 =>
  oExtract t189 1 h10 fun t191 h11 =>
  oAlloc #[.int .i64 0, .int .u64 0, .int .i64 0, .int .i64 0, .int .u64 0, .int .i64 0] h11 fun t15 h12 =>
  ((oLdN 4 t187 h11 (fun v' _ => v' = t188) → oLdN 4 t187 h12 (fun v' _ => v' = t188)) ∧ (oLd1 t182 h11 (fun v' _ => v' = t183) → oLd1 t182 h12 (fun v' _ => v' = t183)) ∧ (oLd1 t179 h11 (fun v' _ => v' = t180) → oLd1 t179 h12 (fun v' _ => v' = t180)) ∧ True) ∧
  oSt 6 t15 t190 h12 fun _ h13 =>
  (True) ∧
  G_q124_12 K s0 v0 v1 v5 v9 v10 t15 t191 (ud [(176, t189), (177, v5), (178, t178), (179, t179), (180, t180), (181, v10), (182, t182), (183, t183), (184, v1), (185, v9), (186, t186), (187, t187), (188, t188), (189, t189), (190, t190), (191, t191)] d) h13) ∧
  (oAlloc #[.int .i64 0, .int .u64 0, .int .i64 0, .int .i64 0, .int .u64 0, .int .i64 0] h8 fun t15_1 h14 =>
  ((oLdN 4 t187 h8 (fun v' _ => v' = t188) → oLdN 4 t187 h14 (fun v' _ => v' = t188)) ∧ (oLd1 t182 h8 (fun v' _ => v' = t183) → oLd1 t182 h14 (fun v' _ => v' = t183)) ∧ (oLd1 t179 h8 (fun v' _ => v' = t180) → oLd1 t179 h14 (fun v' _ => v' = t180)) ∧ True) ∧
  C_q58 [t183, t188] h14 fun t189_2 h15 =>
  ((oLd1 t179 h14 (fun v' _ => v' = t180) → oLd1 t179 h15 (fun v' _ => v' = t180)) ∧ True) ∧
  oExtract t189_2 0 h15 fun t190_3 h16 =>
  oExtract t189_2 1 h16 fun t191_4 h17 =>
  oSt 6 t15_1 t190_3 h17 fun _ h18 =>
  (True) ∧
  G_q124_12 K s0 v0 v1 v5 v9 v10 t15_1 t191_4 (ud [(176, t189_2), (177, v5), (178, t178), (179, t179), (180, t180), (181, v10), (182, t182), (183, t183), (184, v1), (185, v9), (186, t186), (187, t187), (188, t188), (189, t189_2), (190, t190_3), (191, t191_4)] d) h18)
def X_q124_11 (Qv : Post) (v0 v1 v5 v9 v10 : Value) (d : Nat → Value) (h : Hp) : Prop :=
  oNilCheck v5 h fun t178 h1 =>
  oFieldAddr 0 t178 h1 fun t179 h2 =>
  oLd1 t179 h2 fun t180 h3 =>
  oIdxS 1 t180 v10 h3 fun t182 h4 =>
  oLd1 t182 h4 fun t183 h5 =>
  oIdxS 8 v1 v9 h5 fun t186 h6 =>
  oFieldAddr 4 t186 h6 fun t187 h7 =>
  oLdN 4 t187 h7 fun t188 h8 =>
  (C_q58 [t183, t188] h8 fun t189 h9 =>
  ((oLd1 t179 h8 (fun v' _ => v' = t180) → oLd1 t179 h9 (fun v' _ => v' = t180)) ∧ True) ∧
  oExtract t189 0 h9 fun t190 h10 =>
  oExtract t189 1 h10 fun t191 h11 =>
  oAlloc #[.int .i64 0, .int .u64 0, .int .i64 0, .int .i64 0, .int .u64 0, .int .i64 0] h11 fun t15 h12 =>
  ((oLdN 4 t187 h11 (fun v' _ => v' = t188) → oLdN 4 t187 h12 (fun v' _ => v' = t188)) ∧ (oLd1 t182 h11 (fun v' _ => v' = t183) → oLd1 t182 h12 (fun v' _ => v' = t183)) ∧ (oLd1 t179 h11 (fun v' _ => v' = t180) → oLd1 t179 h12 (fun v' _ => v' = t180)) ∧ True) ∧
  oSt 6 t15 t190 h12 fun _ h13 =>
  (True) ∧
  (qSeq (aw Try.prog O_q124 K_q124_20 Qv) Qv) .normal (ul (E_q124_11 v0 v1 v5 v9 v10 d) [(15, t15), (16, t191), (176, t189), (177, v5), (178, t178), (179, t179), (180, t180), (181, v10), (182, t182), (183, t183), (184, v1), (185, v9), (186, t186), (187, t187), (188, t188), (189, t189), (190, t190), (191, t191)]) h13) ∧
  (oAlloc #[.int .i64 0, .int .u64 0, .int .i64 0, .int .i64 0, .int .u64 0, .int .i64 0] h8 fun t15_5 h14 =>
  ((oLdN 4 t187 h8 (fun v' _ => v' = t188) → oLdN 4 t187 h14 (fun v' _ => v' = t188)) ∧ (oLd1 t182 h8 (fun v' _ => v' = t183) → oLd1 t182 h14 (fun v' _ => v' = t183)) ∧ (oLd1 t179 h8 (fun v' _ => v' = t180) → oLd1 t179 h14 (fun v' _ => v' = t180)) ∧ True) ∧
  C_q58 [t183, t188] h14 fun t189_6 h15 =>
  ((oLd1 t179 h14 (fun v' _ => v' = t180) → oLd1 t179 h15 (fun v' _ => v' = t180)) ∧ True) ∧
  oExtract t189_6 0 h15 fun t190_7 h16 =>
  oExtract t189_6 1 h16 fun t191_8 h17 =>
  oSt 6 t15_5 t190_7 h17 fun _ h18 =>
  (True) ∧
  (qSeq (aw Try.prog O_q124 K_q124_20 Qv) Qv) .normal (ul (E_q124_11 v0 v1 v5 v9 v10 d) [(15, t15_5), (16, t191_8), (176, t189_6), (177, v5), (178, t178), (179, t179), (180, t180), (181, v10), (182, t182), (183, t183), (184, v1), (185, v9), (186, t186), (187, t187), (188, t188), (189, t189_6), (190, t190_7), (191, t191_8)]) h18)
theorem ga_q124_11 (Qv : Post) (v0 v1 v5 v9 v10 : Value) (d : Nat → Value) (h : Hp) : aw Try.prog O_q124 K_q124_19 Qv (E_q124_11 v0 v1 v5 v9 v10 d) h = X_q124_11 Qv v0 v1 v5 v9 v10 d h := by kernel_rfl
theorem gb_q124_11 (K : Kont) (s0 : Self) (v0 v1 v5 v9 v10 : Value) (d : Nat → Value) (h : Hp) : X_q124_11 (Q_q124_9 K s0) v0 v1 v5 v9 v10 d h = R_q124_11 K s0 v0 v1 v5 v9 v10 d h := by kernel_rfl
theorem req_q124_11 (K : Kont) (s0 : Self) (v0 v1 v5 v9 v10 : Value) (d : Nat → Value) (h : Hp) : G_q124_11 K s0 v0 v1 v5 v9 v10 d h = R_q124_11 K s0 v0 v1 v5 v9 v10 d h := (ga_q124_11 _ v0 v1 v5 v9 v10 d h).trans (gb_q124_11 K s0 v0 v1 v5 v9 v10 d h)
def R_q124_12 (K : Kont) (s0 : Self) (v0 v1 v5 v9 v10 v15 v16 : Value) (d : Nat → Value) (h : Hp) : Prop :=
  oBin .eql v16 (Value.int .i64 0) h fun t193 h1 =>
  oIf t193
  (oBin .add v10 (Value.int .i64 1) h1 fun t196 h2 =>
  oFieldAddr 1 v15 h2 fun t197 h3 =>
  oLd1 t197 h3 fun t198 h4 =>
  oFieldAddr 0 v15 h4 fun t199 h5 =>
  oLd1 t199 h5 fun t200 h6 =>
  oFieldAddr 2 v15 h6 fun t201 h7 =>
  oLdN 4 t201 h7 fun t202 h8 =>
  oBuild #[.int .i64 0, .int .i64 0, .int .i64 0, .int .u64 0, .int .i64 0, .slice none 0 0, .int .i64 0, .int .i64 0, .int .u64 0, .int .i64 0] [(0, 1, (Value.int .i64 3)), (1, 1, t196), (3, 1, t198), (4, 1, t200), (6, 4, t202)] h8 fun t203 h9 =>
  C_q91 [v5, t203] h9 fun t204 h10 =>
  G_q124_10 K s0 v0 v1 v5 v9 (ud [(10, v10), (15, v15), (16, v16), (192, v16), (193, t193), (194, v5), (195, v10), (196, t196), (197, t197), (198, t198), (199, t199), (200, t200), (201, t201), (202, t202), (203, t203), (204, t204)] d) h10)
  (G_q124_10 K s0 v0 v1 v5 v9 (ud [(10, v10), (15, v15), (16, v16), (192, v16), (193, t193)] d) h1)
def X_q124_12 (Qv : Post) (v0 v1 v5 v9 v10 v15 v16 : Value) (d : Nat → Value) (h : Hp) : Prop :=
  oBin .eql v16 (Value.int .i64 0) h fun t193 h1 =>
  oIf t193
  (oBin .add v10 (Value.int .i64 1) h1 fun t196 h2 =>
  oFieldAddr 1 v15 h2 fun t197 h3 =>
  oLd1 t197 h3 fun t198 h4 =>
  oFieldAddr 0 v15 h4 fun t199 h5 =>
  oLd1 t199 h5 fun t200 h6 =>
  oFieldAddr 2 v15 h6 fun t201 h7 =>
  oLdN 4 t201 h7 fun t202 h8 =>
  oBuild #[.int .i64 0, .int .i64 0, .int .i64 0, .int .u64 0, .int .i64 0, .slice none 0 0, .int .i64 0, .int .i64 0, .int .u64 0, .int .i64 0] [(0, 1, (Value.int .i64 3)), (1, 1, t196), (3, 1, t198), (4, 1, t200), (6, 4, t202)] h8 fun t203 h9 =>
  C_q91 [v5, t203] h9 fun t204 h10 =>
  Qv .normal (ul (E_q124_12 v0 v1 v5 v9 v10 v15 v16 d) [(192, v16), (193, t193), (194, v5), (195, v10), (196, t196), (197, t197), (198, t198), (199, t199), (200, t200), (201, t201), (202, t202), (203, t203), (204, t204)]) h10)
  (Qv .normal (ul (E_q124_12 v0 v1 v5 v9 v10 v15 v16 d) [(192, v16), (193, t193)]) h1)
theorem ga_q124_12 (Qv : Post) (v0 v1 v5 v9 v10 v15 v16 : Value) (d : Nat → Value) (h : Hp) : aw Try.prog O_q124 K_q124_20 Qv (E_q124_12 v0 v1 v5 v9 v10 v15 v16 d) h = X_q124_12 Qv v0 v1 v5 v9 v10 v15 v16 d h := by kernel_rfl
theorem gb_q124_12 (K : Kont) (s0 : Self) (v0 v1 v5 v9 v10 v15 v16 : Value) (d : Nat → Value) (h : Hp) : X_q124_12 (Q_q124_9 K s0) v0 v1 v5 v9 v10 v15 v16 d h = R_q124_12 K s0 v0 v1 v5 v9 v10 v15 v16 d h := by kernel_rfl
theorem req_q124_12 (K : Kont) (s0 : Self) (v0 v1 v5 v9 v10 v15 v16 : Value) (d : Nat → Value) (h : Hp) : G_q124_12 K s0 v0 v1 v5 v9 v10 v15 v16 d h = R_q124_12 K s0 v0 v1 v5 v9 v10 v15 v16 d h := (ga_q124_12 _ v0 v1 v5 v9 v10 v15 v16 d h).trans (gb_q124_12 K s0 v0 v1 v5 v9 v10 v15 v16 d h)
end Go.Proofs.Ytdolepapmpcpiaa

