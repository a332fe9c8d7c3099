/- Lemmas for the theorem of the last text; no condition. -/
import Derived.Test.YtdolepapmpcpiaaLp0
import Derived.Test.YtdolepapmpcpiaaLp1
import Derived.Test.YtdolepapmpcpiaaLp2
import Derived.Test.YtdolepapmpcpiaaLp3
import Derived.Test.YtdolepapmpcpiaaLp4
import Derived.Test.YtdolepapmpcpiaaLp5
import Derived.Test.YtdolepapmpcpiaaProg
namespace Go.Proofs.Ytdolepapmpcpiaa
open Go
set_option linter.unusedSectionVars false
variable [Base]
set_option linter.unusedVariables false
set_option maxRecDepth 100000
def O_q144 : Od := [(22, (.one 0 true (.one 1 true (.one 2 false (.one 3 false (.one 4 true (.one 5 true .nil)))))))]
noncomputable def K_q144_0 : Code := (cB (cB (cB (bodyC Try.f67))))
def E_q144_1 (v4 v8 : Value) (d : Nat → Value) : List Value := [d 0, d 1, d 2, d 3, v4, d 5, d 6, d 7, v8, d 9, d 10, d 11, d 12, d 13, d 14, d 15, d 16, d 17, d 18, d 19, d 20, d 21, d 22, d 23, d 24, d 25, d 26, d 27, d 28, d 29, d 30, d 31, d 32, d 33, d 34, d 35, d 36, d 37, d 38, d 39, d 40, d 41, d 42, d 43, d 44, d 45, d 46, d 47, d 48, d 49, d 50, d 51, d 52, d 53, d 54, d 55, d 56, d 57, d 58, d 59, d 60, d 61, d 62, d 63, d 64, d 65, d 66, d 67, d 68, d 69, d 70, d 71, d 72, d 73, d 74, d 75, d 76, d 77, d 78, d 79, d 80, d 81, d 82, d 83, d 84, d 85, d 86, d 87, d 88, d 89, d 90, d 91, d 92, d 93, d 94, d 95, d 96, d 97, d 98, d 99, d 100, d 101, d 102, d 103, d 104, d 105, d 106, d 107, d 108, d 109, d 110, d 111, d 112, d 113, d 114, d 115, d 116, d 117, d 118, d 119]
def G_q144_1 (K : Kont) (v4 v8 : Value) (d : Nat → Value) (h : Hp) : Prop := aw Try.prog O_q144 K_q144_0 (qTop Try.prog Try.f67 K) (E_q144_1 v4 v8 d) h
noncomputable def K_q144_1 : Code := (cB (cB (bodyC Try.f67)))
noncomputable def K_q144_2 : Code := (cI (cB (cA (cB (cB (cB (cB (cB (cB (bodyC Try.f67))))))))))
noncomputable def K_q144_3 : Code := (cB (cB (cB (cB (cB (cB (cB (bodyC Try.f67))))))))
def Q_q144_0 (K : Kont) : Post := qSeq (aw Try.prog O_q144 K_q144_3 (qTop Try.prog Try.f67 K)) (qTop Try.prog Try.f67 K)
def Q_q144_1 (K : Kont) : Post := qBlk 0 (Q_q144_0 K)
def E_q144_2 (v4 v8 v11 v12 : Value) (d : Nat → Value) : List Value := [d 0, d 1, d 2, d 3, v4, d 5, d 6, d 7, v8, d 9, d 10, v11, v12, d 13, d 14, d 15, d 16, d 17, d 18, d 19, d 20, d 21, d 22, d 23, d 24, d 25, d 26, d 27, d 28, d 29, d 30, d 31, d 32, d 33, d 34, d 35, d 36, d 37, d 38, d 39, d 40, d 41, d 42, d 43, d 44, d 45, d 46, d 47, d 48, d 49, d 50, d 51, d 52, d 53, d 54, d 55, d 56, d 57, d 58, d 59, d 60, d 61, d 62, d 63, d 64, d 65, d 66, d 67, d 68, d 69, d 70, d 71, d 72, d 73, d 74, d 75, d 76, d 77, d 78, d 79, d 80, d 81, d 82, d 83, d 84, d 85, d 86, d 87, d 88, d 89, d 90, d 91, d 92, d 93, d 94, d 95, d 96, d 97, d 98, d 99, d 100, d 101, d 102, d 103, d 104, d 105, d 106, d 107, d 108, d 109, d 110, d 111, d 112, d 113, d 114, d 115, d 116, d 117, d 118, d 119]
def G_q144_2 (K : Kont) (v4 v8 v11 v12 : Value) (d : Nat → Value) (h : Hp) : Prop := aw Try.prog O_q144 K_q144_2 (Q_q144_1 K) (E_q144_2 v4 v8 v11 v12 d) h
noncomputable def K_q144_4 : Code := (cB (cB (cB (cB (bodyC Try.f67)))))
def Q_q144_2 (K : Kont) (s0 : Self) : Post := qSeq s0 (Q_q144_1 K)
noncomputable def K_q144_5 : Code := (cI (cI (cB (cA (cB (cB (cB (cB (cB (cB (bodyC Try.f67)))))))))))
noncomputable def K_q144_6 : Code := (cI (cB (cA (cB (cI (cA (cB (cI (cI (cB (cA (cB (cB (cB (cB (cB (cB (bodyC Try.f67))))))))))))))))))
noncomputable def K_q144_7 : Code := (cB (cB (cI (cI (cB (cA (cB (cB (cB (cB (cB (cB (bodyC Try.f67)))))))))))))
def Q_q144_3 (K : Kont) (s0 : Self) : Post := qSeq (aw Try.prog O_q144 K_q144_7 (Q_q144_2 K s0)) (Q_q144_2 K s0)
def Q_q144_4 (K : Kont) (s0 : Self) : Post := qBlk 1 (Q_q144_3 K s0)
noncomputable def K_q144_8 : Code := (cB (cB (cI (cA (cB (cI (cI (cB (cA (cB (cB (cB (cB (cB (cB (bodyC Try.f67))))))))))))))))
def Q_q144_5 (K : Kont) (s0 : Self) : Post := qSeq (aw Try.prog O_q144 K_q144_8 (Q_q144_4 K s0)) (Q_q144_4 K s0)
def Q_q144_6 (K : Kont) (s0 : Self) : Post := qBlk 2 (Q_q144_5 K s0)
def E_q144_3 (v4 v8 v11 v12 v13 v14 : Value) (d : Nat → Value) : List Value := [d 0, d 1, d 2, d 3, v4, d 5, d 6, d 7, v8, d 9, d 10, v11, v12, v13, v14, d 15, d 16, d 17, d 18, d 19, d 20, d 21, d 22, d 23, d 24, d 25, d 26, d 27, d 28, d 29, d 30, d 31, d 32, d 33, d 34, d 35, d 36, d 37, d 38, d 39, d 40, d 41, d 42, d 43, d 44, d 45, d 46, d 47, d 48, d 49, d 50, d 51, d 52, d 53, d 54, d 55, d 56, d 57, d 58, d 59, d 60, d 61, d 62, d 63, d 64, d 65, d 66, d 67, d 68, d 69, d 70, d 71, d 72, d 73, d 74, d 75, d 76, d 77, d 78, d 79, d 80, d 81, d 82, d 83, d 84, d 85, d 86, d 87, d 88, d 89, d 90, d 91, d 92, d 93, d 94, d 95, d 96, d 97, d 98, d 99, d 100, d 101, d 102, d 103, d 104, d 105, d 106, d 107, d 108, d 109, d 110, d 111, d 112, d 113, d 114, d 115, d 116, d 117, d 118, d 119]
def G_q144_3 (K : Kont) (s0 : Self) (v4 v8 v11 v12 v13 v14 : Value) (d : Nat → Value) (h : Hp) : Prop := aw Try.prog O_q144 K_q144_6 (Q_q144_6 K s0) (E_q144_3 v4 v8 v11 v12 v13 v14 d) h
def E_q144_4 (v4 v8 : Value) (d : Nat → Value) : List Value := [d 0, d 1, d 2, d 3, v4, d 5, d 6, d 7, v8, d 9, d 10, d 11, d 12, d 13, d 14, d 15, d 16, d 17, d 18, d 19, d 20, d 21, d 22, d 23, d 24, d 25, d 26, d 27, d 28, d 29, d 30, d 31, d 32, d 33, d 34, d 35, d 36, d 37, d 38, d 39, d 40, d 41, d 42, d 43, d 44, d 45, d 46, d 47, d 48, d 49, d 50, d 51, d 52, d 53, d 54, d 55, d 56, d 57, d 58, d 59, d 60, d 61, d 62, d 63, d 64, d 65, d 66, d 67, d 68, d 69, d 70, d 71, d 72, d 73, d 74, d 75, d 76, d 77, d 78, d 79, d 80, d 81, d 82, d 83, d 84, d 85, d 86, d 87, d 88, d 89, d 90, d 91, d 92, d 93, d 94, d 95, d 96, d 97, d 98, d 99, d 100, d 101, d 102, d 103, d 104, d 105, d 106, d 107, d 108, d 109, d 110, d 111, d 112, d 113, d 114, d 115, d 116, d 117, d 118, d 119]
def G_q144_4 (K : Kont) (v4 v8 : Value) (d : Nat → Value) (h : Hp) : Prop := aw Try.prog O_q144 K_q144_3 (qTop Try.prog Try.f67 K) (E_q144_4 v4 v8 d) h
noncomputable def K_q144_9 : Code := (cB (cI (cI (cB (cA (cB (cB (cB (cB (cB (cB (bodyC Try.f67))))))))))))
def Q_q144_7 (K : Kont) (s0 : Self) (s1 : Self) : Post := qSeq s1 (Q_q144_6 K s0)
noncomputable def K_q144_10 : Code := (cI (cI (cB (cA (cB (cI (cA (cB (cI (cI (cB (cA (cB (cB (cB (cB (cB (cB (bodyC Try.f67)))))))))))))))))))
noncomputable def K_q144_11 : Code := (cB (cI (cI (cB (cA (cB (cI (cA (cB (cI (cI (cB (cA (cB (cB (cB (cB (cB (cB (bodyC Try.f67))))))))))))))))))))
def G_q144 (a0 a1 a2 a3 : Value) (h : Hp) (K : Kont) : Prop :=
  oBox a0 h fun t4 h1 =>
  oAlloc #[.int .i64 0, .int .i64 0, .int .i64 0, .int .u64 0, .int .i64 0, .int .i64 0, .slice none 0 0, .slice none 0 0, .slice none 0 0] h1 fun t8 h2 =>
  oFieldAddr 2 t4 h2 fun t17 h3 =>
  oLd1 t17 h3 fun t18 h4 =>
  oBin .neq t18 (Value.int .i64 1) h4 fun t19 h5 =>
  oGuard t19 false (fun K => oFieldAddr 3 t4 h5 K) h5 fun t21 h6 =>
  oGuard t19 false (fun K => oLd1 t21 h6 K) h6 fun t22 h7 =>
  oGuard t19 false (fun K => K a1 h7) h7 fun t23 h8 =>
  oGuard t19 false (fun K => oBin .neq t22 t23 h8 K) h8 fun t24 h9 =>
  oPick t19 (Value.bool true) t24 h9 fun t25 h10 =>
  oGuard t25 false (fun K => K a2 h10) h10 fun t27 h11 =>
  oGuard t25 false (fun K => oBin .lss t27 (Value.int .i64 1) h11 K) h11 fun t28 h12 =>
  oPick t25 (Value.bool true) t28 h12 fun t29 h13 =>
  oGuard t29 false (fun K => K a2 h13) h13 fun t31 h14 =>
  oGuard t29 false (fun K => oFieldAddr 1 t4 h14 K) h14 fun t32 h15 =>
  oGuard t29 false (fun K => oLd1 t32 h15 K) h15 fun t33 h16 =>
  oGuard t29 false (fun K => oBin .gtr t31 t33 h16 K) h16 fun t34 h17 =>
  oPick t29 (Value.bool true) t34 h17 fun t35 h18 =>
  oIf t35
  (oLdN 9 t4 h18 fun t36 h19 =>
  oSt 9 t8 t36 h19 fun _ h20 =>
  oLdN 9 t8 h20 fun r1 _ =>
  K (.tuple #[r1, (Value.slice none 0 0), (Value.bool false)]) h20)
  (oFieldAddr 6 t4 h18 fun t37 h21 =>
  oLd1 t37 h21 fun t38 h22 =>
  C_q177 [t38, a2] h22 fun t40 h23 =>
  oNot t40 h23 fun t41 h24 =>
  oIf t41
  (oFieldAddr 6 t4 h24 fun t42 h25 =>
  oLd1 t42 h25 fun t43 h26 =>
  oAppend 1 8 #[.int .i64 0] (Value.slice none 0 0) t43 h26 fun t44 h27 =>
  oBuildSlice #[.int .i64 0] 1 [(0 * 1, 1, a2)] h27 fun t46 h28 =>
  oAppend 1 8 #[.int .i64 0] t44 t46 h28 fun t47 h29 =>
  oFieldAddr 6 t4 h29 fun t48 h30 =>
  oSt 1 t48 t47 h30 fun _ h31 =>
  oFieldAddr 7 t4 h31 fun t49 h32 =>
  oLd1 t49 h32 fun t50 h33 =>
  oAppend 1 24 #[.slice none 0 0] (Value.slice none 0 0) t50 h33 fun t51 h34 =>
  oBuildSlice #[.slice none 0 0] 1 [(0 * 1, 1, a3)] h34 fun t53 h35 =>
  oAppend 1 24 #[.slice none 0 0] t51 t53 h35 fun t54 h36 =>
  oFieldAddr 7 t4 h36 fun t55 h37 =>
  oSt 1 t55 t54 h37 fun _ h38 =>
  G_q144_1 K t4 t8 (ud [(0, a0), (1, a1), (2, a2), (3, a3), (9, (Value.slice none 0 0)), (10, (Value.bool false)), (17, t17), (18, t18), (19, t19), (20, t19), (21, t21), (22, t22), (23, t23), (24, t24), (25, t25), (26, t25), (27, t27), (28, t28), (29, t29), (30, t29), (31, t31), (32, t32), (33, t33), (34, t34), (35, t35), (37, t37), (38, t38), (39, a2), (40, t40), (41, t41), (42, t42), (43, t43), (44, t44), (45, a2), (46, t46), (47, t47), (48, t48), (49, t49), (50, t50), (51, t51), (52, a3), (53, t53), (54, t54), (55, t55)] dz) h38)
  (G_q144_1 K t4 t8 (ud [(0, a0), (1, a1), (2, a2), (3, a3), (9, (Value.slice none 0 0)), (10, (Value.bool false)), (17, t17), (18, t18), (19, t19), (20, t19), (21, t21), (22, t22), (23, t23), (24, t24), (25, t25), (26, t25), (27, t27), (28, t28), (29, t29), (30, t29), (31, t31), (32, t32), (33, t33), (34, t34), (35, t35), (37, t37), (38, t38), (39, a2), (40, t40), (41, t41)] dz) h24))
def E0_q144 (a0 a1 a2 a3 : Value) : List Value := [a0, a1, a2, a3, undef, undef, undef, undef, undef, undef, undef, undef, undef, undef, undef, undef, undef, undef, undef, undef, undef, undef, undef, undef, undef, undef, undef, undef, undef, undef, undef, undef, undef, undef, undef, undef, undef, undef, undef, undef, undef, undef, undef, undef, undef, undef, undef, undef, undef, undef, undef, undef, undef, undef, undef, undef, undef, undef, undef, undef, undef, undef, undef, undef, undef, undef, undef, undef, undef, undef, undef, undef, undef, undef, undef, undef, undef, undef, undef, undef, undef, undef, undef, undef, undef, undef, undef, undef, undef, undef, undef, undef, undef, undef, undef, undef, undef, undef, undef, undef, undef, undef, undef, undef, undef, undef, undef, undef, undef, undef, undef, undef, undef, undef, undef, undef, undef, undef, undef, undef]
def X_q144 (Qv : Post) (a0 a1 a2 a3 : Value) (h : Hp) : Prop :=
  oBox a0 h fun t4 h1 =>
  oAlloc #[.int .i64 0, .int .i64 0, .int .i64 0, .int .u64 0, .int .i64 0, .int .i64 0, .slice none 0 0, .slice none 0 0, .slice none 0 0] h1 fun t8 h2 =>
  oFieldAddr 2 t4 h2 fun t17 h3 =>
  oLd1 t17 h3 fun t18 h4 =>
  oBin .neq t18 (Value.int .i64 1) h4 fun t19 h5 =>
  oGuard t19 false (fun K => oFieldAddr 3 t4 h5 K) h5 fun t21 h6 =>
  oGuard t19 false (fun K => oLd1 t21 h6 K) h6 fun t22 h7 =>
  oGuard t19 false (fun K => K a1 h7) h7 fun t23 h8 =>
  oGuard t19 false (fun K => oBin .neq t22 t23 h8 K) h8 fun t24 h9 =>
  oPick t19 (Value.bool true) t24 h9 fun t25 h10 =>
  oGuard t25 false (fun K => K a2 h10) h10 fun t27 h11 =>
  oGuard t25 false (fun K => oBin .lss t27 (Value.int .i64 1) h11 K) h11 fun t28 h12 =>
  oPick t25 (Value.bool true) t28 h12 fun t29 h13 =>
  oGuard t29 false (fun K => K a2 h13) h13 fun t31 h14 =>
  oGuard t29 false (fun K => oFieldAddr 1 t4 h14 K) h14 fun t32 h15 =>
  oGuard t29 false (fun K => oLd1 t32 h15 K) h15 fun t33 h16 =>
  oGuard t29 false (fun K => oBin .gtr t31 t33 h16 K) h16 fun t34 h17 =>
  oPick t29 (Value.bool true) t34 h17 fun t35 h18 =>
  oIf t35
  (oLdN 9 t4 h18 fun t36 h19 =>
  oSt 9 t8 t36 h19 fun _ h20 =>
  (qSeq (aw Try.prog O_q144 K_q144_1 Qv) Qv) .ret (ul (E0_q144 a0 a1 a2 a3) [(4, t4), (8, t8), (9, (Value.slice none 0 0)), (10, (Value.bool false)), (17, t17), (18, t18), (19, t19), (20, t19), (21, t21), (22, t22), (23, t23), (24, t24), (25, t25), (26, t25), (27, t27), (28, t28), (29, t29), (30, t29), (31, t31), (32, t32), (33, t33), (34, t34), (35, t35), (36, t36)]) h20)
  (oFieldAddr 6 t4 h18 fun t37 h21 =>
  oLd1 t37 h21 fun t38 h22 =>
  C_q177 [t38, a2] h22 fun t40 h23 =>
  oNot t40 h23 fun t41 h24 =>
  oIf t41
  (oFieldAddr 6 t4 h24 fun t42 h25 =>
  oLd1 t42 h25 fun t43 h26 =>
  oAppend 1 8 #[.int .i64 0] (Value.slice none 0 0) t43 h26 fun t44 h27 =>
  oBuildSlice #[.int .i64 0] 1 [(0 * 1, 1, a2)] h27 fun t46 h28 =>
  oAppend 1 8 #[.int .i64 0] t44 t46 h28 fun t47 h29 =>
  oFieldAddr 6 t4 h29 fun t48 h30 =>
  oSt 1 t48 t47 h30 fun _ h31 =>
  oFieldAddr 7 t4 h31 fun t49 h32 =>
  oLd1 t49 h32 fun t50 h33 =>
  oAppend 1 24 #[.slice none 0 0] (Value.slice none 0 0) t50 h33 fun t51 h34 =>
  oBuildSlice #[.slice none 0 0] 1 [(0 * 1, 1, a3)] h34 fun t53 h35 =>
  oAppend 1 24 #[.slice none 0 0] t51 t53 h35 fun t54 h36 =>
  oFieldAddr 7 t4 h36 fun t55 h37 =>
  oSt 1 t55 t54 h37 fun _ h38 =>
  (qSeq (aw Try.prog O_q144 K_q144_0 Qv) Qv) .normal (ul (E0_q144 a0 a1 a2 a3) [(4, t4), (8, t8), (9, (Value.slice none 0 0)), (10, (Value.bool false)), (17, t17), (18, t18), (19, t19), (20, t19), (21, t21), (22, t22), (23, t23), (24, t24), (25, t25), (26, t25), (27, t27), (28, t28), (29, t29), (30, t29), (31, t31), (32, t32), (33, t33), (34, t34), (35, t35), (37, t37), (38, t38), (39, a2), (40, t40), (41, t41), (42, t42), (43, t43), (44, t44), (45, a2), (46, t46), (47, t47), (48, t48), (49, t49), (50, t50), (51, t51), (52, a3), (53, t53), (54, t54), (55, t55)]) h38)
  ((qSeq (aw Try.prog O_q144 K_q144_0 Qv) Qv) .normal (ul (E0_q144 a0 a1 a2 a3) [(4, t4), (8, t8), (9, (Value.slice none 0 0)), (10, (Value.bool false)), (17, t17), (18, t18), (19, t19), (20, t19), (21, t21), (22, t22), (23, t23), (24, t24), (25, t25), (26, t25), (27, t27), (28, t28), (29, t29), (30, t29), (31, t31), (32, t32), (33, t33), (34, t34), (35, t35), (37, t37), (38, t38), (39, a2), (40, t40), (41, t41)]) h24))
theorem ga_q144 (Qv : Post) (a0 a1 a2 a3 : Value) (h : Hp) : aw Try.prog O_q144 (bodyC Try.f67) Qv (E0_q144 a0 a1 a2 a3) h = X_q144 Qv a0 a1 a2 a3 h := by kernel_rfl
theorem gb_q144 (a0 a1 a2 a3 : Value) (h : Hp) (K : Kont) : X_q144 (qTop Try.prog Try.f67 K) a0 a1 a2 a3 h = G_q144 a0 a1 a2 a3 h K := by kernel_rfl
theorem gc_q144 (a0 a1 a2 a3 : Value) (h : Hp) (K : Kont) : abody Try.prog O_q144 Try.f67 (bodyC Try.f67) [a0, a1, a2, a3] h K = aw Try.prog O_q144 (bodyC Try.f67) (qTop Try.prog Try.f67 K) (E0_q144 a0 a1 a2 a3) h := by kernel_rfl
theorem eq_q144 (a0 a1 a2 a3 : Value) (h : Hp) (K : Kont) : abody Try.prog O_q144 Try.f67 (bodyC Try.f67) [a0, a1, a2, a3] h K = G_q144 a0 a1 a2 a3 h K := (gc_q144 a0 a1 a2 a3 h K).trans ((ga_q144 _ a0 a1 a2 a3 h).trans (gb_q144 a0 a1 a2 a3 h K))
theorem ok_q144 {a0 a1 a2 a3 : Value} {h : Hp} {K : Kont} (hk : G_q144 a0 a1 a2 a3 h K) : C_q144 [a0, a1, a2, a3] h K := ac_of_body prog_mixed (fn := Try.f67) Try.func67 (c := bodyC Try.f67) (by kernel_rfl) ((eq_q144 a0 a1 a2 a3 h K).mpr hk)
def R_q144_1 (K : Kont) (v4 v8 : Value) (d : Nat → Value) (h : Hp) : Prop :=
  oFieldAddr 6 v4 h fun t56 h1 =>
  oLd1 t56 h1 fun t57 h2 =>
  oFieldAddr 1 v4 h2 fun t58 h3 =>
  oLd1 t58 h3 fun t59 h4 =>
  C_q157 [t57, t59] h4 fun t60 h5 =>
  oNot t60 h5 fun t61 h6 =>
  oIf t61
  (oLdN 9 v4 h6 fun t62 h7 =>
  oSt 9 v8 t62 h7 fun _ h8 =>
  oLdN 9 v8 h8 fun r2 _ =>
  K (.tuple #[r2, (Value.slice none 0 0), (Value.bool false)]) h8)
  (oFieldAddr 2 v4 h6 fun t63 h9 =>
  oSt 1 t63 (Value.int .i64 2) h9 fun _ h10 =>
  oLdN 9 v4 h10 fun t64 h11 =>
  C_q158 [t64] h11 fun t65 h12 =>
  C_q174 [t65] h12 fun t66 h13 =>
  oFieldAddr 4 v4 h13 fun t67 h14 =>
  oLd1 t67 h14 fun t68 h15 =>
  G_q144_2 K v4 v8 t66 t68 (ud [(56, t56), (57, t57), (58, t58), (59, t59), (60, t60), (61, t61), (63, t63), (64, t64), (65, t65), (66, t66), (67, t67), (68, t68)] d) h15)
def X_q144_1 (Qv : Post) (v4 v8 : Value) (d : Nat → Value) (h : Hp) : Prop :=
  oFieldAddr 6 v4 h fun t56 h1 =>
  oLd1 t56 h1 fun t57 h2 =>
  oFieldAddr 1 v4 h2 fun t58 h3 =>
  oLd1 t58 h3 fun t59 h4 =>
  C_q157 [t57, t59] h4 fun t60 h5 =>
  oNot t60 h5 fun t61 h6 =>
  oIf t61
  (oLdN 9 v4 h6 fun t62 h7 =>
  oSt 9 v8 t62 h7 fun _ h8 =>
  (qSeq (aw Try.prog O_q144 K_q144_4 Qv) Qv) .ret (ul (E_q144_1 v4 v8 d) [(9, (Value.slice none 0 0)), (10, (Value.bool false)), (56, t56), (57, t57), (58, t58), (59, t59), (60, t60), (61, t61), (62, t62)]) h8)
  (oFieldAddr 2 v4 h6 fun t63 h9 =>
  oSt 1 t63 (Value.int .i64 2) h9 fun _ h10 =>
  oLdN 9 v4 h10 fun t64 h11 =>
  C_q158 [t64] h11 fun t65 h12 =>
  C_q174 [t65] h12 fun t66 h13 =>
  oFieldAddr 4 v4 h13 fun t67 h14 =>
  oLd1 t67 h14 fun t68 h15 =>
  aw Try.prog O_q144 K_q144_2 (qBlk 0 (qSeq (aw Try.prog O_q144 K_q144_3 Qv) Qv)) (ul (E_q144_1 v4 v8 d) [(11, t66), (12, t68), (56, t56), (57, t57), (58, t58), (59, t59), (60, t60), (61, t61), (63, t63), (64, t64), (65, t65), (66, t66), (67, t67), (68, t68)]) h15)
theorem ga_q144_1 (Qv : Post) (v4 v8 : Value) (d : Nat → Value) (h : Hp) : aw Try.prog O_q144 K_q144_0 Qv (E_q144_1 v4 v8 d) h = X_q144_1 Qv v4 v8 d h := by kernel_rfl
theorem gb_q144_1 (K : Kont) (v4 v8 : Value) (d : Nat → Value) (h : Hp) : X_q144_1 (qTop Try.prog Try.f67 K) v4 v8 d h = R_q144_1 K v4 v8 d h := by kernel_rfl
theorem req_q144_1 (K : Kont) (v4 v8 : Value) (d : Nat → Value) (h : Hp) : G_q144_1 K v4 v8 d h = R_q144_1 K v4 v8 d h := (ga_q144_1 _ v4 v8 d h).trans (gb_q144_1 K v4 v8 d h)
def B_q144_2 (K : Kont) (s0 : Self) (v4 v8 v11 v12 : Value) (d : Nat → Value) (h : Hp) : Prop :=
  oBin .lss v12 (Value.int .i64 512) h fun t70 h1 =>
  oIf t70
  (G_q144_3 K s0 v4 v8 v11 v12 (Value.bool false) (Value.int .i64 0) (ud [(69, v12), (70, t70)] d) h1)
  (G_q144_4 K v4 v8 (ud [(11, v11), (12, v12), (69, v12), (70, t70)] d) h1)
def X_q144_2 (Qv : Post) (v4 v8 v11 v12 : Value) (d : Nat → Value) (h : Hp) : Prop :=
  oBin .lss v12 (Value.int .i64 512) h fun t70 h1 =>
  oIf t70
  (aw Try.prog O_q144 K_q144_6 (qBlk 2 (qSeq (aw Try.prog O_q144 K_q144_8 (qBlk 1 (qSeq (aw Try.prog O_q144 K_q144_7 Qv) Qv))) (qBlk 1 (qSeq (aw Try.prog O_q144 K_q144_7 Qv) Qv)))) (ul (E_q144_2 v4 v8 v11 v12 d) [(13, (Value.bool false)), (14, (Value.int .i64 0)), (69, v12), (70, t70)]) h1)
  ((qSeq (aw Try.prog O_q144 K_q144_9 Qv) Qv) (.exit 0) (ul (E_q144_2 v4 v8 v11 v12 d) [(69, v12), (70, t70)]) h1)
theorem ga_q144_2 (Qv : Post) (v4 v8 v11 v12 : Value) (d : Nat → Value) (h : Hp) : aw Try.prog O_q144 K_q144_5 Qv (E_q144_2 v4 v8 v11 v12 d) h = X_q144_2 Qv v4 v8 v11 v12 d h := by kernel_rfl
theorem gb_q144_2 (K : Kont) (s0 : Self) (v4 v8 v11 v12 : Value) (d : Nat → Value) (h : Hp) : X_q144_2 (Q_q144_2 K s0) v4 v8 v11 v12 d h = B_q144_2 K s0 v4 v8 v11 v12 d h := by kernel_rfl
theorem beq_q144_2 (K : Kont) (s0 : Self) (v4 v8 v11 v12 : Value) (d : Nat → Value) (h : Hp) : aw Try.prog O_q144 K_q144_5 (Q_q144_2 K s0) (E_q144_2 v4 v8 v11 v12 d) h = B_q144_2 K s0 v4 v8 v11 v12 d h := (ga_q144_2 _ v4 v8 v11 v12 d h).trans (gb_q144_2 K s0 v4 v8 v11 v12 d h)
theorem rule_q144_2 {K : Kont} {v4 v8 v11 : Value} (Inv : Value → Hp → Prop) (μ : Value → Hp → Nat)
    (step : ∀ (s0 : Self) (v12 : Value) (d : Nat → Value) (h : Hp), Inv v12 h → (∀ (v12' : Value) (d' : Nat → Value) (h' : Hp), Inv v12' h' → μ v12' h' < μ v12 h → s0 (E_q144_2 v4 v8 v11 v12' d') h') → B_q144_2 K s0 v4 v8 v11 v12 d h) (v12 : Value) (d : Nat → Value) (h : Hp) (hi : Inv v12 h) : G_q144_2 K v4 v8 v11 v12 d h :=
  oLoop_rule (α := Value × (Nat → Value)) (fun x => E_q144_2 v4 v8 v11 x.1 x.2) (fun x h => Inv x.1 h) (fun x h => μ x.1 h)
    (fun self x h hx hs => (beq_q144_2 K self v4 v8 v11 x.1 x.2 h).mpr (step self x.1 x.2 h hx (fun v12' d' h' h1 h2 => hs ⟨v12', d'⟩ h' h1 h2))) ⟨v12, d⟩ h hi
def B_q144_3 (K : Kont) (s0 : Self) (s1 : Self) (v4 v8 v11 v12 v13 v14 : Value) (d : Nat → Value) (h : Hp) : Prop :=
  oLen 0 v11 h fun t75 h1 =>
  oBin .lss v14 t75 h1 fun t76 h2 =>
  oIf t76
  (oGuard v13 false (fun K => K v11 h2) h2 fun t81 h3 =>
  oGuard v13 false (fun K => K v14 h3) h3 fun t82 h4 =>
  oGuard v13 false (fun K => oIdxS 6 t81 t82 h4 K) h4 fun t83 h5 =>
  oGuard v13 false (fun K => oFieldAddr 0 t83 h5 K) h5 fun t84 h6 =>
  oGuard v13 false (fun K => oLd1 t84 h6 K) h6 fun t85 h7 =>
  oGuard v13 false (fun K => K v12 h7) h7 fun t86 h8 =>
  oGuard v13 false (fun K => oBin .geq t85 t86 h8 K) h8 fun t87 h9 =>
  oGuard v13 false (fun K => K t87 h9) h9 fun t88 h10 =>
  oGuard t88 true (fun K => K v11 h10) h10 fun t89 h11 =>
  oGuard t88 true (fun K => K v14 h11) h11 fun t90 h12 =>
  oGuard t88 true (fun K => oIdxS 6 t89 t90 h12 K) h12 fun t91 h13 =>
  oGuard t88 true (fun K => oFieldAddr 0 t91 h13 K) h13 fun t92 h14 =>
  oGuard t88 true (fun K => oLd1 t92 h14 K) h14 fun t93 h15 =>
  oGuard t88 true (fun K => oBin .lss t93 (Value.int .i64 512) h15 K) h15 fun t94 h16 =>
  oGuard v13 false (fun K => oPick t88 t94 (Value.bool false) h16 K) h16 fun t95 h17 =>
  oPick v13 (Value.bool true) t95 h17 fun t96 h18 =>
  oBin .add v14 (Value.int .i64 1) h18 fun t78 h19 =>
  s1 (E_q144_3 v4 v8 v11 v12 t96 t78 (ud [(73, v14), (74, v11), (75, t75), (76, t76), (77, v14), (78, t78), (79, v13), (80, v13), (81, t81), (82, t82), (83, t83), (84, t84), (85, t85), (86, t86), (87, t87), (88, t88), (89, t89), (90, t90), (91, t91), (92, t92), (93, t93), (94, t94), (95, t95), (96, t96)] d)) h19)
  (oNot v13 h2 fun t98 h20 =>
  oIf t98
  (G_q144_4 K v4 v8 (ud [(11, v11), (12, v12), (13, v13), (14, v14), (73, v14), (74, v11), (75, t75), (76, t76), (97, v13), (98, t98)] d) h20)
  (C_q183 [v11, v12] h20 fun t102 h21 =>
  oExtract t102 0 h21 fun t103 h22 =>
  oExtract t102 1 h22 fun t104 h23 =>
  oAlloc #[.int .i64 0, .int .u64 0, .int .i64 0, .int .i64 0, .int .u64 0, .int .i64 0] h23 fun t15 h24 =>
  oSt 6 t15 t103 h24 fun _ h25 =>
  oFieldAddr 8 v4 h25 fun t105 h26 =>
  oLd1 t105 h26 fun t106 h27 =>
  oFieldAddr 2 t15 h27 fun t108 h28 =>
  oLdN 4 t108 h28 fun t109 h29 =>
  oBuild #[.int .i64 0, .int .i64 0, .int .i64 0, .int .u64 0, .int .i64 0, .slice none 0 0] [(0, 1, v12), (1, 4, t109)] h29 fun t110 h30 =>
  oBuildSlice #[.int .i64 0, .int .i64 0, .int .i64 0, .int .u64 0, .int .i64 0, .slice none 0 0] 1 [(0 * 6, 6, t110)] h30 fun t111 h31 =>
  oAppend 6 64 #[.int .i64 0, .int .i64 0, .int .i64 0, .int .u64 0, .int .i64 0, .slice none 0 0] t106 t111 h31 fun t112 h32 =>
  oFieldAddr 8 v4 h32 fun t113 h33 =>
  oSt 1 t113 t112 h33 fun _ h34 =>
  oBin .add v12 (Value.int .i64 1) h34 fun t115 h35 =>
  oFieldAddr 5 v4 h35 fun t116 h36 =>
  oSt 1 t116 t115 h36 fun _ h37 =>
  oBin .add v12 (Value.int .i64 1) h37 fun t72 h38 =>
  s0 (E_q144_2 v4 v8 v11 t72 (ud [(13, v13), (14, v14), (15, t15), (16, t104), (71, v12), (72, t72), (73, v14), (74, v11), (75, t75), (76, t76), (97, v13), (98, t98), (99, t102), (100, v11), (101, v12), (102, t102), (103, t103), (104, t104), (105, t105), (106, t106), (107, v12), (108, t108), (109, t109), (110, t110), (111, t111), (112, t112), (113, t113), (114, v12), (115, t115), (116, t116)] d)) h38))
def X_q144_3 (Qv : Post) (v4 v8 v11 v12 v13 v14 : Value) (d : Nat → Value) (h : Hp) : Prop :=
  oLen 0 v11 h fun t75 h1 =>
  oBin .lss v14 t75 h1 fun t76 h2 =>
  oIf t76
  (oGuard v13 false (fun K => K v11 h2) h2 fun t81 h3 =>
  oGuard v13 false (fun K => K v14 h3) h3 fun t82 h4 =>
  oGuard v13 false (fun K => oIdxS 6 t81 t82 h4 K) h4 fun t83 h5 =>
  oGuard v13 false (fun K => oFieldAddr 0 t83 h5 K) h5 fun t84 h6 =>
  oGuard v13 false (fun K => oLd1 t84 h6 K) h6 fun t85 h7 =>
  oGuard v13 false (fun K => K v12 h7) h7 fun t86 h8 =>
  oGuard v13 false (fun K => oBin .geq t85 t86 h8 K) h8 fun t87 h9 =>
  oGuard v13 false (fun K => K t87 h9) h9 fun t88 h10 =>
  oGuard t88 true (fun K => K v11 h10) h10 fun t89 h11 =>
  oGuard t88 true (fun K => K v14 h11) h11 fun t90 h12 =>
  oGuard t88 true (fun K => oIdxS 6 t89 t90 h12 K) h12 fun t91 h13 =>
  oGuard t88 true (fun K => oFieldAddr 0 t91 h13 K) h13 fun t92 h14 =>
  oGuard t88 true (fun K => oLd1 t92 h14 K) h14 fun t93 h15 =>
  oGuard t88 true (fun K => oBin .lss t93 (Value.int .i64 512) h15 K) h15 fun t94 h16 =>
  oGuard v13 false (fun K => oPick t88 t94 (Value.bool false) h16 K) h16 fun t95 h17 =>
  oPick v13 (Value.bool true) t95 h17 fun t96 h18 =>
  oBin .add v14 (Value.int .i64 1) h18 fun t78 h19 =>
  Qv .normal (ul (E_q144_3 v4 v8 v11 v12 v13 v14 d) [(13, t96), (14, t78), (73, v14), (74, v11), (75, t75), (76, t76), (77, v14), (78, t78), (79, v13), (80, v13), (81, t81), (82, t82), (83, t83), (84, t84), (85, t85), (86, t86), (87, t87), (88, t88), (89, t89), (90, t90), (91, t91), (92, t92), (93, t93), (94, t94), (95, t95), (96, t96)]) h19)
  ((qSeq (aw Try.prog O_q144 K_q144_11 Qv) Qv) (.exit 2) (ul (E_q144_3 v4 v8 v11 v12 v13 v14 d) [(73, v14), (74, v11), (75, t75), (76, t76)]) h2)
theorem ga_q144_3 (Qv : Post) (v4 v8 v11 v12 v13 v14 : Value) (d : Nat → Value) (h : Hp) : aw Try.prog O_q144 K_q144_10 Qv (E_q144_3 v4 v8 v11 v12 v13 v14 d) h = X_q144_3 Qv v4 v8 v11 v12 v13 v14 d h := by kernel_rfl
theorem gb_q144_3 (K : Kont) (s0 : Self) (s1 : Self) (v4 v8 v11 v12 v13 v14 : Value) (d : Nat → Value) (h : Hp) : X_q144_3 (Q_q144_7 K s0 s1) v4 v8 v11 v12 v13 v14 d h = B_q144_3 K s0 s1 v4 v8 v11 v12 v13 v14 d h := by kernel_rfl
theorem beq_q144_3 (K : Kont) (s0 : Self) (s1 : Self) (v4 v8 v11 v12 v13 v14 : Value) (d : Nat → Value) (h : Hp) : aw Try.prog O_q144 K_q144_10 (Q_q144_7 K s0 s1) (E_q144_3 v4 v8 v11 v12 v13 v14 d) h = B_q144_3 K s0 s1 v4 v8 v11 v12 v13 v14 d h := (ga_q144_3 _ v4 v8 v11 v12 v13 v14 d h).trans (gb_q144_3 K s0 s1 v4 v8 v11 v12 v13 v14 d h)
theorem rule_q144_3 {K : Kont} {s0 : Self} {v4 v8 v11 v12 : Value} (Inv : Value → Value → Hp → Prop) (μ : Value → Value → Hp → Nat)
    (step : ∀ (s1 : Self) (v13 v14 : Value) (d : Nat → Value) (h : Hp), Inv v13 v14 h → (∀ (v13' : Value) (v14' : Value) (d' : Nat → Value) (h' : Hp), Inv v13' v14' h' → μ v13' v14' h' < μ v13 v14 h → s1 (E_q144_3 v4 v8 v11 v12 v13' v14' d') h') → B_q144_3 K s0 s1 v4 v8 v11 v12 v13 v14 d h) (v13 v14 : Value) (d : Nat → Value) (h : Hp) (hi : Inv v13 v14 h) : G_q144_3 K s0 v4 v8 v11 v12 v13 v14 d h :=
  oLoop_rule (α := Value × Value × (Nat → Value)) (fun x => E_q144_3 v4 v8 v11 v12 x.1 x.2.1 x.2.2) (fun x h => Inv x.1 x.2.1 h) (fun x h => μ x.1 x.2.1 h)
    (fun self x h hx hs => (beq_q144_3 K s0 self v4 v8 v11 v12 x.1 x.2.1 x.2.2 h).mpr (step self x.1 x.2.1 x.2.2 h hx (fun v13' v14' d' h' h1 h2 => hs ⟨v13', v14', d'⟩ h' h1 h2))) ⟨v13, v14, d⟩ h hi
def R_q144_4 (K : Kont) (v4 v8 : Value) (d : Nat → Value) (h : Hp) : Prop :=
  oLdN 9 v4 h fun t117 h1 =>
  oLdN 9 v4 h1 fun t118 h2 =>
  C_q176 [t118] h2 fun t119 h3 =>
  ((oLdN 9 v4 h2 (fun v' _ => v' = t117) → oLdN 9 v4 h3 (fun v' _ => v' = t117)) ∧ True) ∧
  oSt 9 v8 t117 h3 fun _ h4 =>
  ((oLdN 9 v4 h3 (fun v' _ => v' = t118) → oLdN 9 v4 h4 (fun v' _ => v' = t118)) ∧ True) ∧
  oLdN 9 v8 h4 fun r3 _ =>
  K (.tuple #[r3, t119, (Value.bool true)]) h4
def X_q144_4 (Qv : Post) (v4 v8 : Value) (d : Nat → Value) (h : Hp) : Prop :=
  oLdN 9 v4 h fun t117 h1 =>
  oLdN 9 v4 h1 fun t118 h2 =>
  C_q176 [t118] h2 fun t119 h3 =>
  ((oLdN 9 v4 h2 (fun v' _ => v' = t117) → oLdN 9 v4 h3 (fun v' _ => v' = t117)) ∧ True) ∧
  oSt 9 v8 t117 h3 fun _ h4 =>
  ((oLdN 9 v4 h3 (fun v' _ => v' = t118) → oLdN 9 v4 h4 (fun v' _ => v' = t118)) ∧ True) ∧
  Qv .ret (ul (E_q144_4 v4 v8 d) [(9, t119), (10, (Value.bool true)), (117, t117), (118, t118), (119, t119)]) h4
theorem ga_q144_4 (Qv : Post) (v4 v8 : Value) (d : Nat → Value) (h : Hp) : aw Try.prog O_q144 K_q144_3 Qv (E_q144_4 v4 v8 d) h = X_q144_4 Qv v4 v8 d h := by kernel_rfl
theorem gb_q144_4 (K : Kont) (v4 v8 : Value) (d : Nat → Value) (h : Hp) : X_q144_4 (qTop Try.prog Try.f67 K) v4 v8 d h = R_q144_4 K v4 v8 d h := by kernel_rfl
theorem req_q144_4 (K : Kont) (v4 v8 : Value) (d : Nat → Value) (h : Hp) : G_q144_4 K v4 v8 d h = R_q144_4 K v4 v8 d h := (ga_q144_4 _ v4 v8 d h).trans (gb_q144_4 K v4 v8 d h)
def O_q145 : Od := [(9, (.one 0 true (.one 1 true (.one 2 true (.one 3 true (.one 4 true (.one 5 true (.one 6 true (.one 7 true (.one 8 true (.one 9 true (.one 10 true (.one 11 true (.one 12 true .nil)))))))))))))), (14, (.one 0 true (.one 1 true (.one 3 true (.one 4 true (.one 5 true (.one 6 true (.both 2 7 (.one 7 false (.one 8 false (.one 9 true (.one 10 false .nil)))) (.one 2 false (.one 8 false (.one 9 true (.one 10 false .nil)))))))))))), (16, (.one 0 true (.one 1 true (.one 2 false (.one 3 false (.one 4 true .nil))))))]
noncomputable def K_q145_0 : Code := (cI (cB (cA (cB (cB (cB (bodyC Try.f68)))))))
noncomputable def K_q145_1 : Code := (cB (cB (cB (cB (bodyC Try.f68)))))
def Q_q145_0 (K : Kont) : Post := qSeq (aw Try.prog O_q145 K_q145_1 (qTop Try.prog Try.f68 K)) (qTop Try.prog Try.f68 K)
def Q_q145_1 (K : Kont) : Post := qBlk 0 (Q_q145_0 K)
def E_q145_1 (v2 v3 v4 v5 v8 : Value) (d : Nat → Value) : List Value := [d 0, d 1, v2, v3, v4, v5, d 6, d 7, v8, d 9, d 10, d 11, d 12, d 13, d 14, d 15, d 16, d 17, d 18, d 19, d 20, d 21, d 22, d 23, d 24, d 25, d 26, d 27, d 28, d 29, d 30, d 31, d 32, d 33, d 34, d 35, d 36, d 37, d 38, d 39, d 40, d 41, d 42, d 43, d 44, d 45, d 46, d 47, d 48, d 49, d 50, d 51, d 52, d 53, d 54, d 55, d 56, d 57, d 58, d 59, d 60, d 61, d 62, d 63, d 64, d 65, d 66, d 67, d 68, d 69, d 70, d 71, d 72, d 73, d 74, d 75, d 76]
def G_q145_1 (K : Kont) (v2 v3 v4 v5 v8 : Value) (d : Nat → Value) (h : Hp) : Prop := aw Try.prog O_q145 K_q145_0 (Q_q145_1 K) (E_q145_1 v2 v3 v4 v5 v8 d) h
noncomputable def K_q145_2 : Code := (cB (cB (bodyC Try.f68)))
noncomputable def K_q145_3 : Code := (cB (cB (cB (bodyC Try.f68))))
def Q_q145_2 (K : Kont) (s0 : Self) : Post := qSeq s0 (Q_q145_1 K)
noncomputable def K_q145_4 : Code := (cI (cI (cB (cA (cB (cB (cB (bodyC Try.f68))))))))
noncomputable def K_q145_5 : Code := (cB (cB (cB (cB (cB (cB (bodyC Try.f68)))))))
def E_q145_2 (v2 v3 v4 v5 v9 : Value) (d : Nat → Value) : List Value := [d 0, d 1, v2, v3, v4, v5, d 6, d 7, d 8, v9, d 10, d 11, d 12, d 13, d 14, d 15, d 16, d 17, d 18, d 19, d 20, d 21, d 22, d 23, d 24, d 25, d 26, d 27, d 28, d 29, d 30, d 31, d 32, d 33, d 34, d 35, d 36, d 37, d 38, d 39, d 40, d 41, d 42, d 43, d 44, d 45, d 46, d 47, d 48, d 49, d 50, d 51, d 52, d 53, d 54, d 55, d 56, d 57, d 58, d 59, d 60, d 61, d 62, d 63, d 64, d 65, d 66, d 67, d 68, d 69, d 70, d 71, d 72, d 73, d 74, d 75, d 76]
def G_q145_2 (K : Kont) (v2 v3 v4 v5 v9 : Value) (d : Nat → Value) (h : Hp) : Prop := aw Try.prog O_q145 K_q145_5 (qTop Try.prog Try.f68 K) (E_q145_2 v2 v3 v4 v5 v9 d) h
noncomputable def K_q145_6 : Code := (cB (cB (cI (cI (cB (cA (cB (cB (cB (bodyC Try.f68))))))))))
noncomputable def K_q145_7 : Code := (cB (cI (cI (cB (cA (cB (cB (cB (bodyC Try.f68)))))))))
noncomputable def K_q145_8 : Code := (cB (cB (cB (cB (cB (cB (cB (bodyC Try.f68))))))))
def E_q145_3 (v2 v4 v5 v9 : Value) (d : Nat → Value) : List Value := [d 0, d 1, v2, d 3, v4, v5, d 6, d 7, d 8, v9, d 10, d 11, d 12, d 13, d 14, d 15, d 16, d 17, d 18, d 19, d 20, d 21, d 22, d 23, d 24, d 25, d 26, d 27, d 28, d 29, d 30, d 31, d 32, d 33, d 34, d 35, d 36, d 37, d 38, d 39, d 40, d 41, d 42, d 43, d 44, d 45, d 46, d 47, d 48, d 49, d 50, d 51, d 52, d 53, d 54, d 55, d 56, d 57, d 58, d 59, d 60, d 61, d 62, d 63, d 64, d 65, d 66, d 67, d 68, d 69, d 70, d 71, d 72, d 73, d 74, d 75, d 76]
def G_q145_3 (K : Kont) (v2 v4 v5 v9 : Value) (d : Nat → Value) (h : Hp) : Prop := aw Try.prog O_q145 K_q145_8 (qTop Try.prog Try.f68 K) (E_q145_3 v2 v4 v5 v9 d) h
def G_q145 (a0 a1 : Value) (h : Hp) (K : Kont) : Prop :=
  oBox a0 h fun t2 h1 =>
  oBox a1 h1 fun t3 h2 =>
  oAlloc #[.int .i64 0, .int .i64 0, .int .i64 0, .int .u64 0, .int .i64 0, .int .i64 0, .slice none 0 0, .slice none 0 0, .slice none 0 0] h2 fun t4 h3 =>
  oAlloc #[.int .i64 0, .int .u64 0, .int .i64 0, .int .i64 0, .int .u64 0, .int .i64 0] h3 fun t5 h4 =>
  oFieldAddr 2 t2 h4 fun t10 h5 =>
  oLd1 t10 h5 fun t11 h6 =>
  oBin .neq t11 (Value.int .i64 2) h6 fun t12 h7 =>
  oIf t12
  (oLdN 9 t2 h7 fun t13 h8 =>
  oBuild #[.int .i64 0, .int .u64 0, .int .i64 0, .int .i64 0, .int .u64 0, .int .i64 0] [] h8 fun t14 h9 =>
  oSt 9 t4 t13 h9 fun _ h10 =>
  oSt 6 t5 t14 h10 fun _ h11 =>
  oLdN 9 t4 h11 fun r1 _ =>
  oLdN 6 t5 h11 fun r2 _ =>
  K (.tuple #[r1, r2, (Value.int .i64 12)]) h11)
  (oLdN 4 t3 h7 fun t15 h12 =>
  C_q165 [t15] h12 fun t16 h13 =>
  oBin .neq t16 (Value.int .i64 0) h13 fun t18 h14 =>
  oIf t18
  (oLdN 9 t2 h14 fun t19 h15 =>
  oBuild #[.int .i64 0, .int .u64 0, .int .i64 0, .int .i64 0, .int .u64 0, .int .i64 0] [] h15 fun t20 h16 =>
  oSt 9 t4 t19 h16 fun _ h17 =>
  oSt 6 t5 t20 h17 fun _ h18 =>
  oLdN 9 t4 h18 fun r3 _ =>
  oLdN 6 t5 h18 fun r4 _ =>
  K (.tuple #[r3, r4, t16]) h18)
  (G_q145_1 K t2 t3 t4 t5 (Value.int .i64 0) (ud [(0, a0), (1, a1), (6, (Value.int .i64 0)), (7, t16), (10, t10), (11, t11), (12, t12), (15, t15), (16, t16), (17, t16), (18, t18)] dz) h14))
def E0_q145 (a0 a1 : Value) : List Value := [a0, a1, undef, undef, undef, undef, undef, undef, undef, undef, undef, undef, undef, undef, undef, undef, undef, undef, undef, undef, undef, undef, undef, undef, undef, undef, undef, undef, undef, undef, undef, undef, undef, undef, undef, undef, undef, undef, undef, undef, undef, undef, undef, undef, undef, undef, undef, undef, undef, undef, undef, undef, undef, undef, undef, undef, undef, undef, undef, undef, undef, undef, undef, undef, undef, undef, undef, undef, undef, undef, undef, undef, undef, undef, undef, undef, undef]
def X_q145 (Qv : Post) (a0 a1 : Value) (h : Hp) : Prop :=
  oBox a0 h fun t2 h1 =>
  oBox a1 h1 fun t3 h2 =>
  oAlloc #[.int .i64 0, .int .i64 0, .int .i64 0, .int .u64 0, .int .i64 0, .int .i64 0, .slice none 0 0, .slice none 0 0, .slice none 0 0] h2 fun t4 h3 =>
  oAlloc #[.int .i64 0, .int .u64 0, .int .i64 0, .int .i64 0, .int .u64 0, .int .i64 0] h3 fun t5 h4 =>
  oFieldAddr 2 t2 h4 fun t10 h5 =>
  oLd1 t10 h5 fun t11 h6 =>
  oBin .neq t11 (Value.int .i64 2) h6 fun t12 h7 =>
  oIf t12
  (oLdN 9 t2 h7 fun t13 h8 =>
  oBuild #[.int .i64 0, .int .u64 0, .int .i64 0, .int .i64 0, .int .u64 0, .int .i64 0] [] h8 fun t14 h9 =>
  oSt 9 t4 t13 h9 fun _ h10 =>
  oSt 6 t5 t14 h10 fun _ h11 =>
  (qSeq (aw Try.prog O_q145 K_q145_2 Qv) Qv) .ret (ul (E0_q145 a0 a1) [(2, t2), (3, t3), (4, t4), (5, t5), (6, (Value.int .i64 12)), (10, t10), (11, t11), (12, t12), (13, t13), (14, t14)]) h11)
  (oLdN 4 t3 h7 fun t15 h12 =>
  C_q165 [t15] h12 fun t16 h13 =>
  oBin .neq t16 (Value.int .i64 0) h13 fun t18 h14 =>
  oIf t18
  (oLdN 9 t2 h14 fun t19 h15 =>
  oBuild #[.int .i64 0, .int .u64 0, .int .i64 0, .int .i64 0, .int .u64 0, .int .i64 0] [] h15 fun t20 h16 =>
  oSt 9 t4 t19 h16 fun _ h17 =>
  oSt 6 t5 t20 h17 fun _ h18 =>
  (qSeq (aw Try.prog O_q145 K_q145_3 Qv) Qv) .ret (ul (E0_q145 a0 a1) [(2, t2), (3, t3), (4, t4), (5, t5), (6, t16), (7, t16), (10, t10), (11, t11), (12, t12), (15, t15), (16, t16), (17, t16), (18, t18), (19, t19), (20, t20), (21, t16)]) h18)
  (aw Try.prog O_q145 K_q145_0 (qBlk 0 (qSeq (aw Try.prog O_q145 K_q145_1 Qv) Qv)) (ul (E0_q145 a0 a1) [(2, t2), (3, t3), (4, t4), (5, t5), (6, (Value.int .i64 0)), (7, t16), (8, (Value.int .i64 0)), (10, t10), (11, t11), (12, t12), (15, t15), (16, t16), (17, t16), (18, t18)]) h14))
theorem ga_q145 (Qv : Post) (a0 a1 : Value) (h : Hp) : aw Try.prog O_q145 (bodyC Try.f68) Qv (E0_q145 a0 a1) h = X_q145 Qv a0 a1 h := by kernel_rfl
theorem gb_q145 (a0 a1 : Value) (h : Hp) (K : Kont) : X_q145 (qTop Try.prog Try.f68 K) a0 a1 h = G_q145 a0 a1 h K := by kernel_rfl
theorem gc_q145 (a0 a1 : Value) (h : Hp) (K : Kont) : abody Try.prog O_q145 Try.f68 (bodyC Try.f68) [a0, a1] h K = aw Try.prog O_q145 (bodyC Try.f68) (qTop Try.prog Try.f68 K) (E0_q145 a0 a1) h := by kernel_rfl
theorem eq_q145 (a0 a1 : Value) (h : Hp) (K : Kont) : abody Try.prog O_q145 Try.f68 (bodyC Try.f68) [a0, a1] h K = G_q145 a0 a1 h K := (gc_q145 a0 a1 h K).trans ((ga_q145 _ a0 a1 h).trans (gb_q145 a0 a1 h K))
theorem ok_q145 {a0 a1 : Value} {h : Hp} {K : Kont} (hk : G_q145 a0 a1 h K) : C_q145 [a0, a1] h K := ac_of_body prog_mixed (fn := Try.f68) Try.func68 (c := bodyC Try.f68) (by kernel_rfl) ((eq_q145 a0 a1 h K).mpr hk)
def B_q145_1 (K : Kont) (s0 : Self) (v2 v3 v4 v5 v8 : Value) (d : Nat → Value) (h : Hp) : Prop :=
  oFieldAddr 8 v2 h fun t23 h1 =>
  oLd1 t23 h1 fun t24 h2 =>
  oLen 0 t24 h2 fun t25 h3 =>
  oBin .lss v8 t25 h3 fun t26 h4 =>
  oIf t26
  (oFieldAddr 8 v2 h4 fun t29 h5 =>
  oLd1 t29 h5 fun t30 h6 =>
  oIdxS 6 t30 v8 h6 fun t32 h7 =>
  oFieldAddr 1 t32 h7 fun t33 h8 =>
  oLdN 4 t33 h8 fun t34 h9 =>
  oLdN 4 v3 h9 fun t35 h10 =>
  oEq 4 false (some [(0, (.int .i64)), (1, (.int .i64)), (2, (.int .u64)), (3, (.int .i64))]) t34 t35 h10 fun t36 h11 =>
  oGuard t36 true (fun K => oFieldAddr 0 v3 h11 K) h11 fun t38 h12 =>
  oGuard t36 true (fun K => oLd1 t38 h12 K) h12 fun t39 h13 =>
  oGuard t36 true (fun K => oBin .neq t39 (Value.int .i64 0) h13 K) h13 fun t40 h14 =>
  oPick t36 t40 (Value.bool false) h14 fun t41 h15 =>
  oIf t41
  (oLdN 9 v2 h15 fun t42 h16 =>
  oBuild #[.int .i64 0, .int .u64 0, .int .i64 0, .int .i64 0, .int .u64 0, .int .i64 0] [] h16 fun t43 h17 =>
  oSt 9 v4 t42 h17 fun _ h18 =>
  oSt 6 v5 t43 h18 fun _ h19 =>
  oLdN 9 v4 h19 fun r5 _ =>
  oLdN 6 v5 h19 fun r6 _ =>
  K (.tuple #[r5, r6, (Value.int .i64 8)]) h19)
  (oBin .add v8 (Value.int .i64 1) h15 fun t28 h20 =>
  s0 (E_q145_1 v2 v3 v4 v5 t28 (ud [(22, v8), (23, t23), (24, t24), (25, t25), (26, t26), (27, v8), (28, t28), (29, t29), (30, t30), (31, v8), (32, t32), (33, t33), (34, t34), (35, t35), (36, t36), (37, t36), (38, t38), (39, t39), (40, t40), (41, t41)] d)) h20))
  (oFieldAddr 8 v2 h4 fun t44 h21 =>
  oLd1 t44 h21 fun t45 h22 =>
  oLen 0 t45 h22 fun t46 h23 =>
  oBin .geq t46 (Value.int .i64 8) h23 fun t47 h24 =>
  oGuard t47 false (fun K => oFieldAddr 5 v2 h24 K) h24 fun t49 h25 =>
  oGuard t47 false (fun K => oLd1 t49 h25 K) h25 fun t50 h26 =>
  oGuard t47 false (fun K => oBin .eql t50 (Value.int .i64 512) h26 K) h26 fun t51 h27 =>
  oPick t47 (Value.bool true) t51 h27 fun t52 h28 =>
  oIf t52
  (oLdN 9 v2 h28 fun t53 h29 =>
  oBuild #[.int .i64 0, .int .u64 0, .int .i64 0, .int .i64 0, .int .u64 0, .int .i64 0] [] h29 fun t54 h30 =>
  oSt 9 v4 t53 h30 fun _ h31 =>
  oSt 6 v5 t54 h31 fun _ h32 =>
  oLdN 9 v4 h32 fun r7 _ =>
  oLdN 6 v5 h32 fun r8 _ =>
  K (.tuple #[r7, r8, (Value.int .i64 9)]) h32)
  (oFieldAddr 5 v2 h28 fun t55 h33 =>
  oLd1 t55 h33 fun t56 h34 =>
  oFieldAddr 3 v2 h34 fun t57 h35 =>
  oLd1 t57 h35 fun t58 h36 =>
  oLdN 4 v3 h36 fun t59 h37 =>
  oBuild #[.int .i64 0, .int .u64 0, .int .i64 0, .int .i64 0, .int .u64 0, .int .i64 0] [(0, 1, t56), (1, 1, t58), (2, 4, t59)] h37 fun t60 h38 =>
  oAlloc #[.int .i64 0, .int .u64 0, .int .i64 0, .int .i64 0, .int .u64 0, .int .i64 0] h38 fun t9 h39 =>
  oSt 6 t9 t60 h39 fun _ h40 =>
  G_q145_2 K v2 v3 v4 v5 t9 (ud [(8, v8), (22, v8), (23, t23), (24, t24), (25, t25), (26, t26), (44, t44), (45, t45), (46, t46), (47, t47), (48, t47), (49, t49), (50, t50), (51, t51), (52, t52), (55, t55), (56, t56), (57, t57), (58, t58), (59, t59), (60, t60)] d) h40))
def X_q145_1 (Qv : Post) (v2 v3 v4 v5 v8 : Value) (d : Nat → Value) (h : Hp) : Prop :=
  oFieldAddr 8 v2 h fun t23 h1 =>
  oLd1 t23 h1 fun t24 h2 =>
  oLen 0 t24 h2 fun t25 h3 =>
  oBin .lss v8 t25 h3 fun t26 h4 =>
  oIf t26
  (oFieldAddr 8 v2 h4 fun t29 h5 =>
  oLd1 t29 h5 fun t30 h6 =>
  oIdxS 6 t30 v8 h6 fun t32 h7 =>
  oFieldAddr 1 t32 h7 fun t33 h8 =>
  oLdN 4 t33 h8 fun t34 h9 =>
  oLdN 4 v3 h9 fun t35 h10 =>
  oEq 4 false (some [(0, (.int .i64)), (1, (.int .i64)), (2, (.int .u64)), (3, (.int .i64))]) t34 t35 h10 fun t36 h11 =>
  oGuard t36 true (fun K => oFieldAddr 0 v3 h11 K) h11 fun t38 h12 =>
  oGuard t36 true (fun K => oLd1 t38 h12 K) h12 fun t39 h13 =>
  oGuard t36 true (fun K => oBin .neq t39 (Value.int .i64 0) h13 K) h13 fun t40 h14 =>
  oPick t36 t40 (Value.bool false) h14 fun t41 h15 =>
  oIf t41
  (oLdN 9 v2 h15 fun t42 h16 =>
  oBuild #[.int .i64 0, .int .u64 0, .int .i64 0, .int .i64 0, .int .u64 0, .int .i64 0] [] h16 fun t43 h17 =>
  oSt 9 v4 t42 h17 fun _ h18 =>
  oSt 6 v5 t43 h18 fun _ h19 =>
  (qBlk 1 (qSeq (aw Try.prog O_q145 K_q145_6 Qv) Qv)) .ret (ul (E_q145_1 v2 v3 v4 v5 v8 d) [(6, (Value.int .i64 8)), (22, v8), (23, t23), (24, t24), (25, t25), (26, t26), (29, t29), (30, t30), (31, v8), (32, t32), (33, t33), (34, t34), (35, t35), (36, t36), (37, t36), (38, t38), (39, t39), (40, t40), (41, t41), (42, t42), (43, t43)]) h19)
  (oBin .add v8 (Value.int .i64 1) h15 fun t28 h20 =>
  Qv .normal (ul (E_q145_1 v2 v3 v4 v5 v8 d) [(8, t28), (22, v8), (23, t23), (24, t24), (25, t25), (26, t26), (27, v8), (28, t28), (29, t29), (30, t30), (31, v8), (32, t32), (33, t33), (34, t34), (35, t35), (36, t36), (37, t36), (38, t38), (39, t39), (40, t40), (41, t41)]) h20))
  ((qSeq (aw Try.prog O_q145 K_q145_7 Qv) Qv) (.exit 0) (ul (E_q145_1 v2 v3 v4 v5 v8 d) [(22, v8), (23, t23), (24, t24), (25, t25), (26, t26)]) h4)
theorem ga_q145_1 (Qv : Post) (v2 v3 v4 v5 v8 : Value) (d : Nat → Value) (h : Hp) : aw Try.prog O_q145 K_q145_4 Qv (E_q145_1 v2 v3 v4 v5 v8 d) h = X_q145_1 Qv v2 v3 v4 v5 v8 d h := by kernel_rfl
theorem gb_q145_1 (K : Kont) (s0 : Self) (v2 v3 v4 v5 v8 : Value) (d : Nat → Value) (h : Hp) : X_q145_1 (Q_q145_2 K s0) v2 v3 v4 v5 v8 d h = B_q145_1 K s0 v2 v3 v4 v5 v8 d h := by kernel_rfl
theorem beq_q145_1 (K : Kont) (s0 : Self) (v2 v3 v4 v5 v8 : Value) (d : Nat → Value) (h : Hp) : aw Try.prog O_q145 K_q145_4 (Q_q145_2 K s0) (E_q145_1 v2 v3 v4 v5 v8 d) h = B_q145_1 K s0 v2 v3 v4 v5 v8 d h := (ga_q145_1 _ v2 v3 v4 v5 v8 d h).trans (gb_q145_1 K s0 v2 v3 v4 v5 v8 d h)
theorem rule_q145_1 {K : Kont} {v2 v3 v4 v5 : Value} (Inv : Value → Hp → Prop) (μ : Value → Hp → Nat)
    (step : ∀ (s0 : Self) (v8 : Value) (d : Nat → Value) (h : Hp), Inv v8 h → (∀ (v8' : Value) (d' : Nat → Value) (h' : Hp), Inv v8' h' → μ v8' h' < μ v8 h → s0 (E_q145_1 v2 v3 v4 v5 v8' d') h') → B_q145_1 K s0 v2 v3 v4 v5 v8 d h) (v8 : Value) (d : Nat → Value) (h : Hp) (hi : Inv v8 h) : G_q145_1 K v2 v3 v4 v5 v8 d h :=
  oLoop_rule (α := Value × (Nat → Value)) (fun x => E_q145_1 v2 v3 v4 v5 x.1 x.2) (fun x h => Inv x.1 h) (fun x h => μ x.1 h)
    (fun self x h hx hs => (beq_q145_1 K self v2 v3 v4 v5 x.1 x.2 h).mpr (step self x.1 x.2 h hx (fun v8' d' h' h1 h2 => hs ⟨v8', d'⟩ h' h1 h2))) ⟨v8, d⟩ h hi
def R_q145_2 (K : Kont) (v2 v3 v4 v5 v9 : Value) (d : Nat → Value) (h : Hp) : Prop :=
  oFieldAddr 8 v2 h fun t61 h1 =>
  oLd1 t61 h1 fun t62 h2 =>
  oFieldAddr 5 v2 h2 fun t64 h3 =>
  oLd1 t64 h3 fun t65 h4 =>
  oLdN 4 v3 h4 fun t66 h5 =>
  oBuild #[.int .i64 0, .int .i64 0, .int .i64 0, .int .u64 0, .int .i64 0, .slice none 0 0] [(0, 1, t65), (1, 4, t66)] h5 fun t67 h6 =>
  (oAppend 6 64 #[.int .i64 0, .int .i64 0, .int .i64 0, .int .u64 0, .int .i64 0, .slice none 0 0] (Value.slice none 0 0) t62 h6 fun t63 h7 =>
  ((oLdN 4 v3 h6 (fun v' _ => v' = t66) → oLdN 4 v3 h7 (fun v' _ => v' = t66)) ∧ (oLd1 t64 h6 (fun v' _ => v' = t65) → oLd1 t64 h7 (fun v' _ => v' = t65)) ∧ True) ∧
  oBuildSlice #[.int .i64 0, .int .i64 0, .int .i64 0, .int .u64 0, .int .i64 0, .slice none 0 0] 1 [(0 * 6, 6, t67)] h7 fun t68 h8 =>
  ((oLdN 4 v3 h7 (fun v' _ => v' = t66) → oLdN 4 v3 h8 (fun v' _ => v' = t66)) ∧ (oLd1 t64 h7 (fun v' _ => v' = t65) → oLd1 t64 h8 (fun v' _ => v' = t65)) ∧ (oLd1 t61 h7 (fun v' _ => v' = t62) → oLd1 t61 h8 (fun v' _ => v' = t62)) ∧ True) ∧
  oAppend 6 64 #[.int .i64 0, .int .i64 0, .int .i64 0, .int .u64 0, .int .i64 0, .slice none 0 0] t63 t68 h8 fun t69 h9 =>
  ((oLdN 4 v3 h8 (fun v' _ => v' = t66) → oLdN 4 v3 h9 (fun v' _ => v' = t66)) ∧ (oLd1 t64 h8 (fun v' _ => v' = t65) → oLd1 t64 h9 (fun v' _ => v' = t65)) ∧ (oLd1 t61 h8 (fun v' _ => v' = t62) → oLd1 t61 h9 (fun v' _ => v' = t62)) ∧ True) ∧
  oFieldAddr 8 v2 h9 fun t70 h10 =>
  oSt 1 t70 t69 h10 fun _ h11 =>
  (True) ∧
  G_q145_3 K v2 v4 v5 v9 (ud [(3, v3), (61, t61), (62, t62), (63, t63), (64, t64), (65, t65), (66, t66), (67, t67), (68, t68), (69, t69), (70, t70)] d) h11) ∧
  (oBuildSlice #[.int .i64 0, .int .i64 0, .int .i64 0, .int .u64 0, .int .i64 0, .slice none 0 0] 1 [(0 * 6, 6, t67)] h6 fun t68_9 h12 =>
  ((oLdN 4 v3 h6 (fun v' _ => v' = t66) → oLdN 4 v3 h12 (fun v' _ => v' = t66)) ∧ (oLd1 t64 h6 (fun v' _ => v' = t65) → oLd1 t64 h12 (fun v' _ => v' = t65)) ∧ (oLd1 t61 h6 (fun v' _ => v' = t62) → oLd1 t61 h12 (fun v' _ => v' = t62)) ∧ True) ∧
  oAppend 6 64 #[.int .i64 0, .int .i64 0, .int .i64 0, .int .u64 0, .int .i64 0, .slice none 0 0] (Value.slice none 0 0) t62 h12 fun t63_10 h13 =>
  ((oLdN 4 v3 h12 (fun v' _ => v' = t66) → oLdN 4 v3 h13 (fun v' _ => v' = t66)) ∧ (oLd1 t64 h12 (fun v' _ => v' = t65) → oLd1 t64 h13 (fun v' _ => v' = t65)) ∧ True) ∧
  oAppend 6 64 #[.int .i64 0, .int .i64 0, .int .i64 0, .int .u64 0, .int .i64 0, .slice none 0 0] t63_10 t68_9 h13 fun t69_11 h14 =>
  ((oLdN 4 v3 h13 (fun v' _ => v' = t66) → oLdN 4 v3 h14 (fun v' _ => v' = t66)) ∧ (oLd1 t64 h13 (fun v' _ => v' = t65) → oLd1 t64 h14 (fun v' _ => v' = t65)) ∧ (oLd1 t61 h13 (fun v' _ => v' = t62) → oLd1 t61 h14 (fun v' _ => v' = t62)) ∧ True) ∧
  oFieldAddr 8 v2 h14 fun t70_12 h15 =>
  oSt 1 t70_12 t69_11 h15 fun _ h16 =>
  (True) ∧
  G_q145_3 K v2 v4 v5 v9 (ud [(3, v3), (61, t61), (62, t62), (63, t63_10), (64, t64), (65, t65), (66, t66), (67, t67), (68, t68_9), (69, t69_11), (70, t70_12)] d) h16)
def X_q145_2 (Qv : Post) (v2 v3 v4 v5 v9 : Value) (d : Nat → Value) (h : Hp) : Prop :=
  oFieldAddr 8 v2 h fun t61 h1 =>
  oLd1 t61 h1 fun t62 h2 =>
  oFieldAddr 5 v2 h2 fun t64 h3 =>
  oLd1 t64 h3 fun t65 h4 =>
  oLdN 4 v3 h4 fun t66 h5 =>
  oBuild #[.int .i64 0, .int .i64 0, .int .i64 0, .int .u64 0, .int .i64 0, .slice none 0 0] [(0, 1, t65), (1, 4, t66)] h5 fun t67 h6 =>
  (oAppend 6 64 #[.int .i64 0, .int .i64 0, .int .i64 0, .int .u64 0, .int .i64 0, .slice none 0 0] (Value.slice none 0 0) t62 h6 fun t63 h7 =>
  ((oLdN 4 v3 h6 (fun v' _ => v' = t66) → oLdN 4 v3 h7 (fun v' _ => v' = t66)) ∧ (oLd1 t64 h6 (fun v' _ => v' = t65) → oLd1 t64 h7 (fun v' _ => v' = t65)) ∧ True) ∧
  oBuildSlice #[.int .i64 0, .int .i64 0, .int .i64 0, .int .u64 0, .int .i64 0, .slice none 0 0] 1 [(0 * 6, 6, t67)] h7 fun t68 h8 =>
  ((oLdN 4 v3 h7 (fun v' _ => v' = t66) → oLdN 4 v3 h8 (fun v' _ => v' = t66)) ∧ (oLd1 t64 h7 (fun v' _ => v' = t65) → oLd1 t64 h8 (fun v' _ => v' = t65)) ∧ (oLd1 t61 h7 (fun v' _ => v' = t62) → oLd1 t61 h8 (fun v' _ => v' = t62)) ∧ True) ∧
  oAppend 6 64 #[.int .i64 0, .int .i64 0, .int .i64 0, .int .u64 0, .int .i64 0, .slice none 0 0] t63 t68 h8 fun t69 h9 =>
  ((oLdN 4 v3 h8 (fun v' _ => v' = t66) → oLdN 4 v3 h9 (fun v' _ => v' = t66)) ∧ (oLd1 t64 h8 (fun v' _ => v' = t65) → oLd1 t64 h9 (fun v' _ => v' = t65)) ∧ (oLd1 t61 h8 (fun v' _ => v' = t62) → oLd1 t61 h9 (fun v' _ => v' = t62)) ∧ True) ∧
  oFieldAddr 8 v2 h9 fun t70 h10 =>
  oSt 1 t70 t69 h10 fun _ h11 =>
  (True) ∧
  (qSeq (aw Try.prog O_q145 K_q145_8 Qv) Qv) .normal (ul (E_q145_2 v2 v3 v4 v5 v9 d) [(61, t61), (62, t62), (63, t63), (64, t64), (65, t65), (66, t66), (67, t67), (68, t68), (69, t69), (70, t70)]) h11) ∧
  (oBuildSlice #[.int .i64 0, .int .i64 0, .int .i64 0, .int .u64 0, .int .i64 0, .slice none 0 0] 1 [(0 * 6, 6, t67)] h6 fun t68_13 h12 =>
  ((oLdN 4 v3 h6 (fun v' _ => v' = t66) → oLdN 4 v3 h12 (fun v' _ => v' = t66)) ∧ (oLd1 t64 h6 (fun v' _ => v' = t65) → oLd1 t64 h12 (fun v' _ => v' = t65)) ∧ (oLd1 t61 h6 (fun v' _ => v' = t62) → oLd1 t61 h12 (fun v' _ => v' = t62)) ∧ True) ∧
  oAppend 6 64 #[.int .i64 0, .int .i64 0, .int .i64 0, .int .u64 0, .int .i64 0, .slice none 0 0] (Value.slice none 0 0) t62 h12 fun t63_14 h13 =>
  ((oLdN 4 v3 h12 (fun v' _ => v' = t66) → oLdN 4 v3 h13 (fun v' _ => v' = t66)) ∧ (oLd1 t64 h12 (fun v' _ => v' = t65) → oLd1 t64 h13 (fun v' _ => v' = t65)) ∧ True) ∧
  oAppend 6 64 #[.int .i64 0, .int .i64 0, .int .i64 0, .int .u64 0, .int .i64 0, .slice none 0 0] t63_14 t68_13 h13 fun t69_15 h14 =>
  ((oLdN 4 v3 h13 (fun v' _ => v' = t66) → oLdN 4 v3 h14 (fun v' _ => v' = t66)) ∧ (oLd1 t64 h13 (fun v' _ => v' = t65) → oLd1 t64 h14 (fun v' _ => v' = t65)) ∧ (oLd1 t61 h13 (fun v' _ => v' = t62) → oLd1 t61 h14 (fun v' _ => v' = t62)) ∧ True) ∧
  oFieldAddr 8 v2 h14 fun t70_16 h15 =>
  oSt 1 t70_16 t69_15 h15 fun _ h16 =>
  (True) ∧
  (qSeq (aw Try.prog O_q145 K_q145_8 Qv) Qv) .normal (ul (E_q145_2 v2 v3 v4 v5 v9 d) [(61, t61), (62, t62), (63, t63_14), (64, t64), (65, t65), (66, t66), (67, t67), (68, t68_13), (69, t69_15), (70, t70_16)]) h16)
theorem ga_q145_2 (Qv : Post) (v2 v3 v4 v5 v9 : Value) (d : Nat → Value) (h : Hp) : aw Try.prog O_q145 K_q145_5 Qv (E_q145_2 v2 v3 v4 v5 v9 d) h = X_q145_2 Qv v2 v3 v4 v5 v9 d h := by kernel_rfl
theorem gb_q145_2 (K : Kont) (v2 v3 v4 v5 v9 : Value) (d : Nat → Value) (h : Hp) : X_q145_2 (qTop Try.prog Try.f68 K) v2 v3 v4 v5 v9 d h = R_q145_2 K v2 v3 v4 v5 v9 d h := by kernel_rfl
theorem req_q145_2 (K : Kont) (v2 v3 v4 v5 v9 : Value) (d : Nat → Value) (h : Hp) : G_q145_2 K v2 v3 v4 v5 v9 d h = R_q145_2 K v2 v3 v4 v5 v9 d h := (ga_q145_2 _ v2 v3 v4 v5 v9 d h).trans (gb_q145_2 K v2 v3 v4 v5 v9 d h)
def R_q145_3 (K : Kont) (v2 v4 v5 v9 : Value) (d : Nat → Value) (h : Hp) : Prop :=
  oFieldAddr 5 v2 h fun t71 h1 =>
  oLd1 t71 h1 fun t72 h2 =>
  oBin .add t72 (Value.int .i64 1) h2 fun t73 h3 =>
  oFieldAddr 5 v2 h3 fun t74 h4 =>
  oSt 1 t74 t73 h4 fun _ h5 =>
  oLdN 9 v2 h5 fun t75 h6 =>
  oLdN 6 v9 h6 fun t76 h7 =>
  oSt 9 v4 t75 h7 fun _ h8 =>
  ((oLdN 6 v9 h7 (fun v' _ => v' = t76) → oLdN 6 v9 h8 (fun v' _ => v' = t76)) ∧ True) ∧
  oSt 6 v5 t76 h8 fun _ h9 =>
  (True) ∧
  oLdN 9 v4 h9 fun r17 _ =>
  oLdN 6 v5 h9 fun r18 _ =>
  K (.tuple #[r17, r18, (Value.int .i64 0)]) h9
def X_q145_3 (Qv : Post) (v2 v4 v5 v9 : Value) (d : Nat → Value) (h : Hp) : Prop :=
  oFieldAddr 5 v2 h fun t71 h1 =>
  oLd1 t71 h1 fun t72 h2 =>
  oBin .add t72 (Value.int .i64 1) h2 fun t73 h3 =>
  oFieldAddr 5 v2 h3 fun t74 h4 =>
  oSt 1 t74 t73 h4 fun _ h5 =>
  oLdN 9 v2 h5 fun t75 h6 =>
  oLdN 6 v9 h6 fun t76 h7 =>
  oSt 9 v4 t75 h7 fun _ h8 =>
  ((oLdN 6 v9 h7 (fun v' _ => v' = t76) → oLdN 6 v9 h8 (fun v' _ => v' = t76)) ∧ True) ∧
  oSt 6 v5 t76 h8 fun _ h9 =>
  (True) ∧
  Qv .ret (ul (E_q145_3 v2 v4 v5 v9 d) [(6, (Value.int .i64 0)), (71, t71), (72, t72), (73, t73), (74, t74), (75, t75), (76, t76)]) h9
theorem ga_q145_3 (Qv : Post) (v2 v4 v5 v9 : Value) (d : Nat → Value) (h : Hp) : aw Try.prog O_q145 K_q145_8 Qv (E_q145_3 v2 v4 v5 v9 d) h = X_q145_3 Qv v2 v4 v5 v9 d h := by kernel_rfl
theorem gb_q145_3 (K : Kont) (v2 v4 v5 v9 : Value) (d : Nat → Value) (h : Hp) : X_q145_3 (qTop Try.prog Try.f68 K) v2 v4 v5 v9 d h = R_q145_3 K v2 v4 v5 v9 d h := by kernel_rfl
theorem req_q145_3 (K : Kont) (v2 v4 v5 v9 : Value) (d : Nat → Value) (h : Hp) : G_q145_3 K v2 v4 v5 v9 d h = R_q145_3 K v2 v4 v5 v9 d h := (ga_q145_3 _ v2 v4 v5 v9 d h).trans (gb_q145_3 K v2 v4 v5 v9 d h)
end Go.Proofs.Ytdolepapmpcpiaa

namespace Go.Proofs.Ytdolepapmpcpiaa
open Go
set_option linter.unusedSectionVars false
variable [Base]
set_option linter.unusedVariables false
set_option maxRecDepth 100000
def O_q128 : Od := [(10, (.one 0 true (.one 1 true (.one 2 true (.one 3 true (.one 4 true (.one 5 true (.one 6 true (.one 7 false (.one 8 true .nil)))))))))), (13, (.one 0 true (.one 1 true (.one 2 true (.one 4 true (.one 5 true (.one 6 true (.one 7 true (.one 3 false (.one 8 false (.one 9 true (.one 10 false .nil)))))))))))), (14, (.one 0 true (.one 1 true (.one 2 false (.one 3 false (.one 4 true .nil))))))]
noncomputable def K_q128_0 : Code := (cI (cB (cA (cB (cB (bodyC Try.f69))))))
noncomputable def K_q128_1 : Code := (cB (cB (cB (bodyC Try.f69))))
def Q_q128_0 (K : Kont) : Post := qSeq (aw Try.prog O_q128 K_q128_1 (qTop Try.prog Try.f69 K)) (qTop Try.prog Try.f69 K)
def Q_q128_1 (K : Kont) : Post := qBlk 0 (Q_q128_0 K)
def E_q128_1 (v1 v2 v3 v4 v8 v9 v11 : Value) (d : Nat → Value) : List Value := [d 0, v1, v2, v3, v4, d 5, d 6, d 7, v8, v9, d 10, v11, d 12, d 13, d 14, d 15, d 16, d 17, d 18, d 19, d 20, d 21, d 22, d 23, d 24, d 25, d 26, d 27, d 28, d 29, d 30, d 31, d 32, d 33, d 34, d 35, d 36, d 37, d 38, d 39, d 40, d 41, d 42, d 43, d 44, d 45, d 46, d 47, d 48, d 49, d 50, d 51, d 52, d 53, d 54, d 55, d 56, d 57, d 58, d 59, d 60, d 61, d 62, d 63, d 64, d 65, d 66, d 67, d 68, d 69, d 70, d 71, d 72, d 73, d 74, d 75, d 76, d 77, d 78, d 79, d 80, d 81, d 82, d 83, d 84, d 85, d 86, d 87, d 88, d 89, d 90, d 91, d 92, d 93, d 94, d 95, d 96, d 97, d 98]
def G_q128_1 (K : Kont) (v1 v2 v3 v4 v8 v9 v11 : Value) (d : Nat → Value) (h : Hp) : Prop := aw Try.prog O_q128 K_q128_0 (Q_q128_1 K) (E_q128_1 v1 v2 v3 v4 v8 v9 v11 d) h
noncomputable def K_q128_2 : Code := (cB (cB (bodyC Try.f69)))
def Q_q128_2 (K : Kont) (s0 : Self) : Post := qSeq s0 (Q_q128_1 K)
noncomputable def K_q128_3 : Code := (cI (cI (cB (cA (cB (cB (bodyC Try.f69)))))))
noncomputable def K_q128_4 : Code := (cB (cB (cI (cI (cB (cA (cB (cB (bodyC Try.f69)))))))))
noncomputable def K_q128_5 : Code := (cB (cB (cB (cB (cB (cI (cA (cB (cI (cI (cB (cA (cB (cB (bodyC Try.f69)))))))))))))))
noncomputable def K_q128_6 : Code := (cB (cI (cI (cB (cA (cB (cB (bodyC Try.f69))))))))
def G_q128 (a0 a1 a2 a3 : Value) (h : Hp) (K : Kont) : Prop :=
  oBox a0 h fun t4 h1 =>
  oAlloc #[.int .i64 0, .int .i64 0, .int .i64 0, .int .u64 0, .int .i64 0, .int .i64 0, .slice none 0 0, .slice none 0 0, .slice none 0 0] h1 fun t8 h2 =>
  oAlloc #[.int .i64 0, .int .u64 0, .int .i64 0, .int .i64 0, .int .u64 0, .int .i64 0] h2 fun t9 h3 =>
  oFieldAddr 2 t4 h3 fun t14 h4 =>
  oLd1 t14 h4 fun t15 h5 =>
  oBin .neq t15 (Value.int .i64 2) h5 fun t16 h6 =>
  oGuard t16 false (fun K => oFieldAddr 3 t4 h6 K) h6 fun t18 h7 =>
  oGuard t16 false (fun K => oLd1 t18 h7 K) h7 fun t19 h8 =>
  oGuard t16 false (fun K => K a1 h8) h8 fun t20 h9 =>
  oGuard t16 false (fun K => oBin .neq t19 t20 h9 K) h9 fun t21 h10 =>
  oPick t16 (Value.bool true) t21 h10 fun t22 h11 =>
  oGuard t22 false (fun K => K a3 h11) h11 fun t24 h12 =>
  oGuard t22 false (fun K => oBin .lss t24 (Value.int .i64 1) h12 K) h12 fun t25 h13 =>
  oPick t22 (Value.bool true) t25 h13 fun t26 h14 =>
  oGuard t26 false (fun K => K a3 h14) h14 fun t28 h15 =>
  oGuard t26 false (fun K => oFieldAddr 1 t4 h15 K) h15 fun t29 h16 =>
  oGuard t26 false (fun K => oLd1 t29 h16 K) h16 fun t30 h17 =>
  oGuard t26 false (fun K => oBin .gtr t28 t30 h17 K) h17 fun t31 h18 =>
  oPick t26 (Value.bool true) t31 h18 fun t32 h19 =>
  oIf t32
  (oLdN 9 t4 h19 fun t33 h20 =>
  oBuild #[.int .i64 0, .int .u64 0, .int .i64 0, .int .i64 0, .int .u64 0, .int .i64 0] [] h20 fun t34 h21 =>
  oSt 9 t8 t33 h21 fun _ h22 =>
  oSt 6 t9 t34 h22 fun _ h23 =>
  oLdN 9 t8 h23 fun r1 _ =>
  oLdN 6 t9 h23 fun r2 _ =>
  K (.tuple #[r1, r2, (Value.bool false)]) h23)
  (G_q128_1 K a1 a2 a3 t4 t8 t9 (Value.int .i64 0) (ud [(0, a0), (10, (Value.bool false)), (14, t14), (15, t15), (16, t16), (17, t16), (18, t18), (19, t19), (20, t20), (21, t21), (22, t22), (23, t22), (24, t24), (25, t25), (26, t26), (27, t26), (28, t28), (29, t29), (30, t30), (31, t31), (32, t32)] dz) h19)
def E0_q128 (a0 a1 a2 a3 : Value) : List Value := [a0, a1, a2, a3, undef, undef, undef, undef, undef, undef, undef, undef, undef, undef, undef, undef, undef, undef, undef, undef, undef, undef, undef, undef, undef, undef, undef, undef, undef, undef, undef, undef, undef, undef, undef, undef, undef, undef, undef, undef, undef, undef, undef, undef, undef, undef, undef, undef, undef, undef, undef, undef, undef, undef, undef, undef, undef, undef, undef, undef, undef, undef, undef, undef, undef, undef, undef, undef, undef, undef, undef, undef, undef, undef, undef, undef, undef, undef, undef, undef, undef, undef, undef, undef, undef, undef, undef, undef, undef, undef, undef, undef, undef, undef, undef, undef, undef, undef, undef]
def X_q128 (Qv : Post) (a0 a1 a2 a3 : Value) (h : Hp) : Prop :=
  oBox a0 h fun t4 h1 =>
  oAlloc #[.int .i64 0, .int .i64 0, .int .i64 0, .int .u64 0, .int .i64 0, .int .i64 0, .slice none 0 0, .slice none 0 0, .slice none 0 0] h1 fun t8 h2 =>
  oAlloc #[.int .i64 0, .int .u64 0, .int .i64 0, .int .i64 0, .int .u64 0, .int .i64 0] h2 fun t9 h3 =>
  oFieldAddr 2 t4 h3 fun t14 h4 =>
  oLd1 t14 h4 fun t15 h5 =>
  oBin .neq t15 (Value.int .i64 2) h5 fun t16 h6 =>
  oGuard t16 false (fun K => oFieldAddr 3 t4 h6 K) h6 fun t18 h7 =>
  oGuard t16 false (fun K => oLd1 t18 h7 K) h7 fun t19 h8 =>
  oGuard t16 false (fun K => K a1 h8) h8 fun t20 h9 =>
  oGuard t16 false (fun K => oBin .neq t19 t20 h9 K) h9 fun t21 h10 =>
  oPick t16 (Value.bool true) t21 h10 fun t22 h11 =>
  oGuard t22 false (fun K => K a3 h11) h11 fun t24 h12 =>
  oGuard t22 false (fun K => oBin .lss t24 (Value.int .i64 1) h12 K) h12 fun t25 h13 =>
  oPick t22 (Value.bool true) t25 h13 fun t26 h14 =>
  oGuard t26 false (fun K => K a3 h14) h14 fun t28 h15 =>
  oGuard t26 false (fun K => oFieldAddr 1 t4 h15 K) h15 fun t29 h16 =>
  oGuard t26 false (fun K => oLd1 t29 h16 K) h16 fun t30 h17 =>
  oGuard t26 false (fun K => oBin .gtr t28 t30 h17 K) h17 fun t31 h18 =>
  oPick t26 (Value.bool true) t31 h18 fun t32 h19 =>
  oIf t32
  (oLdN 9 t4 h19 fun t33 h20 =>
  oBuild #[.int .i64 0, .int .u64 0, .int .i64 0, .int .i64 0, .int .u64 0, .int .i64 0] [] h20 fun t34 h21 =>
  oSt 9 t8 t33 h21 fun _ h22 =>
  oSt 6 t9 t34 h22 fun _ h23 =>
  (qSeq (aw Try.prog O_q128 K_q128_2 Qv) Qv) .ret (ul (E0_q128 a0 a1 a2 a3) [(4, t4), (8, t8), (9, t9), (10, (Value.bool false)), (14, t14), (15, t15), (16, t16), (17, t16), (18, t18), (19, t19), (20, t20), (21, t21), (22, t22), (23, t22), (24, t24), (25, t25), (26, t26), (27, t26), (28, t28), (29, t29), (30, t30), (31, t31), (32, t32), (33, t33), (34, t34)]) h23)
  (aw Try.prog O_q128 K_q128_0 (qBlk 0 (qSeq (aw Try.prog O_q128 K_q128_1 Qv) Qv)) (ul (E0_q128 a0 a1 a2 a3) [(4, t4), (8, t8), (9, t9), (10, (Value.bool false)), (11, (Value.int .i64 0)), (14, t14), (15, t15), (16, t16), (17, t16), (18, t18), (19, t19), (20, t20), (21, t21), (22, t22), (23, t22), (24, t24), (25, t25), (26, t26), (27, t26), (28, t28), (29, t29), (30, t30), (31, t31), (32, t32)]) h19)
theorem ga_q128 (Qv : Post) (a0 a1 a2 a3 : Value) (h : Hp) : aw Try.prog O_q128 (bodyC Try.f69) Qv (E0_q128 a0 a1 a2 a3) h = X_q128 Qv a0 a1 a2 a3 h := by kernel_rfl
theorem gb_q128 (a0 a1 a2 a3 : Value) (h : Hp) (K : Kont) : X_q128 (qTop Try.prog Try.f69 K) a0 a1 a2 a3 h = G_q128 a0 a1 a2 a3 h K := by kernel_rfl
theorem gc_q128 (a0 a1 a2 a3 : Value) (h : Hp) (K : Kont) : abody Try.prog O_q128 Try.f69 (bodyC Try.f69) [a0, a1, a2, a3] h K = aw Try.prog O_q128 (bodyC Try.f69) (qTop Try.prog Try.f69 K) (E0_q128 a0 a1 a2 a3) h := by kernel_rfl
theorem eq_q128 (a0 a1 a2 a3 : Value) (h : Hp) (K : Kont) : abody Try.prog O_q128 Try.f69 (bodyC Try.f69) [a0, a1, a2, a3] h K = G_q128 a0 a1 a2 a3 h K := (gc_q128 a0 a1 a2 a3 h K).trans ((ga_q128 _ a0 a1 a2 a3 h).trans (gb_q128 a0 a1 a2 a3 h K))
theorem ok_q128 {a0 a1 a2 a3 : Value} {h : Hp} {K : Kont} (hk : G_q128 a0 a1 a2 a3 h K) : C_q128 [a0, a1, a2, a3] h K := ac_of_body prog_mixed (fn := Try.f69) Try.func69 (c := bodyC Try.f69) (by kernel_rfl) ((eq_q128 a0 a1 a2 a3 h K).mpr hk)
def B_q128_1 (K : Kont) (s0 : Self) (v1 v2 v3 v4 v8 v9 v11 : Value) (d : Nat → Value) (h : Hp) : Prop :=
  oFieldAddr 8 v4 h fun t36 h1 =>
  oLd1 t36 h1 fun t37 h2 =>
  oLen 0 t37 h2 fun t38 h3 =>
  oBin .lss v11 t38 h3 fun t39 h4 =>
  oIf t39
  (oFieldAddr 8 v4 h4 fun t42 h5 =>
  oLd1 t42 h5 fun t43 h6 =>
  oIdxS 6 t43 v11 h6 fun t45 h7 =>
  oFieldAddr 0 t45 h7 fun t46 h8 =>
  oLd1 t46 h8 fun t47 h9 =>
  oBin .neq t47 v2 h9 fun t49 h10 =>
  oIf t49
  (oBin .add v11 (Value.int .i64 1) h10 fun t41 h11 =>
  s0 (E_q128_1 v1 v2 v3 v4 v8 v9 t41 (ud [(35, v11), (36, t36), (37, t37), (38, t38), (39, t39), (40, v11), (41, t41), (42, t42), (43, t43), (44, v11), (45, t45), (46, t46), (47, t47), (48, v2), (49, t49)] d)) h11)
  (oFieldAddr 8 v4 h10 fun t50 h12 =>
  oLd1 t50 h12 fun t51 h13 =>
  oAppend 6 64 #[.int .i64 0, .int .i64 0, .int .i64 0, .int .u64 0, .int .i64 0, .slice none 0 0] (Value.slice none 0 0) t51 h13 fun t52 h14 =>
  oIdxS 6 t52 v11 h14 fun t57 h15 =>
  oFieldAddr 5 t57 h15 fun t58 h16 =>
  oLd1 t58 h16 fun t59 h17 =>
  C_q172 [t59, v3] h17 fun t61 h18 =>
  oIdxS 6 t52 v11 h18 fun t62 h19 =>
  oFieldAddr 5 t62 h19 fun t63 h20 =>
  oSt 1 t63 t61 h20 fun _ h21 =>
  oFieldAddr 8 v4 h21 fun t65 h22 =>
  oSt 1 t65 t52 h22 fun _ h23 =>
  oIdxS 6 t52 v11 h23 fun t68 h24 =>
  oFieldAddr 5 t68 h24 fun t69 h25 =>
  oLd1 t69 h25 fun t70 h26 =>
  oFieldAddr 1 v4 h26 fun t71 h27 =>
  oLd1 t71 h27 fun t72 h28 =>
  C_q157 [t70, t72] h28 fun t73 h29 =>
  (True) ∧
  oNot t73 h29 fun t74 h30 =>
  oIf t74
  (oLdN 9 v4 h30 fun t75 h31 =>
  oBuild #[.int .i64 0, .int .u64 0, .int .i64 0, .int .i64 0, .int .u64 0, .int .i64 0] [] h31 fun t76 h32 =>
  oSt 9 v8 t75 h32 fun _ h33 =>
  oSt 6 v9 t76 h33 fun _ h34 =>
  oLdN 9 v8 h34 fun r3 _ =>
  oLdN 6 v9 h34 fun r4 _ =>
  K (.tuple #[r3, r4, (Value.bool false)]) h34)
  (oIdxS 6 t52 v11 h30 fun t81 h35 =>
  oFieldAddr 1 t81 h35 fun t82 h36 =>
  oLdN 4 t82 h36 fun t83 h37 =>
  oBuild #[.int .i64 0, .int .u64 0, .int .i64 0, .int .i64 0, .int .u64 0, .int .i64 0] [(0, 1, v2), (1, 1, v1), (2, 4, t83)] h37 fun t84 h38 =>
  oAlloc #[.int .i64 0, .int .u64 0, .int .i64 0, .int .i64 0, .int .u64 0, .int .i64 0] h38 fun t13 h39 =>
  oSt 6 t13 t84 h39 fun _ h40 =>
  oSlice 0 6 t52 none (some v11) none h40 fun t87 h41 =>
  oBin .add v11 (Value.int .i64 1) h41 fun t91 h42 =>
  oSlice 0 6 t52 (some t91) none none h42 fun t92 h43 =>
  oAppend 6 64 #[.int .i64 0, .int .i64 0, .int .i64 0, .int .u64 0, .int .i64 0, .slice none 0 0] (Value.slice none 0 0) t87 h43 fun t88 h44 =>
  (True) ∧
  oAppend 6 64 #[.int .i64 0, .int .i64 0, .int .i64 0, .int .u64 0, .int .i64 0, .slice none 0 0] t88 t92 h44 fun t93 h45 =>
  (True) ∧
  oFieldAddr 8 v4 h45 fun t94 h46 =>
  oSt 1 t94 t93 h46 fun _ h47 =>
  (True) ∧
  oLdN 9 v4 h47 fun t95 h48 =>
  oLdN 6 t13 h48 fun t96 h49 =>
  oSt 9 v8 t95 h49 fun _ h50 =>
  ((oLdN 6 t13 h49 (fun v' _ => v' = t96) → oLdN 6 t13 h50 (fun v' _ => v' = t96)) ∧ True) ∧
  oSt 6 v9 t96 h50 fun _ h51 =>
  (True) ∧
  oLdN 9 v8 h51 fun r5 _ =>
  oLdN 6 v9 h51 fun r6 _ =>
  K (.tuple #[r5, r6, (Value.bool true)]) h51)))
  (oLdN 9 v4 h4 fun t97 h52 =>
  oBuild #[.int .i64 0, .int .u64 0, .int .i64 0, .int .i64 0, .int .u64 0, .int .i64 0] [] h52 fun t98 h53 =>
  oSt 9 v8 t97 h53 fun _ h54 =>
  oSt 6 v9 t98 h54 fun _ h55 =>
  oLdN 9 v8 h55 fun r7 _ =>
  oLdN 6 v9 h55 fun r8 _ =>
  K (.tuple #[r7, r8, (Value.bool false)]) h55)
def X_q128_1 (Qv : Post) (v1 v2 v3 v4 v8 v9 v11 : Value) (d : Nat → Value) (h : Hp) : Prop :=
  oFieldAddr 8 v4 h fun t36 h1 =>
  oLd1 t36 h1 fun t37 h2 =>
  oLen 0 t37 h2 fun t38 h3 =>
  oBin .lss v11 t38 h3 fun t39 h4 =>
  oIf t39
  (oFieldAddr 8 v4 h4 fun t42 h5 =>
  oLd1 t42 h5 fun t43 h6 =>
  oIdxS 6 t43 v11 h6 fun t45 h7 =>
  oFieldAddr 0 t45 h7 fun t46 h8 =>
  oLd1 t46 h8 fun t47 h9 =>
  oBin .neq t47 v2 h9 fun t49 h10 =>
  oIf t49
  (oBin .add v11 (Value.int .i64 1) h10 fun t41 h11 =>
  Qv .normal (ul (E_q128_1 v1 v2 v3 v4 v8 v9 v11 d) [(11, t41), (35, v11), (36, t36), (37, t37), (38, t38), (39, t39), (40, v11), (41, t41), (42, t42), (43, t43), (44, v11), (45, t45), (46, t46), (47, t47), (48, v2), (49, t49)]) h11)
  (oFieldAddr 8 v4 h10 fun t50 h12 =>
  oLd1 t50 h12 fun t51 h13 =>
  oAppend 6 64 #[.int .i64 0, .int .i64 0, .int .i64 0, .int .u64 0, .int .i64 0, .slice none 0 0] (Value.slice none 0 0) t51 h13 fun t52 h14 =>
  oIdxS 6 t52 v11 h14 fun t57 h15 =>
  oFieldAddr 5 t57 h15 fun t58 h16 =>
  oLd1 t58 h16 fun t59 h17 =>
  C_q172 [t59, v3] h17 fun t61 h18 =>
  oIdxS 6 t52 v11 h18 fun t62 h19 =>
  oFieldAddr 5 t62 h19 fun t63 h20 =>
  oSt 1 t63 t61 h20 fun _ h21 =>
  oFieldAddr 8 v4 h21 fun t65 h22 =>
  oSt 1 t65 t52 h22 fun _ h23 =>
  oIdxS 6 t52 v11 h23 fun t68 h24 =>
  oFieldAddr 5 t68 h24 fun t69 h25 =>
  oLd1 t69 h25 fun t70 h26 =>
  oFieldAddr 1 v4 h26 fun t71 h27 =>
  oLd1 t71 h27 fun t72 h28 =>
  C_q157 [t70, t72] h28 fun t73 h29 =>
  (True) ∧
  oNot t73 h29 fun t74 h30 =>
  oIf t74
  (oLdN 9 v4 h30 fun t75 h31 =>
  oBuild #[.int .i64 0, .int .u64 0, .int .i64 0, .int .i64 0, .int .u64 0, .int .i64 0] [] h31 fun t76 h32 =>
  oSt 9 v8 t75 h32 fun _ h33 =>
  oSt 6 v9 t76 h33 fun _ h34 =>
  (qSeq (aw Try.prog O_q128 K_q128_5 (qBlk 1 (qSeq (aw Try.prog O_q128 K_q128_4 Qv) Qv))) (qBlk 1 (qSeq (aw Try.prog O_q128 K_q128_4 Qv) Qv))) .ret (ul (E_q128_1 v1 v2 v3 v4 v8 v9 v11 d) [(10, (Value.bool false)), (12, t52), (35, v11), (36, t36), (37, t37), (38, t38), (39, t39), (42, t42), (43, t43), (44, v11), (45, t45), (46, t46), (47, t47), (48, v2), (49, t49), (50, t50), (51, t51), (52, t52), (53, t52), (54, v11), (55, t52), (56, v11), (57, t57), (58, t58), (59, t59), (60, v3), (61, t61), (62, t62), (63, t63), (64, t52), (65, t65), (66, t52), (67, v11), (68, t68), (69, t69), (70, t70), (71, t71), (72, t72), (73, t73), (74, t74), (75, t75), (76, t76)]) h34)
  (oIdxS 6 t52 v11 h30 fun t81 h35 =>
  oFieldAddr 1 t81 h35 fun t82 h36 =>
  oLdN 4 t82 h36 fun t83 h37 =>
  oBuild #[.int .i64 0, .int .u64 0, .int .i64 0, .int .i64 0, .int .u64 0, .int .i64 0] [(0, 1, v2), (1, 1, v1), (2, 4, t83)] h37 fun t84 h38 =>
  oAlloc #[.int .i64 0, .int .u64 0, .int .i64 0, .int .i64 0, .int .u64 0, .int .i64 0] h38 fun t13 h39 =>
  oSt 6 t13 t84 h39 fun _ h40 =>
  oSlice 0 6 t52 none (some v11) none h40 fun t87 h41 =>
  oBin .add v11 (Value.int .i64 1) h41 fun t91 h42 =>
  oSlice 0 6 t52 (some t91) none none h42 fun t92 h43 =>
  oAppend 6 64 #[.int .i64 0, .int .i64 0, .int .i64 0, .int .u64 0, .int .i64 0, .slice none 0 0] (Value.slice none 0 0) t87 h43 fun t88 h44 =>
  (True) ∧
  oAppend 6 64 #[.int .i64 0, .int .i64 0, .int .i64 0, .int .u64 0, .int .i64 0, .slice none 0 0] t88 t92 h44 fun t93 h45 =>
  (True) ∧
  oFieldAddr 8 v4 h45 fun t94 h46 =>
  oSt 1 t94 t93 h46 fun _ h47 =>
  (True) ∧
  oLdN 9 v4 h47 fun t95 h48 =>
  oLdN 6 t13 h48 fun t96 h49 =>
  oSt 9 v8 t95 h49 fun _ h50 =>
  ((oLdN 6 t13 h49 (fun v' _ => v' = t96) → oLdN 6 t13 h50 (fun v' _ => v' = t96)) ∧ True) ∧
  oSt 6 v9 t96 h50 fun _ h51 =>
  (True) ∧
  (qBlk 1 (qSeq (aw Try.prog O_q128 K_q128_4 Qv) Qv)) .ret (ul (E_q128_1 v1 v2 v3 v4 v8 v9 v11 d) [(10, (Value.bool true)), (12, t52), (13, t13), (35, v11), (36, t36), (37, t37), (38, t38), (39, t39), (42, t42), (43, t43), (44, v11), (45, t45), (46, t46), (47, t47), (48, v2), (49, t49), (50, t50), (51, t51), (52, t52), (53, t52), (54, v11), (55, t52), (56, v11), (57, t57), (58, t58), (59, t59), (60, v3), (61, t61), (62, t62), (63, t63), (64, t52), (65, t65), (66, t52), (67, v11), (68, t68), (69, t69), (70, t70), (71, t71), (72, t72), (73, t73), (74, t74), (77, v2), (78, v1), (79, t52), (80, v11), (81, t81), (82, t82), (83, t83), (84, t84), (85, t52), (86, v11), (87, t87), (88, t88), (89, t52), (90, v11), (91, t91), (92, t92), (93, t93), (94, t94), (95, t95), (96, t96)]) h51)))
  ((qSeq (aw Try.prog O_q128 K_q128_6 Qv) Qv) (.exit 0) (ul (E_q128_1 v1 v2 v3 v4 v8 v9 v11 d) [(35, v11), (36, t36), (37, t37), (38, t38), (39, t39)]) h4)
theorem ga_q128_1 (Qv : Post) (v1 v2 v3 v4 v8 v9 v11 : Value) (d : Nat → Value) (h : Hp) : aw Try.prog O_q128 K_q128_3 Qv (E_q128_1 v1 v2 v3 v4 v8 v9 v11 d) h = X_q128_1 Qv v1 v2 v3 v4 v8 v9 v11 d h := by kernel_rfl
theorem gb_q128_1 (K : Kont) (s0 : Self) (v1 v2 v3 v4 v8 v9 v11 : Value) (d : Nat → Value) (h : Hp) : X_q128_1 (Q_q128_2 K s0) v1 v2 v3 v4 v8 v9 v11 d h = B_q128_1 K s0 v1 v2 v3 v4 v8 v9 v11 d h := by kernel_rfl
theorem beq_q128_1 (K : Kont) (s0 : Self) (v1 v2 v3 v4 v8 v9 v11 : Value) (d : Nat → Value) (h : Hp) : aw Try.prog O_q128 K_q128_3 (Q_q128_2 K s0) (E_q128_1 v1 v2 v3 v4 v8 v9 v11 d) h = B_q128_1 K s0 v1 v2 v3 v4 v8 v9 v11 d h := (ga_q128_1 _ v1 v2 v3 v4 v8 v9 v11 d h).trans (gb_q128_1 K s0 v1 v2 v3 v4 v8 v9 v11 d h)
theorem rule_q128_1 {K : Kont} {v1 v2 v3 v4 v8 v9 : Value} (Inv : Value → Hp → Prop) (μ : Value → Hp → Nat)
    (step : ∀ (s0 : Self) (v11 : Value) (d : Nat → Value) (h : Hp), Inv v11 h → (∀ (v11' : Value) (d' : Nat → Value) (h' : Hp), Inv v11' h' → μ v11' h' < μ v11 h → s0 (E_q128_1 v1 v2 v3 v4 v8 v9 v11' d') h') → B_q128_1 K s0 v1 v2 v3 v4 v8 v9 v11 d h) (v11 : Value) (d : Nat → Value) (h : Hp) (hi : Inv v11 h) : G_q128_1 K v1 v2 v3 v4 v8 v9 v11 d h :=
  oLoop_rule (α := Value × (Nat → Value)) (fun x => E_q128_1 v1 v2 v3 v4 v8 v9 x.1 x.2) (fun x h => Inv x.1 h) (fun x h => μ x.1 h)
    (fun self x h hx hs => (beq_q128_1 K self v1 v2 v3 v4 v8 v9 x.1 x.2 h).mpr (step self x.1 x.2 h hx (fun v11' d' h' h1 h2 => hs ⟨v11', d'⟩ h' h1 h2))) ⟨v11, d⟩ h hi
def O_q156 : Od := []
noncomputable def K_q156_0 : Code := (cB (cB (bodyC Try.f70)))
def G_q156 (a0 a1 : Value) (h : Hp) (K : Kont) : Prop :=
  oBox a0 h fun t2 h1 =>
  oAlloc #[.int .i64 0, .int .i64 0, .int .i64 0, .int .u64 0, .int .i64 0, .int .i64 0, .slice none 0 0, .slice none 0 0, .slice none 0 0] h1 fun t4 h2 =>
  oFieldAddr 2 t2 h2 fun t6 h3 =>
  oLd1 t6 h3 fun t7 h4 =>
  oBin .eql t7 (Value.int .i64 0) h4 fun t8 h5 =>
  oGuard t8 false (fun K => K a1 h5) h5 fun t10 h6 =>
  oGuard t8 false (fun K => oFieldAddr 3 t2 h6 K) h6 fun t11 h7 =>
  oGuard t8 false (fun K => oLd1 t11 h7 K) h7 fun t12 h8 =>
  oGuard t8 false (fun K => oBin .leq t10 t12 h8 K) h8 fun t13 h9 =>
  oPick t8 (Value.bool true) t13 h9 fun t14 h10 =>
  oIf t14
  (oLdN 9 t2 h10 fun t15 h11 =>
  oSt 9 t4 t15 h11 fun _ h12 =>
  oLdN 9 t4 h12 fun r1 _ =>
  K (.tuple #[r1, (Value.bool false)]) h12)
  (oFieldAddr 2 t2 h10 fun t16 h13 =>
  oSt 1 t16 (Value.int .i64 0) h13 fun _ h14 =>
  oFieldAddr 8 t2 h14 fun t17 h15 =>
  oSt 1 t17 (Value.slice none 0 0) h15 fun _ h16 =>
  oFieldAddr 6 t2 h16 fun t18 h17 =>
  oSt 1 t18 (Value.slice none 0 0) h17 fun _ h18 =>
  oFieldAddr 7 t2 h18 fun t19 h19 =>
  oSt 1 t19 (Value.slice none 0 0) h19 fun _ h20 =>
  oLdN 9 t2 h20 fun t20 h21 =>
  oSt 9 t4 t20 h21 fun _ h22 =>
  oLdN 9 t4 h22 fun r2 _ =>
  K (.tuple #[r2, (Value.bool true)]) h22)
def E0_q156 (a0 a1 : Value) : List Value := [a0, a1, undef, undef, undef, undef, undef, undef, undef, undef, undef, undef, undef, undef, undef, undef, undef, undef, undef, undef, undef]
def X_q156 (Qv : Post) (a0 a1 : Value) (h : Hp) : Prop :=
  oBox a0 h fun t2 h1 =>
  oAlloc #[.int .i64 0, .int .i64 0, .int .i64 0, .int .u64 0, .int .i64 0, .int .i64 0, .slice none 0 0, .slice none 0 0, .slice none 0 0] h1 fun t4 h2 =>
  oFieldAddr 2 t2 h2 fun t6 h3 =>
  oLd1 t6 h3 fun t7 h4 =>
  oBin .eql t7 (Value.int .i64 0) h4 fun t8 h5 =>
  oGuard t8 false (fun K => K a1 h5) h5 fun t10 h6 =>
  oGuard t8 false (fun K => oFieldAddr 3 t2 h6 K) h6 fun t11 h7 =>
  oGuard t8 false (fun K => oLd1 t11 h7 K) h7 fun t12 h8 =>
  oGuard t8 false (fun K => oBin .leq t10 t12 h8 K) h8 fun t13 h9 =>
  oPick t8 (Value.bool true) t13 h9 fun t14 h10 =>
  oIf t14
  (oLdN 9 t2 h10 fun t15 h11 =>
  oSt 9 t4 t15 h11 fun _ h12 =>
  (qSeq (aw Try.prog O_q156 K_q156_0 Qv) Qv) .ret (ul (E0_q156 a0 a1) [(2, t2), (4, t4), (5, (Value.bool false)), (6, t6), (7, t7), (8, t8), (9, t8), (10, t10), (11, t11), (12, t12), (13, t13), (14, t14), (15, t15)]) h12)
  (oFieldAddr 2 t2 h10 fun t16 h13 =>
  oSt 1 t16 (Value.int .i64 0) h13 fun _ h14 =>
  oFieldAddr 8 t2 h14 fun t17 h15 =>
  oSt 1 t17 (Value.slice none 0 0) h15 fun _ h16 =>
  oFieldAddr 6 t2 h16 fun t18 h17 =>
  oSt 1 t18 (Value.slice none 0 0) h17 fun _ h18 =>
  oFieldAddr 7 t2 h18 fun t19 h19 =>
  oSt 1 t19 (Value.slice none 0 0) h19 fun _ h20 =>
  oLdN 9 t2 h20 fun t20 h21 =>
  oSt 9 t4 t20 h21 fun _ h22 =>
  Qv .ret (ul (E0_q156 a0 a1) [(2, t2), (4, t4), (5, (Value.bool true)), (6, t6), (7, t7), (8, t8), (9, t8), (10, t10), (11, t11), (12, t12), (13, t13), (14, t14), (16, t16), (17, t17), (18, t18), (19, t19), (20, t20)]) h22)
theorem ga_q156 (Qv : Post) (a0 a1 : Value) (h : Hp) : aw Try.prog O_q156 (bodyC Try.f70) Qv (E0_q156 a0 a1) h = X_q156 Qv a0 a1 h := by kernel_rfl
theorem gb_q156 (a0 a1 : Value) (h : Hp) (K : Kont) : X_q156 (qTop Try.prog Try.f70 K) a0 a1 h = G_q156 a0 a1 h K := by kernel_rfl
theorem gc_q156 (a0 a1 : Value) (h : Hp) (K : Kont) : abody Try.prog O_q156 Try.f70 (bodyC Try.f70) [a0, a1] h K = aw Try.prog O_q156 (bodyC Try.f70) (qTop Try.prog Try.f70 K) (E0_q156 a0 a1) h := by kernel_rfl
theorem eq_q156 (a0 a1 : Value) (h : Hp) (K : Kont) : abody Try.prog O_q156 Try.f70 (bodyC Try.f70) [a0, a1] h K = G_q156 a0 a1 h K := (gc_q156 a0 a1 h K).trans ((ga_q156 _ a0 a1 h).trans (gb_q156 a0 a1 h K))
theorem ok_q156 {a0 a1 : Value} {h : Hp} {K : Kont} (hk : G_q156 a0 a1 h K) : C_q156 [a0, a1] h K := ac_of_body prog_mixed (fn := Try.f70) Try.func70 (c := bodyC Try.f70) (by kernel_rfl) ((eq_q156 a0 a1 h K).mpr hk)
def O_q165 : Od := []
noncomputable def K_q165_0 : Code := (cB (cB (bodyC Try.f73)))
noncomputable def K_q165_1 : Code := (cB (cB (cB (bodyC Try.f73))))
noncomputable def K_q165_2 : Code := (cB (cT (cB (cA (cB (cB (bodyC Try.f73)))))))
noncomputable def K_q165_3 : Code := (cB (cB (cB (cB (bodyC Try.f73)))))
def G_q165 (a0 : Value) (h : Hp) (K : Kont) : Prop :=
  oBox a0 h fun t1 h1 =>
  oFieldAddr 0 t1 h1 fun t3 h2 =>
  oLd1 t3 h2 fun t4 h3 =>
  oBin .lss t4 (Value.int .i64 0) h3 fun t5 h4 =>
  oGuard t5 false (fun K => oFieldAddr 0 t1 h4 K) h4 fun t7 h5 =>
  oGuard t5 false (fun K => oLd1 t7 h5 K) h5 fun t8 h6 =>
  oGuard t5 false (fun K => oBin .gtr t8 (Value.int .i64 4) h6 K) h6 fun t9 h7 =>
  oPick t5 (Value.bool true) t9 h7 fun t10 h8 =>
  oIf t10
  (K (Value.int .i64 1) h8)
  (oFieldAddr 0 t1 h8 fun t11 h9 =>
  oLd1 t11 h9 fun t12 h10 =>
  oBin .eql t12 (Value.int .i64 0) h10 fun t13 h11 =>
  oIf t13
  (oFieldAddr 1 t1 h11 fun t14 h12 =>
  oLd1 t14 h12 fun t15 h13 =>
  oBin .neq t15 (Value.int .i64 0) h13 fun t16 h14 =>
  oGuard t16 false (fun K => oFieldAddr 2 t1 h14 K) h14 fun t18 h15 =>
  oGuard t16 false (fun K => oLd1 t18 h15 K) h15 fun t19 h16 =>
  oGuard t16 false (fun K => oBin .neq t19 (Value.int .u64 0) h16 K) h16 fun t20 h17 =>
  oPick t16 (Value.bool true) t20 h17 fun t21 h18 =>
  oGuard t21 false (fun K => oFieldAddr 3 t1 h18 K) h18 fun t23 h19 =>
  oGuard t21 false (fun K => oLd1 t23 h19 K) h19 fun t24 h20 =>
  oGuard t21 false (fun K => oBin .neq t24 (Value.int .i64 0) h20 K) h20 fun t25 h21 =>
  oPick t21 (Value.bool true) t25 h21 fun t26 h22 =>
  oIf t26
  (K (Value.int .i64 4) h22)
  (K (Value.int .i64 0) h22))
  (oFieldAddr 1 t1 h11 fun t27 h23 =>
  oLd1 t27 h23 fun t28 h24 =>
  oBin .lss t28 (Value.int .i64 0) h24 fun t29 h25 =>
  oGuard t29 false (fun K => oFieldAddr 1 t1 h25 K) h25 fun t31 h26 =>
  oGuard t29 false (fun K => oLd1 t31 h26 K) h26 fun t32 h27 =>
  oGuard t29 false (fun K => oBin .gtr t32 (Value.int .i64 3) h27 K) h27 fun t33 h28 =>
  oPick t29 (Value.bool true) t33 h28 fun t34 h29 =>
  oGuard t34 false (fun K => oFieldAddr 2 t1 h29 K) h29 fun t36 h30 =>
  oGuard t34 false (fun K => oLd1 t36 h30 K) h30 fun t37 h31 =>
  oGuard t34 false (fun K => oBin .eql t37 (Value.int .u64 0) h31 K) h31 fun t38 h32 =>
  oPick t34 (Value.bool true) t38 h32 fun t39 h33 =>
  oGuard t39 false (fun K => oFieldAddr 3 t1 h33 K) h33 fun t41 h34 =>
  oGuard t39 false (fun K => oLd1 t41 h34 K) h34 fun t42 h35 =>
  oGuard t39 false (fun K => oBin .lss t42 (Value.int .i64 1) h35 K) h35 fun t43 h36 =>
  oPick t39 (Value.bool true) t43 h36 fun t44 h37 =>
  oGuard t44 false (fun K => oFieldAddr 3 t1 h37 K) h37 fun t46 h38 =>
  oGuard t44 false (fun K => oLd1 t46 h38 K) h38 fun t47 h39 =>
  oGuard t44 false (fun K => oBin .gtr t47 (Value.int .i64 24) h39 K) h39 fun t48 h40 =>
  oPick t44 (Value.bool true) t48 h40 fun t49 h41 =>
  oIf t49
  (K (Value.int .i64 4) h41)
  (K (Value.int .i64 0) h41)))
def E0_q165 (a0 : Value) : List Value := [a0, undef, undef, undef, undef, undef, undef, undef, undef, undef, undef, undef, undef, undef, undef, undef, undef, undef, undef, undef, undef, undef, undef, undef, undef, undef, undef, undef, undef, undef, undef, undef, undef, undef, undef, undef, undef, undef, undef, undef, undef, undef, undef, undef, undef, undef, undef, undef, undef, undef]
def X_q165 (Qv : Post) (a0 : Value) (h : Hp) : Prop :=
  oBox a0 h fun t1 h1 =>
  oFieldAddr 0 t1 h1 fun t3 h2 =>
  oLd1 t3 h2 fun t4 h3 =>
  oBin .lss t4 (Value.int .i64 0) h3 fun t5 h4 =>
  oGuard t5 false (fun K => oFieldAddr 0 t1 h4 K) h4 fun t7 h5 =>
  oGuard t5 false (fun K => oLd1 t7 h5 K) h5 fun t8 h6 =>
  oGuard t5 false (fun K => oBin .gtr t8 (Value.int .i64 4) h6 K) h6 fun t9 h7 =>
  oPick t5 (Value.bool true) t9 h7 fun t10 h8 =>
  oIf t10
  ((qSeq (aw Try.prog O_q165 K_q165_0 Qv) Qv) .ret (ul (E0_q165 a0) [(1, t1), (2, (Value.int .i64 1)), (3, t3), (4, t4), (5, t5), (6, t5), (7, t7), (8, t8), (9, t9), (10, t10)]) h8)
  (oFieldAddr 0 t1 h8 fun t11 h9 =>
  oLd1 t11 h9 fun t12 h10 =>
  oBin .eql t12 (Value.int .i64 0) h10 fun t13 h11 =>
  oIf t13
  (oFieldAddr 1 t1 h11 fun t14 h12 =>
  oLd1 t14 h12 fun t15 h13 =>
  oBin .neq t15 (Value.int .i64 0) h13 fun t16 h14 =>
  oGuard t16 false (fun K => oFieldAddr 2 t1 h14 K) h14 fun t18 h15 =>
  oGuard t16 false (fun K => oLd1 t18 h15 K) h15 fun t19 h16 =>
  oGuard t16 false (fun K => oBin .neq t19 (Value.int .u64 0) h16 K) h16 fun t20 h17 =>
  oPick t16 (Value.bool true) t20 h17 fun t21 h18 =>
  oGuard t21 false (fun K => oFieldAddr 3 t1 h18 K) h18 fun t23 h19 =>
  oGuard t21 false (fun K => oLd1 t23 h19 K) h19 fun t24 h20 =>
  oGuard t21 false (fun K => oBin .neq t24 (Value.int .i64 0) h20 K) h20 fun t25 h21 =>
  oPick t21 (Value.bool true) t25 h21 fun t26 h22 =>
  oIf t26
  ((qSeq (aw Try.prog O_q165 K_q165_2 (qSeq (aw Try.prog O_q165 K_q165_1 Qv) Qv)) (qSeq (aw Try.prog O_q165 K_q165_1 Qv) Qv)) .ret (ul (E0_q165 a0) [(1, t1), (2, (Value.int .i64 4)), (3, t3), (4, t4), (5, t5), (6, t5), (7, t7), (8, t8), (9, t9), (10, t10), (11, t11), (12, t12), (13, t13), (14, t14), (15, t15), (16, t16), (17, t16), (18, t18), (19, t19), (20, t20), (21, t21), (22, t21), (23, t23), (24, t24), (25, t25), (26, t26)]) h22)
  ((qSeq (aw Try.prog O_q165 K_q165_1 Qv) Qv) .ret (ul (E0_q165 a0) [(1, t1), (2, (Value.int .i64 0)), (3, t3), (4, t4), (5, t5), (6, t5), (7, t7), (8, t8), (9, t9), (10, t10), (11, t11), (12, t12), (13, t13), (14, t14), (15, t15), (16, t16), (17, t16), (18, t18), (19, t19), (20, t20), (21, t21), (22, t21), (23, t23), (24, t24), (25, t25), (26, t26)]) h22))
  (oFieldAddr 1 t1 h11 fun t27 h23 =>
  oLd1 t27 h23 fun t28 h24 =>
  oBin .lss t28 (Value.int .i64 0) h24 fun t29 h25 =>
  oGuard t29 false (fun K => oFieldAddr 1 t1 h25 K) h25 fun t31 h26 =>
  oGuard t29 false (fun K => oLd1 t31 h26 K) h26 fun t32 h27 =>
  oGuard t29 false (fun K => oBin .gtr t32 (Value.int .i64 3) h27 K) h27 fun t33 h28 =>
  oPick t29 (Value.bool true) t33 h28 fun t34 h29 =>
  oGuard t34 false (fun K => oFieldAddr 2 t1 h29 K) h29 fun t36 h30 =>
  oGuard t34 false (fun K => oLd1 t36 h30 K) h30 fun t37 h31 =>
  oGuard t34 false (fun K => oBin .eql t37 (Value.int .u64 0) h31 K) h31 fun t38 h32 =>
  oPick t34 (Value.bool true) t38 h32 fun t39 h33 =>
  oGuard t39 false (fun K => oFieldAddr 3 t1 h33 K) h33 fun t41 h34 =>
  oGuard t39 false (fun K => oLd1 t41 h34 K) h34 fun t42 h35 =>
  oGuard t39 false (fun K => oBin .lss t42 (Value.int .i64 1) h35 K) h35 fun t43 h36 =>
  oPick t39 (Value.bool true) t43 h36 fun t44 h37 =>
  oGuard t44 false (fun K => oFieldAddr 3 t1 h37 K) h37 fun t46 h38 =>
  oGuard t44 false (fun K => oLd1 t46 h38 K) h38 fun t47 h39 =>
  oGuard t44 false (fun K => oBin .gtr t47 (Value.int .i64 24) h39 K) h39 fun t48 h40 =>
  oPick t44 (Value.bool true) t48 h40 fun t49 h41 =>
  oIf t49
  ((qSeq (aw Try.prog O_q165 K_q165_3 Qv) Qv) .ret (ul (E0_q165 a0) [(1, t1), (2, (Value.int .i64 4)), (3, t3), (4, t4), (5, t5), (6, t5), (7, t7), (8, t8), (9, t9), (10, t10), (11, t11), (12, t12), (13, t13), (27, t27), (28, t28), (29, t29), (30, t29), (31, t31), (32, t32), (33, t33), (34, t34), (35, t34), (36, t36), (37, t37), (38, t38), (39, t39), (40, t39), (41, t41), (42, t42), (43, t43), (44, t44), (45, t44), (46, t46), (47, t47), (48, t48), (49, t49)]) h41)
  (Qv .ret (ul (E0_q165 a0) [(1, t1), (2, (Value.int .i64 0)), (3, t3), (4, t4), (5, t5), (6, t5), (7, t7), (8, t8), (9, t9), (10, t10), (11, t11), (12, t12), (13, t13), (27, t27), (28, t28), (29, t29), (30, t29), (31, t31), (32, t32), (33, t33), (34, t34), (35, t34), (36, t36), (37, t37), (38, t38), (39, t39), (40, t39), (41, t41), (42, t42), (43, t43), (44, t44), (45, t44), (46, t46), (47, t47), (48, t48), (49, t49)]) h41)))
theorem ga_q165 (Qv : Post) (a0 : Value) (h : Hp) : aw Try.prog O_q165 (bodyC Try.f73) Qv (E0_q165 a0) h = X_q165 Qv a0 h := by kernel_rfl
theorem gb_q165 (a0 : Value) (h : Hp) (K : Kont) : X_q165 (qTop Try.prog Try.f73 K) a0 h = G_q165 a0 h K := by kernel_rfl
theorem gc_q165 (a0 : Value) (h : Hp) (K : Kont) : abody Try.prog O_q165 Try.f73 (bodyC Try.f73) [a0] h K = aw Try.prog O_q165 (bodyC Try.f73) (qTop Try.prog Try.f73 K) (E0_q165 a0) h := by kernel_rfl
theorem eq_q165 (a0 : Value) (h : Hp) (K : Kont) : abody Try.prog O_q165 Try.f73 (bodyC Try.f73) [a0] h K = G_q165 a0 h K := (gc_q165 a0 h K).trans ((ga_q165 _ a0 h).trans (gb_q165 a0 h K))
theorem ok_q165 {a0 : Value} {h : Hp} {K : Kont} (hk : G_q165 a0 h K) : C_q165 [a0] h K := ac_of_body prog_mixed (fn := Try.f73) Try.func73 (c := bodyC Try.f73) (by kernel_rfl) ((eq_q165 a0 h K).mpr hk)
def O_q104 : Od := []
def G_q104 (a0 : Value) (h : Hp) (K : Kont) : Prop :=
  oBin .geq a0 (Value.int .i64 1) h fun t4 h1 =>
  oGuard t4 true (fun K => K a0 h1) h1 fun t6 h2 =>
  oGuard t4 true (fun K => oBin .leq t6 (Value.int .i64 5) h2 K) h2 fun t7 h3 =>
  oPick t4 t7 (Value.bool false) h3 fun t8 h4 =>
  K t8 h4
def E0_q104 (a0 : Value) : List Value := [a0, undef, undef, undef, undef, undef, undef, undef, undef]
def X_q104 (Qv : Post) (a0 : Value) (h : Hp) : Prop :=
  oBin .geq a0 (Value.int .i64 1) h fun t4 h1 =>
  oGuard t4 true (fun K => K a0 h1) h1 fun t6 h2 =>
  oGuard t4 true (fun K => oBin .leq t6 (Value.int .i64 5) h2 K) h2 fun t7 h3 =>
  oPick t4 t7 (Value.bool false) h3 fun t8 h4 =>
  Qv .ret (ul (E0_q104 a0) [(2, t8), (3, a0), (4, t4), (5, t4), (6, t6), (7, t7), (8, t8)]) h4
theorem ga_q104 (Qv : Post) (a0 : Value) (h : Hp) : aw Try.prog O_q104 (bodyC Try.f74) Qv (E0_q104 a0) h = X_q104 Qv a0 h := by kernel_rfl
theorem gb_q104 (a0 : Value) (h : Hp) (K : Kont) : X_q104 (qTop Try.prog Try.f74 K) a0 h = G_q104 a0 h K := by kernel_rfl
theorem gc_q104 (a0 : Value) (h : Hp) (K : Kont) : abody Try.prog O_q104 Try.f74 (bodyC Try.f74) [a0] h K = aw Try.prog O_q104 (bodyC Try.f74) (qTop Try.prog Try.f74 K) (E0_q104 a0) h := by kernel_rfl
theorem eq_q104 (a0 : Value) (h : Hp) (K : Kont) : abody Try.prog O_q104 Try.f74 (bodyC Try.f74) [a0] h K = G_q104 a0 h K := (gc_q104 a0 h K).trans ((ga_q104 _ a0 h).trans (gb_q104 a0 h K))
theorem ok_q104 {a0 : Value} {h : Hp} {K : Kont} (hk : G_q104 a0 h K) : C_q104 [a0] h K := ac_of_body prog_mixed (fn := Try.f74) Try.func74 (c := bodyC Try.f74) (by kernel_rfl) ((eq_q104 a0 h K).mpr hk)
def O_q160 : Od := []
noncomputable def K_q160_0 : Code := (cB (cB (bodyC Try.f77)))
def G_q160 (a0 a1 : Value) (h : Hp) (K : Kont) : Prop :=
  oBin .lss a0 (Value.int .u64 1) h fun t7 h1 =>
  oGuard t7 false (fun K => K a0 h1) h1 fun t9 h2 =>
  oGuard t7 false (fun K => oBin .geq t9 (Value.int .u64 1152921504606846976) h2 K) h2 fun t10 h3 =>
  oPick t7 (Value.bool true) t10 h3 fun t11 h4 =>
  oGuard t11 false (fun K => K a1 h4) h4 fun t13 h5 =>
  oGuard t11 false (fun K => C_q104 [t13] h5 K) h5 fun t14 h6 =>
  oGuard t11 false (fun K => oNot t14 h6 K) h6 fun t15 h7 =>
  oPick t11 (Value.bool true) t15 h7 fun t16 h8 =>
  oIf t16
  (K (.tuple #[(Value.int .u64 0), (Value.int .i64 1)]) h8)
  (oBin .mul (Value.int .u64 8) a0 h8 fun t18 h9 =>
  oConvInt .u64 a1 h9 fun t20 h10 =>
  oBin .add t18 t20 h10 fun t21 h11 =>
  K (.tuple #[t21, (Value.int .i64 0)]) h11)
def E0_q160 (a0 a1 : Value) : List Value := [a0, a1, undef, undef, undef, undef, undef, undef, undef, undef, undef, undef, undef, undef, undef, undef, undef, undef, undef, undef, undef, undef]
def X_q160 (Qv : Post) (a0 a1 : Value) (h : Hp) : Prop :=
  oBin .lss a0 (Value.int .u64 1) h fun t7 h1 =>
  oGuard t7 false (fun K => K a0 h1) h1 fun t9 h2 =>
  oGuard t7 false (fun K => oBin .geq t9 (Value.int .u64 1152921504606846976) h2 K) h2 fun t10 h3 =>
  oPick t7 (Value.bool true) t10 h3 fun t11 h4 =>
  oGuard t11 false (fun K => K a1 h4) h4 fun t13 h5 =>
  oGuard t11 false (fun K => C_q104 [t13] h5 K) h5 fun t14 h6 =>
  oGuard t11 false (fun K => oNot t14 h6 K) h6 fun t15 h7 =>
  oPick t11 (Value.bool true) t15 h7 fun t16 h8 =>
  oIf t16
  ((qSeq (aw Try.prog O_q160 K_q160_0 Qv) Qv) .ret (ul (E0_q160 a0 a1) [(4, (Value.int .u64 0)), (5, (Value.int .i64 1)), (6, a0), (7, t7), (8, t7), (9, t9), (10, t10), (11, t11), (12, t11), (13, t13), (14, t14), (15, t15), (16, t16)]) h8)
  (oBin .mul (Value.int .u64 8) a0 h8 fun t18 h9 =>
  oConvInt .u64 a1 h9 fun t20 h10 =>
  oBin .add t18 t20 h10 fun t21 h11 =>
  Qv .ret (ul (E0_q160 a0 a1) [(4, t21), (5, (Value.int .i64 0)), (6, a0), (7, t7), (8, t7), (9, t9), (10, t10), (11, t11), (12, t11), (13, t13), (14, t14), (15, t15), (16, t16), (17, a0), (18, t18), (19, a1), (20, t20), (21, t21)]) h11)
theorem ga_q160 (Qv : Post) (a0 a1 : Value) (h : Hp) : aw Try.prog O_q160 (bodyC Try.f77) Qv (E0_q160 a0 a1) h = X_q160 Qv a0 a1 h := by kernel_rfl
theorem gb_q160 (a0 a1 : Value) (h : Hp) (K : Kont) : X_q160 (qTop Try.prog Try.f77 K) a0 a1 h = G_q160 a0 a1 h K := by kernel_rfl
theorem gc_q160 (a0 a1 : Value) (h : Hp) (K : Kont) : abody Try.prog O_q160 Try.f77 (bodyC Try.f77) [a0, a1] h K = aw Try.prog O_q160 (bodyC Try.f77) (qTop Try.prog Try.f77 K) (E0_q160 a0 a1) h := by kernel_rfl
theorem eq_q160 (a0 a1 : Value) (h : Hp) (K : Kont) : abody Try.prog O_q160 Try.f77 (bodyC Try.f77) [a0, a1] h K = G_q160 a0 a1 h K := (gc_q160 a0 a1 h K).trans ((ga_q160 _ a0 a1 h).trans (gb_q160 a0 a1 h K))
theorem ok_q160 {a0 a1 : Value} {h : Hp} {K : Kont} (hk : G_q160 a0 a1 h K) : C_q160 [a0, a1] h K := ac_of_body prog_mixed (fn := Try.f77) Try.func77 (c := bodyC Try.f77) (by kernel_rfl) ((eq_q160 a0 a1 h K).mpr hk)
end Go.Proofs.Ytdolepapmpcpiaa

