/- Lemmas for the theorem of the last text; no condition. -/
import Derived.Test.YtdolepapmpcpiaaLc0
import Derived.Test.YtdolepapmpcpiaaLc1
import Derived.Test.YtdolepapmpcpiaaLc2
import Derived.Test.YtdolepapmpcpiaaLc3
import Derived.Test.YtdolepapmpcpiaaLc4
import Derived.Test.YtdolepapmpcpiaaLc5
import Derived.Test.YtdolepapmpcpiaaProg
/- What functions of the program ask of the seen heap (written by a program of this proof, vgen.py). -/
namespace Go.Proofs.Ytdolepapmpcpiaa
open Go
set_option linter.unusedSectionVars false
variable [Base]
set_option linter.unusedVariables false
set_option maxRecDepth 100000

/-! ### catenary/cmds.Check: function 46 -/
def O_cmds_Check : Od := []
noncomputable def K_cmds_Check_0 : Code := (cB (cB (bodyC Try.f46)))
def G_cmds_Check (a0 : Value) (h : Hp) (K : Kont) : Prop :=
  oBox a0 h fun t1 h1 =>
  oFieldAddr 0 t1 h1 fun t4 h2 =>
  oLd1 t4 h2 fun t5 h3 =>
  oBin .lss t5 (Value.int .i64 0) h3 fun t6 h4 =>
  oGuard t6 false (fun K => oFieldAddr 0 t1 h4 K) h4 fun t8 h5 =>
  oGuard t6 false (fun K => oLd1 t8 h5 K) h5 fun t9 h6 =>
  oGuard t6 false (fun K => oBin .geq t9 (Value.int .i64 5) h6 K) h6 fun t10 h7 =>
  oPick t6 (Value.bool true) t10 h7 fun t11 h8 =>
  oIf t11
  (K (Value.int .i64 1) h8)
  (oFieldAddr 0 t1 h8 fun t13 h9 =>
  oLd1 t13 h9 fun t14 h10 =>
  oBin .eql t14 (Value.int .i64 0) h10 fun t15 h11 =>
  oGuard t15 true (fun K => oLdN 4 t1 h11 K) h11 fun t17 h12 =>
  oGuard t15 true (fun K => oBuild #[.int .i64 0, .int .i64 0, .int .u64 0, .int .i64 0] [] h12 K) h12 fun t18 h13 =>
  oGuard t15 true (fun K => oEq 4 true (some [(0, (.int .i64)), (1, (.int .i64)), (2, (.int .u64)), (3, (.int .i64))]) t17 t18 h13 K) h13 fun t19 h14 =>
  oPick t15 t19 (Value.bool false) h14 fun t20 h15 =>
  oIf t20
  (K (Value.int .i64 4) h15)
  (oFieldAddr 0 t1 h15 fun t22 h16 =>
  oLd1 t22 h16 fun t23 h17 =>
  oBin .eql t23 (Value.int .i64 0) h17 fun t24 h18 =>
  oIf t24
  (K (Value.int .i64 0) h18)
  (oFieldAddr 1 t1 h18 fun t26 h19 =>
  oLd1 t26 h19 fun t27 h20 =>
  oBin .lss t27 (Value.int .i64 0) h20 fun t28 h21 =>
  oGuard t28 false (fun K => oFieldAddr 1 t1 h21 K) h21 fun t30 h22 =>
  oGuard t28 false (fun K => oLd1 t30 h22 K) h22 fun t31 h23 =>
  oGuard t28 false (fun K => oBin .geq t31 (Value.int .i64 4) h23 K) h23 fun t32 h24 =>
  oPick t28 (Value.bool true) t32 h24 fun t33 h25 =>
  oGuard t33 false (fun K => oFieldAddr 2 t1 h25 K) h25 fun t35 h26 =>
  oGuard t33 false (fun K => oLd1 t35 h26 K) h26 fun t36 h27 =>
  oGuard t33 false (fun K => oBin .lss t36 (Value.int .u64 1) h27 K) h27 fun t37 h28 =>
  oPick t33 (Value.bool true) t37 h28 fun t38 h29 =>
  oGuard t38 false (fun K => oFieldAddr 3 t1 h29 K) h29 fun t40 h30 =>
  oGuard t38 false (fun K => oLd1 t40 h30 K) h30 fun t41 h31 =>
  oGuard t38 false (fun K => oBin .lss t41 (Value.int .i64 1) h31 K) h31 fun t42 h32 =>
  oPick t38 (Value.bool true) t42 h32 fun t43 h33 =>
  oGuard t43 false (fun K => oFieldAddr 3 t1 h33 K) h33 fun t45 h34 =>
  oGuard t43 false (fun K => oLd1 t45 h34 K) h34 fun t46 h35 =>
  oGuard t43 false (fun K => oBin .gtr t46 (Value.int .i64 24) h35 K) h35 fun t47 h36 =>
  oPick t43 (Value.bool true) t47 h36 fun t48 h37 =>
  oIf t48
  (K (Value.int .i64 4) h37)
  (K (Value.int .i64 0) h37))))
def E0_cmds_Check (a0 : Value) : List Value := [a0, undef, undef, undef, undef, undef, undef, undef, undef, undef, undef, undef, undef, undef, undef, undef, undef, undef, undef, undef, undef, undef, undef, undef, undef, undef, undef, undef, undef, undef, undef, undef, undef, undef, undef, undef, undef, undef, undef, undef, undef, undef, undef, undef, undef, undef, undef, undef, undef]
def X_cmds_Check (Qv : Post) (a0 : Value) (h : Hp) : Prop :=
  oBox a0 h fun t1 h1 =>
  oFieldAddr 0 t1 h1 fun t4 h2 =>
  oLd1 t4 h2 fun t5 h3 =>
  oBin .lss t5 (Value.int .i64 0) h3 fun t6 h4 =>
  oGuard t6 false (fun K => oFieldAddr 0 t1 h4 K) h4 fun t8 h5 =>
  oGuard t6 false (fun K => oLd1 t8 h5 K) h5 fun t9 h6 =>
  oGuard t6 false (fun K => oBin .geq t9 (Value.int .i64 5) h6 K) h6 fun t10 h7 =>
  oPick t6 (Value.bool true) t10 h7 fun t11 h8 =>
  oIf t11
  ((qBlk 0 (qSeq (aw Try.prog O_cmds_Check K_cmds_Check_0 Qv) Qv)) .ret (ul (E0_cmds_Check a0) [(1, t1), (2, (Value.int .i64 1)), (3, t11), (4, t4), (5, t5), (6, t6), (7, t6), (8, t8), (9, t9), (10, t10), (11, t11)]) h8)
  (oFieldAddr 0 t1 h8 fun t13 h9 =>
  oLd1 t13 h9 fun t14 h10 =>
  oBin .eql t14 (Value.int .i64 0) h10 fun t15 h11 =>
  oGuard t15 true (fun K => oLdN 4 t1 h11 K) h11 fun t17 h12 =>
  oGuard t15 true (fun K => oBuild #[.int .i64 0, .int .i64 0, .int .u64 0, .int .i64 0] [] h12 K) h12 fun t18 h13 =>
  oGuard t15 true (fun K => oEq 4 true (some [(0, (.int .i64)), (1, (.int .i64)), (2, (.int .u64)), (3, (.int .i64))]) t17 t18 h13 K) h13 fun t19 h14 =>
  oPick t15 t19 (Value.bool false) h14 fun t20 h15 =>
  oIf t20
  ((qBlk 0 (qSeq (aw Try.prog O_cmds_Check K_cmds_Check_0 Qv) Qv)) .ret (ul (E0_cmds_Check a0) [(1, t1), (2, (Value.int .i64 4)), (3, t11), (4, t4), (5, t5), (6, t6), (7, t6), (8, t8), (9, t9), (10, t10), (11, t11), (12, t20), (13, t13), (14, t14), (15, t15), (16, t15), (17, t17), (18, t18), (19, t19), (20, t20)]) h15)
  (oFieldAddr 0 t1 h15 fun t22 h16 =>
  oLd1 t22 h16 fun t23 h17 =>
  oBin .eql t23 (Value.int .i64 0) h17 fun t24 h18 =>
  oIf t24
  ((qBlk 0 (qSeq (aw Try.prog O_cmds_Check K_cmds_Check_0 Qv) Qv)) .ret (ul (E0_cmds_Check a0) [(1, t1), (2, (Value.int .i64 0)), (3, t11), (4, t4), (5, t5), (6, t6), (7, t6), (8, t8), (9, t9), (10, t10), (11, t11), (12, t20), (13, t13), (14, t14), (15, t15), (16, t15), (17, t17), (18, t18), (19, t19), (20, t20), (21, t24), (22, t22), (23, t23), (24, t24)]) h18)
  (oFieldAddr 1 t1 h18 fun t26 h19 =>
  oLd1 t26 h19 fun t27 h20 =>
  oBin .lss t27 (Value.int .i64 0) h20 fun t28 h21 =>
  oGuard t28 false (fun K => oFieldAddr 1 t1 h21 K) h21 fun t30 h22 =>
  oGuard t28 false (fun K => oLd1 t30 h22 K) h22 fun t31 h23 =>
  oGuard t28 false (fun K => oBin .geq t31 (Value.int .i64 4) h23 K) h23 fun t32 h24 =>
  oPick t28 (Value.bool true) t32 h24 fun t33 h25 =>
  oGuard t33 false (fun K => oFieldAddr 2 t1 h25 K) h25 fun t35 h26 =>
  oGuard t33 false (fun K => oLd1 t35 h26 K) h26 fun t36 h27 =>
  oGuard t33 false (fun K => oBin .lss t36 (Value.int .u64 1) h27 K) h27 fun t37 h28 =>
  oPick t33 (Value.bool true) t37 h28 fun t38 h29 =>
  oGuard t38 false (fun K => oFieldAddr 3 t1 h29 K) h29 fun t40 h30 =>
  oGuard t38 false (fun K => oLd1 t40 h30 K) h30 fun t41 h31 =>
  oGuard t38 false (fun K => oBin .lss t41 (Value.int .i64 1) h31 K) h31 fun t42 h32 =>
  oPick t38 (Value.bool true) t42 h32 fun t43 h33 =>
  oGuard t43 false (fun K => oFieldAddr 3 t1 h33 K) h33 fun t45 h34 =>
  oGuard t43 false (fun K => oLd1 t45 h34 K) h34 fun t46 h35 =>
  oGuard t43 false (fun K => oBin .gtr t46 (Value.int .i64 24) h35 K) h35 fun t47 h36 =>
  oPick t43 (Value.bool true) t47 h36 fun t48 h37 =>
  oIf t48
  ((qBlk 0 (qSeq (aw Try.prog O_cmds_Check K_cmds_Check_0 Qv) Qv)) .ret (ul (E0_cmds_Check a0) [(1, t1), (2, (Value.int .i64 4)), (3, t11), (4, t4), (5, t5), (6, t6), (7, t6), (8, t8), (9, t9), (10, t10), (11, t11), (12, t20), (13, t13), (14, t14), (15, t15), (16, t15), (17, t17), (18, t18), (19, t19), (20, t20), (21, t24), (22, t22), (23, t23), (24, t24), (25, t48), (26, t26), (27, t27), (28, t28), (29, t28), (30, t30), (31, t31), (32, t32), (33, t33), (34, t33), (35, t35), (36, t36), (37, t37), (38, t38), (39, t38), (40, t40), (41, t41), (42, t42), (43, t43), (44, t43), (45, t45), (46, t46), (47, t47), (48, t48)]) h37)
  (Qv .ret (ul (E0_cmds_Check a0) [(1, t1), (2, (Value.int .i64 0)), (3, t11), (4, t4), (5, t5), (6, t6), (7, t6), (8, t8), (9, t9), (10, t10), (11, t11), (12, t20), (13, t13), (14, t14), (15, t15), (16, t15), (17, t17), (18, t18), (19, t19), (20, t20), (21, t24), (22, t22), (23, t23), (24, t24), (25, t48), (26, t26), (27, t27), (28, t28), (29, t28), (30, t30), (31, t31), (32, t32), (33, t33), (34, t33), (35, t35), (36, t36), (37, t37), (38, t38), (39, t38), (40, t40), (41, t41), (42, t42), (43, t43), (44, t43), (45, t45), (46, t46), (47, t47), (48, t48)]) h37))))
theorem ga_cmds_Check (Qv : Post) (a0 : Value) (h : Hp) : aw Try.prog O_cmds_Check (bodyC Try.f46) Qv (E0_cmds_Check a0) h = X_cmds_Check Qv a0 h := by kernel_rfl
theorem gb_cmds_Check (a0 : Value) (h : Hp) (K : Kont) : X_cmds_Check (qTop Try.prog Try.f46 K) a0 h = G_cmds_Check a0 h K := by kernel_rfl
theorem gc_cmds_Check (a0 : Value) (h : Hp) (K : Kont) : abody Try.prog O_cmds_Check Try.f46 (bodyC Try.f46) [a0] h K = aw Try.prog O_cmds_Check (bodyC Try.f46) (qTop Try.prog Try.f46 K) (E0_cmds_Check a0) h := by kernel_rfl
theorem eq_cmds_Check (a0 : Value) (h : Hp) (K : Kont) : abody Try.prog O_cmds_Check Try.f46 (bodyC Try.f46) [a0] h K = G_cmds_Check a0 h K := (gc_cmds_Check a0 h K).trans ((ga_cmds_Check _ a0 h).trans (gb_cmds_Check a0 h K))
theorem ok_cmds_Check {a0 : Value} {h : Hp} {K : Kont} (hk : G_cmds_Check a0 h K) : C_cmds_Check [a0] h K := ac_of_body prog_mixed (fn := Try.f46) Try.func46 (c := bodyC Try.f46) (by kernel_rfl) ((eq_cmds_Check a0 h K).mpr hk)

/-! ### slices.Min[[]int,int]: function 47 -/
def O_slices_Min_Sint_int : Od := []
noncomputable def K_slices_Min_Sint_int_0 : Code := (cB (cB (bodyC Try.f47)))
def E_slices_Min_Sint_int_1 (v0 : Value) (d : Nat → Value) : List Value := [v0, d 1, d 2, d 3, d 4, d 5, d 6, d 7, d 8, d 9, d 10, d 11, d 12, d 13, d 14, d 15, d 16, d 17, d 18, d 19, d 20, d 21, d 22, d 23, d 24]
def G_slices_Min_Sint_int_1 (K : Kont) (v0 : Value) (d : Nat → Value) (h : Hp) : Prop := aw Try.prog O_slices_Min_Sint_int K_slices_Min_Sint_int_0 (qTop Try.prog Try.f47 K) (E_slices_Min_Sint_int_1 v0 d) h
noncomputable def K_slices_Min_Sint_int_1 : Code := (cI (cB (cA (cB (cB (cB (bodyC Try.f47)))))))
noncomputable def K_slices_Min_Sint_int_2 : Code := (cB (cB (cB (cB (bodyC Try.f47)))))
def Q_slices_Min_Sint_int_0 (K : Kont) : Post := qSeq (aw Try.prog O_slices_Min_Sint_int K_slices_Min_Sint_int_2 (qTop Try.prog Try.f47 K)) (qTop Try.prog Try.f47 K)
def Q_slices_Min_Sint_int_1 (K : Kont) : Post := qBlk 0 (Q_slices_Min_Sint_int_0 K)
def E_slices_Min_Sint_int_2 (v0 : Value) (v3 : Value) (v4 : Value) (d : Nat → Value) : List Value := [v0, d 1, d 2, v3, v4, d 5, d 6, d 7, d 8, d 9, d 10, d 11, d 12, d 13, d 14, d 15, d 16, d 17, d 18, d 19, d 20, d 21, d 22, d 23, d 24]
def G_slices_Min_Sint_int_2 (K : Kont) (v0 : Value) (v3 : Value) (v4 : Value) (d : Nat → Value) (h : Hp) : Prop := aw Try.prog O_slices_Min_Sint_int K_slices_Min_Sint_int_1 (Q_slices_Min_Sint_int_1 K) (E_slices_Min_Sint_int_2 v0 v3 v4 d) h
def Q_slices_Min_Sint_int_2 (K : Kont) (s0 : Self) : Post := qSeq s0 (Q_slices_Min_Sint_int_1 K)
noncomputable def K_slices_Min_Sint_int_3 : Code := (cI (cI (cB (cA (cB (cB (cB (bodyC Try.f47))))))))
noncomputable def K_slices_Min_Sint_int_4 : Code := (cB (cI (cI (cB (cA (cB (cB (cB (bodyC Try.f47)))))))))
def G_slices_Min_Sint_int (a0 : Value) (h : Hp) (K : Kont) : Prop :=
  oLen 0 a0 h fun t6 h1 =>
  oBin .lss t6 (Value.int .i64 1) h1 fun t7 h2 =>
  oIf t7
  (False)
  (G_slices_Min_Sint_int_1 K a0 (ud [(2, (Value.int .i64 0)), (5, a0), (6, t6), (7, t7)] dz) h2)
def E0_slices_Min_Sint_int (a0 : Value) : List Value := [a0, undef, undef, undef, undef, undef, undef, undef, undef, undef, undef, undef, undef, undef, undef, undef, undef, undef, undef, undef, undef, undef, undef, undef, undef]
def X_slices_Min_Sint_int (Qv : Post) (a0 : Value) (h : Hp) : Prop :=
  oLen 0 a0 h fun t6 h1 =>
  oBin .lss t6 (Value.int .i64 1) h1 fun t7 h2 =>
  oIf t7
  (False)
  ((qSeq (aw Try.prog O_slices_Min_Sint_int K_slices_Min_Sint_int_0 Qv) Qv) .normal (ul (E0_slices_Min_Sint_int a0) [(2, (Value.int .i64 0)), (5, a0), (6, t6), (7, t7)]) h2)
theorem ga_slices_Min_Sint_int (Qv : Post) (a0 : Value) (h : Hp) : aw Try.prog O_slices_Min_Sint_int (bodyC Try.f47) Qv (E0_slices_Min_Sint_int a0) h = X_slices_Min_Sint_int Qv a0 h := by kernel_rfl
theorem gb_slices_Min_Sint_int (a0 : Value) (h : Hp) (K : Kont) : X_slices_Min_Sint_int (qTop Try.prog Try.f47 K) a0 h = G_slices_Min_Sint_int a0 h K := by kernel_rfl
theorem gc_slices_Min_Sint_int (a0 : Value) (h : Hp) (K : Kont) : abody Try.prog O_slices_Min_Sint_int Try.f47 (bodyC Try.f47) [a0] h K = aw Try.prog O_slices_Min_Sint_int (bodyC Try.f47) (qTop Try.prog Try.f47 K) (E0_slices_Min_Sint_int a0) h := by kernel_rfl
theorem eq_slices_Min_Sint_int (a0 : Value) (h : Hp) (K : Kont) : abody Try.prog O_slices_Min_Sint_int Try.f47 (bodyC Try.f47) [a0] h K = G_slices_Min_Sint_int a0 h K := (gc_slices_Min_Sint_int a0 h K).trans ((ga_slices_Min_Sint_int _ a0 h).trans (gb_slices_Min_Sint_int a0 h K))
theorem ok_slices_Min_Sint_int {a0 : Value} {h : Hp} {K : Kont} (hk : G_slices_Min_Sint_int a0 h K) : C_slices_Min_Sint_int [a0] h K := ac_of_body prog_mixed (fn := Try.f47) Try.func47 (c := bodyC Try.f47) (by kernel_rfl) ((eq_slices_Min_Sint_int a0 h K).mpr hk)
def R_slices_Min_Sint_int_1 (K : Kont) (v0 : Value) (d : Nat → Value) (h : Hp) : Prop :=
  oIdxS 1 v0 (Value.int .i64 0) h fun t10 h1 =>
  oLd1 t10 h1 fun t11 h2 =>
  G_slices_Min_Sint_int_2 K v0 t11 (Value.int .i64 1) (ud [(9, v0), (10, t10), (11, t11)] d) h2
def X_slices_Min_Sint_int_1 (Qv : Post) (v0 : Value) (d : Nat → Value) (h : Hp) : Prop :=
  oIdxS 1 v0 (Value.int .i64 0) h fun t10 h1 =>
  oLd1 t10 h1 fun t11 h2 =>
  aw Try.prog O_slices_Min_Sint_int K_slices_Min_Sint_int_1 (qBlk 0 (qSeq (aw Try.prog O_slices_Min_Sint_int K_slices_Min_Sint_int_2 Qv) Qv)) (ul (E_slices_Min_Sint_int_1 v0 d) [(3, t11), (4, (Value.int .i64 1)), (9, v0), (10, t10), (11, t11)]) h2
theorem ga_slices_Min_Sint_int_1 (Qv : Post) (v0 : Value) (d : Nat → Value) (h : Hp) : aw Try.prog O_slices_Min_Sint_int K_slices_Min_Sint_int_0 Qv (E_slices_Min_Sint_int_1 v0 d) h = X_slices_Min_Sint_int_1 Qv v0 d h := by kernel_rfl
theorem gb_slices_Min_Sint_int_1 (K : Kont) (v0 : Value) (d : Nat → Value) (h : Hp) : X_slices_Min_Sint_int_1 (qTop Try.prog Try.f47 K) v0 d h = R_slices_Min_Sint_int_1 K v0 d h := by kernel_rfl
theorem req_slices_Min_Sint_int_1 (K : Kont) (v0 : Value) (d : Nat → Value) (h : Hp) : G_slices_Min_Sint_int_1 K v0 d h = R_slices_Min_Sint_int_1 K v0 d h := (ga_slices_Min_Sint_int_1 _ v0 d h).trans (gb_slices_Min_Sint_int_1 K v0 d h)
def B_slices_Min_Sint_int_2 (K : Kont) (s0 : Self) (v0 : Value) (v3 : Value) (v4 : Value) (d : Nat → Value) (h : Hp) : Prop :=
  oLen 0 v0 h fun t14 h1 =>
  oBin .lss v4 t14 h1 fun t15 h2 =>
  oIf t15
  (oIdxS 1 v0 v4 h2 fun t21 h3 =>
  oLd1 t21 h3 fun t22 h4 =>
  oMinMax false [v3, t22] h4 fun t23 h5 =>
  oBin .add v4 (Value.int .i64 1) h5 fun t17 h6 =>
  s0 (E_slices_Min_Sint_int_2 v0 t23 t17 (ud [(12, v4), (13, v0), (14, t14), (15, t15), (16, v4), (17, t17), (18, v3), (19, v0), (20, v4), (21, t21), (22, t22), (23, t23)] d)) h6)
  (K v3 h2)
def X_slices_Min_Sint_int_2 (Qv : Post) (v0 : Value) (v3 : Value) (v4 : Value) (d : Nat → Value) (h : Hp) : Prop :=
  oLen 0 v0 h fun t14 h1 =>
  oBin .lss v4 t14 h1 fun t15 h2 =>
  oIf t15
  (oIdxS 1 v0 v4 h2 fun t21 h3 =>
  oLd1 t21 h3 fun t22 h4 =>
  oMinMax false [v3, t22] h4 fun t23 h5 =>
  oBin .add v4 (Value.int .i64 1) h5 fun t17 h6 =>
  Qv .normal (ul (E_slices_Min_Sint_int_2 v0 v3 v4 d) [(3, t23), (4, t17), (12, v4), (13, v0), (14, t14), (15, t15), (16, v4), (17, t17), (18, v3), (19, v0), (20, v4), (21, t21), (22, t22), (23, t23)]) h6)
  ((qSeq (aw Try.prog O_slices_Min_Sint_int K_slices_Min_Sint_int_4 Qv) Qv) (.exit 0) (ul (E_slices_Min_Sint_int_2 v0 v3 v4 d) [(12, v4), (13, v0), (14, t14), (15, t15)]) h2)
theorem ga_slices_Min_Sint_int_2 (Qv : Post) (v0 : Value) (v3 : Value) (v4 : Value) (d : Nat → Value) (h : Hp) : aw Try.prog O_slices_Min_Sint_int K_slices_Min_Sint_int_3 Qv (E_slices_Min_Sint_int_2 v0 v3 v4 d) h = X_slices_Min_Sint_int_2 Qv v0 v3 v4 d h := by kernel_rfl
theorem gb_slices_Min_Sint_int_2 (K : Kont) (s0 : Self) (v0 : Value) (v3 : Value) (v4 : Value) (d : Nat → Value) (h : Hp) : X_slices_Min_Sint_int_2 (Q_slices_Min_Sint_int_2 K s0) v0 v3 v4 d h = B_slices_Min_Sint_int_2 K s0 v0 v3 v4 d h := by kernel_rfl
theorem beq_slices_Min_Sint_int_2 (K : Kont) (s0 : Self) (v0 : Value) (v3 : Value) (v4 : Value) (d : Nat → Value) (h : Hp) : aw Try.prog O_slices_Min_Sint_int K_slices_Min_Sint_int_3 (Q_slices_Min_Sint_int_2 K s0) (E_slices_Min_Sint_int_2 v0 v3 v4 d) h = B_slices_Min_Sint_int_2 K s0 v0 v3 v4 d h := (ga_slices_Min_Sint_int_2 _ v0 v3 v4 d h).trans (gb_slices_Min_Sint_int_2 K s0 v0 v3 v4 d h)
theorem rule_slices_Min_Sint_int_2 {K : Kont} {v0 : Value} (Inv : Value → Value → Hp → Prop) (μ : Value → Value → Hp → Nat)
    (step : ∀ (s0 : Self) (v3 : Value) (v4 : Value) (d : Nat → Value) (h : Hp), Inv v3 v4 h → (∀ (v3' : Value) (v4' : Value) (d' : Nat → Value) (h' : Hp), Inv v3' v4' h' → μ v3' v4' h' < μ v3 v4 h → s0 (E_slices_Min_Sint_int_2 v0 v3' v4' d') h') → B_slices_Min_Sint_int_2 K s0 v0 v3 v4 d h) (v3 : Value) (v4 : Value) (d : Nat → Value) (h : Hp) (hi : Inv v3 v4 h) : G_slices_Min_Sint_int_2 K v0 v3 v4 d h :=
  oLoop_rule (α := Value × Value × (Nat → Value)) (fun x => E_slices_Min_Sint_int_2 v0 x.1 x.2.1 x.2.2) (fun x h => Inv x.1 x.2.1 h) (fun x h => μ x.1 x.2.1 h)
    (fun self x h hx hs => (beq_slices_Min_Sint_int_2 K self v0 x.1 x.2.1 x.2.2 h).mpr (step self x.1 x.2.1 x.2.2 h hx (fun v3' v4' d' h' h1 h2 => hs ⟨v3', v4', d'⟩ h' h1 h2))) ⟨v3, v4, d⟩ h hi

/-! ### maps.Keys[map[int]catenary/api.Vote,int,catenary/api.Vote]: function 49 -/
def O_maps_Keys_map_int_api_Vote_int_api_Vote : Od := []
def G_maps_Keys_map_int_api_Vote_int_api_Vote (a0 : Value) (h : Hp) (K : Kont) : Prop :=
  oBox a0 h fun t1 h1 =>
  K (.func (Go.Fn.func 76) #[] #[t1]) h1
def E0_maps_Keys_map_int_api_Vote_int_api_Vote (a0 : Value) : List Value := [a0, undef, undef, undef]
def X_maps_Keys_map_int_api_Vote_int_api_Vote (Qv : Post) (a0 : Value) (h : Hp) : Prop :=
  oBox a0 h fun t1 h1 =>
  Qv .ret (ul (E0_maps_Keys_map_int_api_Vote_int_api_Vote a0) [(1, t1), (2, (.func (Go.Fn.func 76) #[] #[t1])), (3, (.func (Go.Fn.func 76) #[] #[t1]))]) h1
theorem ga_maps_Keys_map_int_api_Vote_int_api_Vote (Qv : Post) (a0 : Value) (h : Hp) : aw Try.prog O_maps_Keys_map_int_api_Vote_int_api_Vote (bodyC Try.f49) Qv (E0_maps_Keys_map_int_api_Vote_int_api_Vote a0) h = X_maps_Keys_map_int_api_Vote_int_api_Vote Qv a0 h := by kernel_rfl
theorem gb_maps_Keys_map_int_api_Vote_int_api_Vote (a0 : Value) (h : Hp) (K : Kont) : X_maps_Keys_map_int_api_Vote_int_api_Vote (qTop Try.prog Try.f49 K) a0 h = G_maps_Keys_map_int_api_Vote_int_api_Vote a0 h K := by kernel_rfl
theorem gc_maps_Keys_map_int_api_Vote_int_api_Vote (a0 : Value) (h : Hp) (K : Kont) : abody Try.prog O_maps_Keys_map_int_api_Vote_int_api_Vote Try.f49 (bodyC Try.f49) [a0] h K = aw Try.prog O_maps_Keys_map_int_api_Vote_int_api_Vote (bodyC Try.f49) (qTop Try.prog Try.f49 K) (E0_maps_Keys_map_int_api_Vote_int_api_Vote a0) h := by kernel_rfl
theorem eq_maps_Keys_map_int_api_Vote_int_api_Vote (a0 : Value) (h : Hp) (K : Kont) : abody Try.prog O_maps_Keys_map_int_api_Vote_int_api_Vote Try.f49 (bodyC Try.f49) [a0] h K = G_maps_Keys_map_int_api_Vote_int_api_Vote a0 h K := (gc_maps_Keys_map_int_api_Vote_int_api_Vote a0 h K).trans ((ga_maps_Keys_map_int_api_Vote_int_api_Vote _ a0 h).trans (gb_maps_Keys_map_int_api_Vote_int_api_Vote a0 h K))
theorem ok_maps_Keys_map_int_api_Vote_int_api_Vote {a0 : Value} {h : Hp} {K : Kont} (hk : G_maps_Keys_map_int_api_Vote_int_api_Vote a0 h K) : C_maps_Keys_map_int_api_Vote_int_api_Vote [a0] h K := ac_of_body prog_mixed (fn := Try.f49) Try.func49 (c := bodyC Try.f49) (by kernel_rfl) ((eq_maps_Keys_map_int_api_Vote_int_api_Vote a0 h K).mpr hk)

/-! ### catenary/catenaryref11.Put: function 50 -/
def O_r11_Put : Od := [(3, (.one 0 true (.one 1 true (.one 2 true (.one 3 true (.one 4 true (.one 5 true (.one 6 true (.one 7 true (.one 8 true (.one 9 true (.one 10 true (.one 11 true (.one 12 true (.one 13 true .nil))))))))))))))), (7, (.one 0 true (.one 1 true (.one 2 true (.one 3 true (.one 4 true (.one 5 true (.one 6 true (.one 7 true (.one 8 true (.one 9 true (.one 10 true (.one 11 true (.one 12 true (.one 13 true .nil)))))))))))))))]
noncomputable def K_r11_Put_0 : Code := (cI (cA (cB (cB (cB (bodyC Try.f50))))))
noncomputable def K_r11_Put_1 : Code := (cB (cB (cB (cB (bodyC Try.f50)))))
def Q_r11_Put_0 (K : Kont) : Post := qSeq (aw Try.prog O_r11_Put K_r11_Put_1 (qTop Try.prog Try.f50 K)) (qTop Try.prog Try.f50 K)
def Q_r11_Put_1 (K : Kont) : Post := qBlk 0 (Q_r11_Put_0 K)
def E_r11_Put_1 (v0 : Value) (v3 : Value) (v5 : Value) (v6 : Value) (d : Nat → Value) : List Value := [v0, d 1, d 2, v3, d 4, v5, v6, d 7, d 8, d 9, d 10, d 11, d 12, d 13, d 14, d 15, d 16, d 17, d 18, d 19, d 20, d 21, d 22, d 23, d 24, d 25, d 26, d 27, d 28, d 29, d 30, d 31, d 32, d 33, d 34, d 35, d 36, d 37, d 38, d 39, d 40, d 41, d 42, d 43, d 44, d 45, d 46, d 47, d 48, d 49, d 50, d 51, d 52, d 53, d 54]
def G_r11_Put_1 (K : Kont) (v0 : Value) (v3 : Value) (v5 : Value) (v6 : Value) (d : Nat → Value) (h : Hp) : Prop := aw Try.prog O_r11_Put K_r11_Put_0 (Q_r11_Put_1 K) (E_r11_Put_1 v0 v3 v5 v6 d) h
def Q_r11_Put_2 (K : Kont) (s0 : Self) : Post := qSeq s0 (Q_r11_Put_1 K)
noncomputable def K_r11_Put_2 : Code := (cI (cI (cA (cB (cB (cB (bodyC Try.f50)))))))
noncomputable def K_r11_Put_3 : Code := (cB (cB (cB (cB (cB (cB (bodyC Try.f50)))))))
def E_r11_Put_2 (v0 : Value) (v5 : Value) (v6 : Value) (d : Nat → Value) : List Value := [v0, d 1, d 2, d 3, d 4, v5, v6, d 7, d 8, d 9, d 10, d 11, d 12, d 13, d 14, d 15, d 16, d 17, d 18, d 19, d 20, d 21, d 22, d 23, d 24, d 25, d 26, d 27, d 28, d 29, d 30, d 31, d 32, d 33, d 34, d 35, d 36, d 37, d 38, d 39, d 40, d 41, d 42, d 43, d 44, d 45, d 46, d 47, d 48, d 49, d 50, d 51, d 52, d 53, d 54]
def G_r11_Put_2 (K : Kont) (v0 : Value) (v5 : Value) (v6 : Value) (d : Nat → Value) (h : Hp) : Prop := aw Try.prog O_r11_Put K_r11_Put_3 (qTop Try.prog Try.f50 K) (E_r11_Put_2 v0 v5 v6 d) h
noncomputable def K_r11_Put_4 : Code := (cB (cI (cI (cA (cB (cB (cB (bodyC Try.f50))))))))
def G_r11_Put (a0 a1 : Value) (h : Hp) (K : Kont) : Prop :=
  oBox a1 h fun t3 h1 =>
  G_r11_Put_1 K a0 t3 (Value.slice none 0 0) (Value.int .i64 0) (ud [(1, a1), (4, (Value.slice none 0 0))] dz) h1
def E0_r11_Put (a0 a1 : Value) : List Value := [a0, a1, undef, undef, undef, undef, undef, undef, undef, undef, undef, undef, undef, undef, undef, undef, undef, undef, undef, undef, undef, undef, undef, undef, undef, undef, undef, undef, undef, undef, undef, undef, undef, undef, undef, undef, undef, undef, undef, undef, undef, undef, undef, undef, undef, undef, undef, undef, undef, undef, undef, undef, undef, undef, undef]
def X_r11_Put (Qv : Post) (a0 a1 : Value) (h : Hp) : Prop :=
  oBox a1 h fun t3 h1 =>
  aw Try.prog O_r11_Put K_r11_Put_0 (qBlk 0 (qSeq (aw Try.prog O_r11_Put K_r11_Put_1 Qv) Qv)) (ul (E0_r11_Put a0 a1) [(3, t3), (4, (Value.slice none 0 0)), (5, (Value.slice none 0 0)), (6, (Value.int .i64 0))]) h1
theorem ga_r11_Put (Qv : Post) (a0 a1 : Value) (h : Hp) : aw Try.prog O_r11_Put (bodyC Try.f50) Qv (E0_r11_Put a0 a1) h = X_r11_Put Qv a0 a1 h := by kernel_rfl
theorem gb_r11_Put (a0 a1 : Value) (h : Hp) (K : Kont) : X_r11_Put (qTop Try.prog Try.f50 K) a0 a1 h = G_r11_Put a0 a1 h K := by kernel_rfl
theorem gc_r11_Put (a0 a1 : Value) (h : Hp) (K : Kont) : abody Try.prog O_r11_Put Try.f50 (bodyC Try.f50) [a0, a1] h K = aw Try.prog O_r11_Put (bodyC Try.f50) (qTop Try.prog Try.f50 K) (E0_r11_Put a0 a1) h := by kernel_rfl
theorem eq_r11_Put (a0 a1 : Value) (h : Hp) (K : Kont) : abody Try.prog O_r11_Put Try.f50 (bodyC Try.f50) [a0, a1] h K = G_r11_Put a0 a1 h K := (gc_r11_Put a0 a1 h K).trans ((ga_r11_Put _ a0 a1 h).trans (gb_r11_Put a0 a1 h K))
theorem ok_r11_Put {a0 a1 : Value} {h : Hp} {K : Kont} (hk : G_r11_Put a0 a1 h K) : C_r11_Put [a0, a1] h K := ac_of_body prog_mixed (fn := Try.f50) Try.func50 (c := bodyC Try.f50) (by kernel_rfl) ((eq_r11_Put a0 a1 h K).mpr hk)
def B_r11_Put_1 (K : Kont) (s0 : Self) (v0 : Value) (v3 : Value) (v5 : Value) (v6 : Value) (d : Nat → Value) (h : Hp) : Prop :=
  oLen 0 v0 h fun t9 h1 =>
  oBin .lss v6 t9 h1 fun t10 h2 =>
  oGuard t10 true (fun K => K v0 h2) h2 fun t12 h3 =>
  oGuard t10 true (fun K => K v6 h3) h3 fun t13 h4 =>
  oGuard t10 true (fun K => oIdxS 6 t12 t13 h4 K) h4 fun t14 h5 =>
  oGuard t10 true (fun K => oFieldAddr 0 t14 h5 K) h5 fun t15 h6 =>
  oGuard t10 true (fun K => oLd1 t15 h6 K) h6 fun t16 h7 =>
  oGuard t10 true (fun K => oFieldAddr 0 v3 h7 K) h7 fun t17 h8 =>
  oGuard t10 true (fun K => oLd1 t17 h8 K) h8 fun t18 h9 =>
  oGuard t10 true (fun K => oBin .lss t16 t18 h9 K) h9 fun t19 h10 =>
  oPick t10 t19 (Value.bool false) h10 fun t20 h11 =>
  oIf t20
  (oIdxS 6 v0 v6 h11 fun t24 h12 =>
  oLdN 6 t24 h12 fun t25 h13 =>
  oBuildSlice #[.int .i64 0, .int .u64 0, .int .i64 0, .int .i64 0, .int .u64 0, .int .i64 0] 1 [(0 * 6, 6, t25)] h13 fun t26 h14 =>
  oAppend 6 48 #[.int .i64 0, .int .u64 0, .int .i64 0, .int .i64 0, .int .u64 0, .int .i64 0] v5 t26 h14 fun t27 h15 =>
  oBin .add v6 (Value.int .i64 1) h15 fun t29 h16 =>
  s0 (E_r11_Put_1 v0 v3 t27 t29 (ud [(7, v6), (8, v0), (9, t9), (10, t10), (11, t10), (12, t12), (13, t13), (14, t14), (15, t15), (16, t16), (17, t17), (18, t18), (19, t19), (20, t20), (21, v5), (22, v0), (23, v6), (24, t24), (25, t25), (26, t26), (27, t27), (28, v6), (29, t29)] d)) h16)
  (oLdN 6 v3 h11 fun t31 h17 =>
  oBuildSlice #[.int .i64 0, .int .u64 0, .int .i64 0, .int .i64 0, .int .u64 0, .int .i64 0] 1 [(0 * 6, 6, t31)] h17 fun t32 h18 =>
  oAppend 6 48 #[.int .i64 0, .int .u64 0, .int .i64 0, .int .i64 0, .int .u64 0, .int .i64 0] v5 t32 h18 fun t33 h19 =>
  oLen 0 v0 h19 fun t36 h20 =>
  oBin .lss v6 t36 h20 fun t37 h21 =>
  oGuard t37 true (fun K => K v0 h21) h21 fun t39 h22 =>
  oGuard t37 true (fun K => K v6 h22) h22 fun t40 h23 =>
  oGuard t37 true (fun K => oIdxS 6 t39 t40 h23 K) h23 fun t41 h24 =>
  oGuard t37 true (fun K => oFieldAddr 0 t41 h24 K) h24 fun t42 h25 =>
  oGuard t37 true (fun K => oLd1 t42 h25 K) h25 fun t43 h26 =>
  oGuard t37 true (fun K => oFieldAddr 0 v3 h26 K) h26 fun t44 h27 =>
  oGuard t37 true (fun K => oLd1 t44 h27 K) h27 fun t45 h28 =>
  oGuard t37 true (fun K => oBin .eql t43 t45 h28 K) h28 fun t46 h29 =>
  oPick t37 t46 (Value.bool false) h29 fun t47 h30 =>
  oIf t47
  (oBin .add v6 (Value.int .i64 1) h30 fun t49 h31 =>
  G_r11_Put_2 K v0 t33 t49 (ud [(3, v3), (7, v6), (8, v0), (9, t9), (10, t10), (11, t10), (12, t12), (13, t13), (14, t14), (15, t15), (16, t16), (17, t17), (18, t18), (19, t19), (20, t20), (30, v5), (31, t31), (32, t32), (33, t33), (34, v6), (35, v0), (36, t36), (37, t37), (38, t37), (39, t39), (40, t40), (41, t41), (42, t42), (43, t43), (44, t44), (45, t45), (46, t46), (47, t47), (48, v6), (49, t49)] d) h31)
  (G_r11_Put_2 K v0 t33 v6 (ud [(3, v3), (7, v6), (8, v0), (9, t9), (10, t10), (11, t10), (12, t12), (13, t13), (14, t14), (15, t15), (16, t16), (17, t17), (18, t18), (19, t19), (20, t20), (30, v5), (31, t31), (32, t32), (33, t33), (34, v6), (35, v0), (36, t36), (37, t37), (38, t37), (39, t39), (40, t40), (41, t41), (42, t42), (43, t43), (44, t44), (45, t45), (46, t46), (47, t47)] d) h30))
def X_r11_Put_1 (Qv : Post) (v0 : Value) (v3 : Value) (v5 : Value) (v6 : Value) (d : Nat → Value) (h : Hp) : Prop :=
  oLen 0 v0 h fun t9 h1 =>
  oBin .lss v6 t9 h1 fun t10 h2 =>
  oGuard t10 true (fun K => K v0 h2) h2 fun t12 h3 =>
  oGuard t10 true (fun K => K v6 h3) h3 fun t13 h4 =>
  oGuard t10 true (fun K => oIdxS 6 t12 t13 h4 K) h4 fun t14 h5 =>
  oGuard t10 true (fun K => oFieldAddr 0 t14 h5 K) h5 fun t15 h6 =>
  oGuard t10 true (fun K => oLd1 t15 h6 K) h6 fun t16 h7 =>
  oGuard t10 true (fun K => oFieldAddr 0 v3 h7 K) h7 fun t17 h8 =>
  oGuard t10 true (fun K => oLd1 t17 h8 K) h8 fun t18 h9 =>
  oGuard t10 true (fun K => oBin .lss t16 t18 h9 K) h9 fun t19 h10 =>
  oPick t10 t19 (Value.bool false) h10 fun t20 h11 =>
  oIf t20
  (oIdxS 6 v0 v6 h11 fun t24 h12 =>
  oLdN 6 t24 h12 fun t25 h13 =>
  oBuildSlice #[.int .i64 0, .int .u64 0, .int .i64 0, .int .i64 0, .int .u64 0, .int .i64 0] 1 [(0 * 6, 6, t25)] h13 fun t26 h14 =>
  oAppend 6 48 #[.int .i64 0, .int .u64 0, .int .i64 0, .int .i64 0, .int .u64 0, .int .i64 0] v5 t26 h14 fun t27 h15 =>
  oBin .add v6 (Value.int .i64 1) h15 fun t29 h16 =>
  (qBlk 1 Qv) .normal (ul (E_r11_Put_1 v0 v3 v5 v6 d) [(5, t27), (6, t29), (7, v6), (8, v0), (9, t9), (10, t10), (11, t10), (12, t12), (13, t13), (14, t14), (15, t15), (16, t16), (17, t17), (18, t18), (19, t19), (20, t20), (21, v5), (22, v0), (23, v6), (24, t24), (25, t25), (26, t26), (27, t27), (28, v6), (29, t29)]) h16)
  ((qSeq (aw Try.prog O_r11_Put K_r11_Put_4 Qv) Qv) (.exit 0) (ul (E_r11_Put_1 v0 v3 v5 v6 d) [(7, v6), (8, v0), (9, t9), (10, t10), (11, t10), (12, t12), (13, t13), (14, t14), (15, t15), (16, t16), (17, t17), (18, t18), (19, t19), (20, t20)]) h11)
theorem ga_r11_Put_1 (Qv : Post) (v0 : Value) (v3 : Value) (v5 : Value) (v6 : Value) (d : Nat → Value) (h : Hp) : aw Try.prog O_r11_Put K_r11_Put_2 Qv (E_r11_Put_1 v0 v3 v5 v6 d) h = X_r11_Put_1 Qv v0 v3 v5 v6 d h := by kernel_rfl
theorem gb_r11_Put_1 (K : Kont) (s0 : Self) (v0 : Value) (v3 : Value) (v5 : Value) (v6 : Value) (d : Nat → Value) (h : Hp) : X_r11_Put_1 (Q_r11_Put_2 K s0) v0 v3 v5 v6 d h = B_r11_Put_1 K s0 v0 v3 v5 v6 d h := by kernel_rfl
theorem beq_r11_Put_1 (K : Kont) (s0 : Self) (v0 : Value) (v3 : Value) (v5 : Value) (v6 : Value) (d : Nat → Value) (h : Hp) : aw Try.prog O_r11_Put K_r11_Put_2 (Q_r11_Put_2 K s0) (E_r11_Put_1 v0 v3 v5 v6 d) h = B_r11_Put_1 K s0 v0 v3 v5 v6 d h := (ga_r11_Put_1 _ v0 v3 v5 v6 d h).trans (gb_r11_Put_1 K s0 v0 v3 v5 v6 d h)
theorem rule_r11_Put_1 {K : Kont} {v0 : Value} {v3 : Value} (Inv : Value → Value → Hp → Prop) (μ : Value → Value → Hp → Nat)
    (step : ∀ (s0 : Self) (v5 : Value) (v6 : Value) (d : Nat → Value) (h : Hp), Inv v5 v6 h → (∀ (v5' : Value) (v6' : Value) (d' : Nat → Value) (h' : Hp), Inv v5' v6' h' → μ v5' v6' h' < μ v5 v6 h → s0 (E_r11_Put_1 v0 v3 v5' v6' d') h') → B_r11_Put_1 K s0 v0 v3 v5 v6 d h) (v5 : Value) (v6 : Value) (d : Nat → Value) (h : Hp) (hi : Inv v5 v6 h) : G_r11_Put_1 K v0 v3 v5 v6 d h :=
  oLoop_rule (α := Value × Value × (Nat → Value)) (fun x => E_r11_Put_1 v0 v3 x.1 x.2.1 x.2.2) (fun x h => Inv x.1 x.2.1 h) (fun x h => μ x.1 x.2.1 h)
    (fun self x h hx hs => (beq_r11_Put_1 K self v0 v3 x.1 x.2.1 x.2.2 h).mpr (step self x.1 x.2.1 x.2.2 h hx (fun v5' v6' d' h' h1 h2 => hs ⟨v5', v6', d'⟩ h' h1 h2))) ⟨v5, v6, d⟩ h hi
def R_r11_Put_2 (K : Kont) (v0 : Value) (v5 : Value) (v6 : Value) (d : Nat → Value) (h : Hp) : Prop :=
  oSlice 0 6 v0 (some v6) none none h fun t53 h1 =>
  oAppend 6 48 #[.int .i64 0, .int .u64 0, .int .i64 0, .int .i64 0, .int .u64 0, .int .i64 0] v5 t53 h1 fun t54 h2 =>
  K t54 h2
def X_r11_Put_2 (Qv : Post) (v0 : Value) (v5 : Value) (v6 : Value) (d : Nat → Value) (h : Hp) : Prop :=
  oSlice 0 6 v0 (some v6) none none h fun t53 h1 =>
  oAppend 6 48 #[.int .i64 0, .int .u64 0, .int .i64 0, .int .i64 0, .int .u64 0, .int .i64 0] v5 t53 h1 fun t54 h2 =>
  Qv .ret (ul (E_r11_Put_2 v0 v5 v6 d) [(4, t54), (50, v5), (51, v0), (52, v6), (53, t53), (54, t54)]) h2
theorem ga_r11_Put_2 (Qv : Post) (v0 : Value) (v5 : Value) (v6 : Value) (d : Nat → Value) (h : Hp) : aw Try.prog O_r11_Put K_r11_Put_3 Qv (E_r11_Put_2 v0 v5 v6 d) h = X_r11_Put_2 Qv v0 v5 v6 d h := by kernel_rfl
theorem gb_r11_Put_2 (K : Kont) (v0 : Value) (v5 : Value) (v6 : Value) (d : Nat → Value) (h : Hp) : X_r11_Put_2 (qTop Try.prog Try.f50 K) v0 v5 v6 d h = R_r11_Put_2 K v0 v5 v6 d h := by kernel_rfl
theorem req_r11_Put_2 (K : Kont) (v0 : Value) (v5 : Value) (v6 : Value) (d : Nat → Value) (h : Hp) : G_r11_Put_2 K v0 v5 v6 d h = R_r11_Put_2 K v0 v5 v6 d h := (ga_r11_Put_2 _ v0 v5 v6 d h).trans (gb_r11_Put_2 K v0 v5 v6 d h)

/-! ### catenary/ballot.Next: function 51 -/
def O_ballot_Next : Od := []
noncomputable def K_ballot_Next_0 : Code := (cB (cB (cB (cB (bodyC Try.f51)))))
def E_ballot_Next_1 (v1 : Value) (v6 : Value) (d : Nat → Value) : List Value := [d 0, v1, d 2, d 3, d 4, d 5, v6, d 7, d 8, d 9, d 10, d 11, d 12, d 13, d 14, d 15, d 16, d 17, d 18, d 19, d 20, d 21, d 22, d 23, d 24, d 25, d 26, d 27, d 28]
def G_ballot_Next_1 (K : Kont) (v1 : Value) (v6 : Value) (d : Nat → Value) (h : Hp) : Prop := aw Try.prog O_ballot_Next K_ballot_Next_0 (qTop Try.prog Try.f51 K) (E_ballot_Next_1 v1 v6 d) h
noncomputable def K_ballot_Next_1 : Code := (cB (cB (bodyC Try.f51)))
noncomputable def K_ballot_Next_2 : Code := (cB (cB (cB (cB (cB (bodyC Try.f51))))))
def G_ballot_Next (a0 a1 : Value) (h : Hp) (K : Kont) : Prop :=
  C_ballot_master [a1] h fun t8 h1 =>
  oNot t8 h1 fun t9 h2 =>
  oIf t9
  (K (.tuple #[(Value.int .u64 0), (Value.int .i64 1)]) h2)
  (oBin .quo a0 (Value.int .u64 8) h2 fun t11 h3 =>
  oMinMax true [t11, (Value.int .u64 1)] h3 fun t12 h4 =>
  oBin .mul (Value.int .u64 8) t12 h4 fun t14 h5 =>
  oConvInt .u64 a1 h5 fun t16 h6 =>
  oBin .add t14 t16 h6 fun t17 h7 =>
  oBin .leq t17 a0 h7 fun t19 h8 =>
  oIf t19
  (oBin .add t12 (Value.int .u64 1) h8 fun t21 h9 =>
  G_ballot_Next_1 K a1 t21 (ud [(0, a0), (4, (Value.int .u64 0)), (5, (Value.int .i64 0)), (7, a1), (8, t8), (9, t9), (10, a0), (11, t11), (12, t12), (13, t12), (14, t14), (15, a1), (16, t16), (17, t17), (18, a0), (19, t19), (20, t12), (21, t21)] dz) h9)
  (G_ballot_Next_1 K a1 t12 (ud [(0, a0), (4, (Value.int .u64 0)), (5, (Value.int .i64 0)), (7, a1), (8, t8), (9, t9), (10, a0), (11, t11), (12, t12), (13, t12), (14, t14), (15, a1), (16, t16), (17, t17), (18, a0), (19, t19)] dz) h8))
def E0_ballot_Next (a0 a1 : Value) : List Value := [a0, a1, undef, undef, undef, undef, undef, undef, undef, undef, undef, undef, undef, undef, undef, undef, undef, undef, undef, undef, undef, undef, undef, undef, undef, undef, undef, undef, undef]
def X_ballot_Next (Qv : Post) (a0 a1 : Value) (h : Hp) : Prop :=
  C_ballot_master [a1] h fun t8 h1 =>
  oNot t8 h1 fun t9 h2 =>
  oIf t9
  ((qSeq (aw Try.prog O_ballot_Next K_ballot_Next_1 Qv) Qv) .ret (ul (E0_ballot_Next a0 a1) [(4, (Value.int .u64 0)), (5, (Value.int .i64 1)), (7, a1), (8, t8), (9, t9)]) h2)
  (oBin .quo a0 (Value.int .u64 8) h2 fun t11 h3 =>
  oMinMax true [t11, (Value.int .u64 1)] h3 fun t12 h4 =>
  oBin .mul (Value.int .u64 8) t12 h4 fun t14 h5 =>
  oConvInt .u64 a1 h5 fun t16 h6 =>
  oBin .add t14 t16 h6 fun t17 h7 =>
  oBin .leq t17 a0 h7 fun t19 h8 =>
  oIf t19
  (oBin .add t12 (Value.int .u64 1) h8 fun t21 h9 =>
  (qSeq (aw Try.prog O_ballot_Next K_ballot_Next_0 Qv) Qv) .normal (ul (E0_ballot_Next a0 a1) [(4, (Value.int .u64 0)), (5, (Value.int .i64 0)), (6, t21), (7, a1), (8, t8), (9, t9), (10, a0), (11, t11), (12, t12), (13, t12), (14, t14), (15, a1), (16, t16), (17, t17), (18, a0), (19, t19), (20, t12), (21, t21)]) h9)
  ((qSeq (aw Try.prog O_ballot_Next K_ballot_Next_0 Qv) Qv) .normal (ul (E0_ballot_Next a0 a1) [(4, (Value.int .u64 0)), (5, (Value.int .i64 0)), (6, t12), (7, a1), (8, t8), (9, t9), (10, a0), (11, t11), (12, t12), (13, t12), (14, t14), (15, a1), (16, t16), (17, t17), (18, a0), (19, t19)]) h8))
theorem ga_ballot_Next (Qv : Post) (a0 a1 : Value) (h : Hp) : aw Try.prog O_ballot_Next (bodyC Try.f51) Qv (E0_ballot_Next a0 a1) h = X_ballot_Next Qv a0 a1 h := by kernel_rfl
theorem gb_ballot_Next (a0 a1 : Value) (h : Hp) (K : Kont) : X_ballot_Next (qTop Try.prog Try.f51 K) a0 a1 h = G_ballot_Next a0 a1 h K := by kernel_rfl
theorem gc_ballot_Next (a0 a1 : Value) (h : Hp) (K : Kont) : abody Try.prog O_ballot_Next Try.f51 (bodyC Try.f51) [a0, a1] h K = aw Try.prog O_ballot_Next (bodyC Try.f51) (qTop Try.prog Try.f51 K) (E0_ballot_Next a0 a1) h := by kernel_rfl
theorem eq_ballot_Next (a0 a1 : Value) (h : Hp) (K : Kont) : abody Try.prog O_ballot_Next Try.f51 (bodyC Try.f51) [a0, a1] h K = G_ballot_Next a0 a1 h K := (gc_ballot_Next a0 a1 h K).trans ((ga_ballot_Next _ a0 a1 h).trans (gb_ballot_Next a0 a1 h K))
theorem ok_ballot_Next {a0 a1 : Value} {h : Hp} {K : Kont} (hk : G_ballot_Next a0 a1 h K) : C_ballot_Next [a0, a1] h K := ac_of_body prog_mixed (fn := Try.f51) Try.func51 (c := bodyC Try.f51) (by kernel_rfl) ((eq_ballot_Next a0 a1 h K).mpr hk)
def R_ballot_Next_1 (K : Kont) (v1 : Value) (v6 : Value) (d : Nat → Value) (h : Hp) : Prop :=
  oBin .geq v6 (Value.int .u64 1152921504606846976) h fun t23 h1 =>
  oIf t23
  (K (.tuple #[(Value.int .u64 0), (Value.int .i64 9)]) h1)
  (C_ballot_Of [v6, v1] h1 fun t26 h2 =>
  oExtract t26 0 h2 fun t27 h3 =>
  oExtract t26 1 h3 fun t28 h4 =>
  K (.tuple #[t27, t28]) h4)
def X_ballot_Next_1 (Qv : Post) (v1 : Value) (v6 : Value) (d : Nat → Value) (h : Hp) : Prop :=
  oBin .geq v6 (Value.int .u64 1152921504606846976) h fun t23 h1 =>
  oIf t23
  ((qSeq (aw Try.prog O_ballot_Next K_ballot_Next_2 Qv) Qv) .ret (ul (E_ballot_Next_1 v1 v6 d) [(4, (Value.int .u64 0)), (5, (Value.int .i64 9)), (22, v6), (23, t23)]) h1)
  (C_ballot_Of [v6, v1] h1 fun t26 h2 =>
  oExtract t26 0 h2 fun t27 h3 =>
  oExtract t26 1 h3 fun t28 h4 =>
  Qv .ret (ul (E_ballot_Next_1 v1 v6 d) [(4, t27), (5, t28), (22, v6), (23, t23), (24, v6), (25, v1), (26, t26), (27, t27), (28, t28)]) h4)
theorem ga_ballot_Next_1 (Qv : Post) (v1 : Value) (v6 : Value) (d : Nat → Value) (h : Hp) : aw Try.prog O_ballot_Next K_ballot_Next_0 Qv (E_ballot_Next_1 v1 v6 d) h = X_ballot_Next_1 Qv v1 v6 d h := by kernel_rfl
theorem gb_ballot_Next_1 (K : Kont) (v1 : Value) (v6 : Value) (d : Nat → Value) (h : Hp) : X_ballot_Next_1 (qTop Try.prog Try.f51 K) v1 v6 d h = R_ballot_Next_1 K v1 v6 d h := by kernel_rfl
theorem req_ballot_Next_1 (K : Kont) (v1 : Value) (v6 : Value) (d : Nat → Value) (h : Hp) : G_ballot_Next_1 K v1 v6 d h = R_ballot_Next_1 K v1 v6 d h := (ga_ballot_Next_1 _ v1 v6 d h).trans (gb_ballot_Next_1 K v1 v6 d h)

/-! ### (*catenary/lead.Lead).is: function 52 -/
def O_lead_Lead_is : Od := []
def G_lead_Lead_is (a0 a1 a2 : Value) (h : Hp) (K : Kont) : Prop :=
  oEq 1 true none a0 (Value.pointer none) h fun t8 h1 =>
  oGuard t8 true (fun K => K a0 h1) h1 fun t10 h2 =>
  oGuard t8 true (fun K => oNilCheck t10 h2 K) h2 fun t11 h3 =>
  oGuard t8 true (fun K => oFieldAddr 2 t11 h3 K) h3 fun t12 h4 =>
  oGuard t8 true (fun K => oLd1 t12 h4 K) h4 fun t13 h5 =>
  oGuard t8 true (fun K => K a1 h5) h5 fun t14 h6 =>
  oGuard t8 true (fun K => oBin .eql t13 t14 h6 K) h6 fun t15 h7 =>
  oPick t8 t15 (Value.bool false) h7 fun t16 h8 =>
  oGuard t16 true (fun K => K a0 h8) h8 fun t18 h9 =>
  oGuard t16 true (fun K => oNilCheck t18 h9 K) h9 fun t19 h10 =>
  oGuard t16 true (fun K => oFieldAddr 3 t19 h10 K) h10 fun t20 h11 =>
  oGuard t16 true (fun K => oLd1 t20 h11 K) h11 fun t21 h12 =>
  oGuard t16 true (fun K => K a2 h12) h12 fun t22 h13 =>
  oGuard t16 true (fun K => oBin .eql t21 t22 h13 K) h13 fun t23 h14 =>
  oPick t16 t23 (Value.bool false) h14 fun t24 h15 =>
  K t24 h15
def E0_lead_Lead_is (a0 a1 a2 : Value) : List Value := [a0, a1, a2, undef, undef, undef, undef, undef, undef, undef, undef, undef, undef, undef, undef, undef, undef, undef, undef, undef, undef, undef, undef, undef, undef]
def X_lead_Lead_is (Qv : Post) (a0 a1 a2 : Value) (h : Hp) : Prop :=
  oEq 1 true none a0 (Value.pointer none) h fun t8 h1 =>
  oGuard t8 true (fun K => K a0 h1) h1 fun t10 h2 =>
  oGuard t8 true (fun K => oNilCheck t10 h2 K) h2 fun t11 h3 =>
  oGuard t8 true (fun K => oFieldAddr 2 t11 h3 K) h3 fun t12 h4 =>
  oGuard t8 true (fun K => oLd1 t12 h4 K) h4 fun t13 h5 =>
  oGuard t8 true (fun K => K a1 h5) h5 fun t14 h6 =>
  oGuard t8 true (fun K => oBin .eql t13 t14 h6 K) h6 fun t15 h7 =>
  oPick t8 t15 (Value.bool false) h7 fun t16 h8 =>
  oGuard t16 true (fun K => K a0 h8) h8 fun t18 h9 =>
  oGuard t16 true (fun K => oNilCheck t18 h9 K) h9 fun t19 h10 =>
  oGuard t16 true (fun K => oFieldAddr 3 t19 h10 K) h10 fun t20 h11 =>
  oGuard t16 true (fun K => oLd1 t20 h11 K) h11 fun t21 h12 =>
  oGuard t16 true (fun K => K a2 h12) h12 fun t22 h13 =>
  oGuard t16 true (fun K => oBin .eql t21 t22 h13 K) h13 fun t23 h14 =>
  oPick t16 t23 (Value.bool false) h14 fun t24 h15 =>
  Qv .ret (ul (E0_lead_Lead_is a0 a1 a2) [(6, t24), (7, a0), (8, t8), (9, t8), (10, t10), (11, t11), (12, t12), (13, t13), (14, t14), (15, t15), (16, t16), (17, t16), (18, t18), (19, t19), (20, t20), (21, t21), (22, t22), (23, t23), (24, t24)]) h15
theorem ga_lead_Lead_is (Qv : Post) (a0 a1 a2 : Value) (h : Hp) : aw Try.prog O_lead_Lead_is (bodyC Try.f52) Qv (E0_lead_Lead_is a0 a1 a2) h = X_lead_Lead_is Qv a0 a1 a2 h := by kernel_rfl
theorem gb_lead_Lead_is (a0 a1 a2 : Value) (h : Hp) (K : Kont) : X_lead_Lead_is (qTop Try.prog Try.f52 K) a0 a1 a2 h = G_lead_Lead_is a0 a1 a2 h K := by kernel_rfl
theorem gc_lead_Lead_is (a0 a1 a2 : Value) (h : Hp) (K : Kont) : abody Try.prog O_lead_Lead_is Try.f52 (bodyC Try.f52) [a0, a1, a2] h K = aw Try.prog O_lead_Lead_is (bodyC Try.f52) (qTop Try.prog Try.f52 K) (E0_lead_Lead_is a0 a1 a2) h := by kernel_rfl
theorem eq_lead_Lead_is (a0 a1 a2 : Value) (h : Hp) (K : Kont) : abody Try.prog O_lead_Lead_is Try.f52 (bodyC Try.f52) [a0, a1, a2] h K = G_lead_Lead_is a0 a1 a2 h K := (gc_lead_Lead_is a0 a1 a2 h K).trans ((ga_lead_Lead_is _ a0 a1 a2 h).trans (gb_lead_Lead_is a0 a1 a2 h K))
theorem ok_lead_Lead_is {a0 a1 a2 : Value} {h : Hp} {K : Kont} (hk : G_lead_Lead_is a0 a1 a2 h K) : C_lead_Lead_is [a0, a1, a2] h K := ac_of_body prog_mixed (fn := Try.f52) Try.func52 (c := bodyC Try.f52) (by kernel_rfl) ((eq_lead_Lead_is a0 a1 a2 h K).mpr hk)

/-! ### (*catenary/lead.Lead).master: function 53 -/
def O_lead_Lead_master : Od := []
def G_lead_Lead_master (a0 a1 : Value) (h : Hp) (K : Kont) : Prop :=
  oBin .geq a1 (Value.int .i64 1) h fun t6 h1 =>
  oGuard t6 true (fun K => K a1 h1) h1 fun t8 h2 =>
  oGuard t6 true (fun K => K a0 h2) h2 fun t9 h3 =>
  oGuard t6 true (fun K => oNilCheck t9 h3 K) h3 fun t10 h4 =>
  oGuard t6 true (fun K => oFieldAddr 1 t10 h4 K) h4 fun t11 h5 =>
  oGuard t6 true (fun K => oLd1 t11 h5 K) h5 fun t12 h6 =>
  oGuard t6 true (fun K => oBin .leq t8 t12 h6 K) h6 fun t13 h7 =>
  oPick t6 t13 (Value.bool false) h7 fun t14 h8 =>
  K t14 h8
def E0_lead_Lead_master (a0 a1 : Value) : List Value := [a0, a1, undef, undef, undef, undef, undef, undef, undef, undef, undef, undef, undef, undef, undef]
def X_lead_Lead_master (Qv : Post) (a0 a1 : Value) (h : Hp) : Prop :=
  oBin .geq a1 (Value.int .i64 1) h fun t6 h1 =>
  oGuard t6 true (fun K => K a1 h1) h1 fun t8 h2 =>
  oGuard t6 true (fun K => K a0 h2) h2 fun t9 h3 =>
  oGuard t6 true (fun K => oNilCheck t9 h3 K) h3 fun t10 h4 =>
  oGuard t6 true (fun K => oFieldAddr 1 t10 h4 K) h4 fun t11 h5 =>
  oGuard t6 true (fun K => oLd1 t11 h5 K) h5 fun t12 h6 =>
  oGuard t6 true (fun K => oBin .leq t8 t12 h6 K) h6 fun t13 h7 =>
  oPick t6 t13 (Value.bool false) h7 fun t14 h8 =>
  Qv .ret (ul (E0_lead_Lead_master a0 a1) [(4, t14), (5, a1), (6, t6), (7, t6), (8, t8), (9, t9), (10, t10), (11, t11), (12, t12), (13, t13), (14, t14)]) h8
theorem ga_lead_Lead_master (Qv : Post) (a0 a1 : Value) (h : Hp) : aw Try.prog O_lead_Lead_master (bodyC Try.f53) Qv (E0_lead_Lead_master a0 a1) h = X_lead_Lead_master Qv a0 a1 h := by kernel_rfl
theorem gb_lead_Lead_master (a0 a1 : Value) (h : Hp) (K : Kont) : X_lead_Lead_master (qTop Try.prog Try.f53 K) a0 a1 h = G_lead_Lead_master a0 a1 h K := by kernel_rfl
theorem gc_lead_Lead_master (a0 a1 : Value) (h : Hp) (K : Kont) : abody Try.prog O_lead_Lead_master Try.f53 (bodyC Try.f53) [a0, a1] h K = aw Try.prog O_lead_Lead_master (bodyC Try.f53) (qTop Try.prog Try.f53 K) (E0_lead_Lead_master a0 a1) h := by kernel_rfl
theorem eq_lead_Lead_master (a0 a1 : Value) (h : Hp) (K : Kont) : abody Try.prog O_lead_Lead_master Try.f53 (bodyC Try.f53) [a0, a1] h K = G_lead_Lead_master a0 a1 h K := (gc_lead_Lead_master a0 a1 h K).trans ((ga_lead_Lead_master _ a0 a1 h).trans (gb_lead_Lead_master a0 a1 h K))
theorem ok_lead_Lead_master {a0 a1 : Value} {h : Hp} {K : Kont} (hk : G_lead_Lead_master a0 a1 h K) : C_lead_Lead_master [a0, a1] h K := ac_of_body prog_mixed (fn := Try.f53) Try.func53 (c := bodyC Try.f53) (by kernel_rfl) ((eq_lead_Lead_master a0 a1 h K).mpr hk)

/-! ### slices.DeleteFunc[[]catenary/api.Vote,catenary/api.Vote]: function 54 -/
def O_slices_DeleteFunc_Sapi_Vote_api_Vote : Od := []
noncomputable def K_slices_DeleteFunc_Sapi_Vote_api_Vote_0 : Code := (cI (cB (cA (cB (cB (cB (bodyC Try.f54)))))))
noncomputable def K_slices_DeleteFunc_Sapi_Vote_api_Vote_1 : Code := (cB (cB (cB (cB (bodyC Try.f54)))))
def Q_slices_DeleteFunc_Sapi_Vote_api_Vote_0 (K : Kont) : Post := qSeq (aw Try.prog O_slices_DeleteFunc_Sapi_Vote_api_Vote K_slices_DeleteFunc_Sapi_Vote_api_Vote_1 (qTop Try.prog Try.f54 K)) (qTop Try.prog Try.f54 K)
def Q_slices_DeleteFunc_Sapi_Vote_api_Vote_1 (K : Kont) : Post := qBlk 0 (Q_slices_DeleteFunc_Sapi_Vote_api_Vote_0 K)
def E_slices_DeleteFunc_Sapi_Vote_api_Vote_1 (v0 : Value) (v1 : Value) (v5 : Value) (v6 : Value) (d : Nat → Value) : List Value := [v0, v1, d 2, d 3, d 4, v5, v6, d 7, d 8, d 9, d 10, d 11, d 12, d 13, d 14, d 15, d 16, d 17, d 18, d 19, d 20, d 21, d 22, d 23, d 24, d 25, d 26, d 27, d 28, d 29, d 30, d 31, d 32, d 33, d 34, d 35, d 36, d 37, d 38, d 39, d 40, d 41]
def G_slices_DeleteFunc_Sapi_Vote_api_Vote_1 (K : Kont) (v0 : Value) (v1 : Value) (v5 : Value) (v6 : Value) (d : Nat → Value) (h : Hp) : Prop := aw Try.prog O_slices_DeleteFunc_Sapi_Vote_api_Vote K_slices_DeleteFunc_Sapi_Vote_api_Vote_0 (Q_slices_DeleteFunc_Sapi_Vote_api_Vote_1 K) (E_slices_DeleteFunc_Sapi_Vote_api_Vote_1 v0 v1 v5 v6 d) h
noncomputable def K_slices_DeleteFunc_Sapi_Vote_api_Vote_2 : Code := (cB (cB (cB (bodyC Try.f54))))
def Q_slices_DeleteFunc_Sapi_Vote_api_Vote_2 (K : Kont) (s0 : Self) : Post := qSeq s0 (Q_slices_DeleteFunc_Sapi_Vote_api_Vote_1 K)
noncomputable def K_slices_DeleteFunc_Sapi_Vote_api_Vote_3 : Code := (cI (cI (cB (cA (cB (cB (cB (bodyC Try.f54))))))))
noncomputable def K_slices_DeleteFunc_Sapi_Vote_api_Vote_4 : Code := (cB (cB (cI (cI (cB (cA (cB (cB (cB (bodyC Try.f54))))))))))
def E_slices_DeleteFunc_Sapi_Vote_api_Vote_2 (v0 : Value) (v1 : Value) (v5 : Value) (v6 : Value) (d : Nat → Value) : List Value := [v0, v1, d 2, d 3, d 4, v5, v6, d 7, d 8, d 9, d 10, d 11, d 12, d 13, d 14, d 15, d 16, d 17, d 18, d 19, d 20, d 21, d 22, d 23, d 24, d 25, d 26, d 27, d 28, d 29, d 30, d 31, d 32, d 33, d 34, d 35, d 36, d 37, d 38, d 39, d 40, d 41]
def G_slices_DeleteFunc_Sapi_Vote_api_Vote_2 (K : Kont) (s0 : Self) (v0 : Value) (v1 : Value) (v5 : Value) (v6 : Value) (d : Nat → Value) (h : Hp) : Prop := aw Try.prog O_slices_DeleteFunc_Sapi_Vote_api_Vote K_slices_DeleteFunc_Sapi_Vote_api_Vote_4 (Q_slices_DeleteFunc_Sapi_Vote_api_Vote_2 K s0) (E_slices_DeleteFunc_Sapi_Vote_api_Vote_2 v0 v1 v5 v6 d) h
noncomputable def K_slices_DeleteFunc_Sapi_Vote_api_Vote_5 : Code := (cB (cI (cI (cB (cA (cB (cB (cB (bodyC Try.f54)))))))))
def G_slices_DeleteFunc_Sapi_Vote_api_Vote (a0 a1 : Value) (h : Hp) (K : Kont) : Prop :=
  C_slices_IndexFunc_Sapi_Vote_api_Vote [a0, a1] h fun t10 h1 =>
  oBin .eql t10 (Value.int .i64 (-1)) h1 fun t12 h2 =>
  oIf t12
  (K a0 h2)
  (oBin .add t10 (Value.int .i64 1) h2 fun t15 h3 =>
  G_slices_DeleteFunc_Sapi_Vote_api_Vote_1 K a0 a1 t10 t15 (ud [(4, (Value.slice none 0 0)), (8, a0), (9, a1), (10, t10), (11, t10), (12, t12), (14, t10), (15, t15)] dz) h3)
def E0_slices_DeleteFunc_Sapi_Vote_api_Vote (a0 a1 : Value) : List Value := [a0, a1, undef, undef, undef, undef, undef, undef, undef, undef, undef, undef, undef, undef, undef, undef, undef, undef, undef, undef, undef, undef, undef, undef, undef, undef, undef, undef, undef, undef, undef, undef, undef, undef, undef, undef, undef, undef, undef, undef, undef, undef]
def X_slices_DeleteFunc_Sapi_Vote_api_Vote (Qv : Post) (a0 a1 : Value) (h : Hp) : Prop :=
  C_slices_IndexFunc_Sapi_Vote_api_Vote [a0, a1] h fun t10 h1 =>
  oBin .eql t10 (Value.int .i64 (-1)) h1 fun t12 h2 =>
  oIf t12
  ((qSeq (aw Try.prog O_slices_DeleteFunc_Sapi_Vote_api_Vote K_slices_DeleteFunc_Sapi_Vote_api_Vote_2 Qv) Qv) .ret (ul (E0_slices_DeleteFunc_Sapi_Vote_api_Vote a0 a1) [(4, a0), (5, t10), (8, a0), (9, a1), (10, t10), (11, t10), (12, t12), (13, a0)]) h2)
  (oBin .add t10 (Value.int .i64 1) h2 fun t15 h3 =>
  aw Try.prog O_slices_DeleteFunc_Sapi_Vote_api_Vote K_slices_DeleteFunc_Sapi_Vote_api_Vote_0 (qBlk 0 (qSeq (aw Try.prog O_slices_DeleteFunc_Sapi_Vote_api_Vote K_slices_DeleteFunc_Sapi_Vote_api_Vote_1 Qv) Qv)) (ul (E0_slices_DeleteFunc_Sapi_Vote_api_Vote a0 a1) [(4, (Value.slice none 0 0)), (5, t10), (6, t15), (8, a0), (9, a1), (10, t10), (11, t10), (12, t12), (14, t10), (15, t15)]) h3)
theorem ga_slices_DeleteFunc_Sapi_Vote_api_Vote (Qv : Post) (a0 a1 : Value) (h : Hp) : aw Try.prog O_slices_DeleteFunc_Sapi_Vote_api_Vote (bodyC Try.f54) Qv (E0_slices_DeleteFunc_Sapi_Vote_api_Vote a0 a1) h = X_slices_DeleteFunc_Sapi_Vote_api_Vote Qv a0 a1 h := by kernel_rfl
theorem gb_slices_DeleteFunc_Sapi_Vote_api_Vote (a0 a1 : Value) (h : Hp) (K : Kont) : X_slices_DeleteFunc_Sapi_Vote_api_Vote (qTop Try.prog Try.f54 K) a0 a1 h = G_slices_DeleteFunc_Sapi_Vote_api_Vote a0 a1 h K := by kernel_rfl
theorem gc_slices_DeleteFunc_Sapi_Vote_api_Vote (a0 a1 : Value) (h : Hp) (K : Kont) : abody Try.prog O_slices_DeleteFunc_Sapi_Vote_api_Vote Try.f54 (bodyC Try.f54) [a0, a1] h K = aw Try.prog O_slices_DeleteFunc_Sapi_Vote_api_Vote (bodyC Try.f54) (qTop Try.prog Try.f54 K) (E0_slices_DeleteFunc_Sapi_Vote_api_Vote a0 a1) h := by kernel_rfl
theorem eq_slices_DeleteFunc_Sapi_Vote_api_Vote (a0 a1 : Value) (h : Hp) (K : Kont) : abody Try.prog O_slices_DeleteFunc_Sapi_Vote_api_Vote Try.f54 (bodyC Try.f54) [a0, a1] h K = G_slices_DeleteFunc_Sapi_Vote_api_Vote a0 a1 h K := (gc_slices_DeleteFunc_Sapi_Vote_api_Vote a0 a1 h K).trans ((ga_slices_DeleteFunc_Sapi_Vote_api_Vote _ a0 a1 h).trans (gb_slices_DeleteFunc_Sapi_Vote_api_Vote a0 a1 h K))
theorem ok_slices_DeleteFunc_Sapi_Vote_api_Vote {a0 a1 : Value} {h : Hp} {K : Kont} (hk : G_slices_DeleteFunc_Sapi_Vote_api_Vote a0 a1 h K) : C_slices_DeleteFunc_Sapi_Vote_api_Vote [a0, a1] h K := ac_of_body prog_mixed (fn := Try.f54) Try.func54 (c := bodyC Try.f54) (by kernel_rfl) ((eq_slices_DeleteFunc_Sapi_Vote_api_Vote a0 a1 h K).mpr hk)
def B_slices_DeleteFunc_Sapi_Vote_api_Vote_1 (K : Kont) (s0 : Self) (v0 : Value) (v1 : Value) (v5 : Value) (v6 : Value) (d : Nat → Value) (h : Hp) : Prop :=
  oLen 0 v0 h fun t18 h1 =>
  oBin .lss v6 t18 h1 fun t19 h2 =>
  oIf t19
  (oIdxS 6 v0 v6 h2 fun t24 h3 =>
  oLdN 6 t24 h3 fun t25 h4 =>
  oAlloc #[.int .i64 0, .int .u64 0, .int .i64 0, .int .i64 0, .int .u64 0, .int .i64 0] h4 fun t7 h5 =>
  oSt 6 t7 t25 h5 fun _ h6 =>
  oLdN 6 t7 h6 fun t27 h7 =>
  oCallV Try.prog v1 [t27] h7 fun t28 h8 =>
  oNot t28 h8 fun t29 h9 =>
  oIf t29
  (oLdN 6 t7 h9 fun t32 h10 =>
  oIdxS 6 v0 v5 h10 fun t33 h11 =>
  oSt 6 t33 t32 h11 fun _ h12 =>
  oBin .add v5 (Value.int .i64 1) h12 fun t35 h13 =>
  G_slices_DeleteFunc_Sapi_Vote_api_Vote_2 K s0 v0 v1 t35 v6 (ud [(7, t7), (16, v6), (17, v0), (18, t18), (19, t19), (22, v0), (23, v6), (24, t24), (25, t25), (26, v1), (27, t27), (28, t28), (29, t29), (30, v0), (31, v5), (32, t32), (33, t33), (34, v5), (35, t35)] d) h13)
  (G_slices_DeleteFunc_Sapi_Vote_api_Vote_2 K s0 v0 v1 v5 v6 (ud [(7, t7), (16, v6), (17, v0), (18, t18), (19, t19), (22, v0), (23, v6), (24, t24), (25, t25), (26, v1), (27, t27), (28, t28), (29, t29)] d) h9))
  (oSlice 0 6 v0 (some v5) none none h2 fun t38 h14 =>
  oClearSlice 6 #[.int .i64 0, .int .u64 0, .int .i64 0, .int .i64 0, .int .u64 0, .int .i64 0] t38 h14 fun _ h15 =>
  oSlice 0 6 v0 none (some v5) none h15 fun t41 h16 =>
  K t41 h16)
def X_slices_DeleteFunc_Sapi_Vote_api_Vote_1 (Qv : Post) (v0 : Value) (v1 : Value) (v5 : Value) (v6 : Value) (d : Nat → Value) (h : Hp) : Prop :=
  oLen 0 v0 h fun t18 h1 =>
  oBin .lss v6 t18 h1 fun t19 h2 =>
  oIf t19
  (oIdxS 6 v0 v6 h2 fun t24 h3 =>
  oLdN 6 t24 h3 fun t25 h4 =>
  oAlloc #[.int .i64 0, .int .u64 0, .int .i64 0, .int .i64 0, .int .u64 0, .int .i64 0] h4 fun t7 h5 =>
  oSt 6 t7 t25 h5 fun _ h6 =>
  oLdN 6 t7 h6 fun t27 h7 =>
  oCallV Try.prog v1 [t27] h7 fun t28 h8 =>
  oNot t28 h8 fun t29 h9 =>
  oIf t29
  (oLdN 6 t7 h9 fun t32 h10 =>
  oIdxS 6 v0 v5 h10 fun t33 h11 =>
  oSt 6 t33 t32 h11 fun _ h12 =>
  oBin .add v5 (Value.int .i64 1) h12 fun t35 h13 =>
  (qBlk 1 (qSeq (aw Try.prog O_slices_DeleteFunc_Sapi_Vote_api_Vote K_slices_DeleteFunc_Sapi_Vote_api_Vote_4 Qv) Qv)) .normal (ul (E_slices_DeleteFunc_Sapi_Vote_api_Vote_1 v0 v1 v5 v6 d) [(5, t35), (7, t7), (16, v6), (17, v0), (18, t18), (19, t19), (22, v0), (23, v6), (24, t24), (25, t25), (26, v1), (27, t27), (28, t28), (29, t29), (30, v0), (31, v5), (32, t32), (33, t33), (34, v5), (35, t35)]) h13)
  ((qBlk 1 (qSeq (aw Try.prog O_slices_DeleteFunc_Sapi_Vote_api_Vote K_slices_DeleteFunc_Sapi_Vote_api_Vote_4 Qv) Qv)) .normal (ul (E_slices_DeleteFunc_Sapi_Vote_api_Vote_1 v0 v1 v5 v6 d) [(7, t7), (16, v6), (17, v0), (18, t18), (19, t19), (22, v0), (23, v6), (24, t24), (25, t25), (26, v1), (27, t27), (28, t28), (29, t29)]) h9))
  ((qSeq (aw Try.prog O_slices_DeleteFunc_Sapi_Vote_api_Vote K_slices_DeleteFunc_Sapi_Vote_api_Vote_5 Qv) Qv) (.exit 0) (ul (E_slices_DeleteFunc_Sapi_Vote_api_Vote_1 v0 v1 v5 v6 d) [(16, v6), (17, v0), (18, t18), (19, t19)]) h2)
theorem ga_slices_DeleteFunc_Sapi_Vote_api_Vote_1 (Qv : Post) (v0 : Value) (v1 : Value) (v5 : Value) (v6 : Value) (d : Nat → Value) (h : Hp) : aw Try.prog O_slices_DeleteFunc_Sapi_Vote_api_Vote K_slices_DeleteFunc_Sapi_Vote_api_Vote_3 Qv (E_slices_DeleteFunc_Sapi_Vote_api_Vote_1 v0 v1 v5 v6 d) h = X_slices_DeleteFunc_Sapi_Vote_api_Vote_1 Qv v0 v1 v5 v6 d h := by kernel_rfl
theorem gb_slices_DeleteFunc_Sapi_Vote_api_Vote_1 (K : Kont) (s0 : Self) (v0 : Value) (v1 : Value) (v5 : Value) (v6 : Value) (d : Nat → Value) (h : Hp) : X_slices_DeleteFunc_Sapi_Vote_api_Vote_1 (Q_slices_DeleteFunc_Sapi_Vote_api_Vote_2 K s0) v0 v1 v5 v6 d h = B_slices_DeleteFunc_Sapi_Vote_api_Vote_1 K s0 v0 v1 v5 v6 d h := by kernel_rfl
theorem beq_slices_DeleteFunc_Sapi_Vote_api_Vote_1 (K : Kont) (s0 : Self) (v0 : Value) (v1 : Value) (v5 : Value) (v6 : Value) (d : Nat → Value) (h : Hp) : aw Try.prog O_slices_DeleteFunc_Sapi_Vote_api_Vote K_slices_DeleteFunc_Sapi_Vote_api_Vote_3 (Q_slices_DeleteFunc_Sapi_Vote_api_Vote_2 K s0) (E_slices_DeleteFunc_Sapi_Vote_api_Vote_1 v0 v1 v5 v6 d) h = B_slices_DeleteFunc_Sapi_Vote_api_Vote_1 K s0 v0 v1 v5 v6 d h := (ga_slices_DeleteFunc_Sapi_Vote_api_Vote_1 _ v0 v1 v5 v6 d h).trans (gb_slices_DeleteFunc_Sapi_Vote_api_Vote_1 K s0 v0 v1 v5 v6 d h)
theorem rule_slices_DeleteFunc_Sapi_Vote_api_Vote_1 {K : Kont} {v0 : Value} {v1 : Value} (Inv : Value → Value → Hp → Prop) (μ : Value → Value → Hp → Nat)
    (step : ∀ (s0 : Self) (v5 : Value) (v6 : Value) (d : Nat → Value) (h : Hp), Inv v5 v6 h → (∀ (v5' : Value) (v6' : Value) (d' : Nat → Value) (h' : Hp), Inv v5' v6' h' → μ v5' v6' h' < μ v5 v6 h → s0 (E_slices_DeleteFunc_Sapi_Vote_api_Vote_1 v0 v1 v5' v6' d') h') → B_slices_DeleteFunc_Sapi_Vote_api_Vote_1 K s0 v0 v1 v5 v6 d h) (v5 : Value) (v6 : Value) (d : Nat → Value) (h : Hp) (hi : Inv v5 v6 h) : G_slices_DeleteFunc_Sapi_Vote_api_Vote_1 K v0 v1 v5 v6 d h :=
  oLoop_rule (α := Value × Value × (Nat → Value)) (fun x => E_slices_DeleteFunc_Sapi_Vote_api_Vote_1 v0 v1 x.1 x.2.1 x.2.2) (fun x h => Inv x.1 x.2.1 h) (fun x h => μ x.1 x.2.1 h)
    (fun self x h hx hs => (beq_slices_DeleteFunc_Sapi_Vote_api_Vote_1 K self v0 v1 x.1 x.2.1 x.2.2 h).mpr (step self x.1 x.2.1 x.2.2 h hx (fun v5' v6' d' h' h1 h2 => hs ⟨v5', v6', d'⟩ h' h1 h2))) ⟨v5, v6, d⟩ h hi
def R_slices_DeleteFunc_Sapi_Vote_api_Vote_2 (K : Kont) (s0 : Self) (v0 : Value) (v1 : Value) (v5 : Value) (v6 : Value) (d : Nat → Value) (h : Hp) : Prop :=
  oBin .add v6 (Value.int .i64 1) h fun t21 h1 =>
  s0 (E_slices_DeleteFunc_Sapi_Vote_api_Vote_1 v0 v1 v5 t21 (ud [(20, v6), (21, t21)] d)) h1
def X_slices_DeleteFunc_Sapi_Vote_api_Vote_2 (Qv : Post) (v0 : Value) (v1 : Value) (v5 : Value) (v6 : Value) (d : Nat → Value) (h : Hp) : Prop :=
  oBin .add v6 (Value.int .i64 1) h fun t21 h1 =>
  Qv .normal (ul (E_slices_DeleteFunc_Sapi_Vote_api_Vote_2 v0 v1 v5 v6 d) [(6, t21), (20, v6), (21, t21)]) h1
theorem ga_slices_DeleteFunc_Sapi_Vote_api_Vote_2 (Qv : Post) (v0 : Value) (v1 : Value) (v5 : Value) (v6 : Value) (d : Nat → Value) (h : Hp) : aw Try.prog O_slices_DeleteFunc_Sapi_Vote_api_Vote K_slices_DeleteFunc_Sapi_Vote_api_Vote_4 Qv (E_slices_DeleteFunc_Sapi_Vote_api_Vote_2 v0 v1 v5 v6 d) h = X_slices_DeleteFunc_Sapi_Vote_api_Vote_2 Qv v0 v1 v5 v6 d h := by kernel_rfl
theorem gb_slices_DeleteFunc_Sapi_Vote_api_Vote_2 (K : Kont) (s0 : Self) (v0 : Value) (v1 : Value) (v5 : Value) (v6 : Value) (d : Nat → Value) (h : Hp) : X_slices_DeleteFunc_Sapi_Vote_api_Vote_2 (Q_slices_DeleteFunc_Sapi_Vote_api_Vote_2 K s0) v0 v1 v5 v6 d h = R_slices_DeleteFunc_Sapi_Vote_api_Vote_2 K s0 v0 v1 v5 v6 d h := by kernel_rfl
theorem req_slices_DeleteFunc_Sapi_Vote_api_Vote_2 (K : Kont) (s0 : Self) (v0 : Value) (v1 : Value) (v5 : Value) (v6 : Value) (d : Nat → Value) (h : Hp) : G_slices_DeleteFunc_Sapi_Vote_api_Vote_2 K s0 v0 v1 v5 v6 d h = R_slices_DeleteFunc_Sapi_Vote_api_Vote_2 K s0 v0 v1 v5 v6 d h := (ga_slices_DeleteFunc_Sapi_Vote_api_Vote_2 _ v0 v1 v5 v6 d h).trans (gb_slices_DeleteFunc_Sapi_Vote_api_Vote_2 K s0 v0 v1 v5 v6 d h)

/-! ### slices.Clone[[]catenary/api.Vote,catenary/api.Vote]: function 55 -/
def O_slices_Clone_Sapi_Vote_api_Vote : Od := []
noncomputable def K_slices_Clone_Sapi_Vote_api_Vote_0 : Code := (cB (cB (bodyC Try.f55)))
def G_slices_Clone_Sapi_Vote_api_Vote (a0 : Value) (h : Hp) (K : Kont) : Prop :=
  oEq 2 false none a0 (Value.slice none 0 0) h fun t4 h1 =>
  oIf t4
  (K (Value.slice none 0 0) h1)
  (oBuildSlice #[] 0 [] h1 fun t5 h2 =>
  oAppend 6 48 #[.int .i64 0, .int .u64 0, .int .i64 0, .int .i64 0, .int .u64 0, .int .i64 0] t5 a0 h2 fun t7 h3 =>
  K t7 h3)
def E0_slices_Clone_Sapi_Vote_api_Vote (a0 : Value) : List Value := [a0, undef, undef, undef, undef, undef, undef, undef]
def X_slices_Clone_Sapi_Vote_api_Vote (Qv : Post) (a0 : Value) (h : Hp) : Prop :=
  oEq 2 false none a0 (Value.slice none 0 0) h fun t4 h1 =>
  oIf t4
  ((qSeq (aw Try.prog O_slices_Clone_Sapi_Vote_api_Vote K_slices_Clone_Sapi_Vote_api_Vote_0 Qv) Qv) .ret (ul (E0_slices_Clone_Sapi_Vote_api_Vote a0) [(2, (Value.slice none 0 0)), (3, a0), (4, t4)]) h1)
  (oBuildSlice #[] 0 [] h1 fun t5 h2 =>
  oAppend 6 48 #[.int .i64 0, .int .u64 0, .int .i64 0, .int .i64 0, .int .u64 0, .int .i64 0] t5 a0 h2 fun t7 h3 =>
  Qv .ret (ul (E0_slices_Clone_Sapi_Vote_api_Vote a0) [(2, t7), (3, a0), (4, t4), (5, t5), (6, a0), (7, t7)]) h3)
theorem ga_slices_Clone_Sapi_Vote_api_Vote (Qv : Post) (a0 : Value) (h : Hp) : aw Try.prog O_slices_Clone_Sapi_Vote_api_Vote (bodyC Try.f55) Qv (E0_slices_Clone_Sapi_Vote_api_Vote a0) h = X_slices_Clone_Sapi_Vote_api_Vote Qv a0 h := by kernel_rfl
theorem gb_slices_Clone_Sapi_Vote_api_Vote (a0 : Value) (h : Hp) (K : Kont) : X_slices_Clone_Sapi_Vote_api_Vote (qTop Try.prog Try.f55 K) a0 h = G_slices_Clone_Sapi_Vote_api_Vote a0 h K := by kernel_rfl
theorem gc_slices_Clone_Sapi_Vote_api_Vote (a0 : Value) (h : Hp) (K : Kont) : abody Try.prog O_slices_Clone_Sapi_Vote_api_Vote Try.f55 (bodyC Try.f55) [a0] h K = aw Try.prog O_slices_Clone_Sapi_Vote_api_Vote (bodyC Try.f55) (qTop Try.prog Try.f55 K) (E0_slices_Clone_Sapi_Vote_api_Vote a0) h := by kernel_rfl
theorem eq_slices_Clone_Sapi_Vote_api_Vote (a0 : Value) (h : Hp) (K : Kont) : abody Try.prog O_slices_Clone_Sapi_Vote_api_Vote Try.f55 (bodyC Try.f55) [a0] h K = G_slices_Clone_Sapi_Vote_api_Vote a0 h K := (gc_slices_Clone_Sapi_Vote_api_Vote a0 h K).trans ((ga_slices_Clone_Sapi_Vote_api_Vote _ a0 h).trans (gb_slices_Clone_Sapi_Vote_api_Vote a0 h K))
theorem ok_slices_Clone_Sapi_Vote_api_Vote {a0 : Value} {h : Hp} {K : Kont} (hk : G_slices_Clone_Sapi_Vote_api_Vote a0 h K) : C_slices_Clone_Sapi_Vote_api_Vote [a0] h K := ac_of_body prog_mixed (fn := Try.f55) Try.func55 (c := bodyC Try.f55) (by kernel_rfl) ((eq_slices_Clone_Sapi_Vote_api_Vote a0 h K).mpr hk)

end Go.Proofs.Ytdolepapmpcpiaa

