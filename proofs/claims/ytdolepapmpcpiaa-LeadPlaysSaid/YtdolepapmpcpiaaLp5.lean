/- Lemmas for the theorem of the last text; no condition. -/
import Derived.Test.YtdolepapmpcpiaaLp0
import Derived.Test.YtdolepapmpcpiaaLp1
import Derived.Test.YtdolepapmpcpiaaLp2
import Derived.Test.YtdolepapmpcpiaaLp3
import Derived.Test.YtdolepapmpcpiaaLp4
import Derived.Test.YtdolepapmpcpiaaProg
namespace Go.Proofs.Ytdolepapmpcpiaa
open Go
set_option linter.unusedSectionVars false
variable [Base]
set_option linter.unusedVariables false
set_option maxRecDepth 100000
def O_q147 : Od := []
noncomputable def K_q147_0 : Code := (cB (cB (bodyC Try.f46)))
def G_q147 (a0 : Value) (h : Hp) (K : Kont) : Prop :=
  oBox a0 h fun t1 h1 =>
  oFieldAddr 0 t1 h1 fun t4 h2 =>
  oLd1 t4 h2 fun t5 h3 =>
  oBin .lss t5 (Value.int .i64 0) h3 fun t6 h4 =>
  oGuard t6 false (fun K => oFieldAddr 0 t1 h4 K) h4 fun t8 h5 =>
  oGuard t6 false (fun K => oLd1 t8 h5 K) h5 fun t9 h6 =>
  oGuard t6 false (fun K => oBin .geq t9 (Value.int .i64 5) h6 K) h6 fun t10 h7 =>
  oPick t6 (Value.bool true) t10 h7 fun t11 h8 =>
  oIf t11
  (K (Value.int .i64 1) h8)
  (oFieldAddr 0 t1 h8 fun t13 h9 =>
  oLd1 t13 h9 fun t14 h10 =>
  oBin .eql t14 (Value.int .i64 0) h10 fun t15 h11 =>
  oGuard t15 true (fun K => oLdN 4 t1 h11 K) h11 fun t17 h12 =>
  oGuard t15 true (fun K => oBuild #[.int .i64 0, .int .i64 0, .int .u64 0, .int .i64 0] [] h12 K) h12 fun t18 h13 =>
  oGuard t15 true (fun K => oEq 4 true (some [(0, (.int .i64)), (1, (.int .i64)), (2, (.int .u64)), (3, (.int .i64))]) t17 t18 h13 K) h13 fun t19 h14 =>
  oPick t15 t19 (Value.bool false) h14 fun t20 h15 =>
  oIf t20
  (K (Value.int .i64 4) h15)
  (oFieldAddr 0 t1 h15 fun t22 h16 =>
  oLd1 t22 h16 fun t23 h17 =>
  oBin .eql t23 (Value.int .i64 0) h17 fun t24 h18 =>
  oIf t24
  (K (Value.int .i64 0) h18)
  (oFieldAddr 1 t1 h18 fun t26 h19 =>
  oLd1 t26 h19 fun t27 h20 =>
  oBin .lss t27 (Value.int .i64 0) h20 fun t28 h21 =>
  oGuard t28 false (fun K => oFieldAddr 1 t1 h21 K) h21 fun t30 h22 =>
  oGuard t28 false (fun K => oLd1 t30 h22 K) h22 fun t31 h23 =>
  oGuard t28 false (fun K => oBin .geq t31 (Value.int .i64 4) h23 K) h23 fun t32 h24 =>
  oPick t28 (Value.bool true) t32 h24 fun t33 h25 =>
  oGuard t33 false (fun K => oFieldAddr 2 t1 h25 K) h25 fun t35 h26 =>
  oGuard t33 false (fun K => oLd1 t35 h26 K) h26 fun t36 h27 =>
  oGuard t33 false (fun K => oBin .lss t36 (Value.int .u64 1) h27 K) h27 fun t37 h28 =>
  oPick t33 (Value.bool true) t37 h28 fun t38 h29 =>
  oGuard t38 false (fun K => oFieldAddr 3 t1 h29 K) h29 fun t40 h30 =>
  oGuard t38 false (fun K => oLd1 t40 h30 K) h30 fun t41 h31 =>
  oGuard t38 false (fun K => oBin .lss t41 (Value.int .i64 1) h31 K) h31 fun t42 h32 =>
  oPick t38 (Value.bool true) t42 h32 fun t43 h33 =>
  oGuard t43 false (fun K => oFieldAddr 3 t1 h33 K) h33 fun t45 h34 =>
  oGuard t43 false (fun K => oLd1 t45 h34 K) h34 fun t46 h35 =>
  oGuard t43 false (fun K => oBin .gtr t46 (Value.int .i64 24) h35 K) h35 fun t47 h36 =>
  oPick t43 (Value.bool true) t47 h36 fun t48 h37 =>
  oIf t48
  (K (Value.int .i64 4) h37)
  (K (Value.int .i64 0) h37))))
def E0_q147 (a0 : Value) : List Value := [a0, undef, undef, undef, undef, undef, undef, undef, undef, undef, undef, undef, undef, undef, undef, undef, undef, undef, undef, undef, undef, undef, undef, undef, undef, undef, undef, undef, undef, undef, undef, undef, undef, undef, undef, undef, undef, undef, undef, undef, undef, undef, undef, undef, undef, undef, undef, undef, undef]
def X_q147 (Qv : Post) (a0 : Value) (h : Hp) : Prop :=
  oBox a0 h fun t1 h1 =>
  oFieldAddr 0 t1 h1 fun t4 h2 =>
  oLd1 t4 h2 fun t5 h3 =>
  oBin .lss t5 (Value.int .i64 0) h3 fun t6 h4 =>
  oGuard t6 false (fun K => oFieldAddr 0 t1 h4 K) h4 fun t8 h5 =>
  oGuard t6 false (fun K => oLd1 t8 h5 K) h5 fun t9 h6 =>
  oGuard t6 false (fun K => oBin .geq t9 (Value.int .i64 5) h6 K) h6 fun t10 h7 =>
  oPick t6 (Value.bool true) t10 h7 fun t11 h8 =>
  oIf t11
  ((qBlk 0 (qSeq (aw Try.prog O_q147 K_q147_0 Qv) Qv)) .ret (ul (E0_q147 a0) [(1, t1), (2, (Value.int .i64 1)), (3, t11), (4, t4), (5, t5), (6, t6), (7, t6), (8, t8), (9, t9), (10, t10), (11, t11)]) h8)
  (oFieldAddr 0 t1 h8 fun t13 h9 =>
  oLd1 t13 h9 fun t14 h10 =>
  oBin .eql t14 (Value.int .i64 0) h10 fun t15 h11 =>
  oGuard t15 true (fun K => oLdN 4 t1 h11 K) h11 fun t17 h12 =>
  oGuard t15 true (fun K => oBuild #[.int .i64 0, .int .i64 0, .int .u64 0, .int .i64 0] [] h12 K) h12 fun t18 h13 =>
  oGuard t15 true (fun K => oEq 4 true (some [(0, (.int .i64)), (1, (.int .i64)), (2, (.int .u64)), (3, (.int .i64))]) t17 t18 h13 K) h13 fun t19 h14 =>
  oPick t15 t19 (Value.bool false) h14 fun t20 h15 =>
  oIf t20
  ((qBlk 0 (qSeq (aw Try.prog O_q147 K_q147_0 Qv) Qv)) .ret (ul (E0_q147 a0) [(1, t1), (2, (Value.int .i64 4)), (3, t11), (4, t4), (5, t5), (6, t6), (7, t6), (8, t8), (9, t9), (10, t10), (11, t11), (12, t20), (13, t13), (14, t14), (15, t15), (16, t15), (17, t17), (18, t18), (19, t19), (20, t20)]) h15)
  (oFieldAddr 0 t1 h15 fun t22 h16 =>
  oLd1 t22 h16 fun t23 h17 =>
  oBin .eql t23 (Value.int .i64 0) h17 fun t24 h18 =>
  oIf t24
  ((qBlk 0 (qSeq (aw Try.prog O_q147 K_q147_0 Qv) Qv)) .ret (ul (E0_q147 a0) [(1, t1), (2, (Value.int .i64 0)), (3, t11), (4, t4), (5, t5), (6, t6), (7, t6), (8, t8), (9, t9), (10, t10), (11, t11), (12, t20), (13, t13), (14, t14), (15, t15), (16, t15), (17, t17), (18, t18), (19, t19), (20, t20), (21, t24), (22, t22), (23, t23), (24, t24)]) h18)
  (oFieldAddr 1 t1 h18 fun t26 h19 =>
  oLd1 t26 h19 fun t27 h20 =>
  oBin .lss t27 (Value.int .i64 0) h20 fun t28 h21 =>
  oGuard t28 false (fun K => oFieldAddr 1 t1 h21 K) h21 fun t30 h22 =>
  oGuard t28 false (fun K => oLd1 t30 h22 K) h22 fun t31 h23 =>
  oGuard t28 false (fun K => oBin .geq t31 (Value.int .i64 4) h23 K) h23 fun t32 h24 =>
  oPick t28 (Value.bool true) t32 h24 fun t33 h25 =>
  oGuard t33 false (fun K => oFieldAddr 2 t1 h25 K) h25 fun t35 h26 =>
  oGuard t33 false (fun K => oLd1 t35 h26 K) h26 fun t36 h27 =>
  oGuard t33 false (fun K => oBin .lss t36 (Value.int .u64 1) h27 K) h27 fun t37 h28 =>
  oPick t33 (Value.bool true) t37 h28 fun t38 h29 =>
  oGuard t38 false (fun K => oFieldAddr 3 t1 h29 K) h29 fun t40 h30 =>
  oGuard t38 false (fun K => oLd1 t40 h30 K) h30 fun t41 h31 =>
  oGuard t38 false (fun K => oBin .lss t41 (Value.int .i64 1) h31 K) h31 fun t42 h32 =>
  oPick t38 (Value.bool true) t42 h32 fun t43 h33 =>
  oGuard t43 false (fun K => oFieldAddr 3 t1 h33 K) h33 fun t45 h34 =>
  oGuard t43 false (fun K => oLd1 t45 h34 K) h34 fun t46 h35 =>
  oGuard t43 false (fun K => oBin .gtr t46 (Value.int .i64 24) h35 K) h35 fun t47 h36 =>
  oPick t43 (Value.bool true) t47 h36 fun t48 h37 =>
  oIf t48
  ((qBlk 0 (qSeq (aw Try.prog O_q147 K_q147_0 Qv) Qv)) .ret (ul (E0_q147 a0) [(1, t1), (2, (Value.int .i64 4)), (3, t11), (4, t4), (5, t5), (6, t6), (7, t6), (8, t8), (9, t9), (10, t10), (11, t11), (12, t20), (13, t13), (14, t14), (15, t15), (16, t15), (17, t17), (18, t18), (19, t19), (20, t20), (21, t24), (22, t22), (23, t23), (24, t24), (25, t48), (26, t26), (27, t27), (28, t28), (29, t28), (30, t30), (31, t31), (32, t32), (33, t33), (34, t33), (35, t35), (36, t36), (37, t37), (38, t38), (39, t38), (40, t40), (41, t41), (42, t42), (43, t43), (44, t43), (45, t45), (46, t46), (47, t47), (48, t48)]) h37)
  (Qv .ret (ul (E0_q147 a0) [(1, t1), (2, (Value.int .i64 0)), (3, t11), (4, t4), (5, t5), (6, t6), (7, t6), (8, t8), (9, t9), (10, t10), (11, t11), (12, t20), (13, t13), (14, t14), (15, t15), (16, t15), (17, t17), (18, t18), (19, t19), (20, t20), (21, t24), (22, t22), (23, t23), (24, t24), (25, t48), (26, t26), (27, t27), (28, t28), (29, t28), (30, t30), (31, t31), (32, t32), (33, t33), (34, t33), (35, t35), (36, t36), (37, t37), (38, t38), (39, t38), (40, t40), (41, t41), (42, t42), (43, t43), (44, t43), (45, t45), (46, t46), (47, t47), (48, t48)]) h37))))
theorem ga_q147 (Qv : Post) (a0 : Value) (h : Hp) : aw Try.prog O_q147 (bodyC Try.f46) Qv (E0_q147 a0) h = X_q147 Qv a0 h := by kernel_rfl
theorem gb_q147 (a0 : Value) (h : Hp) (K : Kont) : X_q147 (qTop Try.prog Try.f46 K) a0 h = G_q147 a0 h K := by kernel_rfl
theorem gc_q147 (a0 : Value) (h : Hp) (K : Kont) : abody Try.prog O_q147 Try.f46 (bodyC Try.f46) [a0] h K = aw Try.prog O_q147 (bodyC Try.f46) (qTop Try.prog Try.f46 K) (E0_q147 a0) h := by kernel_rfl
theorem eq_q147 (a0 : Value) (h : Hp) (K : Kont) : abody Try.prog O_q147 Try.f46 (bodyC Try.f46) [a0] h K = G_q147 a0 h K := (gc_q147 a0 h K).trans ((ga_q147 _ a0 h).trans (gb_q147 a0 h K))
theorem ok_q147 {a0 : Value} {h : Hp} {K : Kont} (hk : G_q147 a0 h K) : C_q147 [a0] h K := ac_of_body prog_mixed (fn := Try.f46) Try.func46 (c := bodyC Try.f46) (by kernel_rfl) ((eq_q147 a0 h K).mpr hk)
def O_q42 : Od := []
noncomputable def K_q42_0 : Code := (cB (cB (bodyC Try.f47)))
def E_q42_1 (v0 : Value) (d : Nat → Value) : List Value := [v0, d 1, d 2, d 3, d 4, d 5, d 6, d 7, d 8, d 9, d 10, d 11, d 12, d 13, d 14, d 15, d 16, d 17, d 18, d 19, d 20, d 21, d 22, d 23, d 24]
def G_q42_1 (K : Kont) (v0 : Value) (d : Nat → Value) (h : Hp) : Prop := aw Try.prog O_q42 K_q42_0 (qTop Try.prog Try.f47 K) (E_q42_1 v0 d) h
noncomputable def K_q42_1 : Code := (cI (cB (cA (cB (cB (cB (bodyC Try.f47)))))))
noncomputable def K_q42_2 : Code := (cB (cB (cB (cB (bodyC Try.f47)))))
def Q_q42_0 (K : Kont) : Post := qSeq (aw Try.prog O_q42 K_q42_2 (qTop Try.prog Try.f47 K)) (qTop Try.prog Try.f47 K)
def Q_q42_1 (K : Kont) : Post := qBlk 0 (Q_q42_0 K)
def E_q42_2 (v0 v3 v4 : Value) (d : Nat → Value) : List Value := [v0, d 1, d 2, v3, v4, d 5, d 6, d 7, d 8, d 9, d 10, d 11, d 12, d 13, d 14, d 15, d 16, d 17, d 18, d 19, d 20, d 21, d 22, d 23, d 24]
def G_q42_2 (K : Kont) (v0 v3 v4 : Value) (d : Nat → Value) (h : Hp) : Prop := aw Try.prog O_q42 K_q42_1 (Q_q42_1 K) (E_q42_2 v0 v3 v4 d) h
def Q_q42_2 (K : Kont) (s0 : Self) : Post := qSeq s0 (Q_q42_1 K)
noncomputable def K_q42_3 : Code := (cI (cI (cB (cA (cB (cB (cB (bodyC Try.f47))))))))
noncomputable def K_q42_4 : Code := (cB (cI (cI (cB (cA (cB (cB (cB (bodyC Try.f47)))))))))
def G_q42 (a0 : Value) (h : Hp) (K : Kont) : Prop :=
  oLen 0 a0 h fun t6 h1 =>
  oBin .lss t6 (Value.int .i64 1) h1 fun t7 h2 =>
  oIf t7
  (False)
  (G_q42_1 K a0 (ud [(2, (Value.int .i64 0)), (5, a0), (6, t6), (7, t7)] dz) h2)
def E0_q42 (a0 : Value) : List Value := [a0, undef, undef, undef, undef, undef, undef, undef, undef, undef, undef, undef, undef, undef, undef, undef, undef, undef, undef, undef, undef, undef, undef, undef, undef]
def X_q42 (Qv : Post) (a0 : Value) (h : Hp) : Prop :=
  oLen 0 a0 h fun t6 h1 =>
  oBin .lss t6 (Value.int .i64 1) h1 fun t7 h2 =>
  oIf t7
  (False)
  ((qSeq (aw Try.prog O_q42 K_q42_0 Qv) Qv) .normal (ul (E0_q42 a0) [(2, (Value.int .i64 0)), (5, a0), (6, t6), (7, t7)]) h2)
theorem ga_q42 (Qv : Post) (a0 : Value) (h : Hp) : aw Try.prog O_q42 (bodyC Try.f47) Qv (E0_q42 a0) h = X_q42 Qv a0 h := by kernel_rfl
theorem gb_q42 (a0 : Value) (h : Hp) (K : Kont) : X_q42 (qTop Try.prog Try.f47 K) a0 h = G_q42 a0 h K := by kernel_rfl
theorem gc_q42 (a0 : Value) (h : Hp) (K : Kont) : abody Try.prog O_q42 Try.f47 (bodyC Try.f47) [a0] h K = aw Try.prog O_q42 (bodyC Try.f47) (qTop Try.prog Try.f47 K) (E0_q42 a0) h := by kernel_rfl
theorem eq_q42 (a0 : Value) (h : Hp) (K : Kont) : abody Try.prog O_q42 Try.f47 (bodyC Try.f47) [a0] h K = G_q42 a0 h K := (gc_q42 a0 h K).trans ((ga_q42 _ a0 h).trans (gb_q42 a0 h K))
theorem ok_q42 {a0 : Value} {h : Hp} {K : Kont} (hk : G_q42 a0 h K) : C_q42 [a0] h K := ac_of_body prog_mixed (fn := Try.f47) Try.func47 (c := bodyC Try.f47) (by kernel_rfl) ((eq_q42 a0 h K).mpr hk)
def R_q42_1 (K : Kont) (v0 : Value) (d : Nat → Value) (h : Hp) : Prop :=
  oIdxS 1 v0 (Value.int .i64 0) h fun t10 h1 =>
  oLd1 t10 h1 fun t11 h2 =>
  G_q42_2 K v0 t11 (Value.int .i64 1) (ud [(9, v0), (10, t10), (11, t11)] d) h2
def X_q42_1 (Qv : Post) (v0 : Value) (d : Nat → Value) (h : Hp) : Prop :=
  oIdxS 1 v0 (Value.int .i64 0) h fun t10 h1 =>
  oLd1 t10 h1 fun t11 h2 =>
  aw Try.prog O_q42 K_q42_1 (qBlk 0 (qSeq (aw Try.prog O_q42 K_q42_2 Qv) Qv)) (ul (E_q42_1 v0 d) [(3, t11), (4, (Value.int .i64 1)), (9, v0), (10, t10), (11, t11)]) h2
theorem ga_q42_1 (Qv : Post) (v0 : Value) (d : Nat → Value) (h : Hp) : aw Try.prog O_q42 K_q42_0 Qv (E_q42_1 v0 d) h = X_q42_1 Qv v0 d h := by kernel_rfl
theorem gb_q42_1 (K : Kont) (v0 : Value) (d : Nat → Value) (h : Hp) : X_q42_1 (qTop Try.prog Try.f47 K) v0 d h = R_q42_1 K v0 d h := by kernel_rfl
theorem req_q42_1 (K : Kont) (v0 : Value) (d : Nat → Value) (h : Hp) : G_q42_1 K v0 d h = R_q42_1 K v0 d h := (ga_q42_1 _ v0 d h).trans (gb_q42_1 K v0 d h)
def B_q42_2 (K : Kont) (s0 : Self) (v0 v3 v4 : Value) (d : Nat → Value) (h : Hp) : Prop :=
  oLen 0 v0 h fun t14 h1 =>
  oBin .lss v4 t14 h1 fun t15 h2 =>
  oIf t15
  (oIdxS 1 v0 v4 h2 fun t21 h3 =>
  oLd1 t21 h3 fun t22 h4 =>
  oMinMax false [v3, t22] h4 fun t23 h5 =>
  oBin .add v4 (Value.int .i64 1) h5 fun t17 h6 =>
  s0 (E_q42_2 v0 t23 t17 (ud [(12, v4), (13, v0), (14, t14), (15, t15), (16, v4), (17, t17), (18, v3), (19, v0), (20, v4), (21, t21), (22, t22), (23, t23)] d)) h6)
  (K v3 h2)
def X_q42_2 (Qv : Post) (v0 v3 v4 : Value) (d : Nat → Value) (h : Hp) : Prop :=
  oLen 0 v0 h fun t14 h1 =>
  oBin .lss v4 t14 h1 fun t15 h2 =>
  oIf t15
  (oIdxS 1 v0 v4 h2 fun t21 h3 =>
  oLd1 t21 h3 fun t22 h4 =>
  oMinMax false [v3, t22] h4 fun t23 h5 =>
  oBin .add v4 (Value.int .i64 1) h5 fun t17 h6 =>
  Qv .normal (ul (E_q42_2 v0 v3 v4 d) [(3, t23), (4, t17), (12, v4), (13, v0), (14, t14), (15, t15), (16, v4), (17, t17), (18, v3), (19, v0), (20, v4), (21, t21), (22, t22), (23, t23)]) h6)
  ((qSeq (aw Try.prog O_q42 K_q42_4 Qv) Qv) (.exit 0) (ul (E_q42_2 v0 v3 v4 d) [(12, v4), (13, v0), (14, t14), (15, t15)]) h2)
theorem ga_q42_2 (Qv : Post) (v0 v3 v4 : Value) (d : Nat → Value) (h : Hp) : aw Try.prog O_q42 K_q42_3 Qv (E_q42_2 v0 v3 v4 d) h = X_q42_2 Qv v0 v3 v4 d h := by kernel_rfl
theorem gb_q42_2 (K : Kont) (s0 : Self) (v0 v3 v4 : Value) (d : Nat → Value) (h : Hp) : X_q42_2 (Q_q42_2 K s0) v0 v3 v4 d h = B_q42_2 K s0 v0 v3 v4 d h := by kernel_rfl
theorem beq_q42_2 (K : Kont) (s0 : Self) (v0 v3 v4 : Value) (d : Nat → Value) (h : Hp) : aw Try.prog O_q42 K_q42_3 (Q_q42_2 K s0) (E_q42_2 v0 v3 v4 d) h = B_q42_2 K s0 v0 v3 v4 d h := (ga_q42_2 _ v0 v3 v4 d h).trans (gb_q42_2 K s0 v0 v3 v4 d h)
theorem rule_q42_2 {K : Kont} {v0 : Value} (Inv : Value → Value → Hp → Prop) (μ : Value → Value → Hp → Nat)
    (step : ∀ (s0 : Self) (v3 v4 : Value) (d : Nat → Value) (h : Hp), Inv v3 v4 h → (∀ (v3' : Value) (v4' : Value) (d' : Nat → Value) (h' : Hp), Inv v3' v4' h' → μ v3' v4' h' < μ v3 v4 h → s0 (E_q42_2 v0 v3' v4' d') h') → B_q42_2 K s0 v0 v3 v4 d h) (v3 v4 : Value) (d : Nat → Value) (h : Hp) (hi : Inv v3 v4 h) : G_q42_2 K v0 v3 v4 d h :=
  oLoop_rule (α := Value × Value × (Nat → Value)) (fun x => E_q42_2 v0 x.1 x.2.1 x.2.2) (fun x h => Inv x.1 x.2.1 h) (fun x h => μ x.1 x.2.1 h)
    (fun self x h hx hs => (beq_q42_2 K self v0 x.1 x.2.1 x.2.2 h).mpr (step self x.1 x.2.1 x.2.2 h hx (fun v3' v4' d' h' h1 h2 => hs ⟨v3', v4', d'⟩ h' h1 h2))) ⟨v3, v4, d⟩ h hi
def O_q6 : Od := []
def G_q6 (a0 : Value) (h : Hp) (K : Kont) : Prop :=
  oBox a0 h fun t1 h1 =>
  K (.func (Go.Fn.func 76) #[] #[t1]) h1
def E0_q6 (a0 : Value) : List Value := [a0, undef, undef, undef]
def X_q6 (Qv : Post) (a0 : Value) (h : Hp) : Prop :=
  oBox a0 h fun t1 h1 =>
  Qv .ret (ul (E0_q6 a0) [(1, t1), (2, (.func (Go.Fn.func 76) #[] #[t1])), (3, (.func (Go.Fn.func 76) #[] #[t1]))]) h1
theorem ga_q6 (Qv : Post) (a0 : Value) (h : Hp) : aw Try.prog O_q6 (bodyC Try.f49) Qv (E0_q6 a0) h = X_q6 Qv a0 h := by kernel_rfl
theorem gb_q6 (a0 : Value) (h : Hp) (K : Kont) : X_q6 (qTop Try.prog Try.f49 K) a0 h = G_q6 a0 h K := by kernel_rfl
theorem gc_q6 (a0 : Value) (h : Hp) (K : Kont) : abody Try.prog O_q6 Try.f49 (bodyC Try.f49) [a0] h K = aw Try.prog O_q6 (bodyC Try.f49) (qTop Try.prog Try.f49 K) (E0_q6 a0) h := by kernel_rfl
theorem eq_q6 (a0 : Value) (h : Hp) (K : Kont) : abody Try.prog O_q6 Try.f49 (bodyC Try.f49) [a0] h K = G_q6 a0 h K := (gc_q6 a0 h K).trans ((ga_q6 _ a0 h).trans (gb_q6 a0 h K))
theorem ok_q6 {a0 : Value} {h : Hp} {K : Kont} (hk : G_q6 a0 h K) : C_q6 [a0] h K := ac_of_body prog_mixed (fn := Try.f49) Try.func49 (c := bodyC Try.f49) (by kernel_rfl) ((eq_q6 a0 h K).mpr hk)
def O_q180 : Od := [(3, (.one 0 true (.one 1 true (.one 2 true (.one 3 true (.one 4 true (.one 5 true (.one 6 true (.one 7 true (.one 8 true (.one 9 true (.one 10 true (.one 11 true (.one 12 true (.one 13 true .nil))))))))))))))), (7, (.one 0 true (.one 1 true (.one 2 true (.one 3 true (.one 4 true (.one 5 true (.one 6 true (.one 7 true (.one 8 true (.one 9 true (.one 10 true (.one 11 true (.one 12 true (.one 13 true .nil)))))))))))))))]
noncomputable def K_q180_0 : Code := (cI (cA (cB (cB (cB (bodyC Try.f50))))))
noncomputable def K_q180_1 : Code := (cB (cB (cB (cB (bodyC Try.f50)))))
def Q_q180_0 (K : Kont) : Post := qSeq (aw Try.prog O_q180 K_q180_1 (qTop Try.prog Try.f50 K)) (qTop Try.prog Try.f50 K)
def Q_q180_1 (K : Kont) : Post := qBlk 0 (Q_q180_0 K)
def E_q180_1 (v0 v3 v5 v6 : Value) (d : Nat → Value) : List Value := [v0, d 1, d 2, v3, d 4, v5, v6, d 7, d 8, d 9, d 10, d 11, d 12, d 13, d 14, d 15, d 16, d 17, d 18, d 19, d 20, d 21, d 22, d 23, d 24, d 25, d 26, d 27, d 28, d 29, d 30, d 31, d 32, d 33, d 34, d 35, d 36, d 37, d 38, d 39, d 40, d 41, d 42, d 43, d 44, d 45, d 46, d 47, d 48, d 49, d 50, d 51, d 52, d 53, d 54]
def G_q180_1 (K : Kont) (v0 v3 v5 v6 : Value) (d : Nat → Value) (h : Hp) : Prop := aw Try.prog O_q180 K_q180_0 (Q_q180_1 K) (E_q180_1 v0 v3 v5 v6 d) h
def Q_q180_2 (K : Kont) (s0 : Self) : Post := qSeq s0 (Q_q180_1 K)
noncomputable def K_q180_2 : Code := (cI (cI (cA (cB (cB (cB (bodyC Try.f50)))))))
noncomputable def K_q180_3 : Code := (cB (cB (cB (cB (cB (cB (bodyC Try.f50)))))))
def E_q180_2 (v0 v5 v6 : Value) (d : Nat → Value) : List Value := [v0, d 1, d 2, d 3, d 4, v5, v6, d 7, d 8, d 9, d 10, d 11, d 12, d 13, d 14, d 15, d 16, d 17, d 18, d 19, d 20, d 21, d 22, d 23, d 24, d 25, d 26, d 27, d 28, d 29, d 30, d 31, d 32, d 33, d 34, d 35, d 36, d 37, d 38, d 39, d 40, d 41, d 42, d 43, d 44, d 45, d 46, d 47, d 48, d 49, d 50, d 51, d 52, d 53, d 54]
def G_q180_2 (K : Kont) (v0 v5 v6 : Value) (d : Nat → Value) (h : Hp) : Prop := aw Try.prog O_q180 K_q180_3 (qTop Try.prog Try.f50 K) (E_q180_2 v0 v5 v6 d) h
noncomputable def K_q180_4 : Code := (cB (cI (cI (cA (cB (cB (cB (bodyC Try.f50))))))))
def G_q180 (a0 a1 : Value) (h : Hp) (K : Kont) : Prop :=
  oBox a1 h fun t3 h1 =>
  G_q180_1 K a0 t3 (Value.slice none 0 0) (Value.int .i64 0) (ud [(1, a1), (4, (Value.slice none 0 0))] dz) h1
def E0_q180 (a0 a1 : Value) : List Value := [a0, a1, undef, undef, undef, undef, undef, undef, undef, undef, undef, undef, undef, undef, undef, undef, undef, undef, undef, undef, undef, undef, undef, undef, undef, undef, undef, undef, undef, undef, undef, undef, undef, undef, undef, undef, undef, undef, undef, undef, undef, undef, undef, undef, undef, undef, undef, undef, undef, undef, undef, undef, undef, undef, undef]
def X_q180 (Qv : Post) (a0 a1 : Value) (h : Hp) : Prop :=
  oBox a1 h fun t3 h1 =>
  aw Try.prog O_q180 K_q180_0 (qBlk 0 (qSeq (aw Try.prog O_q180 K_q180_1 Qv) Qv)) (ul (E0_q180 a0 a1) [(3, t3), (4, (Value.slice none 0 0)), (5, (Value.slice none 0 0)), (6, (Value.int .i64 0))]) h1
theorem ga_q180 (Qv : Post) (a0 a1 : Value) (h : Hp) : aw Try.prog O_q180 (bodyC Try.f50) Qv (E0_q180 a0 a1) h = X_q180 Qv a0 a1 h := by kernel_rfl
theorem gb_q180 (a0 a1 : Value) (h : Hp) (K : Kont) : X_q180 (qTop Try.prog Try.f50 K) a0 a1 h = G_q180 a0 a1 h K := by kernel_rfl
theorem gc_q180 (a0 a1 : Value) (h : Hp) (K : Kont) : abody Try.prog O_q180 Try.f50 (bodyC Try.f50) [a0, a1] h K = aw Try.prog O_q180 (bodyC Try.f50) (qTop Try.prog Try.f50 K) (E0_q180 a0 a1) h := by kernel_rfl
theorem eq_q180 (a0 a1 : Value) (h : Hp) (K : Kont) : abody Try.prog O_q180 Try.f50 (bodyC Try.f50) [a0, a1] h K = G_q180 a0 a1 h K := (gc_q180 a0 a1 h K).trans ((ga_q180 _ a0 a1 h).trans (gb_q180 a0 a1 h K))
theorem ok_q180 {a0 a1 : Value} {h : Hp} {K : Kont} (hk : G_q180 a0 a1 h K) : C_q180 [a0, a1] h K := ac_of_body prog_mixed (fn := Try.f50) Try.func50 (c := bodyC Try.f50) (by kernel_rfl) ((eq_q180 a0 a1 h K).mpr hk)
def B_q180_1 (K : Kont) (s0 : Self) (v0 v3 v5 v6 : Value) (d : Nat → Value) (h : Hp) : Prop :=
  oLen 0 v0 h fun t9 h1 =>
  oBin .lss v6 t9 h1 fun t10 h2 =>
  oGuard t10 true (fun K => K v0 h2) h2 fun t12 h3 =>
  oGuard t10 true (fun K => K v6 h3) h3 fun t13 h4 =>
  oGuard t10 true (fun K => oIdxS 6 t12 t13 h4 K) h4 fun t14 h5 =>
  oGuard t10 true (fun K => oFieldAddr 0 t14 h5 K) h5 fun t15 h6 =>
  oGuard t10 true (fun K => oLd1 t15 h6 K) h6 fun t16 h7 =>
  oGuard t10 true (fun K => oFieldAddr 0 v3 h7 K) h7 fun t17 h8 =>
  oGuard t10 true (fun K => oLd1 t17 h8 K) h8 fun t18 h9 =>
  oGuard t10 true (fun K => oBin .lss t16 t18 h9 K) h9 fun t19 h10 =>
  oPick t10 t19 (Value.bool false) h10 fun t20 h11 =>
  oIf t20
  (oIdxS 6 v0 v6 h11 fun t24 h12 =>
  oLdN 6 t24 h12 fun t25 h13 =>
  oBuildSlice #[.int .i64 0, .int .u64 0, .int .i64 0, .int .i64 0, .int .u64 0, .int .i64 0] 1 [(0 * 6, 6, t25)] h13 fun t26 h14 =>
  oAppend 6 48 #[.int .i64 0, .int .u64 0, .int .i64 0, .int .i64 0, .int .u64 0, .int .i64 0] v5 t26 h14 fun t27 h15 =>
  oBin .add v6 (Value.int .i64 1) h15 fun t29 h16 =>
  s0 (E_q180_1 v0 v3 t27 t29 (ud [(7, v6), (8, v0), (9, t9), (10, t10), (11, t10), (12, t12), (13, t13), (14, t14), (15, t15), (16, t16), (17, t17), (18, t18), (19, t19), (20, t20), (21, v5), (22, v0), (23, v6), (24, t24), (25, t25), (26, t26), (27, t27), (28, v6), (29, t29)] d)) h16)
  (oLdN 6 v3 h11 fun t31 h17 =>
  oBuildSlice #[.int .i64 0, .int .u64 0, .int .i64 0, .int .i64 0, .int .u64 0, .int .i64 0] 1 [(0 * 6, 6, t31)] h17 fun t32 h18 =>
  oAppend 6 48 #[.int .i64 0, .int .u64 0, .int .i64 0, .int .i64 0, .int .u64 0, .int .i64 0] v5 t32 h18 fun t33 h19 =>
  oLen 0 v0 h19 fun t36 h20 =>
  oBin .lss v6 t36 h20 fun t37 h21 =>
  oGuard t37 true (fun K => K v0 h21) h21 fun t39 h22 =>
  oGuard t37 true (fun K => K v6 h22) h22 fun t40 h23 =>
  oGuard t37 true (fun K => oIdxS 6 t39 t40 h23 K) h23 fun t41 h24 =>
  oGuard t37 true (fun K => oFieldAddr 0 t41 h24 K) h24 fun t42 h25 =>
  oGuard t37 true (fun K => oLd1 t42 h25 K) h25 fun t43 h26 =>
  oGuard t37 true (fun K => oFieldAddr 0 v3 h26 K) h26 fun t44 h27 =>
  oGuard t37 true (fun K => oLd1 t44 h27 K) h27 fun t45 h28 =>
  oGuard t37 true (fun K => oBin .eql t43 t45 h28 K) h28 fun t46 h29 =>
  oPick t37 t46 (Value.bool false) h29 fun t47 h30 =>
  oIf t47
  (oBin .add v6 (Value.int .i64 1) h30 fun t49 h31 =>
  G_q180_2 K v0 t33 t49 (ud [(3, v3), (7, v6), (8, v0), (9, t9), (10, t10), (11, t10), (12, t12), (13, t13), (14, t14), (15, t15), (16, t16), (17, t17), (18, t18), (19, t19), (20, t20), (30, v5), (31, t31), (32, t32), (33, t33), (34, v6), (35, v0), (36, t36), (37, t37), (38, t37), (39, t39), (40, t40), (41, t41), (42, t42), (43, t43), (44, t44), (45, t45), (46, t46), (47, t47), (48, v6), (49, t49)] d) h31)
  (G_q180_2 K v0 t33 v6 (ud [(3, v3), (7, v6), (8, v0), (9, t9), (10, t10), (11, t10), (12, t12), (13, t13), (14, t14), (15, t15), (16, t16), (17, t17), (18, t18), (19, t19), (20, t20), (30, v5), (31, t31), (32, t32), (33, t33), (34, v6), (35, v0), (36, t36), (37, t37), (38, t37), (39, t39), (40, t40), (41, t41), (42, t42), (43, t43), (44, t44), (45, t45), (46, t46), (47, t47)] d) h30))
def X_q180_1 (Qv : Post) (v0 v3 v5 v6 : Value) (d : Nat → Value) (h : Hp) : Prop :=
  oLen 0 v0 h fun t9 h1 =>
  oBin .lss v6 t9 h1 fun t10 h2 =>
  oGuard t10 true (fun K => K v0 h2) h2 fun t12 h3 =>
  oGuard t10 true (fun K => K v6 h3) h3 fun t13 h4 =>
  oGuard t10 true (fun K => oIdxS 6 t12 t13 h4 K) h4 fun t14 h5 =>
  oGuard t10 true (fun K => oFieldAddr 0 t14 h5 K) h5 fun t15 h6 =>
  oGuard t10 true (fun K => oLd1 t15 h6 K) h6 fun t16 h7 =>
  oGuard t10 true (fun K => oFieldAddr 0 v3 h7 K) h7 fun t17 h8 =>
  oGuard t10 true (fun K => oLd1 t17 h8 K) h8 fun t18 h9 =>
  oGuard t10 true (fun K => oBin .lss t16 t18 h9 K) h9 fun t19 h10 =>
  oPick t10 t19 (Value.bool false) h10 fun t20 h11 =>
  oIf t20
  (oIdxS 6 v0 v6 h11 fun t24 h12 =>
  oLdN 6 t24 h12 fun t25 h13 =>
  oBuildSlice #[.int .i64 0, .int .u64 0, .int .i64 0, .int .i64 0, .int .u64 0, .int .i64 0] 1 [(0 * 6, 6, t25)] h13 fun t26 h14 =>
  oAppend 6 48 #[.int .i64 0, .int .u64 0, .int .i64 0, .int .i64 0, .int .u64 0, .int .i64 0] v5 t26 h14 fun t27 h15 =>
  oBin .add v6 (Value.int .i64 1) h15 fun t29 h16 =>
  (qBlk 1 Qv) .normal (ul (E_q180_1 v0 v3 v5 v6 d) [(5, t27), (6, t29), (7, v6), (8, v0), (9, t9), (10, t10), (11, t10), (12, t12), (13, t13), (14, t14), (15, t15), (16, t16), (17, t17), (18, t18), (19, t19), (20, t20), (21, v5), (22, v0), (23, v6), (24, t24), (25, t25), (26, t26), (27, t27), (28, v6), (29, t29)]) h16)
  ((qSeq (aw Try.prog O_q180 K_q180_4 Qv) Qv) (.exit 0) (ul (E_q180_1 v0 v3 v5 v6 d) [(7, v6), (8, v0), (9, t9), (10, t10), (11, t10), (12, t12), (13, t13), (14, t14), (15, t15), (16, t16), (17, t17), (18, t18), (19, t19), (20, t20)]) h11)
theorem ga_q180_1 (Qv : Post) (v0 v3 v5 v6 : Value) (d : Nat → Value) (h : Hp) : aw Try.prog O_q180 K_q180_2 Qv (E_q180_1 v0 v3 v5 v6 d) h = X_q180_1 Qv v0 v3 v5 v6 d h := by kernel_rfl
theorem gb_q180_1 (K : Kont) (s0 : Self) (v0 v3 v5 v6 : Value) (d : Nat → Value) (h : Hp) : X_q180_1 (Q_q180_2 K s0) v0 v3 v5 v6 d h = B_q180_1 K s0 v0 v3 v5 v6 d h := by kernel_rfl
theorem beq_q180_1 (K : Kont) (s0 : Self) (v0 v3 v5 v6 : Value) (d : Nat → Value) (h : Hp) : aw Try.prog O_q180 K_q180_2 (Q_q180_2 K s0) (E_q180_1 v0 v3 v5 v6 d) h = B_q180_1 K s0 v0 v3 v5 v6 d h := (ga_q180_1 _ v0 v3 v5 v6 d h).trans (gb_q180_1 K s0 v0 v3 v5 v6 d h)
theorem rule_q180_1 {K : Kont} {v0 v3 : Value} (Inv : Value → Value → Hp → Prop) (μ : Value → Value → Hp → Nat)
    (step : ∀ (s0 : Self) (v5 v6 : Value) (d : Nat → Value) (h : Hp), Inv v5 v6 h → (∀ (v5' : Value) (v6' : Value) (d' : Nat → Value) (h' : Hp), Inv v5' v6' h' → μ v5' v6' h' < μ v5 v6 h → s0 (E_q180_1 v0 v3 v5' v6' d') h') → B_q180_1 K s0 v0 v3 v5 v6 d h) (v5 v6 : Value) (d : Nat → Value) (h : Hp) (hi : Inv v5 v6 h) : G_q180_1 K v0 v3 v5 v6 d h :=
  oLoop_rule (α := Value × Value × (Nat → Value)) (fun x => E_q180_1 v0 v3 x.1 x.2.1 x.2.2) (fun x h => Inv x.1 x.2.1 h) (fun x h => μ x.1 x.2.1 h)
    (fun self x h hx hs => (beq_q180_1 K self v0 v3 x.1 x.2.1 x.2.2 h).mpr (step self x.1 x.2.1 x.2.2 h hx (fun v5' v6' d' h' h1 h2 => hs ⟨v5', v6', d'⟩ h' h1 h2))) ⟨v5, v6, d⟩ h hi
def R_q180_2 (K : Kont) (v0 v5 v6 : Value) (d : Nat → Value) (h : Hp) : Prop :=
  oSlice 0 6 v0 (some v6) none none h fun t53 h1 =>
  oAppend 6 48 #[.int .i64 0, .int .u64 0, .int .i64 0, .int .i64 0, .int .u64 0, .int .i64 0] v5 t53 h1 fun t54 h2 =>
  K t54 h2
def X_q180_2 (Qv : Post) (v0 v5 v6 : Value) (d : Nat → Value) (h : Hp) : Prop :=
  oSlice 0 6 v0 (some v6) none none h fun t53 h1 =>
  oAppend 6 48 #[.int .i64 0, .int .u64 0, .int .i64 0, .int .i64 0, .int .u64 0, .int .i64 0] v5 t53 h1 fun t54 h2 =>
  Qv .ret (ul (E_q180_2 v0 v5 v6 d) [(4, t54), (50, v5), (51, v0), (52, v6), (53, t53), (54, t54)]) h2
theorem ga_q180_2 (Qv : Post) (v0 v5 v6 : Value) (d : Nat → Value) (h : Hp) : aw Try.prog O_q180 K_q180_3 Qv (E_q180_2 v0 v5 v6 d) h = X_q180_2 Qv v0 v5 v6 d h := by kernel_rfl
theorem gb_q180_2 (K : Kont) (v0 v5 v6 : Value) (d : Nat → Value) (h : Hp) : X_q180_2 (qTop Try.prog Try.f50 K) v0 v5 v6 d h = R_q180_2 K v0 v5 v6 d h := by kernel_rfl
theorem req_q180_2 (K : Kont) (v0 v5 v6 : Value) (d : Nat → Value) (h : Hp) : G_q180_2 K v0 v5 v6 d h = R_q180_2 K v0 v5 v6 d h := (ga_q180_2 _ v0 v5 v6 d h).trans (gb_q180_2 K v0 v5 v6 d h)
def O_q132 : Od := []
noncomputable def K_q132_0 : Code := (cB (cB (cB (cB (bodyC Try.f51)))))
def E_q132_1 (v1 v6 : Value) (d : Nat → Value) : List Value := [d 0, v1, d 2, d 3, d 4, d 5, v6, d 7, d 8, d 9, d 10, d 11, d 12, d 13, d 14, d 15, d 16, d 17, d 18, d 19, d 20, d 21, d 22, d 23, d 24, d 25, d 26, d 27, d 28]
def G_q132_1 (K : Kont) (v1 v6 : Value) (d : Nat → Value) (h : Hp) : Prop := aw Try.prog O_q132 K_q132_0 (qTop Try.prog Try.f51 K) (E_q132_1 v1 v6 d) h
noncomputable def K_q132_1 : Code := (cB (cB (bodyC Try.f51)))
noncomputable def K_q132_2 : Code := (cB (cB (cB (cB (cB (bodyC Try.f51))))))
def G_q132 (a0 a1 : Value) (h : Hp) (K : Kont) : Prop :=
  C_q104 [a1] h fun t8 h1 =>
  oNot t8 h1 fun t9 h2 =>
  oIf t9
  (K (.tuple #[(Value.int .u64 0), (Value.int .i64 1)]) h2)
  (oBin .quo a0 (Value.int .u64 8) h2 fun t11 h3 =>
  oMinMax true [t11, (Value.int .u64 1)] h3 fun t12 h4 =>
  oBin .mul (Value.int .u64 8) t12 h4 fun t14 h5 =>
  oConvInt .u64 a1 h5 fun t16 h6 =>
  oBin .add t14 t16 h6 fun t17 h7 =>
  oBin .leq t17 a0 h7 fun t19 h8 =>
  oIf t19
  (oBin .add t12 (Value.int .u64 1) h8 fun t21 h9 =>
  G_q132_1 K a1 t21 (ud [(0, a0), (4, (Value.int .u64 0)), (5, (Value.int .i64 0)), (7, a1), (8, t8), (9, t9), (10, a0), (11, t11), (12, t12), (13, t12), (14, t14), (15, a1), (16, t16), (17, t17), (18, a0), (19, t19), (20, t12), (21, t21)] dz) h9)
  (G_q132_1 K a1 t12 (ud [(0, a0), (4, (Value.int .u64 0)), (5, (Value.int .i64 0)), (7, a1), (8, t8), (9, t9), (10, a0), (11, t11), (12, t12), (13, t12), (14, t14), (15, a1), (16, t16), (17, t17), (18, a0), (19, t19)] dz) h8))
def E0_q132 (a0 a1 : Value) : List Value := [a0, a1, undef, undef, undef, undef, undef, undef, undef, undef, undef, undef, undef, undef, undef, undef, undef, undef, undef, undef, undef, undef, undef, undef, undef, undef, undef, undef, undef]
def X_q132 (Qv : Post) (a0 a1 : Value) (h : Hp) : Prop :=
  C_q104 [a1] h fun t8 h1 =>
  oNot t8 h1 fun t9 h2 =>
  oIf t9
  ((qSeq (aw Try.prog O_q132 K_q132_1 Qv) Qv) .ret (ul (E0_q132 a0 a1) [(4, (Value.int .u64 0)), (5, (Value.int .i64 1)), (7, a1), (8, t8), (9, t9)]) h2)
  (oBin .quo a0 (Value.int .u64 8) h2 fun t11 h3 =>
  oMinMax true [t11, (Value.int .u64 1)] h3 fun t12 h4 =>
  oBin .mul (Value.int .u64 8) t12 h4 fun t14 h5 =>
  oConvInt .u64 a1 h5 fun t16 h6 =>
  oBin .add t14 t16 h6 fun t17 h7 =>
  oBin .leq t17 a0 h7 fun t19 h8 =>
  oIf t19
  (oBin .add t12 (Value.int .u64 1) h8 fun t21 h9 =>
  (qSeq (aw Try.prog O_q132 K_q132_0 Qv) Qv) .normal (ul (E0_q132 a0 a1) [(4, (Value.int .u64 0)), (5, (Value.int .i64 0)), (6, t21), (7, a1), (8, t8), (9, t9), (10, a0), (11, t11), (12, t12), (13, t12), (14, t14), (15, a1), (16, t16), (17, t17), (18, a0), (19, t19), (20, t12), (21, t21)]) h9)
  ((qSeq (aw Try.prog O_q132 K_q132_0 Qv) Qv) .normal (ul (E0_q132 a0 a1) [(4, (Value.int .u64 0)), (5, (Value.int .i64 0)), (6, t12), (7, a1), (8, t8), (9, t9), (10, a0), (11, t11), (12, t12), (13, t12), (14, t14), (15, a1), (16, t16), (17, t17), (18, a0), (19, t19)]) h8))
theorem ga_q132 (Qv : Post) (a0 a1 : Value) (h : Hp) : aw Try.prog O_q132 (bodyC Try.f51) Qv (E0_q132 a0 a1) h = X_q132 Qv a0 a1 h := by kernel_rfl
theorem gb_q132 (a0 a1 : Value) (h : Hp) (K : Kont) : X_q132 (qTop Try.prog Try.f51 K) a0 a1 h = G_q132 a0 a1 h K := by kernel_rfl
theorem gc_q132 (a0 a1 : Value) (h : Hp) (K : Kont) : abody Try.prog O_q132 Try.f51 (bodyC Try.f51) [a0, a1] h K = aw Try.prog O_q132 (bodyC Try.f51) (qTop Try.prog Try.f51 K) (E0_q132 a0 a1) h := by kernel_rfl
theorem eq_q132 (a0 a1 : Value) (h : Hp) (K : Kont) : abody Try.prog O_q132 Try.f51 (bodyC Try.f51) [a0, a1] h K = G_q132 a0 a1 h K := (gc_q132 a0 a1 h K).trans ((ga_q132 _ a0 a1 h).trans (gb_q132 a0 a1 h K))
theorem ok_q132 {a0 a1 : Value} {h : Hp} {K : Kont} (hk : G_q132 a0 a1 h K) : C_q132 [a0, a1] h K := ac_of_body prog_mixed (fn := Try.f51) Try.func51 (c := bodyC Try.f51) (by kernel_rfl) ((eq_q132 a0 a1 h K).mpr hk)
def R_q132_1 (K : Kont) (v1 v6 : Value) (d : Nat → Value) (h : Hp) : Prop :=
  oBin .geq v6 (Value.int .u64 1152921504606846976) h fun t23 h1 =>
  oIf t23
  (K (.tuple #[(Value.int .u64 0), (Value.int .i64 9)]) h1)
  (C_q160 [v6, v1] h1 fun t26 h2 =>
  oExtract t26 0 h2 fun t27 h3 =>
  oExtract t26 1 h3 fun t28 h4 =>
  K (.tuple #[t27, t28]) h4)
def X_q132_1 (Qv : Post) (v1 v6 : Value) (d : Nat → Value) (h : Hp) : Prop :=
  oBin .geq v6 (Value.int .u64 1152921504606846976) h fun t23 h1 =>
  oIf t23
  ((qSeq (aw Try.prog O_q132 K_q132_2 Qv) Qv) .ret (ul (E_q132_1 v1 v6 d) [(4, (Value.int .u64 0)), (5, (Value.int .i64 9)), (22, v6), (23, t23)]) h1)
  (C_q160 [v6, v1] h1 fun t26 h2 =>
  oExtract t26 0 h2 fun t27 h3 =>
  oExtract t26 1 h3 fun t28 h4 =>
  Qv .ret (ul (E_q132_1 v1 v6 d) [(4, t27), (5, t28), (22, v6), (23, t23), (24, v6), (25, v1), (26, t26), (27, t27), (28, t28)]) h4)
theorem ga_q132_1 (Qv : Post) (v1 v6 : Value) (d : Nat → Value) (h : Hp) : aw Try.prog O_q132 K_q132_0 Qv (E_q132_1 v1 v6 d) h = X_q132_1 Qv v1 v6 d h := by kernel_rfl
theorem gb_q132_1 (K : Kont) (v1 v6 : Value) (d : Nat → Value) (h : Hp) : X_q132_1 (qTop Try.prog Try.f51 K) v1 v6 d h = R_q132_1 K v1 v6 d h := by kernel_rfl
theorem req_q132_1 (K : Kont) (v1 v6 : Value) (d : Nat → Value) (h : Hp) : G_q132_1 K v1 v6 d h = R_q132_1 K v1 v6 d h := (ga_q132_1 _ v1 v6 d h).trans (gb_q132_1 K v1 v6 d h)
def O_q126 : Od := []
def G_q126 (a0 a1 a2 : Value) (h : Hp) (K : Kont) : Prop :=
  oEq 1 true none a0 (Value.pointer none) h fun t8 h1 =>
  oGuard t8 true (fun K => K a0 h1) h1 fun t10 h2 =>
  oGuard t8 true (fun K => oNilCheck t10 h2 K) h2 fun t11 h3 =>
  oGuard t8 true (fun K => oFieldAddr 2 t11 h3 K) h3 fun t12 h4 =>
  oGuard t8 true (fun K => oLd1 t12 h4 K) h4 fun t13 h5 =>
  oGuard t8 true (fun K => K a1 h5) h5 fun t14 h6 =>
  oGuard t8 true (fun K => oBin .eql t13 t14 h6 K) h6 fun t15 h7 =>
  oPick t8 t15 (Value.bool false) h7 fun t16 h8 =>
  oGuard t16 true (fun K => K a0 h8) h8 fun t18 h9 =>
  oGuard t16 true (fun K => oNilCheck t18 h9 K) h9 fun t19 h10 =>
  oGuard t16 true (fun K => oFieldAddr 3 t19 h10 K) h10 fun t20 h11 =>
  oGuard t16 true (fun K => oLd1 t20 h11 K) h11 fun t21 h12 =>
  oGuard t16 true (fun K => K a2 h12) h12 fun t22 h13 =>
  oGuard t16 true (fun K => oBin .eql t21 t22 h13 K) h13 fun t23 h14 =>
  oPick t16 t23 (Value.bool false) h14 fun t24 h15 =>
  K t24 h15
def E0_q126 (a0 a1 a2 : Value) : List Value := [a0, a1, a2, undef, undef, undef, undef, undef, undef, undef, undef, undef, undef, undef, undef, undef, undef, undef, undef, undef, undef, undef, undef, undef, undef]
def X_q126 (Qv : Post) (a0 a1 a2 : Value) (h : Hp) : Prop :=
  oEq 1 true none a0 (Value.pointer none) h fun t8 h1 =>
  oGuard t8 true (fun K => K a0 h1) h1 fun t10 h2 =>
  oGuard t8 true (fun K => oNilCheck t10 h2 K) h2 fun t11 h3 =>
  oGuard t8 true (fun K => oFieldAddr 2 t11 h3 K) h3 fun t12 h4 =>
  oGuard t8 true (fun K => oLd1 t12 h4 K) h4 fun t13 h5 =>
  oGuard t8 true (fun K => K a1 h5) h5 fun t14 h6 =>
  oGuard t8 true (fun K => oBin .eql t13 t14 h6 K) h6 fun t15 h7 =>
  oPick t8 t15 (Value.bool false) h7 fun t16 h8 =>
  oGuard t16 true (fun K => K a0 h8) h8 fun t18 h9 =>
  oGuard t16 true (fun K => oNilCheck t18 h9 K) h9 fun t19 h10 =>
  oGuard t16 true (fun K => oFieldAddr 3 t19 h10 K) h10 fun t20 h11 =>
  oGuard t16 true (fun K => oLd1 t20 h11 K) h11 fun t21 h12 =>
  oGuard t16 true (fun K => K a2 h12) h12 fun t22 h13 =>
  oGuard t16 true (fun K => oBin .eql t21 t22 h13 K) h13 fun t23 h14 =>
  oPick t16 t23 (Value.bool false) h14 fun t24 h15 =>
  Qv .ret (ul (E0_q126 a0 a1 a2) [(6, t24), (7, a0), (8, t8), (9, t8), (10, t10), (11, t11), (12, t12), (13, t13), (14, t14), (15, t15), (16, t16), (17, t16), (18, t18), (19, t19), (20, t20), (21, t21), (22, t22), (23, t23), (24, t24)]) h15
theorem ga_q126 (Qv : Post) (a0 a1 a2 : Value) (h : Hp) : aw Try.prog O_q126 (bodyC Try.f52) Qv (E0_q126 a0 a1 a2) h = X_q126 Qv a0 a1 a2 h := by kernel_rfl
theorem gb_q126 (a0 a1 a2 : Value) (h : Hp) (K : Kont) : X_q126 (qTop Try.prog Try.f52 K) a0 a1 a2 h = G_q126 a0 a1 a2 h K := by kernel_rfl
theorem gc_q126 (a0 a1 a2 : Value) (h : Hp) (K : Kont) : abody Try.prog O_q126 Try.f52 (bodyC Try.f52) [a0, a1, a2] h K = aw Try.prog O_q126 (bodyC Try.f52) (qTop Try.prog Try.f52 K) (E0_q126 a0 a1 a2) h := by kernel_rfl
theorem eq_q126 (a0 a1 a2 : Value) (h : Hp) (K : Kont) : abody Try.prog O_q126 Try.f52 (bodyC Try.f52) [a0, a1, a2] h K = G_q126 a0 a1 a2 h K := (gc_q126 a0 a1 a2 h K).trans ((ga_q126 _ a0 a1 a2 h).trans (gb_q126 a0 a1 a2 h K))
theorem ok_q126 {a0 a1 a2 : Value} {h : Hp} {K : Kont} (hk : G_q126 a0 a1 a2 h K) : C_q126 [a0, a1, a2] h K := ac_of_body prog_mixed (fn := Try.f52) Try.func52 (c := bodyC Try.f52) (by kernel_rfl) ((eq_q126 a0 a1 a2 h K).mpr hk)
def O_q74 : Od := []
def G_q74 (a0 a1 : Value) (h : Hp) (K : Kont) : Prop :=
  oBin .geq a1 (Value.int .i64 1) h fun t6 h1 =>
  oGuard t6 true (fun K => K a1 h1) h1 fun t8 h2 =>
  oGuard t6 true (fun K => K a0 h2) h2 fun t9 h3 =>
  oGuard t6 true (fun K => oNilCheck t9 h3 K) h3 fun t10 h4 =>
  oGuard t6 true (fun K => oFieldAddr 1 t10 h4 K) h4 fun t11 h5 =>
  oGuard t6 true (fun K => oLd1 t11 h5 K) h5 fun t12 h6 =>
  oGuard t6 true (fun K => oBin .leq t8 t12 h6 K) h6 fun t13 h7 =>
  oPick t6 t13 (Value.bool false) h7 fun t14 h8 =>
  K t14 h8
def E0_q74 (a0 a1 : Value) : List Value := [a0, a1, undef, undef, undef, undef, undef, undef, undef, undef, undef, undef, undef, undef, undef]
def X_q74 (Qv : Post) (a0 a1 : Value) (h : Hp) : Prop :=
  oBin .geq a1 (Value.int .i64 1) h fun t6 h1 =>
  oGuard t6 true (fun K => K a1 h1) h1 fun t8 h2 =>
  oGuard t6 true (fun K => K a0 h2) h2 fun t9 h3 =>
  oGuard t6 true (fun K => oNilCheck t9 h3 K) h3 fun t10 h4 =>
  oGuard t6 true (fun K => oFieldAddr 1 t10 h4 K) h4 fun t11 h5 =>
  oGuard t6 true (fun K => oLd1 t11 h5 K) h5 fun t12 h6 =>
  oGuard t6 true (fun K => oBin .leq t8 t12 h6 K) h6 fun t13 h7 =>
  oPick t6 t13 (Value.bool false) h7 fun t14 h8 =>
  Qv .ret (ul (E0_q74 a0 a1) [(4, t14), (5, a1), (6, t6), (7, t6), (8, t8), (9, t9), (10, t10), (11, t11), (12, t12), (13, t13), (14, t14)]) h8
theorem ga_q74 (Qv : Post) (a0 a1 : Value) (h : Hp) : aw Try.prog O_q74 (bodyC Try.f53) Qv (E0_q74 a0 a1) h = X_q74 Qv a0 a1 h := by kernel_rfl
theorem gb_q74 (a0 a1 : Value) (h : Hp) (K : Kont) : X_q74 (qTop Try.prog Try.f53 K) a0 a1 h = G_q74 a0 a1 h K := by kernel_rfl
theorem gc_q74 (a0 a1 : Value) (h : Hp) (K : Kont) : abody Try.prog O_q74 Try.f53 (bodyC Try.f53) [a0, a1] h K = aw Try.prog O_q74 (bodyC Try.f53) (qTop Try.prog Try.f53 K) (E0_q74 a0 a1) h := by kernel_rfl
theorem eq_q74 (a0 a1 : Value) (h : Hp) (K : Kont) : abody Try.prog O_q74 Try.f53 (bodyC Try.f53) [a0, a1] h K = G_q74 a0 a1 h K := (gc_q74 a0 a1 h K).trans ((ga_q74 _ a0 a1 h).trans (gb_q74 a0 a1 h K))
theorem ok_q74 {a0 a1 : Value} {h : Hp} {K : Kont} (hk : G_q74 a0 a1 h K) : C_q74 [a0, a1] h K := ac_of_body prog_mixed (fn := Try.f53) Try.func53 (c := bodyC Try.f53) (by kernel_rfl) ((eq_q74 a0 a1 h K).mpr hk)
def O_q10 : Od := []
noncomputable def K_q10_0 : Code := (cI (cB (cA (cB (cB (cB (bodyC Try.f54)))))))
noncomputable def K_q10_1 : Code := (cB (cB (cB (cB (bodyC Try.f54)))))
def Q_q10_0 (K : Kont) : Post := qSeq (aw Try.prog O_q10 K_q10_1 (qTop Try.prog Try.f54 K)) (qTop Try.prog Try.f54 K)
def Q_q10_1 (K : Kont) : Post := qBlk 0 (Q_q10_0 K)
def E_q10_1 (v0 v1 v5 v6 : Value) (d : Nat → Value) : List Value := [v0, v1, d 2, d 3, d 4, v5, v6, d 7, d 8, d 9, d 10, d 11, d 12, d 13, d 14, d 15, d 16, d 17, d 18, d 19, d 20, d 21, d 22, d 23, d 24, d 25, d 26, d 27, d 28, d 29, d 30, d 31, d 32, d 33, d 34, d 35, d 36, d 37, d 38, d 39, d 40, d 41]
def G_q10_1 (K : Kont) (v0 v1 v5 v6 : Value) (d : Nat → Value) (h : Hp) : Prop := aw Try.prog O_q10 K_q10_0 (Q_q10_1 K) (E_q10_1 v0 v1 v5 v6 d) h
noncomputable def K_q10_2 : Code := (cB (cB (cB (bodyC Try.f54))))
def Q_q10_2 (K : Kont) (s0 : Self) : Post := qSeq s0 (Q_q10_1 K)
noncomputable def K_q10_3 : Code := (cI (cI (cB (cA (cB (cB (cB (bodyC Try.f54))))))))
noncomputable def K_q10_4 : Code := (cB (cB (cI (cI (cB (cA (cB (cB (cB (bodyC Try.f54))))))))))
def E_q10_2 (v0 v1 v5 v6 : Value) (d : Nat → Value) : List Value := [v0, v1, d 2, d 3, d 4, v5, v6, d 7, d 8, d 9, d 10, d 11, d 12, d 13, d 14, d 15, d 16, d 17, d 18, d 19, d 20, d 21, d 22, d 23, d 24, d 25, d 26, d 27, d 28, d 29, d 30, d 31, d 32, d 33, d 34, d 35, d 36, d 37, d 38, d 39, d 40, d 41]
def G_q10_2 (K : Kont) (s0 : Self) (v0 v1 v5 v6 : Value) (d : Nat → Value) (h : Hp) : Prop := aw Try.prog O_q10 K_q10_4 (Q_q10_2 K s0) (E_q10_2 v0 v1 v5 v6 d) h
noncomputable def K_q10_5 : Code := (cB (cI (cI (cB (cA (cB (cB (cB (bodyC Try.f54)))))))))
def G_q10 (a0 a1 : Value) (h : Hp) (K : Kont) : Prop :=
  C_q11 [a0, a1] h fun t10 h1 =>
  oBin .eql t10 (Value.int .i64 (-1)) h1 fun t12 h2 =>
  oIf t12
  (K a0 h2)
  (oBin .add t10 (Value.int .i64 1) h2 fun t15 h3 =>
  G_q10_1 K a0 a1 t10 t15 (ud [(4, (Value.slice none 0 0)), (8, a0), (9, a1), (10, t10), (11, t10), (12, t12), (14, t10), (15, t15)] dz) h3)
def E0_q10 (a0 a1 : Value) : List Value := [a0, a1, undef, undef, undef, undef, undef, undef, undef, undef, undef, undef, undef, undef, undef, undef, undef, undef, undef, undef, undef, undef, undef, undef, undef, undef, undef, undef, undef, undef, undef, undef, undef, undef, undef, undef, undef, undef, undef, undef, undef, undef]
def X_q10 (Qv : Post) (a0 a1 : Value) (h : Hp) : Prop :=
  C_q11 [a0, a1] h fun t10 h1 =>
  oBin .eql t10 (Value.int .i64 (-1)) h1 fun t12 h2 =>
  oIf t12
  ((qSeq (aw Try.prog O_q10 K_q10_2 Qv) Qv) .ret (ul (E0_q10 a0 a1) [(4, a0), (5, t10), (8, a0), (9, a1), (10, t10), (11, t10), (12, t12), (13, a0)]) h2)
  (oBin .add t10 (Value.int .i64 1) h2 fun t15 h3 =>
  aw Try.prog O_q10 K_q10_0 (qBlk 0 (qSeq (aw Try.prog O_q10 K_q10_1 Qv) Qv)) (ul (E0_q10 a0 a1) [(4, (Value.slice none 0 0)), (5, t10), (6, t15), (8, a0), (9, a1), (10, t10), (11, t10), (12, t12), (14, t10), (15, t15)]) h3)
theorem ga_q10 (Qv : Post) (a0 a1 : Value) (h : Hp) : aw Try.prog O_q10 (bodyC Try.f54) Qv (E0_q10 a0 a1) h = X_q10 Qv a0 a1 h := by kernel_rfl
theorem gb_q10 (a0 a1 : Value) (h : Hp) (K : Kont) : X_q10 (qTop Try.prog Try.f54 K) a0 a1 h = G_q10 a0 a1 h K := by kernel_rfl
theorem gc_q10 (a0 a1 : Value) (h : Hp) (K : Kont) : abody Try.prog O_q10 Try.f54 (bodyC Try.f54) [a0, a1] h K = aw Try.prog O_q10 (bodyC Try.f54) (qTop Try.prog Try.f54 K) (E0_q10 a0 a1) h := by kernel_rfl
theorem eq_q10 (a0 a1 : Value) (h : Hp) (K : Kont) : abody Try.prog O_q10 Try.f54 (bodyC Try.f54) [a0, a1] h K = G_q10 a0 a1 h K := (gc_q10 a0 a1 h K).trans ((ga_q10 _ a0 a1 h).trans (gb_q10 a0 a1 h K))
theorem ok_q10 {a0 a1 : Value} {h : Hp} {K : Kont} (hk : G_q10 a0 a1 h K) : C_q10 [a0, a1] h K := ac_of_body prog_mixed (fn := Try.f54) Try.func54 (c := bodyC Try.f54) (by kernel_rfl) ((eq_q10 a0 a1 h K).mpr hk)
def B_q10_1 (K : Kont) (s0 : Self) (v0 v1 v5 v6 : Value) (d : Nat → Value) (h : Hp) : Prop :=
  oLen 0 v0 h fun t18 h1 =>
  oBin .lss v6 t18 h1 fun t19 h2 =>
  oIf t19
  (oIdxS 6 v0 v6 h2 fun t24 h3 =>
  oLdN 6 t24 h3 fun t25 h4 =>
  oAlloc #[.int .i64 0, .int .u64 0, .int .i64 0, .int .i64 0, .int .u64 0, .int .i64 0] h4 fun t7 h5 =>
  oSt 6 t7 t25 h5 fun _ h6 =>
  oLdN 6 t7 h6 fun t27 h7 =>
  oCallV Try.prog v1 [t27] h7 fun t28 h8 =>
  oNot t28 h8 fun t29 h9 =>
  oIf t29
  (oLdN 6 t7 h9 fun t32 h10 =>
  oIdxS 6 v0 v5 h10 fun t33 h11 =>
  oSt 6 t33 t32 h11 fun _ h12 =>
  oBin .add v5 (Value.int .i64 1) h12 fun t35 h13 =>
  G_q10_2 K s0 v0 v1 t35 v6 (ud [(7, t7), (16, v6), (17, v0), (18, t18), (19, t19), (22, v0), (23, v6), (24, t24), (25, t25), (26, v1), (27, t27), (28, t28), (29, t29), (30, v0), (31, v5), (32, t32), (33, t33), (34, v5), (35, t35)] d) h13)
  (G_q10_2 K s0 v0 v1 v5 v6 (ud [(7, t7), (16, v6), (17, v0), (18, t18), (19, t19), (22, v0), (23, v6), (24, t24), (25, t25), (26, v1), (27, t27), (28, t28), (29, t29)] d) h9))
  (oSlice 0 6 v0 (some v5) none none h2 fun t38 h14 =>
  oClearSlice 6 #[.int .i64 0, .int .u64 0, .int .i64 0, .int .i64 0, .int .u64 0, .int .i64 0] t38 h14 fun _ h15 =>
  oSlice 0 6 v0 none (some v5) none h15 fun t41 h16 =>
  K t41 h16)
def X_q10_1 (Qv : Post) (v0 v1 v5 v6 : Value) (d : Nat → Value) (h : Hp) : Prop :=
  oLen 0 v0 h fun t18 h1 =>
  oBin .lss v6 t18 h1 fun t19 h2 =>
  oIf t19
  (oIdxS 6 v0 v6 h2 fun t24 h3 =>
  oLdN 6 t24 h3 fun t25 h4 =>
  oAlloc #[.int .i64 0, .int .u64 0, .int .i64 0, .int .i64 0, .int .u64 0, .int .i64 0] h4 fun t7 h5 =>
  oSt 6 t7 t25 h5 fun _ h6 =>
  oLdN 6 t7 h6 fun t27 h7 =>
  oCallV Try.prog v1 [t27] h7 fun t28 h8 =>
  oNot t28 h8 fun t29 h9 =>
  oIf t29
  (oLdN 6 t7 h9 fun t32 h10 =>
  oIdxS 6 v0 v5 h10 fun t33 h11 =>
  oSt 6 t33 t32 h11 fun _ h12 =>
  oBin .add v5 (Value.int .i64 1) h12 fun t35 h13 =>
  (qBlk 1 (qSeq (aw Try.prog O_q10 K_q10_4 Qv) Qv)) .normal (ul (E_q10_1 v0 v1 v5 v6 d) [(5, t35), (7, t7), (16, v6), (17, v0), (18, t18), (19, t19), (22, v0), (23, v6), (24, t24), (25, t25), (26, v1), (27, t27), (28, t28), (29, t29), (30, v0), (31, v5), (32, t32), (33, t33), (34, v5), (35, t35)]) h13)
  ((qBlk 1 (qSeq (aw Try.prog O_q10 K_q10_4 Qv) Qv)) .normal (ul (E_q10_1 v0 v1 v5 v6 d) [(7, t7), (16, v6), (17, v0), (18, t18), (19, t19), (22, v0), (23, v6), (24, t24), (25, t25), (26, v1), (27, t27), (28, t28), (29, t29)]) h9))
  ((qSeq (aw Try.prog O_q10 K_q10_5 Qv) Qv) (.exit 0) (ul (E_q10_1 v0 v1 v5 v6 d) [(16, v6), (17, v0), (18, t18), (19, t19)]) h2)
theorem ga_q10_1 (Qv : Post) (v0 v1 v5 v6 : Value) (d : Nat → Value) (h : Hp) : aw Try.prog O_q10 K_q10_3 Qv (E_q10_1 v0 v1 v5 v6 d) h = X_q10_1 Qv v0 v1 v5 v6 d h := by kernel_rfl
theorem gb_q10_1 (K : Kont) (s0 : Self) (v0 v1 v5 v6 : Value) (d : Nat → Value) (h : Hp) : X_q10_1 (Q_q10_2 K s0) v0 v1 v5 v6 d h = B_q10_1 K s0 v0 v1 v5 v6 d h := by kernel_rfl
theorem beq_q10_1 (K : Kont) (s0 : Self) (v0 v1 v5 v6 : Value) (d : Nat → Value) (h : Hp) : aw Try.prog O_q10 K_q10_3 (Q_q10_2 K s0) (E_q10_1 v0 v1 v5 v6 d) h = B_q10_1 K s0 v0 v1 v5 v6 d h := (ga_q10_1 _ v0 v1 v5 v6 d h).trans (gb_q10_1 K s0 v0 v1 v5 v6 d h)
theorem rule_q10_1 {K : Kont} {v0 v1 : Value} (Inv : Value → Value → Hp → Prop) (μ : Value → Value → Hp → Nat)
    (step : ∀ (s0 : Self) (v5 v6 : Value) (d : Nat → Value) (h : Hp), Inv v5 v6 h → (∀ (v5' : Value) (v6' : Value) (d' : Nat → Value) (h' : Hp), Inv v5' v6' h' → μ v5' v6' h' < μ v5 v6 h → s0 (E_q10_1 v0 v1 v5' v6' d') h') → B_q10_1 K s0 v0 v1 v5 v6 d h) (v5 v6 : Value) (d : Nat → Value) (h : Hp) (hi : Inv v5 v6 h) : G_q10_1 K v0 v1 v5 v6 d h :=
  oLoop_rule (α := Value × Value × (Nat → Value)) (fun x => E_q10_1 v0 v1 x.1 x.2.1 x.2.2) (fun x h => Inv x.1 x.2.1 h) (fun x h => μ x.1 x.2.1 h)
    (fun self x h hx hs => (beq_q10_1 K self v0 v1 x.1 x.2.1 x.2.2 h).mpr (step self x.1 x.2.1 x.2.2 h hx (fun v5' v6' d' h' h1 h2 => hs ⟨v5', v6', d'⟩ h' h1 h2))) ⟨v5, v6, d⟩ h hi
def R_q10_2 (K : Kont) (s0 : Self) (v0 v1 v5 v6 : Value) (d : Nat → Value) (h : Hp) : Prop :=
  oBin .add v6 (Value.int .i64 1) h fun t21 h1 =>
  s0 (E_q10_1 v0 v1 v5 t21 (ud [(20, v6), (21, t21)] d)) h1
def X_q10_2 (Qv : Post) (v0 v1 v5 v6 : Value) (d : Nat → Value) (h : Hp) : Prop :=
  oBin .add v6 (Value.int .i64 1) h fun t21 h1 =>
  Qv .normal (ul (E_q10_2 v0 v1 v5 v6 d) [(6, t21), (20, v6), (21, t21)]) h1
theorem ga_q10_2 (Qv : Post) (v0 v1 v5 v6 : Value) (d : Nat → Value) (h : Hp) : aw Try.prog O_q10 K_q10_4 Qv (E_q10_2 v0 v1 v5 v6 d) h = X_q10_2 Qv v0 v1 v5 v6 d h := by kernel_rfl
theorem gb_q10_2 (K : Kont) (s0 : Self) (v0 v1 v5 v6 : Value) (d : Nat → Value) (h : Hp) : X_q10_2 (Q_q10_2 K s0) v0 v1 v5 v6 d h = R_q10_2 K s0 v0 v1 v5 v6 d h := by kernel_rfl
theorem req_q10_2 (K : Kont) (s0 : Self) (v0 v1 v5 v6 : Value) (d : Nat → Value) (h : Hp) : G_q10_2 K s0 v0 v1 v5 v6 d h = R_q10_2 K s0 v0 v1 v5 v6 d h := (ga_q10_2 _ v0 v1 v5 v6 d h).trans (gb_q10_2 K s0 v0 v1 v5 v6 d h)
def O_q13 : Od := []
noncomputable def K_q13_0 : Code := (cB (cB (bodyC Try.f55)))
def G_q13 (a0 : Value) (h : Hp) (K : Kont) : Prop :=
  oEq 2 false none a0 (Value.slice none 0 0) h fun t4 h1 =>
  oIf t4
  (K (Value.slice none 0 0) h1)
  (oBuildSlice #[] 0 [] h1 fun t5 h2 =>
  oAppend 6 48 #[.int .i64 0, .int .u64 0, .int .i64 0, .int .i64 0, .int .u64 0, .int .i64 0] t5 a0 h2 fun t7 h3 =>
  K t7 h3)
def E0_q13 (a0 : Value) : List Value := [a0, undef, undef, undef, undef, undef, undef, undef]
def X_q13 (Qv : Post) (a0 : Value) (h : Hp) : Prop :=
  oEq 2 false none a0 (Value.slice none 0 0) h fun t4 h1 =>
  oIf t4
  ((qSeq (aw Try.prog O_q13 K_q13_0 Qv) Qv) .ret (ul (E0_q13 a0) [(2, (Value.slice none 0 0)), (3, a0), (4, t4)]) h1)
  (oBuildSlice #[] 0 [] h1 fun t5 h2 =>
  oAppend 6 48 #[.int .i64 0, .int .u64 0, .int .i64 0, .int .i64 0, .int .u64 0, .int .i64 0] t5 a0 h2 fun t7 h3 =>
  Qv .ret (ul (E0_q13 a0) [(2, t7), (3, a0), (4, t4), (5, t5), (6, a0), (7, t7)]) h3)
theorem ga_q13 (Qv : Post) (a0 : Value) (h : Hp) : aw Try.prog O_q13 (bodyC Try.f55) Qv (E0_q13 a0) h = X_q13 Qv a0 h := by kernel_rfl
theorem gb_q13 (a0 : Value) (h : Hp) (K : Kont) : X_q13 (qTop Try.prog Try.f55 K) a0 h = G_q13 a0 h K := by kernel_rfl
theorem gc_q13 (a0 : Value) (h : Hp) (K : Kont) : abody Try.prog O_q13 Try.f55 (bodyC Try.f55) [a0] h K = aw Try.prog O_q13 (bodyC Try.f55) (qTop Try.prog Try.f55 K) (E0_q13 a0) h := by kernel_rfl
theorem eq_q13 (a0 : Value) (h : Hp) (K : Kont) : abody Try.prog O_q13 Try.f55 (bodyC Try.f55) [a0] h K = G_q13 a0 h K := (gc_q13 a0 h K).trans ((ga_q13 _ a0 h).trans (gb_q13 a0 h K))
theorem ok_q13 {a0 : Value} {h : Hp} {K : Kont} (hk : G_q13 a0 h K) : C_q13 [a0] h K := ac_of_body prog_mixed (fn := Try.f55) Try.func55 (c := bodyC Try.f55) (by kernel_rfl) ((eq_q13 a0 h K).mpr hk)
end Go.Proofs.Ytdolepapmpcpiaa

namespace Go.Proofs.Ytdolepapmpcpiaa
open Go
set_option linter.unusedSectionVars false
variable [Base]
set_option linter.unusedVariables false
set_option maxRecDepth 100000
def O_q34 : Od := [(1, (.one 0 true (.one 1 true (.one 2 true (.one 3 true (.one 4 true (.one 5 true (.one 6 true (.one 7 true (.one 8 true (.one 9 true (.one 10 true (.one 11 true (.one 12 true .nil))))))))))))))]
def G_q34 (a0 a1 : Value) (h : Hp) (K : Kont) : Prop :=
  oBox a0 h fun t2 h1 =>
  oFieldAddr 0 t2 h1 fun t4 h2 =>
  oLd1 t4 h2 fun t5 h3 =>
  oLd1 a1 h3 fun t6 h4 =>
  oNilCheck t6 h4 fun t7 h5 =>
  oFieldAddr 4 t7 h5 fun t8 h6 =>
  oLd1 t8 h6 fun t9 h7 =>
  oBin .lss t5 t9 h7 fun t10 h8 =>
  oGuard t10 false (fun K => oFieldAddr 0 t2 h8 K) h8 fun t12 h9 =>
  oGuard t10 false (fun K => oLd1 t12 h9 K) h9 fun t13 h10 =>
  oGuard t10 false (fun K => oBin .geq t13 (Value.int .i64 512) h10 K) h10 fun t14 h11 =>
  oPick t10 (Value.bool true) t14 h11 fun t15 h12 =>
  K t15 h12
def E0_q34 (a0 a1 : Value) : List Value := [a0, a1, undef, undef, undef, undef, undef, undef, undef, undef, undef, undef, undef, undef, undef, undef]
def X_q34 (Qv : Post) (a0 a1 : Value) (h : Hp) : Prop :=
  oBox a0 h fun t2 h1 =>
  oFieldAddr 0 t2 h1 fun t4 h2 =>
  oLd1 t4 h2 fun t5 h3 =>
  oLd1 a1 h3 fun t6 h4 =>
  oNilCheck t6 h4 fun t7 h5 =>
  oFieldAddr 4 t7 h5 fun t8 h6 =>
  oLd1 t8 h6 fun t9 h7 =>
  oBin .lss t5 t9 h7 fun t10 h8 =>
  oGuard t10 false (fun K => oFieldAddr 0 t2 h8 K) h8 fun t12 h9 =>
  oGuard t10 false (fun K => oLd1 t12 h9 K) h9 fun t13 h10 =>
  oGuard t10 false (fun K => oBin .geq t13 (Value.int .i64 512) h10 K) h10 fun t14 h11 =>
  oPick t10 (Value.bool true) t14 h11 fun t15 h12 =>
  Qv .ret (ul (E0_q34 a0 a1) [(2, t2), (3, t15), (4, t4), (5, t5), (6, t6), (7, t7), (8, t8), (9, t9), (10, t10), (11, t10), (12, t12), (13, t13), (14, t14), (15, t15)]) h12
theorem ga_q34 (Qv : Post) (a0 a1 : Value) (h : Hp) : aw Try.prog O_q34 (bodyC Try.f56) Qv (E0_q34 a0 a1) h = X_q34 Qv a0 a1 h := by kernel_rfl
theorem gb_q34 (a0 a1 : Value) (h : Hp) (K : Kont) : X_q34 (qTop Try.prog Try.f56 K) a0 a1 h = G_q34 a0 a1 h K := by kernel_rfl
theorem gc_q34 (a0 a1 : Value) (h : Hp) (K : Kont) : abody Try.prog O_q34 Try.f56 (bodyC Try.f56) [a0, a1] h K = aw Try.prog O_q34 (bodyC Try.f56) (qTop Try.prog Try.f56 K) (E0_q34 a0 a1) h := by kernel_rfl
theorem eq_q34 (a0 a1 : Value) (h : Hp) (K : Kont) : abody Try.prog O_q34 Try.f56 (bodyC Try.f56) [a0, a1] h K = G_q34 a0 a1 h K := (gc_q34 a0 a1 h K).trans ((ga_q34 _ a0 a1 h).trans (gb_q34 a0 a1 h K))
theorem ok_q34 {a0 a1 : Value} {h : Hp} {K : Kont} (hk : G_q34 a0 a1 h K) : C_q34 [a0, a1] h K := ac_of_body prog_mixed (fn := Try.f56) Try.func56 (c := bodyC Try.f56) (by kernel_rfl) ((eq_q34 a0 a1 h K).mpr hk)
def O_q133 : Od := []
noncomputable def K_q133_0 : Code := (cI (cB (cA (cB (cB (bodyC Try.f57))))))
noncomputable def K_q133_1 : Code := (cB (cB (cB (bodyC Try.f57))))
def Q_q133_0 (K : Kont) : Post := qSeq (aw Try.prog O_q133 K_q133_1 (qTop Try.prog Try.f57 K)) (qTop Try.prog Try.f57 K)
def Q_q133_1 (K : Kont) : Post := qBlk 0 (Q_q133_0 K)
def E_q133_1 (v0 v9 v10 v11 : Value) (d : Nat → Value) : List Value := [v0, d 1, d 2, d 3, d 4, d 5, d 6, d 7, d 8, v9, v10, v11, d 12, d 13, d 14, d 15, d 16, d 17, d 18, d 19, d 20, d 21, d 22]
def G_q133_1 (K : Kont) (v0 v9 v10 v11 : Value) (d : Nat → Value) (h : Hp) : Prop := aw Try.prog O_q133 K_q133_0 (Q_q133_1 K) (E_q133_1 v0 v9 v10 v11 d) h
def Q_q133_2 (K : Kont) (s0 : Self) : Post := qSeq s0 (Q_q133_1 K)
noncomputable def K_q133_2 : Code := (cI (cI (cB (cA (cB (cB (bodyC Try.f57)))))))
noncomputable def K_q133_3 : Code := (cB (cB (cB (cI (cI (cB (cA (cB (cB (bodyC Try.f57))))))))))
def E_q133_2 (v0 v9 v10 v11 : Value) (d : Nat → Value) : List Value := [v0, d 1, d 2, d 3, d 4, d 5, d 6, d 7, d 8, v9, v10, v11, d 12, d 13, d 14, d 15, d 16, d 17, d 18, d 19, d 20, d 21, d 22]
def G_q133_2 (K : Kont) (s0 : Self) (v0 v9 v10 v11 : Value) (d : Nat → Value) (h : Hp) : Prop := aw Try.prog O_q133 K_q133_3 (Q_q133_2 K s0) (E_q133_2 v0 v9 v10 v11 d) h
noncomputable def K_q133_4 : Code := (cB (cB (cI (cI (cB (cA (cB (cB (bodyC Try.f57)))))))))
def G_q133 (a0 a1 : Value) (h : Hp) (K : Kont) : Prop :=
  oBin .andNot a0 (Value.int .u64 1) h fun t8 h1 =>
  oLen 0 a1 h1 fun t10 h2 =>
  G_q133_1 K t8 a1 t10 (Value.int .i64 0) (ud [(1, a1), (4, (Value.int .u64 0)), (7, a0), (8, t8)] dz) h2
def E0_q133 (a0 a1 : Value) : List Value := [a0, a1, undef, undef, undef, undef, undef, undef, undef, undef, undef, undef, undef, undef, undef, undef, undef, undef, undef, undef, undef, undef, undef]
def X_q133 (Qv : Post) (a0 a1 : Value) (h : Hp) : Prop :=
  oBin .andNot a0 (Value.int .u64 1) h fun t8 h1 =>
  oLen 0 a1 h1 fun t10 h2 =>
  aw Try.prog O_q133 K_q133_0 (qBlk 0 (qSeq (aw Try.prog O_q133 K_q133_1 Qv) Qv)) (ul (E0_q133 a0 a1) [(0, t8), (4, (Value.int .u64 0)), (7, a0), (8, t8), (9, a1), (10, t10), (11, (Value.int .i64 0))]) h2
theorem ga_q133 (Qv : Post) (a0 a1 : Value) (h : Hp) : aw Try.prog O_q133 (bodyC Try.f57) Qv (E0_q133 a0 a1) h = X_q133 Qv a0 a1 h := by kernel_rfl
theorem gb_q133 (a0 a1 : Value) (h : Hp) (K : Kont) : X_q133 (qTop Try.prog Try.f57 K) a0 a1 h = G_q133 a0 a1 h K := by kernel_rfl
theorem gc_q133 (a0 a1 : Value) (h : Hp) (K : Kont) : abody Try.prog O_q133 Try.f57 (bodyC Try.f57) [a0, a1] h K = aw Try.prog O_q133 (bodyC Try.f57) (qTop Try.prog Try.f57 K) (E0_q133 a0 a1) h := by kernel_rfl
theorem eq_q133 (a0 a1 : Value) (h : Hp) (K : Kont) : abody Try.prog O_q133 Try.f57 (bodyC Try.f57) [a0, a1] h K = G_q133 a0 a1 h K := (gc_q133 a0 a1 h K).trans ((ga_q133 _ a0 a1 h).trans (gb_q133 a0 a1 h K))
theorem ok_q133 {a0 a1 : Value} {h : Hp} {K : Kont} (hk : G_q133 a0 a1 h K) : C_q133 [a0, a1] h K := ac_of_body prog_mixed (fn := Try.f57) Try.func57 (c := bodyC Try.f57) (by kernel_rfl) ((eq_q133 a0 a1 h K).mpr hk)
def B_q133_1 (K : Kont) (s0 : Self) (v0 v9 v10 v11 : Value) (d : Nat → Value) (h : Hp) : Prop :=
  oBin .lss v11 v10 h fun t12 h1 =>
  oIf t12
  (oIdxS 1 v9 v11 h1 fun t13 h2 =>
  oLd1 t13 h2 fun t14 h3 =>
  C_q105 [t14] h3 fun t16 h4 =>
  oIf t16
  (oBin .shl (Value.int .u64 1) t14 h4 fun t19 h5 =>
  oBin .or v0 t19 h5 fun t20 h6 =>
  G_q133_2 K s0 t20 v9 v10 v11 (ud [(6, t14), (12, t12), (13, t13), (14, t14), (15, t14), (16, t16), (17, v0), (18, t14), (19, t19), (20, t20)] d) h6)
  (G_q133_2 K s0 v0 v9 v10 v11 (ud [(6, t14), (12, t12), (13, t13), (14, t14), (15, t14), (16, t16)] d) h4))
  (K v0 h1)
def X_q133_1 (Qv : Post) (v0 v9 v10 v11 : Value) (d : Nat → Value) (h : Hp) : Prop :=
  oBin .lss v11 v10 h fun t12 h1 =>
  oIf t12
  (oIdxS 1 v9 v11 h1 fun t13 h2 =>
  oLd1 t13 h2 fun t14 h3 =>
  C_q105 [t14] h3 fun t16 h4 =>
  oIf t16
  (oBin .shl (Value.int .u64 1) t14 h4 fun t19 h5 =>
  oBin .or v0 t19 h5 fun t20 h6 =>
  (qBlk 1 (qSeq (aw Try.prog O_q133 K_q133_3 Qv) Qv)) .normal (ul (E_q133_1 v0 v9 v10 v11 d) [(0, t20), (6, t14), (12, t12), (13, t13), (14, t14), (15, t14), (16, t16), (17, v0), (18, t14), (19, t19), (20, t20)]) h6)
  ((qBlk 1 (qSeq (aw Try.prog O_q133 K_q133_3 Qv) Qv)) .normal (ul (E_q133_1 v0 v9 v10 v11 d) [(6, t14), (12, t12), (13, t13), (14, t14), (15, t14), (16, t16)]) h4))
  ((qSeq (aw Try.prog O_q133 K_q133_4 Qv) Qv) (.exit 0) (ul (E_q133_1 v0 v9 v10 v11 d) [(12, t12)]) h1)
theorem ga_q133_1 (Qv : Post) (v0 v9 v10 v11 : Value) (d : Nat → Value) (h : Hp) : aw Try.prog O_q133 K_q133_2 Qv (E_q133_1 v0 v9 v10 v11 d) h = X_q133_1 Qv v0 v9 v10 v11 d h := by kernel_rfl
theorem gb_q133_1 (K : Kont) (s0 : Self) (v0 v9 v10 v11 : Value) (d : Nat → Value) (h : Hp) : X_q133_1 (Q_q133_2 K s0) v0 v9 v10 v11 d h = B_q133_1 K s0 v0 v9 v10 v11 d h := by kernel_rfl
theorem beq_q133_1 (K : Kont) (s0 : Self) (v0 v9 v10 v11 : Value) (d : Nat → Value) (h : Hp) : aw Try.prog O_q133 K_q133_2 (Q_q133_2 K s0) (E_q133_1 v0 v9 v10 v11 d) h = B_q133_1 K s0 v0 v9 v10 v11 d h := (ga_q133_1 _ v0 v9 v10 v11 d h).trans (gb_q133_1 K s0 v0 v9 v10 v11 d h)
theorem rule_q133_1 {K : Kont} {v9 v10 : Value} (Inv : Value → Value → Hp → Prop) (μ : Value → Value → Hp → Nat)
    (step : ∀ (s0 : Self) (v0 v11 : Value) (d : Nat → Value) (h : Hp), Inv v0 v11 h → (∀ (v0' : Value) (v11' : Value) (d' : Nat → Value) (h' : Hp), Inv v0' v11' h' → μ v0' v11' h' < μ v0 v11 h → s0 (E_q133_1 v0' v9 v10 v11' d') h') → B_q133_1 K s0 v0 v9 v10 v11 d h) (v0 v11 : Value) (d : Nat → Value) (h : Hp) (hi : Inv v0 v11 h) : G_q133_1 K v0 v9 v10 v11 d h :=
  oLoop_rule (α := Value × Value × (Nat → Value)) (fun x => E_q133_1 x.1 v9 v10 x.2.1 x.2.2) (fun x h => Inv x.1 x.2.1 h) (fun x h => μ x.1 x.2.1 h)
    (fun self x h hx hs => (beq_q133_1 K self x.1 v9 v10 x.2.1 x.2.2 h).mpr (step self x.1 x.2.1 x.2.2 h hx (fun v0' v11' d' h' h1 h2 => hs ⟨v0', v11', d'⟩ h' h1 h2))) ⟨v0, v11, d⟩ h hi
def R_q133_2 (K : Kont) (s0 : Self) (v0 v9 v10 v11 : Value) (d : Nat → Value) (h : Hp) : Prop :=
  oBin .add v11 (Value.int .i64 1) h fun t21 h1 =>
  s0 (E_q133_1 v0 v9 v10 t21 (ud [(21, t21)] d)) h1
def X_q133_2 (Qv : Post) (v0 v9 v10 v11 : Value) (d : Nat → Value) (h : Hp) : Prop :=
  oBin .add v11 (Value.int .i64 1) h fun t21 h1 =>
  Qv .normal (ul (E_q133_2 v0 v9 v10 v11 d) [(11, t21), (21, t21)]) h1
theorem ga_q133_2 (Qv : Post) (v0 v9 v10 v11 : Value) (d : Nat → Value) (h : Hp) : aw Try.prog O_q133 K_q133_3 Qv (E_q133_2 v0 v9 v10 v11 d) h = X_q133_2 Qv v0 v9 v10 v11 d h := by kernel_rfl
theorem gb_q133_2 (K : Kont) (s0 : Self) (v0 v9 v10 v11 : Value) (d : Nat → Value) (h : Hp) : X_q133_2 (Q_q133_2 K s0) v0 v9 v10 v11 d h = R_q133_2 K s0 v0 v9 v10 v11 d h := by kernel_rfl
theorem req_q133_2 (K : Kont) (s0 : Self) (v0 v9 v10 v11 : Value) (d : Nat → Value) (h : Hp) : G_q133_2 K s0 v0 v9 v10 v11 d h = R_q133_2 K s0 v0 v9 v10 v11 d h := (ga_q133_2 _ v0 v9 v10 v11 d h).trans (gb_q133_2 K s0 v0 v9 v10 v11 d h)
def O_q4 : Od := []
def G_q4 (a0 : Value) (h : Hp) (K : Kont) : Prop :=
  oBox a0 h fun t1 h1 =>
  K (.func (Go.Fn.func 80) #[] #[t1]) h1
def E0_q4 (a0 : Value) : List Value := [a0, undef, undef, undef]
def X_q4 (Qv : Post) (a0 : Value) (h : Hp) : Prop :=
  oBox a0 h fun t1 h1 =>
  Qv .ret (ul (E0_q4 a0) [(1, t1), (2, (.func (Go.Fn.func 80) #[] #[t1])), (3, (.func (Go.Fn.func 80) #[] #[t1]))]) h1
theorem ga_q4 (Qv : Post) (a0 : Value) (h : Hp) : aw Try.prog O_q4 (bodyC Try.f58) Qv (E0_q4 a0) h = X_q4 Qv a0 h := by kernel_rfl
theorem gb_q4 (a0 : Value) (h : Hp) (K : Kont) : X_q4 (qTop Try.prog Try.f58 K) a0 h = G_q4 a0 h K := by kernel_rfl
theorem gc_q4 (a0 : Value) (h : Hp) (K : Kont) : abody Try.prog O_q4 Try.f58 (bodyC Try.f58) [a0] h K = aw Try.prog O_q4 (bodyC Try.f58) (qTop Try.prog Try.f58 K) (E0_q4 a0) h := by kernel_rfl
theorem eq_q4 (a0 : Value) (h : Hp) (K : Kont) : abody Try.prog O_q4 Try.f58 (bodyC Try.f58) [a0] h K = G_q4 a0 h K := (gc_q4 a0 h K).trans ((ga_q4 _ a0 h).trans (gb_q4 a0 h K))
theorem ok_q4 {a0 : Value} {h : Hp} {K : Kont} (hk : G_q4 a0 h K) : C_q4 [a0] h K := ac_of_body prog_mixed (fn := Try.f58) Try.func58 (c := bodyC Try.f58) (by kernel_rfl) ((eq_q4 a0 h K).mpr hk)
def O_q102 : Od := []
noncomputable def K_q102_0 : Code := (cB (cB (cB (bodyC Try.f59))))
def E_q102_1 (v0 v1 : Value) (d : Nat → Value) : List Value := [v0, v1, d 2, d 3, d 4, d 5, d 6, d 7, d 8, d 9, d 10, d 11, d 12, d 13, d 14, d 15, d 16, d 17, d 18, d 19]
def G_q102_1 (K : Kont) (v0 v1 : Value) (d : Nat → Value) (h : Hp) : Prop := aw Try.prog O_q102 K_q102_0 (qTop Try.prog Try.f59 K) (E_q102_1 v0 v1 d) h
noncomputable def K_q102_1 : Code := (cB (cB (bodyC Try.f59)))
def G_q102 (a0 a1 : Value) (h : Hp) (K : Kont) : Prop :=
  oBin .lss a1 (Value.int .i64 1) h fun t6 h1 =>
  oIf t6
  (K (Value.bool false) h1)
  (oBin .lss a1 (Value.int .i64 63) h1 fun t8 h2 =>
  oIf t8
  (oBin .add a1 (Value.int .i64 1) h2 fun t11 h3 =>
  oBin .shl (Value.int .u64 1) t11 h3 fun t12 h4 =>
  oBin .sub t12 (Value.int .u64 1) h4 fun t13 h5 =>
  oBin .and a0 t13 h5 fun t14 h6 =>
  G_q102_1 K t14 a1 (ud [(4, (Value.bool false)), (5, a1), (6, t6), (7, a1), (8, t8), (9, a0), (10, a1), (11, t11), (12, t12), (13, t13), (14, t14)] dz) h6)
  (G_q102_1 K a0 a1 (ud [(4, (Value.bool false)), (5, a1), (6, t6), (7, a1), (8, t8)] dz) h2))
def E0_q102 (a0 a1 : Value) : List Value := [a0, a1, undef, undef, undef, undef, undef, undef, undef, undef, undef, undef, undef, undef, undef, undef, undef, undef, undef, undef]
def X_q102 (Qv : Post) (a0 a1 : Value) (h : Hp) : Prop :=
  oBin .lss a1 (Value.int .i64 1) h fun t6 h1 =>
  oIf t6
  ((qSeq (aw Try.prog O_q102 K_q102_1 Qv) Qv) .ret (ul (E0_q102 a0 a1) [(4, (Value.bool false)), (5, a1), (6, t6)]) h1)
  (oBin .lss a1 (Value.int .i64 63) h1 fun t8 h2 =>
  oIf t8
  (oBin .add a1 (Value.int .i64 1) h2 fun t11 h3 =>
  oBin .shl (Value.int .u64 1) t11 h3 fun t12 h4 =>
  oBin .sub t12 (Value.int .u64 1) h4 fun t13 h5 =>
  oBin .and a0 t13 h5 fun t14 h6 =>
  (qSeq (aw Try.prog O_q102 K_q102_0 Qv) Qv) .normal (ul (E0_q102 a0 a1) [(0, t14), (4, (Value.bool false)), (5, a1), (6, t6), (7, a1), (8, t8), (9, a0), (10, a1), (11, t11), (12, t12), (13, t13), (14, t14)]) h6)
  ((qSeq (aw Try.prog O_q102 K_q102_0 Qv) Qv) .normal (ul (E0_q102 a0 a1) [(4, (Value.bool false)), (5, a1), (6, t6), (7, a1), (8, t8)]) h2))
theorem ga_q102 (Qv : Post) (a0 a1 : Value) (h : Hp) : aw Try.prog O_q102 (bodyC Try.f59) Qv (E0_q102 a0 a1) h = X_q102 Qv a0 a1 h := by kernel_rfl
theorem gb_q102 (a0 a1 : Value) (h : Hp) (K : Kont) : X_q102 (qTop Try.prog Try.f59 K) a0 a1 h = G_q102 a0 a1 h K := by kernel_rfl
theorem gc_q102 (a0 a1 : Value) (h : Hp) (K : Kont) : abody Try.prog O_q102 Try.f59 (bodyC Try.f59) [a0, a1] h K = aw Try.prog O_q102 (bodyC Try.f59) (qTop Try.prog Try.f59 K) (E0_q102 a0 a1) h := by kernel_rfl
theorem eq_q102 (a0 a1 : Value) (h : Hp) (K : Kont) : abody Try.prog O_q102 Try.f59 (bodyC Try.f59) [a0, a1] h K = G_q102 a0 a1 h K := (gc_q102 a0 a1 h K).trans ((ga_q102 _ a0 a1 h).trans (gb_q102 a0 a1 h K))
theorem ok_q102 {a0 a1 : Value} {h : Hp} {K : Kont} (hk : G_q102 a0 a1 h K) : C_q102 [a0, a1] h K := ac_of_body prog_mixed (fn := Try.f59) Try.func59 (c := bodyC Try.f59) (by kernel_rfl) ((eq_q102 a0 a1 h K).mpr hk)
def R_q102_1 (K : Kont) (v0 v1 : Value) (d : Nat → Value) (h : Hp) : Prop :=
  C_q120 [v0] h fun t16 h1 =>
  C_q103 [v1] h1 fun t18 h2 =>
  oBin .geq t16 t18 h2 fun t19 h3 =>
  K t19 h3
def X_q102_1 (Qv : Post) (v0 v1 : Value) (d : Nat → Value) (h : Hp) : Prop :=
  C_q120 [v0] h fun t16 h1 =>
  C_q103 [v1] h1 fun t18 h2 =>
  oBin .geq t16 t18 h2 fun t19 h3 =>
  Qv .ret (ul (E_q102_1 v0 v1 d) [(4, t19), (15, v0), (16, t16), (17, v1), (18, t18), (19, t19)]) h3
theorem ga_q102_1 (Qv : Post) (v0 v1 : Value) (d : Nat → Value) (h : Hp) : aw Try.prog O_q102 K_q102_0 Qv (E_q102_1 v0 v1 d) h = X_q102_1 Qv v0 v1 d h := by kernel_rfl
theorem gb_q102_1 (K : Kont) (v0 v1 : Value) (d : Nat → Value) (h : Hp) : X_q102_1 (qTop Try.prog Try.f59 K) v0 v1 d h = R_q102_1 K v0 v1 d h := by kernel_rfl
theorem req_q102_1 (K : Kont) (v0 v1 : Value) (d : Nat → Value) (h : Hp) : G_q102_1 K v0 v1 d h = R_q102_1 K v0 v1 d h := (ga_q102_1 _ v0 v1 d h).trans (gb_q102_1 K v0 v1 d h)
def O_q95 : Od := [(3, (.one 0 true (.one 1 true (.one 2 true (.one 3 true (.one 4 true (.one 5 true (.one 6 true .nil))))))))]
noncomputable def K_q95_0 : Code := (cI (cB (bodyC Try.f60)))
def Q_q95_0 (K : Kont) : Post := qBlk 0 (qTop Try.prog Try.f60 K)
def E_q95_1 (v0 v6 v7 v8 : Value) (d : Nat → Value) : List Value := [v0, d 1, d 2, d 3, d 4, d 5, v6, v7, v8, d 9, d 10, d 11, d 12, d 13, d 14, d 15, d 16, d 17, d 18, d 19, d 20, d 21, d 22, d 23, d 24, d 25, d 26]
def G_q95_1 (K : Kont) (v0 v6 v7 v8 : Value) (d : Nat → Value) (h : Hp) : Prop := aw Try.prog O_q95 K_q95_0 (Q_q95_0 K) (E_q95_1 v0 v6 v7 v8 d) h
def Q_q95_1 (K : Kont) (s0 : Self) : Post := qSeq s0 (Q_q95_0 K)
noncomputable def K_q95_1 : Code := (cI (cI (cB (bodyC Try.f60))))
noncomputable def K_q95_2 : Code := (cI (cA (cB (cI (cA (cB (cB (cI (cI (cB (bodyC Try.f60)))))))))))
noncomputable def K_q95_3 : Code := (cB (cB (cB (cI (cI (cB (bodyC Try.f60)))))))
def Q_q95_2 (K : Kont) (s0 : Self) : Post := qSeq (aw Try.prog O_q95 K_q95_3 (Q_q95_1 K s0)) (Q_q95_1 K s0)
def Q_q95_3 (K : Kont) (s0 : Self) : Post := qBlk 1 (Q_q95_2 K s0)
noncomputable def K_q95_4 : Code := (cB (cB (cI (cA (cB (cB (cI (cI (cB (bodyC Try.f60))))))))))
def Q_q95_4 (K : Kont) (s0 : Self) : Post := qSeq (aw Try.prog O_q95 K_q95_4 (Q_q95_3 K s0)) (Q_q95_3 K s0)
def Q_q95_5 (K : Kont) (s0 : Self) : Post := qBlk 2 (Q_q95_4 K s0)
def E_q95_2 (v0 v3 v6 v7 v8 : Value) (d : Nat → Value) : List Value := [v0, d 1, d 2, v3, d 4, d 5, v6, v7, v8, d 9, d 10, d 11, d 12, d 13, d 14, d 15, d 16, d 17, d 18, d 19, d 20, d 21, d 22, d 23, d 24, d 25, d 26]
def G_q95_2 (K : Kont) (s0 : Self) (v0 v3 v6 v7 v8 : Value) (d : Nat → Value) (h : Hp) : Prop := aw Try.prog O_q95 K_q95_2 (Q_q95_5 K s0) (E_q95_2 v0 v3 v6 v7 v8 d) h
noncomputable def K_q95_5 : Code := (cB (cB (cI (cI (cB (bodyC Try.f60))))))
def Q_q95_6 (K : Kont) (s0 : Self) (s1 : Self) : Post := qSeq s1 (Q_q95_5 K s0)
noncomputable def K_q95_6 : Code := (cI (cI (cA (cB (cI (cA (cB (cB (cI (cI (cB (bodyC Try.f60))))))))))))
noncomputable def K_q95_7 : Code := (cB (cI (cI (cA (cB (cI (cA (cB (cB (cI (cI (cB (bodyC Try.f60)))))))))))))
def G_q95 (a0 : Value) (h : Hp) (K : Kont) : Prop :=
  C_q110 [a0] h fun t5 h1 =>
  C_q131 [t5] h1 fun t6 h2 =>
  oLen 0 t6 h2 fun t7 h3 =>
  G_q95_1 K a0 t6 t7 (Value.int .i64 0) (ud [(4, a0), (5, t5)] dz) h3
def E0_q95 (a0 : Value) : List Value := [a0, undef, undef, undef, undef, undef, undef, undef, undef, undef, undef, undef, undef, undef, undef, undef, undef, undef, undef, undef, undef, undef, undef, undef, undef, undef, undef]
def X_q95 (Qv : Post) (a0 : Value) (h : Hp) : Prop :=
  C_q110 [a0] h fun t5 h1 =>
  C_q131 [t5] h1 fun t6 h2 =>
  oLen 0 t6 h2 fun t7 h3 =>
  aw Try.prog O_q95 K_q95_0 (qBlk 0 Qv) (ul (E0_q95 a0) [(4, a0), (5, t5), (6, t6), (7, t7), (8, (Value.int .i64 0))]) h3
theorem ga_q95 (Qv : Post) (a0 : Value) (h : Hp) : aw Try.prog O_q95 (bodyC Try.f60) Qv (E0_q95 a0) h = X_q95 Qv a0 h := by kernel_rfl
theorem gb_q95 (a0 : Value) (h : Hp) (K : Kont) : X_q95 (qTop Try.prog Try.f60 K) a0 h = G_q95 a0 h K := by kernel_rfl
theorem gc_q95 (a0 : Value) (h : Hp) (K : Kont) : abody Try.prog O_q95 Try.f60 (bodyC Try.f60) [a0] h K = aw Try.prog O_q95 (bodyC Try.f60) (qTop Try.prog Try.f60 K) (E0_q95 a0) h := by kernel_rfl
theorem eq_q95 (a0 : Value) (h : Hp) (K : Kont) : abody Try.prog O_q95 Try.f60 (bodyC Try.f60) [a0] h K = G_q95 a0 h K := (gc_q95 a0 h K).trans ((ga_q95 _ a0 h).trans (gb_q95 a0 h K))
theorem ok_q95 {a0 : Value} {h : Hp} {K : Kont} (hk : G_q95 a0 h K) : C_q95 [a0] h K := ac_of_body prog_mixed (fn := Try.f60) Try.func60 (c := bodyC Try.f60) (by kernel_rfl) ((eq_q95 a0 h K).mpr hk)
def B_q95_1 (K : Kont) (s0 : Self) (v0 v6 v7 v8 : Value) (d : Nat → Value) (h : Hp) : Prop :=
  oBin .lss v8 v7 h fun t9 h1 =>
  oIf t9
  (oIdxS 6 v6 v8 h1 fun t10 h2 =>
  oLdN 6 t10 h2 fun t11 h3 =>
  oAlloc #[.int .i64 0, .int .u64 0, .int .i64 0, .int .i64 0, .int .u64 0, .int .i64 0] h3 fun t3 h4 =>
  oSt 6 t3 t11 h4 fun _ h5 =>
  G_q95_2 K s0 v0 t3 v6 v7 v8 (ud [(9, t9), (10, t10), (11, t11)] d) h5)
  (K (.tuple #[]) h1)
def X_q95_1 (Qv : Post) (v0 v6 v7 v8 : Value) (d : Nat → Value) (h : Hp) : Prop :=
  oBin .lss v8 v7 h fun t9 h1 =>
  oIf t9
  (oIdxS 6 v6 v8 h1 fun t10 h2 =>
  oLdN 6 t10 h2 fun t11 h3 =>
  oAlloc #[.int .i64 0, .int .u64 0, .int .i64 0, .int .i64 0, .int .u64 0, .int .i64 0] h3 fun t3 h4 =>
  oSt 6 t3 t11 h4 fun _ h5 =>
  aw Try.prog O_q95 K_q95_2 (qBlk 2 (qSeq (aw Try.prog O_q95 K_q95_4 (qBlk 1 (qSeq (aw Try.prog O_q95 K_q95_3 Qv) Qv))) (qBlk 1 (qSeq (aw Try.prog O_q95 K_q95_3 Qv) Qv)))) (ul (E_q95_1 v0 v6 v7 v8 d) [(3, t3), (9, t9), (10, t10), (11, t11)]) h5)
  ((qSeq (aw Try.prog O_q95 K_q95_5 Qv) Qv) (.exit 0) (ul (E_q95_1 v0 v6 v7 v8 d) [(9, t9)]) h1)
theorem ga_q95_1 (Qv : Post) (v0 v6 v7 v8 : Value) (d : Nat → Value) (h : Hp) : aw Try.prog O_q95 K_q95_1 Qv (E_q95_1 v0 v6 v7 v8 d) h = X_q95_1 Qv v0 v6 v7 v8 d h := by kernel_rfl
theorem gb_q95_1 (K : Kont) (s0 : Self) (v0 v6 v7 v8 : Value) (d : Nat → Value) (h : Hp) : X_q95_1 (Q_q95_1 K s0) v0 v6 v7 v8 d h = B_q95_1 K s0 v0 v6 v7 v8 d h := by kernel_rfl
theorem beq_q95_1 (K : Kont) (s0 : Self) (v0 v6 v7 v8 : Value) (d : Nat → Value) (h : Hp) : aw Try.prog O_q95 K_q95_1 (Q_q95_1 K s0) (E_q95_1 v0 v6 v7 v8 d) h = B_q95_1 K s0 v0 v6 v7 v8 d h := (ga_q95_1 _ v0 v6 v7 v8 d h).trans (gb_q95_1 K s0 v0 v6 v7 v8 d h)
theorem rule_q95_1 {K : Kont} {v0 v6 v7 : Value} (Inv : Value → Hp → Prop) (μ : Value → Hp → Nat)
    (step : ∀ (s0 : Self) (v8 : Value) (d : Nat → Value) (h : Hp), Inv v8 h → (∀ (v8' : Value) (d' : Nat → Value) (h' : Hp), Inv v8' h' → μ v8' h' < μ v8 h → s0 (E_q95_1 v0 v6 v7 v8' d') h') → B_q95_1 K s0 v0 v6 v7 v8 d h) (v8 : Value) (d : Nat → Value) (h : Hp) (hi : Inv v8 h) : G_q95_1 K v0 v6 v7 v8 d h :=
  oLoop_rule (α := Value × (Nat → Value)) (fun x => E_q95_1 v0 v6 v7 x.1 x.2) (fun x h => Inv x.1 h) (fun x h => μ x.1 h)
    (fun self x h hx hs => (beq_q95_1 K self v0 v6 v7 x.1 x.2 h).mpr (step self x.1 x.2 h hx (fun v8' d' h' h1 h2 => hs ⟨v8', d'⟩ h' h1 h2))) ⟨v8, d⟩ h hi
def B_q95_2 (K : Kont) (s0 : Self) (s1 : Self) (v0 v3 v6 v7 v8 : Value) (d : Nat → Value) (h : Hp) : Prop :=
  oNilCheck v0 h fun t13 h1 =>
  oFieldAddr 5 t13 h1 fun t14 h2 =>
  oLd1 t14 h2 fun t15 h3 =>
  oFieldAddr 0 v3 h3 fun t16 h4 =>
  oLd1 t16 h4 fun t17 h5 =>
  oBin .lss t15 t17 h5 fun t18 h6 =>
  oIf t18
  (oBuild #[.int .i64 0, .int .i64 0, .int .u64 0, .int .i64 0] [] h6 fun t20 h7 =>
  C_q111 [v0, t20] h7 fun t21 h8 =>
  s1 (E_q95_2 v0 v3 v6 v7 v8 (ud [(12, v0), (13, t13), (14, t14), (15, t15), (16, t16), (17, t17), (18, t18), (19, v0), (20, t20), (21, t21)] d)) h8)
  (oFieldAddr 2 v3 h6 fun t23 h9 =>
  oLdN 4 t23 h9 fun t24 h10 =>
  C_q111 [v0, t24] h10 fun t25 h11 =>
  oBin .add v8 (Value.int .i64 1) h11 fun t26 h12 =>
  s0 (E_q95_1 v0 v6 v7 t26 (ud [(3, v3), (12, v0), (13, t13), (14, t14), (15, t15), (16, t16), (17, t17), (18, t18), (22, v0), (23, t23), (24, t24), (25, t25), (26, t26)] d)) h12)
def X_q95_2 (Qv : Post) (v0 v3 v6 v7 v8 : Value) (d : Nat → Value) (h : Hp) : Prop :=
  oNilCheck v0 h fun t13 h1 =>
  oFieldAddr 5 t13 h1 fun t14 h2 =>
  oLd1 t14 h2 fun t15 h3 =>
  oFieldAddr 0 v3 h3 fun t16 h4 =>
  oLd1 t16 h4 fun t17 h5 =>
  oBin .lss t15 t17 h5 fun t18 h6 =>
  oIf t18
  (oBuild #[.int .i64 0, .int .i64 0, .int .u64 0, .int .i64 0] [] h6 fun t20 h7 =>
  C_q111 [v0, t20] h7 fun t21 h8 =>
  (qBlk 3 Qv) .normal (ul (E_q95_2 v0 v3 v6 v7 v8 d) [(12, v0), (13, t13), (14, t14), (15, t15), (16, t16), (17, t17), (18, t18), (19, v0), (20, t20), (21, t21)]) h8)
  ((qSeq (aw Try.prog O_q95 K_q95_7 Qv) Qv) (.exit 2) (ul (E_q95_2 v0 v3 v6 v7 v8 d) [(12, v0), (13, t13), (14, t14), (15, t15), (16, t16), (17, t17), (18, t18)]) h6)
theorem ga_q95_2 (Qv : Post) (v0 v3 v6 v7 v8 : Value) (d : Nat → Value) (h : Hp) : aw Try.prog O_q95 K_q95_6 Qv (E_q95_2 v0 v3 v6 v7 v8 d) h = X_q95_2 Qv v0 v3 v6 v7 v8 d h := by kernel_rfl
theorem gb_q95_2 (K : Kont) (s0 : Self) (s1 : Self) (v0 v3 v6 v7 v8 : Value) (d : Nat → Value) (h : Hp) : X_q95_2 (Q_q95_6 K s0 s1) v0 v3 v6 v7 v8 d h = B_q95_2 K s0 s1 v0 v3 v6 v7 v8 d h := by kernel_rfl
theorem beq_q95_2 (K : Kont) (s0 : Self) (s1 : Self) (v0 v3 v6 v7 v8 : Value) (d : Nat → Value) (h : Hp) : aw Try.prog O_q95 K_q95_6 (Q_q95_6 K s0 s1) (E_q95_2 v0 v3 v6 v7 v8 d) h = B_q95_2 K s0 s1 v0 v3 v6 v7 v8 d h := (ga_q95_2 _ v0 v3 v6 v7 v8 d h).trans (gb_q95_2 K s0 s1 v0 v3 v6 v7 v8 d h)
theorem rule_q95_2 {K : Kont} {s0 : Self} {v0 v3 v6 v7 v8 : Value} (Inv : Hp → Prop) (μ : Hp → Nat)
    (step : ∀ (s1 : Self) (d : Nat → Value) (h : Hp), Inv  h → (∀ (d' : Nat → Value) (h' : Hp), Inv  h' → μ  h' < μ  h → s1 (E_q95_2 v0 v3 v6 v7 v8 d') h') → B_q95_2 K s0 s1 v0 v3 v6 v7 v8 d h) (d : Nat → Value) (h : Hp) (hi : Inv  h) : G_q95_2 K s0 v0 v3 v6 v7 v8 d h :=
  oLoop_rule (α := (Nat → Value)) (fun x => E_q95_2 v0 v3 v6 v7 v8 x) (fun x h => Inv  h) (fun x h => μ  h)
    (fun self x h hx hs => (beq_q95_2 K s0 self v0 v3 v6 v7 v8 x h).mpr (step self  x h hx (fun d' h' h1 h2 => hs d' h' h1 h2))) d h hi
def O_q50 : Od := []
def G_q50 (a0 a1 : Value) (h : Hp) (K : Kont) : Prop :=
  oBox a1 h fun t3 h1 =>
  C_q94 [a0] h1 fun t6 h2 =>
  C_q8 [t6, (.func (Go.Fn.func 85) #[] #[t3])] h2 fun t8 h3 =>
  K t8 h3
def E0_q50 (a0 a1 : Value) : List Value := [a0, a1, undef, undef, undef, undef, undef, undef, undef]
def X_q50 (Qv : Post) (a0 a1 : Value) (h : Hp) : Prop :=
  oBox a1 h fun t3 h1 =>
  C_q94 [a0] h1 fun t6 h2 =>
  C_q8 [t6, (.func (Go.Fn.func 85) #[] #[t3])] h2 fun t8 h3 =>
  Qv .ret (ul (E0_q50 a0 a1) [(3, t3), (4, t8), (5, a0), (6, t6), (7, (.func (Go.Fn.func 85) #[] #[t3])), (8, t8)]) h3
theorem ga_q50 (Qv : Post) (a0 a1 : Value) (h : Hp) : aw Try.prog O_q50 (bodyC Try.f61) Qv (E0_q50 a0 a1) h = X_q50 Qv a0 a1 h := by kernel_rfl
theorem gb_q50 (a0 a1 : Value) (h : Hp) (K : Kont) : X_q50 (qTop Try.prog Try.f61 K) a0 a1 h = G_q50 a0 a1 h K := by kernel_rfl
theorem gc_q50 (a0 a1 : Value) (h : Hp) (K : Kont) : abody Try.prog O_q50 Try.f61 (bodyC Try.f61) [a0, a1] h K = aw Try.prog O_q50 (bodyC Try.f61) (qTop Try.prog Try.f61 K) (E0_q50 a0 a1) h := by kernel_rfl
theorem eq_q50 (a0 a1 : Value) (h : Hp) (K : Kont) : abody Try.prog O_q50 Try.f61 (bodyC Try.f61) [a0, a1] h K = G_q50 a0 a1 h K := (gc_q50 a0 a1 h K).trans ((ga_q50 _ a0 a1 h).trans (gb_q50 a0 a1 h K))
theorem ok_q50 {a0 a1 : Value} {h : Hp} {K : Kont} (hk : G_q50 a0 a1 h K) : C_q50 [a0, a1] h K := ac_of_body prog_mixed (fn := Try.f61) Try.func61 (c := bodyC Try.f61) (by kernel_rfl) ((eq_q50 a0 a1 h K).mpr hk)
def O_q96 : Od := [(1, (.one 0 true (.one 1 true (.one 2 true (.one 3 true (.one 4 true (.one 5 true (.one 6 true (.one 7 true (.one 8 true (.one 9 true (.one 10 true (.one 11 true (.one 12 true (.one 13 false .nil)))))))))))))))]
def G_q96 (a0 a1 : Value) (h : Hp) (K : Kont) : Prop :=
  oAlloc #[.int .i64 0, .int .u64 0, .int .i64 0, .int .i64 0, .int .u64 0, .int .i64 0] h fun t4 h1 =>
  oNilCheck a0 h1 fun t7 h2 =>
  oFieldAddr 3 t7 h2 fun t8 h3 =>
  oLd1 t8 h3 fun t9 h4 =>
  oNilCheck a0 h4 fun t11 h5 =>
  oFieldAddr 7 t11 h5 fun t12 h6 =>
  oLd1 t12 h6 fun t13 h7 =>
  oLookup (.int .i64) (.agg #[.int .i64 0, .int .i64 0, .int .u64 0, .int .i64 0, .int .u64 0]) t13 a1 false h7 fun t15 h8 =>
  oField 0 (some 4) t15 h8 fun t16 h9 =>
  oBuild #[.int .i64 0, .int .u64 0, .int .i64 0, .int .i64 0, .int .u64 0, .int .i64 0] [(0, 1, a1), (1, 1, t9), (2, 4, t16)] h9 fun t17 h10 =>
  oSt 6 t4 t17 h10 fun _ h11 =>
  (True) ∧
  oLdN 6 t4 h11 fun r1 _ =>
  K r1 h11
def E0_q96 (a0 a1 : Value) : List Value := [a0, a1, undef, undef, undef, undef, undef, undef, undef, undef, undef, undef, undef, undef, undef, undef, undef, undef]
def X_q96 (Qv : Post) (a0 a1 : Value) (h : Hp) : Prop :=
  oAlloc #[.int .i64 0, .int .u64 0, .int .i64 0, .int .i64 0, .int .u64 0, .int .i64 0] h fun t4 h1 =>
  oNilCheck a0 h1 fun t7 h2 =>
  oFieldAddr 3 t7 h2 fun t8 h3 =>
  oLd1 t8 h3 fun t9 h4 =>
  oNilCheck a0 h4 fun t11 h5 =>
  oFieldAddr 7 t11 h5 fun t12 h6 =>
  oLd1 t12 h6 fun t13 h7 =>
  oLookup (.int .i64) (.agg #[.int .i64 0, .int .i64 0, .int .u64 0, .int .i64 0, .int .u64 0]) t13 a1 false h7 fun t15 h8 =>
  oField 0 (some 4) t15 h8 fun t16 h9 =>
  oBuild #[.int .i64 0, .int .u64 0, .int .i64 0, .int .i64 0, .int .u64 0, .int .i64 0] [(0, 1, a1), (1, 1, t9), (2, 4, t16)] h9 fun t17 h10 =>
  oSt 6 t4 t17 h10 fun _ h11 =>
  (True) ∧
  Qv .ret (ul (E0_q96 a0 a1) [(4, t4), (5, a1), (6, a0), (7, t7), (8, t8), (9, t9), (10, a0), (11, t11), (12, t12), (13, t13), (14, a1), (15, t15), (16, t16), (17, t17)]) h11
theorem ga_q96 (Qv : Post) (a0 a1 : Value) (h : Hp) : aw Try.prog O_q96 (bodyC Try.f62) Qv (E0_q96 a0 a1) h = X_q96 Qv a0 a1 h := by kernel_rfl
theorem gb_q96 (a0 a1 : Value) (h : Hp) (K : Kont) : X_q96 (qTop Try.prog Try.f62 K) a0 a1 h = G_q96 a0 a1 h K := by kernel_rfl
theorem gc_q96 (a0 a1 : Value) (h : Hp) (K : Kont) : abody Try.prog O_q96 Try.f62 (bodyC Try.f62) [a0, a1] h K = aw Try.prog O_q96 (bodyC Try.f62) (qTop Try.prog Try.f62 K) (E0_q96 a0 a1) h := by kernel_rfl
theorem eq_q96 (a0 a1 : Value) (h : Hp) (K : Kont) : abody Try.prog O_q96 Try.f62 (bodyC Try.f62) [a0, a1] h K = G_q96 a0 a1 h K := (gc_q96 a0 a1 h K).trans ((ga_q96 _ a0 a1 h).trans (gb_q96 a0 a1 h K))
theorem ok_q96 {a0 a1 : Value} {h : Hp} {K : Kont} (hk : G_q96 a0 a1 h K) : C_q96 [a0, a1] h K := ac_of_body prog_mixed (fn := Try.f62) Try.func62 (c := bodyC Try.f62) (by kernel_rfl) ((eq_q96 a0 a1 h K).mpr hk)
def O_q111 : Od := [(2, (.one 0 true (.one 1 true (.one 2 true (.one 3 true (.one 4 true (.one 5 true (.one 6 true (.one 7 false .nil)))))))))]
def G_q111 (a0 a1 : Value) (h : Hp) (K : Kont) : Prop :=
  oBox a1 h fun t3 h1 =>
  oNilCheck a0 h1 fun t7 h2 =>
  oFieldAddr 5 t7 h2 fun t8 h3 =>
  oLd1 t8 h3 fun t9 h4 =>
  oNilCheck a0 h4 fun t11 h5 =>
  oFieldAddr 7 t11 h5 fun t12 h6 =>
  oLd1 t12 h6 fun t13 h7 =>
  oLdN 4 t3 h7 fun t15 h8 =>
  oBuild #[.int .i64 0, .int .i64 0, .int .u64 0, .int .i64 0, .int .u64 0] [(0, 4, t15)] h8 fun t16 h9 =>
  oMapUpdate (.int .i64) t13 t9 t16 h9 fun _ h10 =>
  (True) ∧
  oNilCheck a0 h10 fun t18 h11 =>
  oFieldAddr 5 t18 h11 fun t19 h12 =>
  oLd1 t19 h12 fun t20 h13 =>
  oBin .add t20 (Value.int .i64 1) h13 fun t21 h14 =>
  oNilCheck a0 h14 fun t22 h15 =>
  oFieldAddr 5 t22 h15 fun t23 h16 =>
  oSt 1 t23 t21 h16 fun _ h17 =>
  K t9 h17
def E0_q111 (a0 a1 : Value) : List Value := [a0, a1, undef, undef, undef, undef, undef, undef, undef, undef, undef, undef, undef, undef, undef, undef, undef, undef, undef, undef, undef, undef, undef, undef, undef]
def X_q111 (Qv : Post) (a0 a1 : Value) (h : Hp) : Prop :=
  oBox a1 h fun t3 h1 =>
  oNilCheck a0 h1 fun t7 h2 =>
  oFieldAddr 5 t7 h2 fun t8 h3 =>
  oLd1 t8 h3 fun t9 h4 =>
  oNilCheck a0 h4 fun t11 h5 =>
  oFieldAddr 7 t11 h5 fun t12 h6 =>
  oLd1 t12 h6 fun t13 h7 =>
  oLdN 4 t3 h7 fun t15 h8 =>
  oBuild #[.int .i64 0, .int .i64 0, .int .u64 0, .int .i64 0, .int .u64 0] [(0, 4, t15)] h8 fun t16 h9 =>
  oMapUpdate (.int .i64) t13 t9 t16 h9 fun _ h10 =>
  (True) ∧
  oNilCheck a0 h10 fun t18 h11 =>
  oFieldAddr 5 t18 h11 fun t19 h12 =>
  oLd1 t19 h12 fun t20 h13 =>
  oBin .add t20 (Value.int .i64 1) h13 fun t21 h14 =>
  oNilCheck a0 h14 fun t22 h15 =>
  oFieldAddr 5 t22 h15 fun t23 h16 =>
  oSt 1 t23 t21 h16 fun _ h17 =>
  Qv .ret (ul (E0_q111 a0 a1) [(3, t3), (4, t9), (5, t9), (6, a0), (7, t7), (8, t8), (9, t9), (10, a0), (11, t11), (12, t12), (13, t13), (14, t9), (15, t15), (16, t16), (17, a0), (18, t18), (19, t19), (20, t20), (21, t21), (22, t22), (23, t23), (24, t9)]) h17
theorem ga_q111 (Qv : Post) (a0 a1 : Value) (h : Hp) : aw Try.prog O_q111 (bodyC Try.f63) Qv (E0_q111 a0 a1) h = X_q111 Qv a0 a1 h := by kernel_rfl
theorem gb_q111 (a0 a1 : Value) (h : Hp) (K : Kont) : X_q111 (qTop Try.prog Try.f63 K) a0 a1 h = G_q111 a0 a1 h K := by kernel_rfl
theorem gc_q111 (a0 a1 : Value) (h : Hp) (K : Kont) : abody Try.prog O_q111 Try.f63 (bodyC Try.f63) [a0, a1] h K = aw Try.prog O_q111 (bodyC Try.f63) (qTop Try.prog Try.f63 K) (E0_q111 a0 a1) h := by kernel_rfl
theorem eq_q111 (a0 a1 : Value) (h : Hp) (K : Kont) : abody Try.prog O_q111 Try.f63 (bodyC Try.f63) [a0, a1] h K = G_q111 a0 a1 h K := (gc_q111 a0 a1 h K).trans ((ga_q111 _ a0 a1 h).trans (gb_q111 a0 a1 h K))
theorem ok_q111 {a0 a1 : Value} {h : Hp} {K : Kont} (hk : G_q111 a0 a1 h K) : C_q111 [a0, a1] h K := ac_of_body prog_mixed (fn := Try.f63) Try.func63 (c := bodyC Try.f63) (by kernel_rfl) ((eq_q111 a0 a1 h K).mpr hk)
def O_q1 : Od := []
def G_q1 (a0 : Value) (h : Hp) (K : Kont) : Prop :=
  oBox a0 h fun t1 h1 =>
  K (.func (Go.Fn.func 87) #[] #[t1]) h1
def E0_q1 (a0 : Value) : List Value := [a0, undef, undef, undef]
def X_q1 (Qv : Post) (a0 : Value) (h : Hp) : Prop :=
  oBox a0 h fun t1 h1 =>
  Qv .ret (ul (E0_q1 a0) [(1, t1), (2, (.func (Go.Fn.func 87) #[] #[t1])), (3, (.func (Go.Fn.func 87) #[] #[t1]))]) h1
theorem ga_q1 (Qv : Post) (a0 : Value) (h : Hp) : aw Try.prog O_q1 (bodyC Try.f65) Qv (E0_q1 a0) h = X_q1 Qv a0 h := by kernel_rfl
theorem gb_q1 (a0 : Value) (h : Hp) (K : Kont) : X_q1 (qTop Try.prog Try.f65 K) a0 h = G_q1 a0 h K := by kernel_rfl
theorem gc_q1 (a0 : Value) (h : Hp) (K : Kont) : abody Try.prog O_q1 Try.f65 (bodyC Try.f65) [a0] h K = aw Try.prog O_q1 (bodyC Try.f65) (qTop Try.prog Try.f65 K) (E0_q1 a0) h := by kernel_rfl
theorem eq_q1 (a0 : Value) (h : Hp) (K : Kont) : abody Try.prog O_q1 Try.f65 (bodyC Try.f65) [a0] h K = G_q1 a0 h K := (gc_q1 a0 h K).trans ((ga_q1 _ a0 h).trans (gb_q1 a0 h K))
theorem ok_q1 {a0 : Value} {h : Hp} {K : Kont} (hk : G_q1 a0 h K) : C_q1 [a0] h K := ac_of_body prog_mixed (fn := Try.f65) Try.func65 (c := bodyC Try.f65) (by kernel_rfl) ((eq_q1 a0 h K).mpr hk)
def O_q168 : Od := []
noncomputable def K_q168_0 : Code := (cB (cB (bodyC Try.f66)))
noncomputable def K_q168_1 : Code := (cB (cB (cB (cB (bodyC Try.f66)))))
def G_q168 (a0 a1 a2 : Value) (h : Hp) (K : Kont) : Prop :=
  oBox a0 h fun t3 h1 =>
  oAlloc #[.int .i64 0, .int .i64 0, .int .i64 0, .int .u64 0, .int .i64 0, .int .i64 0, .slice none 0 0, .slice none 0 0, .slice none 0 0] h1 fun t6 h2 =>
  oBin .lss a2 (Value.int .i64 0) h2 fun t12 h3 =>
  oGuard t12 false (fun K => K a2 h3) h3 fun t14 h4 =>
  oGuard t12 false (fun K => oBin .gtr t14 (Value.int .i64 512) h4 K) h4 fun t15 h5 =>
  oPick t12 (Value.bool true) t15 h5 fun t16 h6 =>
  oIf t16
  (oLdN 9 t3 h6 fun t17 h7 =>
  oSt 9 t6 t17 h7 fun _ h8 =>
  oLdN 9 t6 h8 fun r1 _ =>
  K (.tuple #[r1, (Value.int .u64 0), (Value.int .i64 1)]) h8)
  (oFieldAddr 3 t3 h6 fun t20 h9 =>
  oLd1 t20 h9 fun t21 h10 =>
  oMinMax true [a1, t21] h10 fun t22 h11 =>
  oFieldAddr 0 t3 h11 fun t23 h12 =>
  oLd1 t23 h12 fun t24 h13 =>
  C_q173 [t22, t24] h13 fun t25 h14 =>
  oExtract t25 0 h14 fun t26 h15 =>
  oExtract t25 1 h15 fun t27 h16 =>
  oBin .neq t27 (Value.int .i64 0) h16 fun t29 h17 =>
  oIf t29
  (oLdN 9 t3 h17 fun t30 h18 =>
  oSt 9 t6 t30 h18 fun _ h19 =>
  oLdN 9 t6 h19 fun r2 _ =>
  K (.tuple #[r2, (Value.int .u64 0), t27]) h19)
  (oFieldAddr 0 t3 h17 fun t32 h20 =>
  oLd1 t32 h20 fun t33 h21 =>
  oFieldAddr 1 t3 h21 fun t34 h22 =>
  oLd1 t34 h22 fun t35 h23 =>
  oBuild #[.int .i64 0, .int .i64 0, .int .i64 0, .int .u64 0, .int .i64 0, .int .i64 0, .slice none 0 0, .slice none 0 0, .slice none 0 0] [(0, 1, t33), (1, 1, t35), (2, 1, (Value.int .i64 1)), (3, 1, t26), (4, 1, a2), (5, 1, a2)] h23 fun t39 h24 =>
  oSt 9 t6 t39 h24 fun _ h25 =>
  oLdN 9 t6 h25 fun r3 _ =>
  K (.tuple #[r3, t26, (Value.int .i64 0)]) h25))
def E0_q168 (a0 a1 a2 : Value) : List Value := [a0, a1, a2, undef, undef, undef, undef, undef, undef, undef, undef, undef, undef, undef, undef, undef, undef, undef, undef, undef, undef, undef, undef, undef, undef, undef, undef, undef, undef, undef, undef, undef, undef, undef, undef, undef, undef, undef, undef, undef, undef]
def X_q168 (Qv : Post) (a0 a1 a2 : Value) (h : Hp) : Prop :=
  oBox a0 h fun t3 h1 =>
  oAlloc #[.int .i64 0, .int .i64 0, .int .i64 0, .int .u64 0, .int .i64 0, .int .i64 0, .slice none 0 0, .slice none 0 0, .slice none 0 0] h1 fun t6 h2 =>
  oBin .lss a2 (Value.int .i64 0) h2 fun t12 h3 =>
  oGuard t12 false (fun K => K a2 h3) h3 fun t14 h4 =>
  oGuard t12 false (fun K => oBin .gtr t14 (Value.int .i64 512) h4 K) h4 fun t15 h5 =>
  oPick t12 (Value.bool true) t15 h5 fun t16 h6 =>
  oIf t16
  (oLdN 9 t3 h6 fun t17 h7 =>
  oSt 9 t6 t17 h7 fun _ h8 =>
  (qSeq (aw Try.prog O_q168 K_q168_0 Qv) Qv) .ret (ul (E0_q168 a0 a1 a2) [(3, t3), (6, t6), (7, (Value.int .u64 0)), (8, (Value.int .i64 1)), (11, a2), (12, t12), (13, t12), (14, t14), (15, t15), (16, t16), (17, t17)]) h8)
  (oFieldAddr 3 t3 h6 fun t20 h9 =>
  oLd1 t20 h9 fun t21 h10 =>
  oMinMax true [a1, t21] h10 fun t22 h11 =>
  oFieldAddr 0 t3 h11 fun t23 h12 =>
  oLd1 t23 h12 fun t24 h13 =>
  C_q173 [t22, t24] h13 fun t25 h14 =>
  oExtract t25 0 h14 fun t26 h15 =>
  oExtract t25 1 h15 fun t27 h16 =>
  oBin .neq t27 (Value.int .i64 0) h16 fun t29 h17 =>
  oIf t29
  (oLdN 9 t3 h17 fun t30 h18 =>
  oSt 9 t6 t30 h18 fun _ h19 =>
  (qSeq (aw Try.prog O_q168 K_q168_1 Qv) Qv) .ret (ul (E0_q168 a0 a1 a2) [(3, t3), (6, t6), (7, (Value.int .u64 0)), (8, t27), (9, t26), (10, t27), (11, a2), (12, t12), (13, t12), (14, t14), (15, t15), (16, t16), (18, t25), (19, a1), (20, t20), (21, t21), (22, t22), (23, t23), (24, t24), (25, t25), (26, t26), (27, t27), (28, t27), (29, t29), (30, t30), (31, t27)]) h19)
  (oFieldAddr 0 t3 h17 fun t32 h20 =>
  oLd1 t32 h20 fun t33 h21 =>
  oFieldAddr 1 t3 h21 fun t34 h22 =>
  oLd1 t34 h22 fun t35 h23 =>
  oBuild #[.int .i64 0, .int .i64 0, .int .i64 0, .int .u64 0, .int .i64 0, .int .i64 0, .slice none 0 0, .slice none 0 0, .slice none 0 0] [(0, 1, t33), (1, 1, t35), (2, 1, (Value.int .i64 1)), (3, 1, t26), (4, 1, a2), (5, 1, a2)] h23 fun t39 h24 =>
  oSt 9 t6 t39 h24 fun _ h25 =>
  Qv .ret (ul (E0_q168 a0 a1 a2) [(3, t3), (6, t6), (7, t26), (8, (Value.int .i64 0)), (9, t26), (10, t27), (11, a2), (12, t12), (13, t12), (14, t14), (15, t15), (16, t16), (18, t25), (19, a1), (20, t20), (21, t21), (22, t22), (23, t23), (24, t24), (25, t25), (26, t26), (27, t27), (28, t27), (29, t29), (32, t32), (33, t33), (34, t34), (35, t35), (36, t26), (37, a2), (38, a2), (39, t39), (40, t26)]) h25))
theorem ga_q168 (Qv : Post) (a0 a1 a2 : Value) (h : Hp) : aw Try.prog O_q168 (bodyC Try.f66) Qv (E0_q168 a0 a1 a2) h = X_q168 Qv a0 a1 a2 h := by kernel_rfl
theorem gb_q168 (a0 a1 a2 : Value) (h : Hp) (K : Kont) : X_q168 (qTop Try.prog Try.f66 K) a0 a1 a2 h = G_q168 a0 a1 a2 h K := by kernel_rfl
theorem gc_q168 (a0 a1 a2 : Value) (h : Hp) (K : Kont) : abody Try.prog O_q168 Try.f66 (bodyC Try.f66) [a0, a1, a2] h K = aw Try.prog O_q168 (bodyC Try.f66) (qTop Try.prog Try.f66 K) (E0_q168 a0 a1 a2) h := by kernel_rfl
theorem eq_q168 (a0 a1 a2 : Value) (h : Hp) (K : Kont) : abody Try.prog O_q168 Try.f66 (bodyC Try.f66) [a0, a1, a2] h K = G_q168 a0 a1 a2 h K := (gc_q168 a0 a1 a2 h K).trans ((ga_q168 _ a0 a1 a2 h).trans (gb_q168 a0 a1 a2 h K))
theorem ok_q168 {a0 a1 a2 : Value} {h : Hp} {K : Kont} (hk : G_q168 a0 a1 a2 h K) : C_q168 [a0, a1, a2] h K := ac_of_body prog_mixed (fn := Try.f66) Try.func66 (c := bodyC Try.f66) (by kernel_rfl) ((eq_q168 a0 a1 a2 h K).mpr hk)
end Go.Proofs.Ytdolepapmpcpiaa

