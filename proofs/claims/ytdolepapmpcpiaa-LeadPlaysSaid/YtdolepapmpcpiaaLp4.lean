/- Lemmas for the theorem of the last text; no condition. -/
import Derived.Test.YtdolepapmpcpiaaLp0
import Derived.Test.YtdolepapmpcpiaaLp1
import Derived.Test.YtdolepapmpcpiaaLp2
import Derived.Test.YtdolepapmpcpiaaLp3
import Derived.Test.YtdolepapmpcpiaaProg
namespace Go.Proofs.Ytdolepapmpcpiaa
open Go
set_option linter.unusedSectionVars false
variable [Base]
set_option linter.unusedVariables false
set_option maxRecDepth 100000
def O_q82 : Od := [(5, (.one 0 true (.one 1 true (.one 2 true (.one 3 true (.one 4 true (.one 6 true (.one 7 true (.one 8 true (.one 9 true (.one 5 false (.one 10 false (.one 11 true (.one 12 true (.one 13 true (.one 14 true (.one 15 true .nil)))))))))))))))))]
noncomputable def K_q82_0 : Code := (cB (cB (bodyC Try.f28)))
noncomputable def K_q82_1 : Code := (cB (cB (cB (cB (bodyC Try.f28)))))
def G_q82 (a0 a1 a2 : Value) (h : Hp) (K : Kont) : Prop :=
  oEq 1 false none a0 (Value.pointer none) h fun t12 h1 =>
  oIf t12
  (K (.tuple #[(Value.int .u64 0), (Value.int .i64 2)]) h1)
  (oBin .lss a2 (Value.int .i64 0) h1 fun t15 h2 =>
  oGuard t15 false (fun K => K a2 h2) h2 fun t17 h3 =>
  oGuard t15 false (fun K => oBin .gtr t17 (Value.int .i64 512) h3 K) h3 fun t18 h4 =>
  oPick t15 (Value.bool true) t18 h4 fun t19 h5 =>
  oIf t19
  (K (.tuple #[(Value.int .u64 0), (Value.int .i64 1)]) h5)
  (oNilCheck a0 h5 fun t23 h6 =>
  oFieldAddr 3 t23 h6 fun t24 h7 =>
  oLd1 t24 h7 fun t25 h8 =>
  oNilCheck a0 h8 fun t28 h9 =>
  oFieldAddr 0 t28 h9 fun t29 h10 =>
  oLd1 t29 h10 fun t30 h11 =>
  oMinMax true [a1, t25] h11 fun t26 h12 =>
  ((oLd1 t29 h11 (fun v' _ => v' = t30) → oLd1 t29 h12 (fun v' _ => v' = t30)) ∧ True) ∧
  C_q132 [t26, t30] h12 fun t31 h13 =>
  ((oLd1 t24 h12 (fun v' _ => v' = t25) → oLd1 t24 h13 (fun v' _ => v' = t25)) ∧ True) ∧
  oExtract t31 0 h13 fun t32 h14 =>
  oExtract t31 1 h14 fun t33 h15 =>
  oBin .neq t33 (Value.int .i64 0) h15 fun t35 h16 =>
  oIf t35
  (K (.tuple #[(Value.int .u64 0), t33]) h16)
  (oNilCheck a0 h16 fun t44 h17 =>
  oFieldAddr 2 t44 h17 fun t45 h18 =>
  oSt 1 t45 (Value.int .i64 1) h18 fun _ h19 =>
  oNilCheck a0 h19 fun t46 h20 =>
  oFieldAddr 3 t46 h20 fun t47 h21 =>
  oSt 1 t47 t32 h21 fun _ h22 =>
  oNilCheck a0 h22 fun t48 h23 =>
  oFieldAddr 4 t48 h23 fun t49 h24 =>
  oSt 1 t49 a2 h24 fun _ h25 =>
  oNilCheck a0 h25 fun t50 h26 =>
  oFieldAddr 5 t50 h26 fun t51 h27 =>
  oSt 1 t51 a2 h27 fun _ h28 =>
  oMakeMap h28 fun t54 h29 =>
  oMakeMap h29 fun t55 h30 =>
  oNilCheck a0 h30 fun t56 h31 =>
  oFieldAddr 6 t56 h31 fun t57 h32 =>
  oSt 1 t57 t54 h32 fun _ h33 =>
  oNilCheck a0 h33 fun t58 h34 =>
  oFieldAddr 7 t58 h34 fun t59 h35 =>
  oSt 1 t59 t55 h35 fun _ h36 =>
  K (.tuple #[t32, (Value.int .i64 0)]) h36)))
def E0_q82 (a0 a1 a2 : Value) : List Value := [a0, a1, a2, undef, undef, undef, undef, undef, undef, undef, undef, undef, undef, undef, undef, undef, undef, undef, undef, undef, undef, undef, undef, undef, undef, undef, undef, undef, undef, undef, undef, undef, undef, undef, undef, undef, undef, undef, undef, undef, undef, undef, undef, undef, undef, undef, undef, undef, undef, undef, undef, undef, undef, undef, undef, undef, undef, undef, undef, undef, undef]
def X_q82 (Qv : Post) (a0 a1 a2 : Value) (h : Hp) : Prop :=
  oEq 1 false none a0 (Value.pointer none) h fun t12 h1 =>
  oIf t12
  ((qBlk 0 (qSeq (aw Try.prog O_q82 K_q82_0 Qv) Qv)) .ret (ul (E0_q82 a0 a1 a2) [(6, (Value.int .u64 0)), (7, (Value.int .i64 2)), (10, t12), (11, a0), (12, t12)]) h1)
  (oBin .lss a2 (Value.int .i64 0) h1 fun t15 h2 =>
  oGuard t15 false (fun K => K a2 h2) h2 fun t17 h3 =>
  oGuard t15 false (fun K => oBin .gtr t17 (Value.int .i64 512) h3 K) h3 fun t18 h4 =>
  oPick t15 (Value.bool true) t18 h4 fun t19 h5 =>
  oIf t19
  ((qBlk 0 (qSeq (aw Try.prog O_q82 K_q82_0 Qv) Qv)) .ret (ul (E0_q82 a0 a1 a2) [(6, (Value.int .u64 0)), (7, (Value.int .i64 1)), (10, t12), (11, a0), (12, t12), (13, t19), (14, a2), (15, t15), (16, t15), (17, t17), (18, t18), (19, t19)]) h5)
  (oNilCheck a0 h5 fun t23 h6 =>
  oFieldAddr 3 t23 h6 fun t24 h7 =>
  oLd1 t24 h7 fun t25 h8 =>
  oNilCheck a0 h8 fun t28 h9 =>
  oFieldAddr 0 t28 h9 fun t29 h10 =>
  oLd1 t29 h10 fun t30 h11 =>
  oMinMax true [a1, t25] h11 fun t26 h12 =>
  ((oLd1 t29 h11 (fun v' _ => v' = t30) → oLd1 t29 h12 (fun v' _ => v' = t30)) ∧ True) ∧
  C_q132 [t26, t30] h12 fun t31 h13 =>
  ((oLd1 t24 h12 (fun v' _ => v' = t25) → oLd1 t24 h13 (fun v' _ => v' = t25)) ∧ True) ∧
  oExtract t31 0 h13 fun t32 h14 =>
  oExtract t31 1 h14 fun t33 h15 =>
  oBin .neq t33 (Value.int .i64 0) h15 fun t35 h16 =>
  oIf t35
  ((qSeq (aw Try.prog O_q82 K_q82_1 Qv) Qv) .ret (ul (E0_q82 a0 a1 a2) [(6, (Value.int .u64 0)), (7, t33), (8, t32), (9, t33), (10, t12), (11, a0), (12, t12), (13, t19), (14, a2), (15, t15), (16, t15), (17, t17), (18, t18), (19, t19), (20, t31), (21, a1), (22, a0), (23, t23), (24, t24), (25, t25), (26, t26), (27, a0), (28, t28), (29, t29), (30, t30), (31, t31), (32, t32), (33, t33), (34, t33), (35, t35), (36, t33)]) h16)
  (oNilCheck a0 h16 fun t44 h17 =>
  oFieldAddr 2 t44 h17 fun t45 h18 =>
  oSt 1 t45 (Value.int .i64 1) h18 fun _ h19 =>
  oNilCheck a0 h19 fun t46 h20 =>
  oFieldAddr 3 t46 h20 fun t47 h21 =>
  oSt 1 t47 t32 h21 fun _ h22 =>
  oNilCheck a0 h22 fun t48 h23 =>
  oFieldAddr 4 t48 h23 fun t49 h24 =>
  oSt 1 t49 a2 h24 fun _ h25 =>
  oNilCheck a0 h25 fun t50 h26 =>
  oFieldAddr 5 t50 h26 fun t51 h27 =>
  oSt 1 t51 a2 h27 fun _ h28 =>
  oMakeMap h28 fun t54 h29 =>
  oMakeMap h29 fun t55 h30 =>
  oNilCheck a0 h30 fun t56 h31 =>
  oFieldAddr 6 t56 h31 fun t57 h32 =>
  oSt 1 t57 t54 h32 fun _ h33 =>
  oNilCheck a0 h33 fun t58 h34 =>
  oFieldAddr 7 t58 h34 fun t59 h35 =>
  oSt 1 t59 t55 h35 fun _ h36 =>
  Qv .ret (ul (E0_q82 a0 a1 a2) [(6, t32), (7, (Value.int .i64 0)), (8, t32), (9, t33), (10, t12), (11, a0), (12, t12), (13, t19), (14, a2), (15, t15), (16, t15), (17, t17), (18, t18), (19, t19), (20, t31), (21, a1), (22, a0), (23, t23), (24, t24), (25, t25), (26, t26), (27, a0), (28, t28), (29, t29), (30, t30), (31, t31), (32, t32), (33, t33), (34, t33), (35, t35), (37, a0), (38, a0), (39, a0), (40, a0), (41, t32), (42, a2), (43, a2), (44, t44), (45, t45), (46, t46), (47, t47), (48, t48), (49, t49), (50, t50), (51, t51), (52, a0), (53, a0), (54, t54), (55, t55), (56, t56), (57, t57), (58, t58), (59, t59), (60, t32)]) h36)))
theorem ga_q82 (Qv : Post) (a0 a1 a2 : Value) (h : Hp) : aw Try.prog O_q82 (bodyC Try.f28) Qv (E0_q82 a0 a1 a2) h = X_q82 Qv a0 a1 a2 h := by kernel_rfl
theorem gb_q82 (a0 a1 a2 : Value) (h : Hp) (K : Kont) : X_q82 (qTop Try.prog Try.f28 K) a0 a1 a2 h = G_q82 a0 a1 a2 h K := by kernel_rfl
theorem gc_q82 (a0 a1 a2 : Value) (h : Hp) (K : Kont) : abody Try.prog O_q82 Try.f28 (bodyC Try.f28) [a0, a1, a2] h K = aw Try.prog O_q82 (bodyC Try.f28) (qTop Try.prog Try.f28 K) (E0_q82 a0 a1 a2) h := by kernel_rfl
theorem eq_q82 (a0 a1 a2 : Value) (h : Hp) (K : Kont) : abody Try.prog O_q82 Try.f28 (bodyC Try.f28) [a0, a1, a2] h K = G_q82 a0 a1 a2 h K := (gc_q82 a0 a1 a2 h K).trans ((ga_q82 _ a0 a1 a2 h).trans (gb_q82 a0 a1 a2 h K))
theorem ok_q82 {a0 a1 a2 : Value} {h : Hp} {K : Kont} (hk : G_q82 a0 a1 a2 h K) : C_q82 [a0, a1, a2] h K := ac_of_body prog_mixed (fn := Try.f28) Try.func28 (c := bodyC Try.f28) (by kernel_rfl) ((eq_q82 a0 a1 a2 h K).mpr hk)
def O_q57 : Od := [(5, (.one 0 true (.one 1 true (.one 2 true (.one 3 true (.one 4 true (.one 5 true (.one 7 true (.one 6 false (.one 8 false (.one 9 false .nil)))))))))))]
noncomputable def K_q57_0 : Code := (cB (cB (cB (bodyC Try.f29))))
def E_q57_1 (v4 : Value) (d : Nat → Value) : List Value := [d 0, d 1, d 2, d 3, v4, d 5, d 6, d 7, d 8, d 9, d 10, d 11, d 12, d 13, d 14, d 15, d 16, d 17, d 18, d 19, d 20, d 21, d 22, d 23, d 24, d 25, d 26, d 27, d 28, d 29, d 30, d 31, d 32, d 33, d 34, d 35, d 36, d 37, d 38, d 39, d 40, d 41, d 42, d 43, d 44, d 45, d 46, d 47, d 48, d 49, d 50, d 51, d 52, d 53, d 54, d 55, d 56, d 57, d 58, d 59, d 60, d 61, d 62, d 63]
def G_q57_1 (K : Kont) (v4 : Value) (d : Nat → Value) (h : Hp) : Prop := aw Try.prog O_q57 K_q57_0 (qTop Try.prog Try.f29 K) (E_q57_1 v4 d) h
noncomputable def K_q57_1 : Code := (cB (cB (bodyC Try.f29)))
noncomputable def K_q57_2 : Code := (cB (cB (cB (cB (cB (bodyC Try.f29))))))
def G_q57 (a0 a1 a2 a3 : Value) (h : Hp) (K : Kont) : Prop :=
  oBox a0 h fun t4 h1 =>
  oLd1 t4 h1 fun t13 h2 =>
  C_q126 [t13, (Value.int .i64 1), a1] h2 fun t15 h3 =>
  oNot t15 h3 fun t16 h4 =>
  oGuard t16 false (fun K => oLd1 t4 h4 K) h4 fun t18 h5 =>
  oGuard t16 false (fun K => K a2 h5) h5 fun t19 h6 =>
  oGuard t16 false (fun K => C_q74 [t18, t19] h6 K) h6 fun t20 h7 =>
  oGuard t16 false (fun K => oNot t20 h7 K) h7 fun t21 h8 =>
  oPick t16 (Value.bool true) t21 h8 fun t22 h9 =>
  oIf t22
  (K (.tuple #[(Value.slice none 0 0), (Value.bool false)]) h9)
  (oLd1 t4 h9 fun t24 h10 =>
  oNilCheck t24 h10 fun t25 h11 =>
  oFieldAddr 6 t25 h11 fun t26 h12 =>
  oLd1 t26 h12 fun t27 h13 =>
  oLookup (.int .i64) (.slice none 0 0) t27 a2 true h13 fun t29 h14 =>
  oExtract t29 0 h14 fun t30 h15 =>
  oExtract t29 1 h15 fun t31 h16 =>
  oNot t31 h16 fun t33 h17 =>
  oIf t33
  (oLd1 t4 h17 fun t34 h18 =>
  oNilCheck t34 h18 fun t35 h19 =>
  oFieldAddr 6 t35 h19 fun t36 h20 =>
  oLd1 t36 h20 fun t37 h21 =>
  C_q13 [a3] h21 fun t40 h22 =>
  ((oLd1 t36 h21 (fun v' _ => v' = t37) → oLd1 t36 h22 (fun v' _ => v' = t37)) ∧ (oLd1 t4 h21 (fun v' _ => v' = t34) → oLd1 t4 h22 (fun v' _ => v' = t34)) ∧ True) ∧
  C_q10 [t40, (.func (Go.Fn.func 56) #[] #[t4])] h22 fun t42 h23 =>
  ((oLd1 t36 h22 (fun v' _ => v' = t37) → oLd1 t36 h23 (fun v' _ => v' = t37)) ∧ (oLd1 t4 h22 (fun v' _ => v' = t34) → oLd1 t4 h23 (fun v' _ => v' = t34)) ∧ True) ∧
  oMapUpdate (.int .i64) t37 a2 t42 h23 fun _ h24 =>
  (True) ∧
  G_q57_1 K t4 (ud [(0, a0), (1, a1), (2, a2), (3, a3), (8, (Value.slice none 0 0)), (9, (Value.bool false)), (10, t30), (11, t31), (13, t13), (14, a1), (15, t15), (16, t16), (17, t16), (18, t18), (19, t19), (20, t20), (21, t21), (22, t22), (23, t29), (24, t24), (25, t25), (26, t26), (27, t27), (28, a2), (29, t29), (30, t30), (31, t31), (32, t31), (33, t33), (34, t34), (35, t35), (36, t36), (37, t37), (38, a2), (39, a3), (40, t40), (41, (.func (Go.Fn.func 56) #[] #[t4])), (42, t42)] dz) h24)
  (G_q57_1 K t4 (ud [(0, a0), (1, a1), (2, a2), (3, a3), (8, (Value.slice none 0 0)), (9, (Value.bool false)), (10, t30), (11, t31), (13, t13), (14, a1), (15, t15), (16, t16), (17, t16), (18, t18), (19, t19), (20, t20), (21, t21), (22, t22), (23, t29), (24, t24), (25, t25), (26, t26), (27, t27), (28, a2), (29, t29), (30, t30), (31, t31), (32, t31), (33, t33)] dz) h17))
def E0_q57 (a0 a1 a2 a3 : Value) : List Value := [a0, a1, a2, a3, undef, undef, undef, undef, undef, undef, undef, undef, undef, undef, undef, undef, undef, undef, undef, undef, undef, undef, undef, undef, undef, undef, undef, undef, undef, undef, undef, undef, undef, undef, undef, undef, undef, undef, undef, undef, undef, undef, undef, undef, undef, undef, undef, undef, undef, undef, undef, undef, undef, undef, undef, undef, undef, undef, undef, undef, undef, undef, undef, undef]
def X_q57 (Qv : Post) (a0 a1 a2 a3 : Value) (h : Hp) : Prop :=
  oBox a0 h fun t4 h1 =>
  oLd1 t4 h1 fun t13 h2 =>
  C_q126 [t13, (Value.int .i64 1), a1] h2 fun t15 h3 =>
  oNot t15 h3 fun t16 h4 =>
  oGuard t16 false (fun K => oLd1 t4 h4 K) h4 fun t18 h5 =>
  oGuard t16 false (fun K => K a2 h5) h5 fun t19 h6 =>
  oGuard t16 false (fun K => C_q74 [t18, t19] h6 K) h6 fun t20 h7 =>
  oGuard t16 false (fun K => oNot t20 h7 K) h7 fun t21 h8 =>
  oPick t16 (Value.bool true) t21 h8 fun t22 h9 =>
  oIf t22
  ((qSeq (aw Try.prog O_q57 K_q57_1 Qv) Qv) .ret (ul (E0_q57 a0 a1 a2 a3) [(4, t4), (8, (Value.slice none 0 0)), (9, (Value.bool false)), (13, t13), (14, a1), (15, t15), (16, t16), (17, t16), (18, t18), (19, t19), (20, t20), (21, t21), (22, t22)]) h9)
  (oLd1 t4 h9 fun t24 h10 =>
  oNilCheck t24 h10 fun t25 h11 =>
  oFieldAddr 6 t25 h11 fun t26 h12 =>
  oLd1 t26 h12 fun t27 h13 =>
  oLookup (.int .i64) (.slice none 0 0) t27 a2 true h13 fun t29 h14 =>
  oExtract t29 0 h14 fun t30 h15 =>
  oExtract t29 1 h15 fun t31 h16 =>
  oNot t31 h16 fun t33 h17 =>
  oIf t33
  (oLd1 t4 h17 fun t34 h18 =>
  oNilCheck t34 h18 fun t35 h19 =>
  oFieldAddr 6 t35 h19 fun t36 h20 =>
  oLd1 t36 h20 fun t37 h21 =>
  C_q13 [a3] h21 fun t40 h22 =>
  ((oLd1 t36 h21 (fun v' _ => v' = t37) → oLd1 t36 h22 (fun v' _ => v' = t37)) ∧ (oLd1 t4 h21 (fun v' _ => v' = t34) → oLd1 t4 h22 (fun v' _ => v' = t34)) ∧ True) ∧
  C_q10 [t40, (.func (Go.Fn.func 56) #[] #[t4])] h22 fun t42 h23 =>
  ((oLd1 t36 h22 (fun v' _ => v' = t37) → oLd1 t36 h23 (fun v' _ => v' = t37)) ∧ (oLd1 t4 h22 (fun v' _ => v' = t34) → oLd1 t4 h23 (fun v' _ => v' = t34)) ∧ True) ∧
  oMapUpdate (.int .i64) t37 a2 t42 h23 fun _ h24 =>
  (True) ∧
  (qSeq (aw Try.prog O_q57 K_q57_0 Qv) Qv) .normal (ul (E0_q57 a0 a1 a2 a3) [(4, t4), (8, (Value.slice none 0 0)), (9, (Value.bool false)), (10, t30), (11, t31), (13, t13), (14, a1), (15, t15), (16, t16), (17, t16), (18, t18), (19, t19), (20, t20), (21, t21), (22, t22), (23, t29), (24, t24), (25, t25), (26, t26), (27, t27), (28, a2), (29, t29), (30, t30), (31, t31), (32, t31), (33, t33), (34, t34), (35, t35), (36, t36), (37, t37), (38, a2), (39, a3), (40, t40), (41, (.func (Go.Fn.func 56) #[] #[t4])), (42, t42)]) h24)
  ((qSeq (aw Try.prog O_q57 K_q57_0 Qv) Qv) .normal (ul (E0_q57 a0 a1 a2 a3) [(4, t4), (8, (Value.slice none 0 0)), (9, (Value.bool false)), (10, t30), (11, t31), (13, t13), (14, a1), (15, t15), (16, t16), (17, t16), (18, t18), (19, t19), (20, t20), (21, t21), (22, t22), (23, t29), (24, t24), (25, t25), (26, t26), (27, t27), (28, a2), (29, t29), (30, t30), (31, t31), (32, t31), (33, t33)]) h17))
theorem ga_q57 (Qv : Post) (a0 a1 a2 a3 : Value) (h : Hp) : aw Try.prog O_q57 (bodyC Try.f29) Qv (E0_q57 a0 a1 a2 a3) h = X_q57 Qv a0 a1 a2 a3 h := by kernel_rfl
theorem gb_q57 (a0 a1 a2 a3 : Value) (h : Hp) (K : Kont) : X_q57 (qTop Try.prog Try.f29 K) a0 a1 a2 a3 h = G_q57 a0 a1 a2 a3 h K := by kernel_rfl
theorem gc_q57 (a0 a1 a2 a3 : Value) (h : Hp) (K : Kont) : abody Try.prog O_q57 Try.f29 (bodyC Try.f29) [a0, a1, a2, a3] h K = aw Try.prog O_q57 (bodyC Try.f29) (qTop Try.prog Try.f29 K) (E0_q57 a0 a1 a2 a3) h := by kernel_rfl
theorem eq_q57 (a0 a1 a2 a3 : Value) (h : Hp) (K : Kont) : abody Try.prog O_q57 Try.f29 (bodyC Try.f29) [a0, a1, a2, a3] h K = G_q57 a0 a1 a2 a3 h K := (gc_q57 a0 a1 a2 a3 h K).trans ((ga_q57 _ a0 a1 a2 a3 h).trans (gb_q57 a0 a1 a2 a3 h K))
theorem ok_q57 {a0 a1 a2 a3 : Value} {h : Hp} {K : Kont} (hk : G_q57 a0 a1 a2 a3 h K) : C_q57 [a0, a1, a2, a3] h K := ac_of_body prog_mixed (fn := Try.f29) Try.func29 (c := bodyC Try.f29) (by kernel_rfl) ((eq_q57 a0 a1 a2 a3 h K).mpr hk)
def R_q57_1 (K : Kont) (v4 : Value) (d : Nat → Value) (h : Hp) : Prop :=
  oLd1 v4 h fun t43 h1 =>
  oNilCheck t43 h1 fun t44 h2 =>
  oFieldAddr 6 t44 h2 fun t45 h3 =>
  oLd1 t45 h3 fun t46 h4 =>
  C_q4 [t46] h4 fun t47 h5 =>
  C_q51 [t47] h5 fun t48 h6 =>
  C_q133 [(Value.int .u64 0), t48] h6 fun t49 h7 =>
  oLd1 v4 h7 fun t51 h8 =>
  oNilCheck t51 h8 fun t52 h9 =>
  oFieldAddr 1 t52 h9 fun t53 h10 =>
  oLd1 t53 h10 fun t54 h11 =>
  C_q102 [t49, t54] h11 fun t55 h12 =>
  oNot t55 h12 fun t56 h13 =>
  oIf t56
  (K (.tuple #[(Value.slice none 0 0), (Value.bool false)]) h13)
  (oLd1 v4 h13 fun t57 h14 =>
  oNilCheck t57 h14 fun t58 h15 =>
  oFieldAddr 2 t58 h15 fun t59 h16 =>
  oSt 1 t59 (Value.int .i64 2) h16 fun _ h17 =>
  oLd1 v4 h17 fun t60 h18 =>
  C_q95 [t60] h18 fun t61 h19 =>
  oLd1 v4 h19 fun t62 h20 =>
  C_q94 [t62] h20 fun t63 h21 =>
  K (.tuple #[t63, (Value.bool true)]) h21)
def X_q57_1 (Qv : Post) (v4 : Value) (d : Nat → Value) (h : Hp) : Prop :=
  oLd1 v4 h fun t43 h1 =>
  oNilCheck t43 h1 fun t44 h2 =>
  oFieldAddr 6 t44 h2 fun t45 h3 =>
  oLd1 t45 h3 fun t46 h4 =>
  C_q4 [t46] h4 fun t47 h5 =>
  C_q51 [t47] h5 fun t48 h6 =>
  C_q133 [(Value.int .u64 0), t48] h6 fun t49 h7 =>
  oLd1 v4 h7 fun t51 h8 =>
  oNilCheck t51 h8 fun t52 h9 =>
  oFieldAddr 1 t52 h9 fun t53 h10 =>
  oLd1 t53 h10 fun t54 h11 =>
  C_q102 [t49, t54] h11 fun t55 h12 =>
  oNot t55 h12 fun t56 h13 =>
  oIf t56
  ((qSeq (aw Try.prog O_q57 K_q57_2 Qv) Qv) .ret (ul (E_q57_1 v4 d) [(8, (Value.slice none 0 0)), (9, (Value.bool false)), (12, t49), (43, t43), (44, t44), (45, t45), (46, t46), (47, t47), (48, t48), (49, t49), (50, t49), (51, t51), (52, t52), (53, t53), (54, t54), (55, t55), (56, t56)]) h13)
  (oLd1 v4 h13 fun t57 h14 =>
  oNilCheck t57 h14 fun t58 h15 =>
  oFieldAddr 2 t58 h15 fun t59 h16 =>
  oSt 1 t59 (Value.int .i64 2) h16 fun _ h17 =>
  oLd1 v4 h17 fun t60 h18 =>
  C_q95 [t60] h18 fun t61 h19 =>
  oLd1 v4 h19 fun t62 h20 =>
  C_q94 [t62] h20 fun t63 h21 =>
  Qv .ret (ul (E_q57_1 v4 d) [(8, t63), (9, (Value.bool true)), (12, t49), (43, t43), (44, t44), (45, t45), (46, t46), (47, t47), (48, t48), (49, t49), (50, t49), (51, t51), (52, t52), (53, t53), (54, t54), (55, t55), (56, t56), (57, t57), (58, t58), (59, t59), (60, t60), (61, t61), (62, t62), (63, t63)]) h21)
theorem ga_q57_1 (Qv : Post) (v4 : Value) (d : Nat → Value) (h : Hp) : aw Try.prog O_q57 K_q57_0 Qv (E_q57_1 v4 d) h = X_q57_1 Qv v4 d h := by kernel_rfl
theorem gb_q57_1 (K : Kont) (v4 : Value) (d : Nat → Value) (h : Hp) : X_q57_1 (qTop Try.prog Try.f29 K) v4 d h = R_q57_1 K v4 d h := by kernel_rfl
theorem req_q57_1 (K : Kont) (v4 : Value) (d : Nat → Value) (h : Hp) : G_q57_1 K v4 d h = R_q57_1 K v4 d h := (ga_q57_1 _ v4 d h).trans (gb_q57_1 K v4 d h)
def O_q93 : Od := []
noncomputable def K_q93_0 : Code := (cB (cB (bodyC Try.f30)))
def G_q93 (a0 : Value) (h : Hp) (K : Kont) : Prop :=
  oEq 1 false none a0 (Value.pointer none) h fun t4 h1 =>
  oIf t4
  (K (Value.int .i64 0) h1)
  (oNilCheck a0 h1 fun t6 h2 =>
  oFieldAddr 5 t6 h2 fun t7 h3 =>
  oLd1 t7 h3 fun t8 h4 =>
  K t8 h4)
def E0_q93 (a0 : Value) : List Value := [a0, undef, undef, undef, undef, undef, undef, undef, undef]
def X_q93 (Qv : Post) (a0 : Value) (h : Hp) : Prop :=
  oEq 1 false none a0 (Value.pointer none) h fun t4 h1 =>
  oIf t4
  ((qSeq (aw Try.prog O_q93 K_q93_0 Qv) Qv) .ret (ul (E0_q93 a0) [(2, (Value.int .i64 0)), (3, a0), (4, t4)]) h1)
  (oNilCheck a0 h1 fun t6 h2 =>
  oFieldAddr 5 t6 h2 fun t7 h3 =>
  oLd1 t7 h3 fun t8 h4 =>
  Qv .ret (ul (E0_q93 a0) [(2, t8), (3, a0), (4, t4), (5, a0), (6, t6), (7, t7), (8, t8)]) h4)
theorem ga_q93 (Qv : Post) (a0 : Value) (h : Hp) : aw Try.prog O_q93 (bodyC Try.f30) Qv (E0_q93 a0) h = X_q93 Qv a0 h := by kernel_rfl
theorem gb_q93 (a0 : Value) (h : Hp) (K : Kont) : X_q93 (qTop Try.prog Try.f30 K) a0 h = G_q93 a0 h K := by kernel_rfl
theorem gc_q93 (a0 : Value) (h : Hp) (K : Kont) : abody Try.prog O_q93 Try.f30 (bodyC Try.f30) [a0] h K = aw Try.prog O_q93 (bodyC Try.f30) (qTop Try.prog Try.f30 K) (E0_q93 a0) h := by kernel_rfl
theorem eq_q93 (a0 : Value) (h : Hp) (K : Kont) : abody Try.prog O_q93 Try.f30 (bodyC Try.f30) [a0] h K = G_q93 a0 h K := (gc_q93 a0 h K).trans ((ga_q93 _ a0 h).trans (gb_q93 a0 h K))
theorem ok_q93 {a0 : Value} {h : Hp} {K : Kont} (hk : G_q93 a0 h K) : C_q93 [a0] h K := ac_of_body prog_mixed (fn := Try.f30) Try.func30 (c := bodyC Try.f30) (by kernel_rfl) ((eq_q93 a0 h K).mpr hk)
def O_q58 : Od := []
noncomputable def K_q58_0 : Code := (cB (cB (bodyC Try.f31)))
noncomputable def K_q58_1 : Code := (cB (cB (cB (bodyC Try.f31))))
noncomputable def K_q58_2 : Code := (cB (cB (cB (cB (bodyC Try.f31)))))
def G_q58 (a0 a1 : Value) (h : Hp) (K : Kont) : Prop :=
  oBox a1 h fun t3 h1 =>
  oAlloc #[.int .i64 0, .int .u64 0, .int .i64 0, .int .i64 0, .int .u64 0, .int .i64 0] h1 fun t4 h2 =>
  oEq 1 false none a0 (Value.pointer none) h2 fun t9 h3 =>
  oIf t9
  (oBuild #[.int .i64 0, .int .u64 0, .int .i64 0, .int .i64 0, .int .u64 0, .int .i64 0] [] h3 fun t10 h4 =>
  oSt 6 t4 t10 h4 fun _ h5 =>
  oLdN 6 t4 h5 fun r1 _ =>
  K (.tuple #[r1, (Value.int .i64 2)]) h5)
  (oNilCheck a0 h3 fun t13 h6 =>
  oFieldAddr 2 t13 h6 fun t14 h7 =>
  oLd1 t14 h7 fun t15 h8 =>
  oBin .neq t15 (Value.int .i64 2) h8 fun t16 h9 =>
  oIf t16
  (oBuild #[.int .i64 0, .int .u64 0, .int .i64 0, .int .i64 0, .int .u64 0, .int .i64 0] [] h9 fun t17 h10 =>
  oSt 6 t4 t17 h10 fun _ h11 =>
  oLdN 6 t4 h11 fun r2 _ =>
  K (.tuple #[r2, (Value.int .i64 12)]) h11)
  (oLdN 4 t3 h9 fun t18 h12 =>
  C_q147 [t18] h12 fun t19 h13 =>
  oBin .neq t19 (Value.int .i64 0) h13 fun t21 h14 =>
  oIf t21
  (oBuild #[.int .i64 0, .int .u64 0, .int .i64 0, .int .i64 0, .int .u64 0, .int .i64 0] [] h14 fun t22 h15 =>
  oSt 6 t4 t22 h15 fun _ h16 =>
  oLdN 6 t4 h16 fun r3 _ =>
  K (.tuple #[r3, t19]) h16)
  (oFieldAddr 0 t3 h14 fun t25 h17 =>
  oLd1 t25 h17 fun t26 h18 =>
  oBin .neq t26 (Value.int .i64 0) h18 fun t27 h19 =>
  oGuard t27 true (fun K => K a0 h19) h19 fun t29 h20 =>
  oGuard t27 true (fun K => oLdN 4 t3 h20 K) h20 fun t30 h21 =>
  oGuard t27 true (fun K => C_q50 [t29, t30] h21 K) h21 fun t31 h22 =>
  oPick t27 t31 (Value.bool false) h22 fun t32 h23 =>
  oIf t32
  (oBuild #[.int .i64 0, .int .u64 0, .int .i64 0, .int .i64 0, .int .u64 0, .int .i64 0] [] h23 fun t33 h24 =>
  oSt 6 t4 t33 h24 fun _ h25 =>
  oLdN 6 t4 h25 fun r4 _ =>
  K (.tuple #[r4, (Value.int .i64 8)]) h25)
  (oNilCheck a0 h23 fun t36 h26 =>
  oFieldAddr 7 t36 h26 fun t37 h27 =>
  oLd1 t37 h27 fun t38 h28 =>
  oLen 2 t38 h28 fun t39 h29 =>
  oBin .geq t39 (Value.int .i64 8) h29 fun t40 h30 =>
  oGuard t40 false (fun K => K a0 h30) h30 fun t42 h31 =>
  oGuard t40 false (fun K => oNilCheck t42 h31 K) h31 fun t43 h32 =>
  oGuard t40 false (fun K => oFieldAddr 5 t43 h32 K) h32 fun t44 h33 =>
  oGuard t40 false (fun K => oLd1 t44 h33 K) h33 fun t45 h34 =>
  oGuard t40 false (fun K => oBin .geq t45 (Value.int .i64 512) h34 K) h34 fun t46 h35 =>
  oPick t40 (Value.bool true) t46 h35 fun t47 h36 =>
  oIf t47
  (oBuild #[.int .i64 0, .int .u64 0, .int .i64 0, .int .i64 0, .int .u64 0, .int .i64 0] [] h36 fun t48 h37 =>
  oSt 6 t4 t48 h37 fun _ h38 =>
  oLdN 6 t4 h38 fun r5 _ =>
  K (.tuple #[r5, (Value.int .i64 9)]) h38)
  (oLdN 4 t3 h36 fun t51 h39 =>
  C_q111 [a0, t51] h39 fun t52 h40 =>
  C_q96 [a0, t52] h40 fun t53 h41 =>
  oSt 6 t4 t53 h41 fun _ h42 =>
  oLdN 6 t4 h42 fun r6 _ =>
  K (.tuple #[r6, (Value.int .i64 0)]) h42)))))
def E0_q58 (a0 a1 : Value) : List Value := [a0, a1, undef, undef, undef, undef, undef, undef, undef, undef, undef, undef, undef, undef, undef, undef, undef, undef, undef, undef, undef, undef, undef, undef, undef, undef, undef, undef, undef, undef, undef, undef, undef, undef, undef, undef, undef, undef, undef, undef, undef, undef, undef, undef, undef, undef, undef, undef, undef, undef, undef, undef, undef, undef]
def X_q58 (Qv : Post) (a0 a1 : Value) (h : Hp) : Prop :=
  oBox a1 h fun t3 h1 =>
  oAlloc #[.int .i64 0, .int .u64 0, .int .i64 0, .int .i64 0, .int .u64 0, .int .i64 0] h1 fun t4 h2 =>
  oEq 1 false none a0 (Value.pointer none) h2 fun t9 h3 =>
  oIf t9
  (oBuild #[.int .i64 0, .int .u64 0, .int .i64 0, .int .i64 0, .int .u64 0, .int .i64 0] [] h3 fun t10 h4 =>
  oSt 6 t4 t10 h4 fun _ h5 =>
  (qBlk 0 (qSeq (aw Try.prog O_q58 K_q58_0 Qv) Qv)) .ret (ul (E0_q58 a0 a1) [(3, t3), (4, t4), (5, (Value.int .i64 2)), (7, t9), (8, a0), (9, t9), (10, t10)]) h5)
  (oNilCheck a0 h3 fun t13 h6 =>
  oFieldAddr 2 t13 h6 fun t14 h7 =>
  oLd1 t14 h7 fun t15 h8 =>
  oBin .neq t15 (Value.int .i64 2) h8 fun t16 h9 =>
  oIf t16
  (oBuild #[.int .i64 0, .int .u64 0, .int .i64 0, .int .i64 0, .int .u64 0, .int .i64 0] [] h9 fun t17 h10 =>
  oSt 6 t4 t17 h10 fun _ h11 =>
  (qBlk 0 (qSeq (aw Try.prog O_q58 K_q58_0 Qv) Qv)) .ret (ul (E0_q58 a0 a1) [(3, t3), (4, t4), (5, (Value.int .i64 12)), (7, t9), (8, a0), (9, t9), (11, t16), (12, a0), (13, t13), (14, t14), (15, t15), (16, t16), (17, t17)]) h11)
  (oLdN 4 t3 h9 fun t18 h12 =>
  C_q147 [t18] h12 fun t19 h13 =>
  oBin .neq t19 (Value.int .i64 0) h13 fun t21 h14 =>
  oIf t21
  (oBuild #[.int .i64 0, .int .u64 0, .int .i64 0, .int .i64 0, .int .u64 0, .int .i64 0] [] h14 fun t22 h15 =>
  oSt 6 t4 t22 h15 fun _ h16 =>
  (qSeq (aw Try.prog O_q58 K_q58_1 Qv) Qv) .ret (ul (E0_q58 a0 a1) [(3, t3), (4, t4), (5, t19), (6, t19), (7, t9), (8, a0), (9, t9), (11, t16), (12, a0), (13, t13), (14, t14), (15, t15), (16, t16), (18, t18), (19, t19), (20, t19), (21, t21), (22, t22), (23, t19)]) h16)
  (oFieldAddr 0 t3 h14 fun t25 h17 =>
  oLd1 t25 h17 fun t26 h18 =>
  oBin .neq t26 (Value.int .i64 0) h18 fun t27 h19 =>
  oGuard t27 true (fun K => K a0 h19) h19 fun t29 h20 =>
  oGuard t27 true (fun K => oLdN 4 t3 h20 K) h20 fun t30 h21 =>
  oGuard t27 true (fun K => C_q50 [t29, t30] h21 K) h21 fun t31 h22 =>
  oPick t27 t31 (Value.bool false) h22 fun t32 h23 =>
  oIf t32
  (oBuild #[.int .i64 0, .int .u64 0, .int .i64 0, .int .i64 0, .int .u64 0, .int .i64 0] [] h23 fun t33 h24 =>
  oSt 6 t4 t33 h24 fun _ h25 =>
  (qBlk 1 (qSeq (aw Try.prog O_q58 K_q58_2 Qv) Qv)) .ret (ul (E0_q58 a0 a1) [(3, t3), (4, t4), (5, (Value.int .i64 8)), (6, t19), (7, t9), (8, a0), (9, t9), (11, t16), (12, a0), (13, t13), (14, t14), (15, t15), (16, t16), (18, t18), (19, t19), (20, t19), (21, t21), (24, t32), (25, t25), (26, t26), (27, t27), (28, t27), (29, t29), (30, t30), (31, t31), (32, t32), (33, t33)]) h25)
  (oNilCheck a0 h23 fun t36 h26 =>
  oFieldAddr 7 t36 h26 fun t37 h27 =>
  oLd1 t37 h27 fun t38 h28 =>
  oLen 2 t38 h28 fun t39 h29 =>
  oBin .geq t39 (Value.int .i64 8) h29 fun t40 h30 =>
  oGuard t40 false (fun K => K a0 h30) h30 fun t42 h31 =>
  oGuard t40 false (fun K => oNilCheck t42 h31 K) h31 fun t43 h32 =>
  oGuard t40 false (fun K => oFieldAddr 5 t43 h32 K) h32 fun t44 h33 =>
  oGuard t40 false (fun K => oLd1 t44 h33 K) h33 fun t45 h34 =>
  oGuard t40 false (fun K => oBin .geq t45 (Value.int .i64 512) h34 K) h34 fun t46 h35 =>
  oPick t40 (Value.bool true) t46 h35 fun t47 h36 =>
  oIf t47
  (oBuild #[.int .i64 0, .int .u64 0, .int .i64 0, .int .i64 0, .int .u64 0, .int .i64 0] [] h36 fun t48 h37 =>
  oSt 6 t4 t48 h37 fun _ h38 =>
  (qBlk 1 (qSeq (aw Try.prog O_q58 K_q58_2 Qv) Qv)) .ret (ul (E0_q58 a0 a1) [(3, t3), (4, t4), (5, (Value.int .i64 9)), (6, t19), (7, t9), (8, a0), (9, t9), (11, t16), (12, a0), (13, t13), (14, t14), (15, t15), (16, t16), (18, t18), (19, t19), (20, t19), (21, t21), (24, t32), (25, t25), (26, t26), (27, t27), (28, t27), (29, t29), (30, t30), (31, t31), (32, t32), (34, t47), (35, a0), (36, t36), (37, t37), (38, t38), (39, t39), (40, t40), (41, t40), (42, t42), (43, t43), (44, t44), (45, t45), (46, t46), (47, t47), (48, t48)]) h38)
  (oLdN 4 t3 h36 fun t51 h39 =>
  C_q111 [a0, t51] h39 fun t52 h40 =>
  C_q96 [a0, t52] h40 fun t53 h41 =>
  oSt 6 t4 t53 h41 fun _ h42 =>
  Qv .ret (ul (E0_q58 a0 a1) [(3, t3), (4, t4), (5, (Value.int .i64 0)), (6, t19), (7, t9), (8, a0), (9, t9), (11, t16), (12, a0), (13, t13), (14, t14), (15, t15), (16, t16), (18, t18), (19, t19), (20, t19), (21, t21), (24, t32), (25, t25), (26, t26), (27, t27), (28, t27), (29, t29), (30, t30), (31, t31), (32, t32), (34, t47), (35, a0), (36, t36), (37, t37), (38, t38), (39, t39), (40, t40), (41, t40), (42, t42), (43, t43), (44, t44), (45, t45), (46, t46), (47, t47), (49, a0), (50, a0), (51, t51), (52, t52), (53, t53)]) h42)))))
theorem ga_q58 (Qv : Post) (a0 a1 : Value) (h : Hp) : aw Try.prog O_q58 (bodyC Try.f31) Qv (E0_q58 a0 a1) h = X_q58 Qv a0 a1 h := by kernel_rfl
theorem gb_q58 (a0 a1 : Value) (h : Hp) (K : Kont) : X_q58 (qTop Try.prog Try.f31 K) a0 a1 h = G_q58 a0 a1 h K := by kernel_rfl
theorem gc_q58 (a0 a1 : Value) (h : Hp) (K : Kont) : abody Try.prog O_q58 Try.f31 (bodyC Try.f31) [a0, a1] h K = aw Try.prog O_q58 (bodyC Try.f31) (qTop Try.prog Try.f31 K) (E0_q58 a0 a1) h := by kernel_rfl
theorem eq_q58 (a0 a1 : Value) (h : Hp) (K : Kont) : abody Try.prog O_q58 Try.f31 (bodyC Try.f31) [a0, a1] h K = G_q58 a0 a1 h K := (gc_q58 a0 a1 h K).trans ((ga_q58 _ a0 a1 h).trans (gb_q58 a0 a1 h K))
theorem ok_q58 {a0 a1 : Value} {h : Hp} {K : Kont} (hk : G_q58 a0 a1 h K) : C_q58 [a0, a1] h K := ac_of_body prog_mixed (fn := Try.f31) Try.func31 (c := bodyC Try.f31) (by kernel_rfl) ((eq_q58 a0 a1 h K).mpr hk)
def O_q47 : Od := [(7, (.one 0 true (.one 1 true (.one 2 true (.one 3 true (.one 4 true (.one 5 true (.one 6 false .nil)))))))), (8, (.one 0 true (.one 1 true (.one 2 true (.one 3 true (.one 4 true (.one 5 true (.one 6 false (.one 7 true .nil)))))))))]
noncomputable def K_q47_0 : Code := (cB (cB (bodyC Try.f32)))
noncomputable def K_q47_1 : Code := (cB (cB (cB (cB (bodyC Try.f32)))))
noncomputable def K_q47_2 : Code := (cB (cB (cB (cB (cB (cB (cB (bodyC Try.f32))))))))
def G_q47 (a0 a1 a2 a3 : Value) (h : Hp) (K : Kont) : Prop :=
  oAlloc #[.int .i64 0, .int .u64 0, .int .i64 0, .int .i64 0, .int .u64 0, .int .i64 0] h fun t8 h1 =>
  C_q126 [a0, (Value.int .i64 2), a1] h1 fun t15 h2 =>
  oNot t15 h2 fun t16 h3 =>
  oGuard t16 false (fun K => K a0 h3) h3 fun t18 h4 =>
  oGuard t16 false (fun K => K a3 h4) h4 fun t19 h5 =>
  oGuard t16 false (fun K => C_q74 [t18, t19] h5 K) h5 fun t20 h6 =>
  oGuard t16 false (fun K => oNot t20 h6 K) h6 fun t21 h7 =>
  oPick t16 (Value.bool true) t21 h7 fun t22 h8 =>
  oIf t22
  (oBuild #[.int .i64 0, .int .u64 0, .int .i64 0, .int .i64 0, .int .u64 0, .int .i64 0] [] h8 fun t23 h9 =>
  oSt 6 t8 t23 h9 fun _ h10 =>
  oLdN 6 t8 h10 fun r1 _ =>
  K (.tuple #[r1, (Value.bool false)]) h10)
  (oNilCheck a0 h8 fun t26 h11 =>
  oFieldAddr 7 t26 h11 fun t27 h12 =>
  oLd1 t27 h12 fun t28 h13 =>
  oLookup (.int .i64) (.agg #[.int .i64 0, .int .i64 0, .int .u64 0, .int .i64 0, .int .u64 0]) t28 a2 true h13 fun t30 h14 =>
  oExtract t30 0 h14 fun t31 h15 =>
  oExtract t30 1 h15 fun t32 h16 =>
  oAlloc #[.int .i64 0, .int .i64 0, .int .u64 0, .int .i64 0, .int .u64 0] h16 fun t10 h17 =>
  oSt 5 t10 t31 h17 fun _ h18 =>
  oNot t32 h18 fun t34 h19 =>
  oIf t34
  (oBuild #[.int .i64 0, .int .u64 0, .int .i64 0, .int .i64 0, .int .u64 0, .int .i64 0] [] h19 fun t35 h20 =>
  oSt 6 t8 t35 h20 fun _ h21 =>
  oLdN 6 t8 h21 fun r2 _ =>
  K (.tuple #[r2, (Value.bool false)]) h21)
  (oFieldAddr 4 t10 h19 fun t36 h22 =>
  oLd1 t36 h22 fun t37 h23 =>
  oBuildSlice #[.int .i64 0] 1 [(0 * 1, 1, a3)] h23 fun t39 h24 =>
  C_q133 [t37, t39] h24 fun t40 h25 =>
  oFieldAddr 4 t10 h25 fun t41 h26 =>
  oSt 1 t41 t40 h26 fun _ h27 =>
  oNilCheck a0 h27 fun t43 h28 =>
  oFieldAddr 7 t43 h28 fun t44 h29 =>
  oLd1 t44 h29 fun t45 h30 =>
  oLdN 5 t10 h30 fun t47 h31 =>
  oMapUpdate (.int .i64) t45 a2 t47 h31 fun _ h32 =>
  (True) ∧
  oFieldAddr 4 t10 h32 fun t48 h33 =>
  oLd1 t48 h33 fun t49 h34 =>
  oNilCheck a0 h34 fun t51 h35 =>
  oFieldAddr 1 t51 h35 fun t52 h36 =>
  oLd1 t52 h36 fun t53 h37 =>
  C_q102 [t49, t53] h37 fun t54 h38 =>
  (True) ∧
  oNot t54 h38 fun t55 h39 =>
  oIf t55
  (oBuild #[.int .i64 0, .int .u64 0, .int .i64 0, .int .i64 0, .int .u64 0, .int .i64 0] [] h39 fun t56 h40 =>
  oSt 6 t8 t56 h40 fun _ h41 =>
  oLdN 6 t8 h41 fun r3 _ =>
  K (.tuple #[r3, (Value.bool false)]) h41)
  (C_q96 [a0, a2] h39 fun t59 h42 =>
  oAlloc #[.int .i64 0, .int .u64 0, .int .i64 0, .int .i64 0, .int .u64 0, .int .i64 0] h42 fun t12 h43 =>
  oSt 6 t12 t59 h43 fun _ h44 =>
  oNilCheck a0 h44 fun t61 h45 =>
  oFieldAddr 7 t61 h45 fun t62 h46 =>
  oLd1 t62 h46 fun t63 h47 =>
  oDelete (.int .i64) t63 a2 h47 fun _ h48 =>
  oLdN 6 t12 h48 fun t65 h49 =>
  oSt 6 t8 t65 h49 fun _ h50 =>
  oLdN 6 t8 h50 fun r4 _ =>
  K (.tuple #[r4, (Value.bool true)]) h50)))
def E0_q47 (a0 a1 a2 a3 : Value) : List Value := [a0, a1, a2, a3, undef, undef, undef, undef, undef, undef, undef, undef, undef, undef, undef, undef, undef, undef, undef, undef, undef, undef, undef, undef, undef, undef, undef, undef, undef, undef, undef, undef, undef, undef, undef, undef, undef, undef, undef, undef, undef, undef, undef, undef, undef, undef, undef, undef, undef, undef, undef, undef, undef, undef, undef, undef, undef, undef, undef, undef, undef, undef, undef, undef, undef, undef]
def X_q47 (Qv : Post) (a0 a1 a2 a3 : Value) (h : Hp) : Prop :=
  oAlloc #[.int .i64 0, .int .u64 0, .int .i64 0, .int .i64 0, .int .u64 0, .int .i64 0] h fun t8 h1 =>
  C_q126 [a0, (Value.int .i64 2), a1] h1 fun t15 h2 =>
  oNot t15 h2 fun t16 h3 =>
  oGuard t16 false (fun K => K a0 h3) h3 fun t18 h4 =>
  oGuard t16 false (fun K => K a3 h4) h4 fun t19 h5 =>
  oGuard t16 false (fun K => C_q74 [t18, t19] h5 K) h5 fun t20 h6 =>
  oGuard t16 false (fun K => oNot t20 h6 K) h6 fun t21 h7 =>
  oPick t16 (Value.bool true) t21 h7 fun t22 h8 =>
  oIf t22
  (oBuild #[.int .i64 0, .int .u64 0, .int .i64 0, .int .i64 0, .int .u64 0, .int .i64 0] [] h8 fun t23 h9 =>
  oSt 6 t8 t23 h9 fun _ h10 =>
  (qSeq (aw Try.prog O_q47 K_q47_0 Qv) Qv) .ret (ul (E0_q47 a0 a1 a2 a3) [(8, t8), (9, (Value.bool false)), (13, a0), (14, a1), (15, t15), (16, t16), (17, t16), (18, t18), (19, t19), (20, t20), (21, t21), (22, t22), (23, t23)]) h10)
  (oNilCheck a0 h8 fun t26 h11 =>
  oFieldAddr 7 t26 h11 fun t27 h12 =>
  oLd1 t27 h12 fun t28 h13 =>
  oLookup (.int .i64) (.agg #[.int .i64 0, .int .i64 0, .int .u64 0, .int .i64 0, .int .u64 0]) t28 a2 true h13 fun t30 h14 =>
  oExtract t30 0 h14 fun t31 h15 =>
  oExtract t30 1 h15 fun t32 h16 =>
  oAlloc #[.int .i64 0, .int .i64 0, .int .u64 0, .int .i64 0, .int .u64 0] h16 fun t10 h17 =>
  oSt 5 t10 t31 h17 fun _ h18 =>
  oNot t32 h18 fun t34 h19 =>
  oIf t34
  (oBuild #[.int .i64 0, .int .u64 0, .int .i64 0, .int .i64 0, .int .u64 0, .int .i64 0] [] h19 fun t35 h20 =>
  oSt 6 t8 t35 h20 fun _ h21 =>
  (qSeq (aw Try.prog O_q47 K_q47_1 Qv) Qv) .ret (ul (E0_q47 a0 a1 a2 a3) [(8, t8), (9, (Value.bool false)), (10, t10), (11, t32), (13, a0), (14, a1), (15, t15), (16, t16), (17, t16), (18, t18), (19, t19), (20, t20), (21, t21), (22, t22), (24, t30), (25, a0), (26, t26), (27, t27), (28, t28), (29, a2), (30, t30), (31, t31), (32, t32), (33, t32), (34, t34), (35, t35)]) h21)
  (oFieldAddr 4 t10 h19 fun t36 h22 =>
  oLd1 t36 h22 fun t37 h23 =>
  oBuildSlice #[.int .i64 0] 1 [(0 * 1, 1, a3)] h23 fun t39 h24 =>
  C_q133 [t37, t39] h24 fun t40 h25 =>
  oFieldAddr 4 t10 h25 fun t41 h26 =>
  oSt 1 t41 t40 h26 fun _ h27 =>
  oNilCheck a0 h27 fun t43 h28 =>
  oFieldAddr 7 t43 h28 fun t44 h29 =>
  oLd1 t44 h29 fun t45 h30 =>
  oLdN 5 t10 h30 fun t47 h31 =>
  oMapUpdate (.int .i64) t45 a2 t47 h31 fun _ h32 =>
  (True) ∧
  oFieldAddr 4 t10 h32 fun t48 h33 =>
  oLd1 t48 h33 fun t49 h34 =>
  oNilCheck a0 h34 fun t51 h35 =>
  oFieldAddr 1 t51 h35 fun t52 h36 =>
  oLd1 t52 h36 fun t53 h37 =>
  C_q102 [t49, t53] h37 fun t54 h38 =>
  (True) ∧
  oNot t54 h38 fun t55 h39 =>
  oIf t55
  (oBuild #[.int .i64 0, .int .u64 0, .int .i64 0, .int .i64 0, .int .u64 0, .int .i64 0] [] h39 fun t56 h40 =>
  oSt 6 t8 t56 h40 fun _ h41 =>
  (qSeq (aw Try.prog O_q47 K_q47_2 Qv) Qv) .ret (ul (E0_q47 a0 a1 a2 a3) [(8, t8), (9, (Value.bool false)), (10, t10), (11, t32), (13, a0), (14, a1), (15, t15), (16, t16), (17, t16), (18, t18), (19, t19), (20, t20), (21, t21), (22, t22), (24, t30), (25, a0), (26, t26), (27, t27), (28, t28), (29, a2), (30, t30), (31, t31), (32, t32), (33, t32), (34, t34), (36, t36), (37, t37), (38, a3), (39, t39), (40, t40), (41, t41), (42, a0), (43, t43), (44, t44), (45, t45), (46, a2), (47, t47), (48, t48), (49, t49), (50, a0), (51, t51), (52, t52), (53, t53), (54, t54), (55, t55), (56, t56)]) h41)
  (C_q96 [a0, a2] h39 fun t59 h42 =>
  oAlloc #[.int .i64 0, .int .u64 0, .int .i64 0, .int .i64 0, .int .u64 0, .int .i64 0] h42 fun t12 h43 =>
  oSt 6 t12 t59 h43 fun _ h44 =>
  oNilCheck a0 h44 fun t61 h45 =>
  oFieldAddr 7 t61 h45 fun t62 h46 =>
  oLd1 t62 h46 fun t63 h47 =>
  oDelete (.int .i64) t63 a2 h47 fun _ h48 =>
  oLdN 6 t12 h48 fun t65 h49 =>
  oSt 6 t8 t65 h49 fun _ h50 =>
  Qv .ret (ul (E0_q47 a0 a1 a2 a3) [(8, t8), (9, (Value.bool true)), (10, t10), (11, t32), (12, t12), (13, a0), (14, a1), (15, t15), (16, t16), (17, t16), (18, t18), (19, t19), (20, t20), (21, t21), (22, t22), (24, t30), (25, a0), (26, t26), (27, t27), (28, t28), (29, a2), (30, t30), (31, t31), (32, t32), (33, t32), (34, t34), (36, t36), (37, t37), (38, a3), (39, t39), (40, t40), (41, t41), (42, a0), (43, t43), (44, t44), (45, t45), (46, a2), (47, t47), (48, t48), (49, t49), (50, a0), (51, t51), (52, t52), (53, t53), (54, t54), (55, t55), (57, a0), (58, a2), (59, t59), (60, a0), (61, t61), (62, t62), (63, t63), (64, a2), (65, t65)]) h50)))
theorem ga_q47 (Qv : Post) (a0 a1 a2 a3 : Value) (h : Hp) : aw Try.prog O_q47 (bodyC Try.f32) Qv (E0_q47 a0 a1 a2 a3) h = X_q47 Qv a0 a1 a2 a3 h := by kernel_rfl
theorem gb_q47 (a0 a1 a2 a3 : Value) (h : Hp) (K : Kont) : X_q47 (qTop Try.prog Try.f32 K) a0 a1 a2 a3 h = G_q47 a0 a1 a2 a3 h K := by kernel_rfl
theorem gc_q47 (a0 a1 a2 a3 : Value) (h : Hp) (K : Kont) : abody Try.prog O_q47 Try.f32 (bodyC Try.f32) [a0, a1, a2, a3] h K = aw Try.prog O_q47 (bodyC Try.f32) (qTop Try.prog Try.f32 K) (E0_q47 a0 a1 a2 a3) h := by kernel_rfl
theorem eq_q47 (a0 a1 a2 a3 : Value) (h : Hp) (K : Kont) : abody Try.prog O_q47 Try.f32 (bodyC Try.f32) [a0, a1, a2, a3] h K = G_q47 a0 a1 a2 a3 h K := (gc_q47 a0 a1 a2 a3 h K).trans ((ga_q47 _ a0 a1 a2 a3 h).trans (gb_q47 a0 a1 a2 a3 h K))
theorem ok_q47 {a0 a1 a2 a3 : Value} {h : Hp} {K : Kont} (hk : G_q47 a0 a1 a2 a3 h K) : C_q47 [a0, a1, a2, a3] h K := ac_of_body prog_mixed (fn := Try.f32) Try.func32 (c := bodyC Try.f32) (by kernel_rfl) ((eq_q47 a0 a1 a2 a3 h K).mpr hk)
def O_q94 : Od := []
noncomputable def K_q94_0 : Code := (cI (cB (cA (cB (cB (cB (bodyC Try.f33)))))))
noncomputable def K_q94_1 : Code := (cB (cB (cB (cB (bodyC Try.f33)))))
def Q_q94_0 (K : Kont) : Post := qSeq (aw Try.prog O_q94 K_q94_1 (qTop Try.prog Try.f33 K)) (qTop Try.prog Try.f33 K)
def Q_q94_1 (K : Kont) : Post := qBlk 0 (Q_q94_0 K)
def E_q94_1 (v0 v3 v13 v14 v15 : Value) (d : Nat → Value) : List Value := [v0, d 1, d 2, v3, d 4, d 5, d 6, d 7, d 8, d 9, d 10, d 11, d 12, v13, v14, v15, d 16, d 17, d 18, d 19, d 20, d 21, d 22, d 23, d 24, d 25, d 26]
def G_q94_1 (K : Kont) (v0 v3 v13 v14 v15 : Value) (d : Nat → Value) (h : Hp) : Prop := aw Try.prog O_q94 K_q94_0 (Q_q94_1 K) (E_q94_1 v0 v3 v13 v14 v15 d) h
noncomputable def K_q94_2 : Code := (cB (cB (bodyC Try.f33)))
def Q_q94_2 (K : Kont) (s0 : Self) : Post := qSeq s0 (Q_q94_1 K)
noncomputable def K_q94_3 : Code := (cI (cI (cB (cA (cB (cB (cB (bodyC Try.f33))))))))
noncomputable def K_q94_4 : Code := (cB (cB (cI (cI (cB (cA (cB (cB (cB (bodyC Try.f33))))))))))
def G_q94 (a0 : Value) (h : Hp) (K : Kont) : Prop :=
  oEq 1 false none a0 (Value.pointer none) h fun t7 h1 =>
  oIf t7
  (K (Value.slice none 0 0) h1)
  (oNilCheck a0 h1 fun t9 h2 =>
  oFieldAddr 7 t9 h2 fun t10 h3 =>
  oLd1 t10 h3 fun t11 h4 =>
  C_q1 [t11] h4 fun t12 h5 =>
  C_q61 [t12] h5 fun t13 h6 =>
  oLen 0 t13 h6 fun t14 h7 =>
  G_q94_1 K a0 (Value.slice none 0 0) t13 t14 (Value.int .i64 0) (ud [(2, (Value.slice none 0 0)), (6, a0), (7, t7), (8, a0), (9, t9), (10, t10), (11, t11), (12, t12)] dz) h7)
def E0_q94 (a0 : Value) : List Value := [a0, undef, undef, undef, undef, undef, undef, undef, undef, undef, undef, undef, undef, undef, undef, undef, undef, undef, undef, undef, undef, undef, undef, undef, undef, undef, undef]
def X_q94 (Qv : Post) (a0 : Value) (h : Hp) : Prop :=
  oEq 1 false none a0 (Value.pointer none) h fun t7 h1 =>
  oIf t7
  ((qSeq (aw Try.prog O_q94 K_q94_2 Qv) Qv) .ret (ul (E0_q94 a0) [(2, (Value.slice none 0 0)), (6, a0), (7, t7)]) h1)
  (oNilCheck a0 h1 fun t9 h2 =>
  oFieldAddr 7 t9 h2 fun t10 h3 =>
  oLd1 t10 h3 fun t11 h4 =>
  C_q1 [t11] h4 fun t12 h5 =>
  C_q61 [t12] h5 fun t13 h6 =>
  oLen 0 t13 h6 fun t14 h7 =>
  aw Try.prog O_q94 K_q94_0 (qBlk 0 (qSeq (aw Try.prog O_q94 K_q94_1 Qv) Qv)) (ul (E0_q94 a0) [(2, (Value.slice none 0 0)), (3, (Value.slice none 0 0)), (6, a0), (7, t7), (8, a0), (9, t9), (10, t10), (11, t11), (12, t12), (13, t13), (14, t14), (15, (Value.int .i64 0))]) h7)
theorem ga_q94 (Qv : Post) (a0 : Value) (h : Hp) : aw Try.prog O_q94 (bodyC Try.f33) Qv (E0_q94 a0) h = X_q94 Qv a0 h := by kernel_rfl
theorem gb_q94 (a0 : Value) (h : Hp) (K : Kont) : X_q94 (qTop Try.prog Try.f33 K) a0 h = G_q94 a0 h K := by kernel_rfl
theorem gc_q94 (a0 : Value) (h : Hp) (K : Kont) : abody Try.prog O_q94 Try.f33 (bodyC Try.f33) [a0] h K = aw Try.prog O_q94 (bodyC Try.f33) (qTop Try.prog Try.f33 K) (E0_q94 a0) h := by kernel_rfl
theorem eq_q94 (a0 : Value) (h : Hp) (K : Kont) : abody Try.prog O_q94 Try.f33 (bodyC Try.f33) [a0] h K = G_q94 a0 h K := (gc_q94 a0 h K).trans ((ga_q94 _ a0 h).trans (gb_q94 a0 h K))
theorem ok_q94 {a0 : Value} {h : Hp} {K : Kont} (hk : G_q94 a0 h K) : C_q94 [a0] h K := ac_of_body prog_mixed (fn := Try.f33) Try.func33 (c := bodyC Try.f33) (by kernel_rfl) ((eq_q94 a0 h K).mpr hk)
def B_q94_1 (K : Kont) (s0 : Self) (v0 v3 v13 v14 v15 : Value) (d : Nat → Value) (h : Hp) : Prop :=
  oBin .lss v15 v14 h fun t16 h1 =>
  oIf t16
  (oIdxS 1 v13 v15 h1 fun t17 h2 =>
  oLd1 t17 h2 fun t18 h3 =>
  C_q96 [v0, t18] h3 fun t22 h4 =>
  oBuildSlice #[.int .i64 0, .int .u64 0, .int .i64 0, .int .i64 0, .int .u64 0, .int .i64 0] 1 [(0 * 6, 6, t22)] h4 fun t23 h5 =>
  oAppend 6 48 #[.int .i64 0, .int .u64 0, .int .i64 0, .int .i64 0, .int .u64 0, .int .i64 0] v3 t23 h5 fun t24 h6 =>
  oBin .add v15 (Value.int .i64 1) h6 fun t25 h7 =>
  s0 (E_q94_1 v0 t24 v13 v14 t25 (ud [(5, t18), (16, t16), (17, t17), (18, t18), (19, v3), (20, v0), (21, t18), (22, t22), (23, t23), (24, t24), (25, t25)] d)) h7)
  (K v3 h1)
def X_q94_1 (Qv : Post) (v0 v3 v13 v14 v15 : Value) (d : Nat → Value) (h : Hp) : Prop :=
  oBin .lss v15 v14 h fun t16 h1 =>
  oIf t16
  (oIdxS 1 v13 v15 h1 fun t17 h2 =>
  oLd1 t17 h2 fun t18 h3 =>
  C_q96 [v0, t18] h3 fun t22 h4 =>
  oBuildSlice #[.int .i64 0, .int .u64 0, .int .i64 0, .int .i64 0, .int .u64 0, .int .i64 0] 1 [(0 * 6, 6, t22)] h4 fun t23 h5 =>
  oAppend 6 48 #[.int .i64 0, .int .u64 0, .int .i64 0, .int .i64 0, .int .u64 0, .int .i64 0] v3 t23 h5 fun t24 h6 =>
  oBin .add v15 (Value.int .i64 1) h6 fun t25 h7 =>
  Qv .normal (ul (E_q94_1 v0 v3 v13 v14 v15 d) [(3, t24), (5, t18), (15, t25), (16, t16), (17, t17), (18, t18), (19, v3), (20, v0), (21, t18), (22, t22), (23, t23), (24, t24), (25, t25)]) h7)
  ((qSeq (aw Try.prog O_q94 K_q94_4 Qv) Qv) (.exit 0) (ul (E_q94_1 v0 v3 v13 v14 v15 d) [(16, t16)]) h1)
theorem ga_q94_1 (Qv : Post) (v0 v3 v13 v14 v15 : Value) (d : Nat → Value) (h : Hp) : aw Try.prog O_q94 K_q94_3 Qv (E_q94_1 v0 v3 v13 v14 v15 d) h = X_q94_1 Qv v0 v3 v13 v14 v15 d h := by kernel_rfl
theorem gb_q94_1 (K : Kont) (s0 : Self) (v0 v3 v13 v14 v15 : Value) (d : Nat → Value) (h : Hp) : X_q94_1 (Q_q94_2 K s0) v0 v3 v13 v14 v15 d h = B_q94_1 K s0 v0 v3 v13 v14 v15 d h := by kernel_rfl
theorem beq_q94_1 (K : Kont) (s0 : Self) (v0 v3 v13 v14 v15 : Value) (d : Nat → Value) (h : Hp) : aw Try.prog O_q94 K_q94_3 (Q_q94_2 K s0) (E_q94_1 v0 v3 v13 v14 v15 d) h = B_q94_1 K s0 v0 v3 v13 v14 v15 d h := (ga_q94_1 _ v0 v3 v13 v14 v15 d h).trans (gb_q94_1 K s0 v0 v3 v13 v14 v15 d h)
theorem rule_q94_1 {K : Kont} {v0 v13 v14 : Value} (Inv : Value → Value → Hp → Prop) (μ : Value → Value → Hp → Nat)
    (step : ∀ (s0 : Self) (v3 v15 : Value) (d : Nat → Value) (h : Hp), Inv v3 v15 h → (∀ (v3' : Value) (v15' : Value) (d' : Nat → Value) (h' : Hp), Inv v3' v15' h' → μ v3' v15' h' < μ v3 v15 h → s0 (E_q94_1 v0 v3' v13 v14 v15' d') h') → B_q94_1 K s0 v0 v3 v13 v14 v15 d h) (v3 v15 : Value) (d : Nat → Value) (h : Hp) (hi : Inv v3 v15 h) : G_q94_1 K v0 v3 v13 v14 v15 d h :=
  oLoop_rule (α := Value × Value × (Nat → Value)) (fun x => E_q94_1 v0 x.1 v13 v14 x.2.1 x.2.2) (fun x h => Inv x.1 x.2.1 h) (fun x h => μ x.1 x.2.1 h)
    (fun self x h hx hs => (beq_q94_1 K self v0 x.1 v13 v14 x.2.1 x.2.2 h).mpr (step self x.1 x.2.1 x.2.2 h hx (fun v3' v15' d' h' h1 h2 => hs ⟨v3', v15', d'⟩ h' h1 h2))) ⟨v3, v15, d⟩ h hi
end Go.Proofs.Ytdolepapmpcpiaa

namespace Go.Proofs.Ytdolepapmpcpiaa
open Go
set_option linter.unusedSectionVars false
variable [Base]
set_option linter.unusedVariables false
set_option maxRecDepth 100000
def O_q170 : Od := [(11, (.one 0 true (.one 1 true (.one 2 true (.one 3 false (.one 4 true (.one 5 true (.one 6 true (.one 7 true (.one 8 true (.one 9 false (.one 10 true .nil)))))))))))), (15, (.one 0 true (.one 1 true (.one 2 true (.one 3 true (.one 4 true (.one 5 true (.one 6 true (.one 7 true (.one 8 true (.one 9 false (.one 10 true .nil)))))))))))), (19, (.one 0 true (.one 1 true (.one 2 true (.one 3 true (.one 4 true (.one 5 true (.one 6 true (.one 7 true (.one 8 true (.one 9 false (.one 10 true .nil)))))))))))), (21, (.one 0 true (.one 1 true (.one 2 true (.one 3 true (.one 5 true (.one 4 false (.one 6 true (.one 7 false (.one 8 true .nil))))))))))]
noncomputable def K_q170_0 : Code := (cB (cB (bodyC Try.f34)))
def E_q170_1 (v0 v4 v5 v6 : Value) (d : Nat → Value) : List Value := [v0, d 1, d 2, d 3, v4, v5, v6, d 7, d 8, d 9, d 10, d 11, d 12, d 13, d 14, d 15, d 16, d 17, d 18, d 19, d 20, d 21, d 22, d 23, d 24, d 25, d 26, d 27, d 28, d 29, d 30, d 31, d 32, d 33, d 34, d 35, d 36, d 37, d 38, d 39, d 40, d 41, d 42, d 43, d 44, d 45, d 46, d 47, d 48, d 49, d 50, d 51, d 52, d 53, d 54, d 55, d 56, d 57, d 58, d 59, d 60, d 61, d 62, d 63, d 64, d 65, d 66, d 67, d 68, d 69, d 70, d 71, d 72, d 73, d 74, d 75, d 76, d 77, d 78, d 79, d 80, d 81, d 82, d 83, d 84, d 85, d 86, d 87, d 88, d 89, d 90, d 91, d 92, d 93, d 94, d 95, d 96, d 97, d 98, d 99, d 100, d 101, d 102, d 103, d 104, d 105, d 106, d 107, d 108, d 109, d 110, d 111, d 112, d 113, d 114, d 115, d 116, d 117, d 118, d 119, d 120, d 121, d 122, d 123, d 124, d 125, d 126, d 127, d 128, d 129, d 130, d 131, d 132, d 133, d 134, d 135, d 136, d 137, d 138, d 139, d 140, d 141, d 142, d 143, d 144, d 145, d 146, d 147, d 148, d 149, d 150, d 151, d 152, d 153, d 154, d 155, d 156, d 157, d 158, d 159, d 160, d 161, d 162, d 163, d 164, d 165, d 166, d 167, d 168, d 169, d 170, d 171, d 172, d 173, d 174]
def G_q170_1 (K : Kont) (v0 v4 v5 v6 : Value) (d : Nat → Value) (h : Hp) : Prop := aw Try.prog O_q170 K_q170_0 (qTop Try.prog Try.f34 K) (E_q170_1 v0 v4 v5 v6 d) h
noncomputable def K_q170_1 : Code := (cB (cB (cB (bodyC Try.f34))))
def G_q170 (a0 a1 a2 : Value) (h : Hp) (K : Kont) : Prop :=
  oBox a1 h fun t4 h1 =>
  oBox a2 h1 fun t5 h2 =>
  oAlloc #[.int .i64 0, .int .i64 0, .int .i64 0, .int .u64 0, .int .i64 0, .int .i64 0, .slice none 0 0, .slice none 0 0, .slice none 0 0] h2 fun t6 h3 =>
  oFieldAddr 1 t5 h3 fun t30 h4 =>
  oLd1 t30 h4 fun t31 h5 =>
  oIf t31
  (oFieldAddr 3 t4 h5 fun t32 h6 =>
  oLd1 t32 h6 fun t33 h7 =>
  oFieldAddr 2 t5 h7 fun t34 h8 =>
  oSt 1 t34 t33 h8 fun _ h9 =>
  G_q170_1 K a0 t4 t5 t6 (ud [(1, a1), (2, a2), (7, (Value.bool false)), (30, t30), (31, t31), (32, t32), (33, t33), (34, t34)] dz) h9)
  (G_q170_1 K a0 t4 t5 t6 (ud [(1, a1), (2, a2), (7, (Value.bool false)), (30, t30), (31, t31)] dz) h5)
def E0_q170 (a0 a1 a2 : Value) : List Value := [a0, a1, a2, undef, undef, undef, undef, undef, undef, undef, undef, undef, undef, undef, undef, undef, undef, undef, undef, undef, undef, undef, undef, undef, undef, undef, undef, undef, undef, undef, undef, undef, undef, undef, undef, undef, undef, undef, undef, undef, undef, undef, undef, undef, undef, undef, undef, undef, undef, undef, undef, undef, undef, undef, undef, undef, undef, undef, undef, undef, undef, undef, undef, undef, undef, undef, undef, undef, undef, undef, undef, undef, undef, undef, undef, undef, undef, undef, undef, undef, undef, undef, undef, undef, undef, undef, undef, undef, undef, undef, undef, undef, undef, undef, undef, undef, undef, undef, undef, undef, undef, undef, undef, undef, undef, undef, undef, undef, undef, undef, undef, undef, undef, undef, undef, undef, undef, undef, undef, undef, undef, undef, undef, undef, undef, undef, undef, undef, undef, undef, undef, undef, undef, undef, undef, undef, undef, undef, undef, undef, undef, undef, undef, undef, undef, undef, undef, undef, undef, undef, undef, undef, undef, undef, undef, undef, undef, undef, undef, undef, undef, undef, undef, undef, undef, undef, undef, undef, undef, undef, undef, undef, undef, undef, undef]
def X_q170 (Qv : Post) (a0 a1 a2 : Value) (h : Hp) : Prop :=
  oBox a1 h fun t4 h1 =>
  oBox a2 h1 fun t5 h2 =>
  oAlloc #[.int .i64 0, .int .i64 0, .int .i64 0, .int .u64 0, .int .i64 0, .int .i64 0, .slice none 0 0, .slice none 0 0, .slice none 0 0] h2 fun t6 h3 =>
  oFieldAddr 1 t5 h3 fun t30 h4 =>
  oLd1 t30 h4 fun t31 h5 =>
  oIf t31
  (oFieldAddr 3 t4 h5 fun t32 h6 =>
  oLd1 t32 h6 fun t33 h7 =>
  oFieldAddr 2 t5 h7 fun t34 h8 =>
  oSt 1 t34 t33 h8 fun _ h9 =>
  (qSeq (aw Try.prog O_q170 K_q170_0 Qv) Qv) .normal (ul (E0_q170 a0 a1 a2) [(4, t4), (5, t5), (6, t6), (7, (Value.bool false)), (30, t30), (31, t31), (32, t32), (33, t33), (34, t34)]) h9)
  ((qSeq (aw Try.prog O_q170 K_q170_0 Qv) Qv) .normal (ul (E0_q170 a0 a1 a2) [(4, t4), (5, t5), (6, t6), (7, (Value.bool false)), (30, t30), (31, t31)]) h5)
theorem ga_q170 (Qv : Post) (a0 a1 a2 : Value) (h : Hp) : aw Try.prog O_q170 (bodyC Try.f34) Qv (E0_q170 a0 a1 a2) h = X_q170 Qv a0 a1 a2 h := by kernel_rfl
theorem gb_q170 (a0 a1 a2 : Value) (h : Hp) (K : Kont) : X_q170 (qTop Try.prog Try.f34 K) a0 a1 a2 h = G_q170 a0 a1 a2 h K := by kernel_rfl
theorem gc_q170 (a0 a1 a2 : Value) (h : Hp) (K : Kont) : abody Try.prog O_q170 Try.f34 (bodyC Try.f34) [a0, a1, a2] h K = aw Try.prog O_q170 (bodyC Try.f34) (qTop Try.prog Try.f34 K) (E0_q170 a0 a1 a2) h := by kernel_rfl
theorem eq_q170 (a0 a1 a2 : Value) (h : Hp) (K : Kont) : abody Try.prog O_q170 Try.f34 (bodyC Try.f34) [a0, a1, a2] h K = G_q170 a0 a1 a2 h K := (gc_q170 a0 a1 a2 h K).trans ((ga_q170 _ a0 a1 a2 h).trans (gb_q170 a0 a1 a2 h K))
theorem ok_q170 {a0 a1 a2 : Value} {h : Hp} {K : Kont} (hk : G_q170 a0 a1 a2 h K) : C_q170 [a0, a1, a2] h K := ac_of_body prog_mixed (fn := Try.f34) Try.func34 (c := bodyC Try.f34) (by kernel_rfl) ((eq_q170 a0 a1 a2 h K).mpr hk)
def R_q170_1 (K : Kont) (v0 v4 v5 v6 : Value) (d : Nat → Value) (h : Hp) : Prop :=
  oFieldAddr 0 v5 h fun t35 h1 =>
  oLd1 t35 h1 fun t36 h2 =>
  oBin .eql t36 (Value.int .i64 0) h2 fun t38 h3 =>
  oIf t38
  (oLdN 9 v4 h3 fun t40 h4 =>
  oFieldAddr 2 v5 h4 fun t41 h5 =>
  oLd1 t41 h5 fun t42 h6 =>
  oFieldAddr 3 v5 h6 fun t43 h7 =>
  oLd1 t43 h7 fun t44 h8 =>
  C_q168 [t40, t42, t44] h8 fun t45 h9 =>
  oExtract t45 0 h9 fun t46 h10 =>
  oExtract t45 1 h10 fun t47 h11 =>
  oExtract t45 2 h11 fun t48 h12 =>
  oAlloc #[.int .i64 0, .int .i64 0, .int .i64 0, .int .u64 0, .int .i64 0, .int .i64 0, .slice none 0 0, .slice none 0 0, .slice none 0 0] h12 fun t8 h13 =>
  oSt 9 t8 t46 h13 fun _ h14 =>
  oFieldAddr 2 v5 h14 fun t51 h15 =>
  oLd1 t51 h15 fun t52 h16 =>
  oFieldAddr 3 v5 h16 fun t53 h17 =>
  oLd1 t53 h17 fun t54 h18 =>
  C_q82 [v0, t52, t54] h18 fun t55 h19 =>
  oExtract t55 0 h19 fun t56 h20 =>
  oExtract t55 1 h20 fun t57 h21 =>
  oLdN 9 t8 h21 fun t58 h22 =>
  oBin .eql t56 t47 h22 fun t61 h23 =>
  oGuard t61 true (fun K => K t57 h23) h23 fun t63 h24 =>
  oGuard t61 true (fun K => K t48 h24) h24 fun t64 h25 =>
  oGuard t61 true (fun K => oBin .eql t63 t64 h25 K) h25 fun t65 h26 =>
  oPick t61 t65 (Value.bool false) h26 fun t66 h27 =>
  oSt 9 v6 t58 h27 fun _ h28 =>
  oLdN 9 v6 h28 fun r1 _ =>
  K (.tuple #[r1, t66]) h28)
  (oBin .eql t36 (Value.int .i64 1) h3 fun t68 h29 =>
  oIf t68
  (oLdN 9 v4 h29 fun t70 h30 =>
  oFieldAddr 2 v5 h30 fun t71 h31 =>
  oLd1 t71 h31 fun t72 h32 =>
  oFieldAddr 4 v5 h32 fun t73 h33 =>
  oLd1 t73 h33 fun t74 h34 =>
  oFieldAddr 5 v5 h34 fun t75 h35 =>
  oLd1 t75 h35 fun t76 h36 =>
  C_q144 [t70, t72, t74, t76] h36 fun t77 h37 =>
  oExtract t77 0 h37 fun t78 h38 =>
  oExtract t77 1 h38 fun t79 h39 =>
  oExtract t77 2 h39 fun t80 h40 =>
  oAlloc #[.int .i64 0, .int .i64 0, .int .i64 0, .int .u64 0, .int .i64 0, .int .i64 0, .slice none 0 0, .slice none 0 0, .slice none 0 0] h40 fun t13 h41 =>
  oSt 9 t13 t78 h41 fun _ h42 =>
  oFieldAddr 2 v5 h42 fun t83 h43 =>
  oLd1 t83 h43 fun t84 h44 =>
  oFieldAddr 4 v5 h44 fun t85 h45 =>
  oLd1 t85 h45 fun t86 h46 =>
  oFieldAddr 5 v5 h46 fun t87 h47 =>
  oLd1 t87 h47 fun t88 h48 =>
  C_q57 [v0, t84, t86, t88] h48 fun t89 h49 =>
  oExtract t89 0 h49 fun t90 h50 =>
  oExtract t89 1 h50 fun t91 h51 =>
  oLdN 9 t13 h51 fun t92 h52 =>
  C_q115 [t90, t79] h52 fun t95 h53 =>
  ((oLdN 9 t13 h52 (fun v' _ => v' = t92) → oLdN 9 t13 h53 (fun v' _ => v' = t92)) ∧ True) ∧
  oGuard t95 true (fun K => K t91 h53) h53 fun t97 h54 =>
  oGuard t95 true (fun K => K t80 h54) h54 fun t98 h55 =>
  oGuard t95 true (fun K => oEq 0 false none t97 t98 h55 K) h55 fun t99 h56 =>
  oPick t95 t99 (Value.bool false) h56 fun t100 h57 =>
  oSt 9 v6 t92 h57 fun _ h58 =>
  (True) ∧
  oLdN 9 v6 h58 fun r2 _ =>
  K (.tuple #[r2, t100]) h58)
  (oBin .eql t36 (Value.int .i64 2) h29 fun t102 h59 =>
  oIf t102
  (oLdN 9 v4 h59 fun t104 h60 =>
  oFieldAddr 6 v5 h60 fun t105 h61 =>
  oLdN 4 t105 h61 fun t106 h62 =>
  C_q145 [t104, t106] h62 fun t107 h63 =>
  oExtract t107 0 h63 fun t108 h64 =>
  oExtract t107 1 h64 fun t109 h65 =>
  oExtract t107 2 h65 fun t110 h66 =>
  oAlloc #[.int .i64 0, .int .i64 0, .int .i64 0, .int .u64 0, .int .i64 0, .int .i64 0, .slice none 0 0, .slice none 0 0, .slice none 0 0] h66 fun t18 h67 =>
  oAlloc #[.int .i64 0, .int .u64 0, .int .i64 0, .int .i64 0, .int .u64 0, .int .i64 0] h67 fun t19 h68 =>
  oSt 9 t18 t108 h68 fun _ h69 =>
  oSt 6 t19 t109 h69 fun _ h70 =>
  oFieldAddr 6 v5 h70 fun t113 h71 =>
  oLdN 4 t113 h71 fun t114 h72 =>
  C_q58 [v0, t114] h72 fun t115 h73 =>
  oExtract t115 0 h73 fun t116 h74 =>
  oExtract t115 1 h74 fun t117 h75 =>
  oAlloc #[.int .i64 0, .int .u64 0, .int .i64 0, .int .i64 0, .int .u64 0, .int .i64 0] h75 fun t21 h76 =>
  oSt 6 t21 t116 h76 fun _ h77 =>
  oLdN 9 t18 h77 fun t118 h78 =>
  oLdN 6 t21 h78 fun t119 h79 =>
  oLdN 6 t19 h79 fun t120 h80 =>
  oEq 4 false (some [(0, (.int .i64)), (1, (.int .u64)), (2, (.int .i64)), (3, (.int .i64)), (4, (.int .u64)), (5, (.int .i64))]) t119 t120 h80 fun t121 h81 =>
  oGuard t121 true (fun K => K t117 h81) h81 fun t123 h82 =>
  oGuard t121 true (fun K => K t110 h82) h82 fun t124 h83 =>
  oGuard t121 true (fun K => oBin .eql t123 t124 h83 K) h83 fun t125 h84 =>
  oPick t121 t125 (Value.bool false) h84 fun t126 h85 =>
  oSt 9 v6 t118 h85 fun _ h86 =>
  ((oLdN 6 t19 h85 (fun v' _ => v' = t120) → oLdN 6 t19 h86 (fun v' _ => v' = t120)) ∧ (oLdN 6 t21 h85 (fun v' _ => v' = t119) → oLdN 6 t21 h86 (fun v' _ => v' = t119)) ∧ True) ∧
  oLdN 9 v6 h86 fun r3 _ =>
  K (.tuple #[r3, t126]) h86)
  (oBin .eql t36 (Value.int .i64 3) h59 fun t128 h87 =>
  oIf t128
  (oLdN 9 v4 h87 fun t130 h88 =>
  oFieldAddr 2 v5 h88 fun t131 h89 =>
  oLd1 t131 h89 fun t132 h90 =>
  oFieldAddr 3 v5 h90 fun t133 h91 =>
  oLd1 t133 h91 fun t134 h92 =>
  oFieldAddr 4 v5 h92 fun t135 h93 =>
  oLd1 t135 h93 fun t136 h94 =>
  C_q128 [t130, t132, t134, t136] h94 fun t137 h95 =>
  oExtract t137 0 h95 fun t138 h96 =>
  oExtract t137 1 h96 fun t139 h97 =>
  oExtract t137 2 h97 fun t140 h98 =>
  oAlloc #[.int .i64 0, .int .i64 0, .int .i64 0, .int .u64 0, .int .i64 0, .int .i64 0, .slice none 0 0, .slice none 0 0, .slice none 0 0] h98 fun t23 h99 =>
  oAlloc #[.int .i64 0, .int .u64 0, .int .i64 0, .int .i64 0, .int .u64 0, .int .i64 0] h99 fun t24 h100 =>
  oSt 9 t23 t138 h100 fun _ h101 =>
  oSt 6 t24 t139 h101 fun _ h102 =>
  oFieldAddr 2 v5 h102 fun t143 h103 =>
  oLd1 t143 h103 fun t144 h104 =>
  oFieldAddr 3 v5 h104 fun t145 h105 =>
  oLd1 t145 h105 fun t146 h106 =>
  oFieldAddr 4 v5 h106 fun t147 h107 =>
  oLd1 t147 h107 fun t148 h108 =>
  C_q47 [v0, t144, t146, t148] h108 fun t149 h109 =>
  oExtract t149 0 h109 fun t150 h110 =>
  oExtract t149 1 h110 fun t151 h111 =>
  oAlloc #[.int .i64 0, .int .u64 0, .int .i64 0, .int .i64 0, .int .u64 0, .int .i64 0] h111 fun t26 h112 =>
  oSt 6 t26 t150 h112 fun _ h113 =>
  oLdN 9 t23 h113 fun t152 h114 =>
  oLdN 6 t26 h114 fun t153 h115 =>
  oLdN 6 t24 h115 fun t154 h116 =>
  oEq 4 false (some [(0, (.int .i64)), (1, (.int .u64)), (2, (.int .i64)), (3, (.int .i64)), (4, (.int .u64)), (5, (.int .i64))]) t153 t154 h116 fun t155 h117 =>
  oGuard t155 true (fun K => K t151 h117) h117 fun t157 h118 =>
  oGuard t155 true (fun K => K t140 h118) h118 fun t158 h119 =>
  oGuard t155 true (fun K => oEq 0 false none t157 t158 h119 K) h119 fun t159 h120 =>
  oPick t155 t159 (Value.bool false) h120 fun t160 h121 =>
  oSt 9 v6 t152 h121 fun _ h122 =>
  ((oLdN 6 t24 h121 (fun v' _ => v' = t154) → oLdN 6 t24 h122 (fun v' _ => v' = t154)) ∧ (oLdN 6 t26 h121 (fun v' _ => v' = t153) → oLdN 6 t26 h122 (fun v' _ => v' = t153)) ∧ True) ∧
  oLdN 9 v6 h122 fun r4 _ =>
  K (.tuple #[r4, t160]) h122)
  (oLdN 9 v4 h87 fun t162 h123 =>
  oFieldAddr 2 v5 h123 fun t163 h124 =>
  oLd1 t163 h124 fun t164 h125 =>
  C_q156 [t162, t164] h125 fun t165 h126 =>
  oExtract t165 0 h126 fun t166 h127 =>
  oExtract t165 1 h127 fun t167 h128 =>
  oAlloc #[.int .i64 0, .int .i64 0, .int .i64 0, .int .u64 0, .int .i64 0, .int .i64 0, .slice none 0 0, .slice none 0 0, .slice none 0 0] h128 fun t28 h129 =>
  oSt 9 t28 t166 h129 fun _ h130 =>
  oLdN 9 t28 h130 fun t168 h131 =>
  oFieldAddr 2 v5 h131 fun t170 h132 =>
  oLd1 t170 h132 fun t171 h133 =>
  C_q71 [v0, t171] h133 fun t172 h134 =>
  ((oLdN 9 t28 h133 (fun v' _ => v' = t168) → oLdN 9 t28 h134 (fun v' _ => v' = t168)) ∧ True) ∧
  oEq 0 false none t172 t167 h134 fun t174 h135 =>
  oSt 9 v6 t168 h135 fun _ h136 =>
  ((oLd1 t170 h135 (fun v' _ => v' = t171) → oLd1 t170 h136 (fun v' _ => v' = t171)) ∧ True) ∧
  oLdN 9 v6 h136 fun r5 _ =>
  K (.tuple #[r5, t174]) h136))))
def X_q170_1 (Qv : Post) (v0 v4 v5 v6 : Value) (d : Nat → Value) (h : Hp) : Prop :=
  oFieldAddr 0 v5 h fun t35 h1 =>
  oLd1 t35 h1 fun t36 h2 =>
  oBin .eql t36 (Value.int .i64 0) h2 fun t38 h3 =>
  oIf t38
  (oLdN 9 v4 h3 fun t40 h4 =>
  oFieldAddr 2 v5 h4 fun t41 h5 =>
  oLd1 t41 h5 fun t42 h6 =>
  oFieldAddr 3 v5 h6 fun t43 h7 =>
  oLd1 t43 h7 fun t44 h8 =>
  C_q168 [t40, t42, t44] h8 fun t45 h9 =>
  oExtract t45 0 h9 fun t46 h10 =>
  oExtract t45 1 h10 fun t47 h11 =>
  oExtract t45 2 h11 fun t48 h12 =>
  oAlloc #[.int .i64 0, .int .i64 0, .int .i64 0, .int .u64 0, .int .i64 0, .int .i64 0, .slice none 0 0, .slice none 0 0, .slice none 0 0] h12 fun t8 h13 =>
  oSt 9 t8 t46 h13 fun _ h14 =>
  oFieldAddr 2 v5 h14 fun t51 h15 =>
  oLd1 t51 h15 fun t52 h16 =>
  oFieldAddr 3 v5 h16 fun t53 h17 =>
  oLd1 t53 h17 fun t54 h18 =>
  C_q82 [v0, t52, t54] h18 fun t55 h19 =>
  oExtract t55 0 h19 fun t56 h20 =>
  oExtract t55 1 h20 fun t57 h21 =>
  oLdN 9 t8 h21 fun t58 h22 =>
  oBin .eql t56 t47 h22 fun t61 h23 =>
  oGuard t61 true (fun K => K t57 h23) h23 fun t63 h24 =>
  oGuard t61 true (fun K => K t48 h24) h24 fun t64 h25 =>
  oGuard t61 true (fun K => oBin .eql t63 t64 h25 K) h25 fun t65 h26 =>
  oPick t61 t65 (Value.bool false) h26 fun t66 h27 =>
  oSt 9 v6 t58 h27 fun _ h28 =>
  (qBlk 0 (qSeq (aw Try.prog O_q170 K_q170_1 Qv) Qv)) .ret (ul (E_q170_1 v0 v4 v5 v6 d) [(7, t66), (8, t8), (9, t47), (10, t48), (11, t56), (12, t57), (35, t35), (36, t36), (37, t38), (38, t38), (39, t45), (40, t40), (41, t41), (42, t42), (43, t43), (44, t44), (45, t45), (46, t46), (47, t47), (48, t48), (49, t55), (50, v0), (51, t51), (52, t52), (53, t53), (54, t54), (55, t55), (56, t56), (57, t57), (58, t58), (59, t56), (60, t47), (61, t61), (62, t61), (63, t63), (64, t64), (65, t65), (66, t66)]) h28)
  (oBin .eql t36 (Value.int .i64 1) h3 fun t68 h29 =>
  oIf t68
  (oLdN 9 v4 h29 fun t70 h30 =>
  oFieldAddr 2 v5 h30 fun t71 h31 =>
  oLd1 t71 h31 fun t72 h32 =>
  oFieldAddr 4 v5 h32 fun t73 h33 =>
  oLd1 t73 h33 fun t74 h34 =>
  oFieldAddr 5 v5 h34 fun t75 h35 =>
  oLd1 t75 h35 fun t76 h36 =>
  C_q144 [t70, t72, t74, t76] h36 fun t77 h37 =>
  oExtract t77 0 h37 fun t78 h38 =>
  oExtract t77 1 h38 fun t79 h39 =>
  oExtract t77 2 h39 fun t80 h40 =>
  oAlloc #[.int .i64 0, .int .i64 0, .int .i64 0, .int .u64 0, .int .i64 0, .int .i64 0, .slice none 0 0, .slice none 0 0, .slice none 0 0] h40 fun t13 h41 =>
  oSt 9 t13 t78 h41 fun _ h42 =>
  oFieldAddr 2 v5 h42 fun t83 h43 =>
  oLd1 t83 h43 fun t84 h44 =>
  oFieldAddr 4 v5 h44 fun t85 h45 =>
  oLd1 t85 h45 fun t86 h46 =>
  oFieldAddr 5 v5 h46 fun t87 h47 =>
  oLd1 t87 h47 fun t88 h48 =>
  C_q57 [v0, t84, t86, t88] h48 fun t89 h49 =>
  oExtract t89 0 h49 fun t90 h50 =>
  oExtract t89 1 h50 fun t91 h51 =>
  oLdN 9 t13 h51 fun t92 h52 =>
  C_q115 [t90, t79] h52 fun t95 h53 =>
  ((oLdN 9 t13 h52 (fun v' _ => v' = t92) → oLdN 9 t13 h53 (fun v' _ => v' = t92)) ∧ True) ∧
  oGuard t95 true (fun K => K t91 h53) h53 fun t97 h54 =>
  oGuard t95 true (fun K => K t80 h54) h54 fun t98 h55 =>
  oGuard t95 true (fun K => oEq 0 false none t97 t98 h55 K) h55 fun t99 h56 =>
  oPick t95 t99 (Value.bool false) h56 fun t100 h57 =>
  oSt 9 v6 t92 h57 fun _ h58 =>
  (True) ∧
  (qBlk 0 (qSeq (aw Try.prog O_q170 K_q170_1 Qv) Qv)) .ret (ul (E_q170_1 v0 v4 v5 v6 d) [(7, t100), (13, t13), (14, t79), (15, t80), (16, t90), (17, t91), (35, t35), (36, t36), (37, t38), (38, t38), (67, t68), (68, t68), (69, t77), (70, t70), (71, t71), (72, t72), (73, t73), (74, t74), (75, t75), (76, t76), (77, t77), (78, t78), (79, t79), (80, t80), (81, t89), (82, v0), (83, t83), (84, t84), (85, t85), (86, t86), (87, t87), (88, t88), (89, t89), (90, t90), (91, t91), (92, t92), (93, t90), (94, t79), (95, t95), (96, t95), (97, t97), (98, t98), (99, t99), (100, t100)]) h58)
  (oBin .eql t36 (Value.int .i64 2) h29 fun t102 h59 =>
  oIf t102
  (oLdN 9 v4 h59 fun t104 h60 =>
  oFieldAddr 6 v5 h60 fun t105 h61 =>
  oLdN 4 t105 h61 fun t106 h62 =>
  C_q145 [t104, t106] h62 fun t107 h63 =>
  oExtract t107 0 h63 fun t108 h64 =>
  oExtract t107 1 h64 fun t109 h65 =>
  oExtract t107 2 h65 fun t110 h66 =>
  oAlloc #[.int .i64 0, .int .i64 0, .int .i64 0, .int .u64 0, .int .i64 0, .int .i64 0, .slice none 0 0, .slice none 0 0, .slice none 0 0] h66 fun t18 h67 =>
  oAlloc #[.int .i64 0, .int .u64 0, .int .i64 0, .int .i64 0, .int .u64 0, .int .i64 0] h67 fun t19 h68 =>
  oSt 9 t18 t108 h68 fun _ h69 =>
  oSt 6 t19 t109 h69 fun _ h70 =>
  oFieldAddr 6 v5 h70 fun t113 h71 =>
  oLdN 4 t113 h71 fun t114 h72 =>
  C_q58 [v0, t114] h72 fun t115 h73 =>
  oExtract t115 0 h73 fun t116 h74 =>
  oExtract t115 1 h74 fun t117 h75 =>
  oAlloc #[.int .i64 0, .int .u64 0, .int .i64 0, .int .i64 0, .int .u64 0, .int .i64 0] h75 fun t21 h76 =>
  oSt 6 t21 t116 h76 fun _ h77 =>
  oLdN 9 t18 h77 fun t118 h78 =>
  oLdN 6 t21 h78 fun t119 h79 =>
  oLdN 6 t19 h79 fun t120 h80 =>
  oEq 4 false (some [(0, (.int .i64)), (1, (.int .u64)), (2, (.int .i64)), (3, (.int .i64)), (4, (.int .u64)), (5, (.int .i64))]) t119 t120 h80 fun t121 h81 =>
  oGuard t121 true (fun K => K t117 h81) h81 fun t123 h82 =>
  oGuard t121 true (fun K => K t110 h82) h82 fun t124 h83 =>
  oGuard t121 true (fun K => oBin .eql t123 t124 h83 K) h83 fun t125 h84 =>
  oPick t121 t125 (Value.bool false) h84 fun t126 h85 =>
  oSt 9 v6 t118 h85 fun _ h86 =>
  ((oLdN 6 t19 h85 (fun v' _ => v' = t120) → oLdN 6 t19 h86 (fun v' _ => v' = t120)) ∧ (oLdN 6 t21 h85 (fun v' _ => v' = t119) → oLdN 6 t21 h86 (fun v' _ => v' = t119)) ∧ True) ∧
  (qBlk 0 (qSeq (aw Try.prog O_q170 K_q170_1 Qv) Qv)) .ret (ul (E_q170_1 v0 v4 v5 v6 d) [(7, t126), (18, t18), (19, t19), (20, t110), (21, t21), (22, t117), (35, t35), (36, t36), (37, t38), (38, t38), (67, t68), (68, t68), (101, t102), (102, t102), (103, t107), (104, t104), (105, t105), (106, t106), (107, t107), (108, t108), (109, t109), (110, t110), (111, t115), (112, v0), (113, t113), (114, t114), (115, t115), (116, t116), (117, t117), (118, t118), (119, t119), (120, t120), (121, t121), (122, t121), (123, t123), (124, t124), (125, t125), (126, t126)]) h86)
  (oBin .eql t36 (Value.int .i64 3) h59 fun t128 h87 =>
  oIf t128
  (oLdN 9 v4 h87 fun t130 h88 =>
  oFieldAddr 2 v5 h88 fun t131 h89 =>
  oLd1 t131 h89 fun t132 h90 =>
  oFieldAddr 3 v5 h90 fun t133 h91 =>
  oLd1 t133 h91 fun t134 h92 =>
  oFieldAddr 4 v5 h92 fun t135 h93 =>
  oLd1 t135 h93 fun t136 h94 =>
  C_q128 [t130, t132, t134, t136] h94 fun t137 h95 =>
  oExtract t137 0 h95 fun t138 h96 =>
  oExtract t137 1 h96 fun t139 h97 =>
  oExtract t137 2 h97 fun t140 h98 =>
  oAlloc #[.int .i64 0, .int .i64 0, .int .i64 0, .int .u64 0, .int .i64 0, .int .i64 0, .slice none 0 0, .slice none 0 0, .slice none 0 0] h98 fun t23 h99 =>
  oAlloc #[.int .i64 0, .int .u64 0, .int .i64 0, .int .i64 0, .int .u64 0, .int .i64 0] h99 fun t24 h100 =>
  oSt 9 t23 t138 h100 fun _ h101 =>
  oSt 6 t24 t139 h101 fun _ h102 =>
  oFieldAddr 2 v5 h102 fun t143 h103 =>
  oLd1 t143 h103 fun t144 h104 =>
  oFieldAddr 3 v5 h104 fun t145 h105 =>
  oLd1 t145 h105 fun t146 h106 =>
  oFieldAddr 4 v5 h106 fun t147 h107 =>
  oLd1 t147 h107 fun t148 h108 =>
  C_q47 [v0, t144, t146, t148] h108 fun t149 h109 =>
  oExtract t149 0 h109 fun t150 h110 =>
  oExtract t149 1 h110 fun t151 h111 =>
  oAlloc #[.int .i64 0, .int .u64 0, .int .i64 0, .int .i64 0, .int .u64 0, .int .i64 0] h111 fun t26 h112 =>
  oSt 6 t26 t150 h112 fun _ h113 =>
  oLdN 9 t23 h113 fun t152 h114 =>
  oLdN 6 t26 h114 fun t153 h115 =>
  oLdN 6 t24 h115 fun t154 h116 =>
  oEq 4 false (some [(0, (.int .i64)), (1, (.int .u64)), (2, (.int .i64)), (3, (.int .i64)), (4, (.int .u64)), (5, (.int .i64))]) t153 t154 h116 fun t155 h117 =>
  oGuard t155 true (fun K => K t151 h117) h117 fun t157 h118 =>
  oGuard t155 true (fun K => K t140 h118) h118 fun t158 h119 =>
  oGuard t155 true (fun K => oEq 0 false none t157 t158 h119 K) h119 fun t159 h120 =>
  oPick t155 t159 (Value.bool false) h120 fun t160 h121 =>
  oSt 9 v6 t152 h121 fun _ h122 =>
  ((oLdN 6 t24 h121 (fun v' _ => v' = t154) → oLdN 6 t24 h122 (fun v' _ => v' = t154)) ∧ (oLdN 6 t26 h121 (fun v' _ => v' = t153) → oLdN 6 t26 h122 (fun v' _ => v' = t153)) ∧ True) ∧
  (qBlk 0 (qSeq (aw Try.prog O_q170 K_q170_1 Qv) Qv)) .ret (ul (E_q170_1 v0 v4 v5 v6 d) [(7, t160), (23, t23), (24, t24), (25, t140), (26, t26), (27, t151), (35, t35), (36, t36), (37, t38), (38, t38), (67, t68), (68, t68), (101, t102), (102, t102), (127, t128), (128, t128), (129, t137), (130, t130), (131, t131), (132, t132), (133, t133), (134, t134), (135, t135), (136, t136), (137, t137), (138, t138), (139, t139), (140, t140), (141, t149), (142, v0), (143, t143), (144, t144), (145, t145), (146, t146), (147, t147), (148, t148), (149, t149), (150, t150), (151, t151), (152, t152), (153, t153), (154, t154), (155, t155), (156, t155), (157, t157), (158, t158), (159, t159), (160, t160)]) h122)
  (oLdN 9 v4 h87 fun t162 h123 =>
  oFieldAddr 2 v5 h123 fun t163 h124 =>
  oLd1 t163 h124 fun t164 h125 =>
  C_q156 [t162, t164] h125 fun t165 h126 =>
  oExtract t165 0 h126 fun t166 h127 =>
  oExtract t165 1 h127 fun t167 h128 =>
  oAlloc #[.int .i64 0, .int .i64 0, .int .i64 0, .int .u64 0, .int .i64 0, .int .i64 0, .slice none 0 0, .slice none 0 0, .slice none 0 0] h128 fun t28 h129 =>
  oSt 9 t28 t166 h129 fun _ h130 =>
  oLdN 9 t28 h130 fun t168 h131 =>
  oFieldAddr 2 v5 h131 fun t170 h132 =>
  oLd1 t170 h132 fun t171 h133 =>
  C_q71 [v0, t171] h133 fun t172 h134 =>
  ((oLdN 9 t28 h133 (fun v' _ => v' = t168) → oLdN 9 t28 h134 (fun v' _ => v' = t168)) ∧ True) ∧
  oEq 0 false none t172 t167 h134 fun t174 h135 =>
  oSt 9 v6 t168 h135 fun _ h136 =>
  ((oLd1 t170 h135 (fun v' _ => v' = t171) → oLd1 t170 h136 (fun v' _ => v' = t171)) ∧ True) ∧
  Qv .ret (ul (E_q170_1 v0 v4 v5 v6 d) [(7, t174), (28, t28), (29, t167), (35, t35), (36, t36), (37, t38), (38, t38), (67, t68), (68, t68), (101, t102), (102, t102), (127, t128), (128, t128), (161, t165), (162, t162), (163, t163), (164, t164), (165, t165), (166, t166), (167, t167), (168, t168), (169, v0), (170, t170), (171, t171), (172, t172), (173, t167), (174, t174)]) h136))))
theorem ga_q170_1 (Qv : Post) (v0 v4 v5 v6 : Value) (d : Nat → Value) (h : Hp) : aw Try.prog O_q170 K_q170_0 Qv (E_q170_1 v0 v4 v5 v6 d) h = X_q170_1 Qv v0 v4 v5 v6 d h := by kernel_rfl
theorem gb_q170_1 (K : Kont) (v0 v4 v5 v6 : Value) (d : Nat → Value) (h : Hp) : X_q170_1 (qTop Try.prog Try.f34 K) v0 v4 v5 v6 d h = R_q170_1 K v0 v4 v5 v6 d h := by kernel_rfl
theorem req_q170_1 (K : Kont) (v0 v4 v5 v6 : Value) (d : Nat → Value) (h : Hp) : G_q170_1 K v0 v4 v5 v6 d h = R_q170_1 K v0 v4 v5 v6 d h := (ga_q170_1 _ v0 v4 v5 v6 d h).trans (gb_q170_1 K v0 v4 v5 v6 d h)
def O_q83 : Od := []
noncomputable def K_q83_0 : Code := (cB (cB (bodyC Try.f35)))
def G_q83 (a0 : Value) (h : Hp) (K : Kont) : Prop :=
  oEq 1 false none a0 (Value.pointer none) h fun t4 h1 =>
  oIf t4
  (K (Value.int .i64 0) h1)
  (oNilCheck a0 h1 fun t6 h2 =>
  oFieldAddr 2 t6 h2 fun t7 h3 =>
  oLd1 t7 h3 fun t8 h4 =>
  K t8 h4)
def E0_q83 (a0 : Value) : List Value := [a0, undef, undef, undef, undef, undef, undef, undef, undef]
def X_q83 (Qv : Post) (a0 : Value) (h : Hp) : Prop :=
  oEq 1 false none a0 (Value.pointer none) h fun t4 h1 =>
  oIf t4
  ((qSeq (aw Try.prog O_q83 K_q83_0 Qv) Qv) .ret (ul (E0_q83 a0) [(2, (Value.int .i64 0)), (3, a0), (4, t4)]) h1)
  (oNilCheck a0 h1 fun t6 h2 =>
  oFieldAddr 2 t6 h2 fun t7 h3 =>
  oLd1 t7 h3 fun t8 h4 =>
  Qv .ret (ul (E0_q83 a0) [(2, t8), (3, a0), (4, t4), (5, a0), (6, t6), (7, t7), (8, t8)]) h4)
theorem ga_q83 (Qv : Post) (a0 : Value) (h : Hp) : aw Try.prog O_q83 (bodyC Try.f35) Qv (E0_q83 a0) h = X_q83 Qv a0 h := by kernel_rfl
theorem gb_q83 (a0 : Value) (h : Hp) (K : Kont) : X_q83 (qTop Try.prog Try.f35 K) a0 h = G_q83 a0 h K := by kernel_rfl
theorem gc_q83 (a0 : Value) (h : Hp) (K : Kont) : abody Try.prog O_q83 Try.f35 (bodyC Try.f35) [a0] h K = aw Try.prog O_q83 (bodyC Try.f35) (qTop Try.prog Try.f35 K) (E0_q83 a0) h := by kernel_rfl
theorem eq_q83 (a0 : Value) (h : Hp) (K : Kont) : abody Try.prog O_q83 Try.f35 (bodyC Try.f35) [a0] h K = G_q83 a0 h K := (gc_q83 a0 h K).trans ((ga_q83 _ a0 h).trans (gb_q83 a0 h K))
theorem ok_q83 {a0 : Value} {h : Hp} {K : Kont} (hk : G_q83 a0 h K) : C_q83 [a0] h K := ac_of_body prog_mixed (fn := Try.f35) Try.func35 (c := bodyC Try.f35) (by kernel_rfl) ((eq_q83 a0 h K).mpr hk)
def O_q70 : Od := []
noncomputable def K_q70_0 : Code := (cB (cB (bodyC Try.f36)))
def G_q70 (a0 : Value) (h : Hp) (K : Kont) : Prop :=
  oEq 1 false none a0 (Value.pointer none) h fun t4 h1 =>
  oIf t4
  (K (Value.int .u64 0) h1)
  (oNilCheck a0 h1 fun t6 h2 =>
  oFieldAddr 3 t6 h2 fun t7 h3 =>
  oLd1 t7 h3 fun t8 h4 =>
  K t8 h4)
def E0_q70 (a0 : Value) : List Value := [a0, undef, undef, undef, undef, undef, undef, undef, undef]
def X_q70 (Qv : Post) (a0 : Value) (h : Hp) : Prop :=
  oEq 1 false none a0 (Value.pointer none) h fun t4 h1 =>
  oIf t4
  ((qSeq (aw Try.prog O_q70 K_q70_0 Qv) Qv) .ret (ul (E0_q70 a0) [(2, (Value.int .u64 0)), (3, a0), (4, t4)]) h1)
  (oNilCheck a0 h1 fun t6 h2 =>
  oFieldAddr 3 t6 h2 fun t7 h3 =>
  oLd1 t7 h3 fun t8 h4 =>
  Qv .ret (ul (E0_q70 a0) [(2, t8), (3, a0), (4, t4), (5, a0), (6, t6), (7, t7), (8, t8)]) h4)
theorem ga_q70 (Qv : Post) (a0 : Value) (h : Hp) : aw Try.prog O_q70 (bodyC Try.f36) Qv (E0_q70 a0) h = X_q70 Qv a0 h := by kernel_rfl
theorem gb_q70 (a0 : Value) (h : Hp) (K : Kont) : X_q70 (qTop Try.prog Try.f36 K) a0 h = G_q70 a0 h K := by kernel_rfl
theorem gc_q70 (a0 : Value) (h : Hp) (K : Kont) : abody Try.prog O_q70 Try.f36 (bodyC Try.f36) [a0] h K = aw Try.prog O_q70 (bodyC Try.f36) (qTop Try.prog Try.f36 K) (E0_q70 a0) h := by kernel_rfl
theorem eq_q70 (a0 : Value) (h : Hp) (K : Kont) : abody Try.prog O_q70 Try.f36 (bodyC Try.f36) [a0] h K = G_q70 a0 h K := (gc_q70 a0 h K).trans ((ga_q70 _ a0 h).trans (gb_q70 a0 h K))
theorem ok_q70 {a0 : Value} {h : Hp} {K : Kont} (hk : G_q70 a0 h K) : C_q70 [a0] h K := ac_of_body prog_mixed (fn := Try.f36) Try.func36 (c := bodyC Try.f36) (by kernel_rfl) ((eq_q70 a0 h K).mpr hk)
def O_q92 : Od := []
noncomputable def K_q92_0 : Code := (cB (cB (bodyC Try.f37)))
def G_q92 (a0 : Value) (h : Hp) (K : Kont) : Prop :=
  oEq 1 false none a0 (Value.pointer none) h fun t4 h1 =>
  oIf t4
  (K (Value.int .i64 0) h1)
  (oNilCheck a0 h1 fun t6 h2 =>
  oFieldAddr 4 t6 h2 fun t7 h3 =>
  oLd1 t7 h3 fun t8 h4 =>
  K t8 h4)
def E0_q92 (a0 : Value) : List Value := [a0, undef, undef, undef, undef, undef, undef, undef, undef]
def X_q92 (Qv : Post) (a0 : Value) (h : Hp) : Prop :=
  oEq 1 false none a0 (Value.pointer none) h fun t4 h1 =>
  oIf t4
  ((qSeq (aw Try.prog O_q92 K_q92_0 Qv) Qv) .ret (ul (E0_q92 a0) [(2, (Value.int .i64 0)), (3, a0), (4, t4)]) h1)
  (oNilCheck a0 h1 fun t6 h2 =>
  oFieldAddr 4 t6 h2 fun t7 h3 =>
  oLd1 t7 h3 fun t8 h4 =>
  Qv .ret (ul (E0_q92 a0) [(2, t8), (3, a0), (4, t4), (5, a0), (6, t6), (7, t7), (8, t8)]) h4)
theorem ga_q92 (Qv : Post) (a0 : Value) (h : Hp) : aw Try.prog O_q92 (bodyC Try.f37) Qv (E0_q92 a0) h = X_q92 Qv a0 h := by kernel_rfl
theorem gb_q92 (a0 : Value) (h : Hp) (K : Kont) : X_q92 (qTop Try.prog Try.f37 K) a0 h = G_q92 a0 h K := by kernel_rfl
theorem gc_q92 (a0 : Value) (h : Hp) (K : Kont) : abody Try.prog O_q92 Try.f37 (bodyC Try.f37) [a0] h K = aw Try.prog O_q92 (bodyC Try.f37) (qTop Try.prog Try.f37 K) (E0_q92 a0) h := by kernel_rfl
theorem eq_q92 (a0 : Value) (h : Hp) (K : Kont) : abody Try.prog O_q92 Try.f37 (bodyC Try.f37) [a0] h K = G_q92 a0 h K := (gc_q92 a0 h K).trans ((ga_q92 _ a0 h).trans (gb_q92 a0 h K))
theorem ok_q92 {a0 : Value} {h : Hp} {K : Kont} (hk : G_q92 a0 h K) : C_q92 [a0] h K := ac_of_body prog_mixed (fn := Try.f37) Try.func37 (c := bodyC Try.f37) (by kernel_rfl) ((eq_q92 a0 h K).mpr hk)
def O_q176 : Od := [(5, (.one 0 true (.one 1 true (.one 2 true (.one 3 true (.one 4 true (.one 5 true (.one 6 true (.one 7 true (.one 8 true (.one 9 true (.one 10 true (.one 11 true (.one 12 true (.one 13 true (.one 14 true (.one 15 true (.one 16 false (.one 17 false (.one 18 true .nil))))))))))))))))))))]
noncomputable def K_q176_0 : Code := (cI (cB (cA (cB (cB (bodyC Try.f38))))))
noncomputable def K_q176_1 : Code := (cB (cB (cB (bodyC Try.f38))))
def Q_q176_0 (K : Kont) : Post := qSeq (aw Try.prog O_q176 K_q176_1 (qTop Try.prog Try.f38 K)) (qTop Try.prog Try.f38 K)
def Q_q176_1 (K : Kont) : Post := qBlk 0 (Q_q176_0 K)
def E_q176_1 (v1 v3 v4 : Value) (d : Nat → Value) : List Value := [d 0, v1, d 2, v3, v4, d 5, d 6, d 7, d 8, d 9, d 10, d 11, d 12, d 13, d 14, d 15, d 16, d 17, d 18, d 19, d 20, d 21, d 22, d 23, d 24, d 25, d 26, d 27, d 28, d 29, d 30]
def G_q176_1 (K : Kont) (v1 v3 v4 : Value) (d : Nat → Value) (h : Hp) : Prop := aw Try.prog O_q176 K_q176_0 (Q_q176_1 K) (E_q176_1 v1 v3 v4 d) h
def Q_q176_2 (K : Kont) (s0 : Self) : Post := qSeq s0 (Q_q176_1 K)
noncomputable def K_q176_2 : Code := (cI (cI (cB (cA (cB (cB (bodyC Try.f38)))))))
noncomputable def K_q176_3 : Code := (cB (cI (cI (cB (cA (cB (cB (bodyC Try.f38))))))))
def G_q176 (a0 : Value) (h : Hp) (K : Kont) : Prop :=
  oBox a0 h fun t1 h1 =>
  G_q176_1 K t1 (Value.slice none 0 0) (Value.int .i64 0) (ud [(0, a0), (2, (Value.slice none 0 0))] dz) h1
def E0_q176 (a0 : Value) : List Value := [a0, undef, undef, undef, undef, undef, undef, undef, undef, undef, undef, undef, undef, undef, undef, undef, undef, undef, undef, undef, undef, undef, undef, undef, undef, undef, undef, undef, undef, undef, undef]
def X_q176 (Qv : Post) (a0 : Value) (h : Hp) : Prop :=
  oBox a0 h fun t1 h1 =>
  aw Try.prog O_q176 K_q176_0 (qBlk 0 (qSeq (aw Try.prog O_q176 K_q176_1 Qv) Qv)) (ul (E0_q176 a0) [(1, t1), (2, (Value.slice none 0 0)), (3, (Value.slice none 0 0)), (4, (Value.int .i64 0))]) h1
theorem ga_q176 (Qv : Post) (a0 : Value) (h : Hp) : aw Try.prog O_q176 (bodyC Try.f38) Qv (E0_q176 a0) h = X_q176 Qv a0 h := by kernel_rfl
theorem gb_q176 (a0 : Value) (h : Hp) (K : Kont) : X_q176 (qTop Try.prog Try.f38 K) a0 h = G_q176 a0 h K := by kernel_rfl
theorem gc_q176 (a0 : Value) (h : Hp) (K : Kont) : abody Try.prog O_q176 Try.f38 (bodyC Try.f38) [a0] h K = aw Try.prog O_q176 (bodyC Try.f38) (qTop Try.prog Try.f38 K) (E0_q176 a0) h := by kernel_rfl
theorem eq_q176 (a0 : Value) (h : Hp) (K : Kont) : abody Try.prog O_q176 Try.f38 (bodyC Try.f38) [a0] h K = G_q176 a0 h K := (gc_q176 a0 h K).trans ((ga_q176 _ a0 h).trans (gb_q176 a0 h K))
theorem ok_q176 {a0 : Value} {h : Hp} {K : Kont} (hk : G_q176 a0 h K) : C_q176 [a0] h K := ac_of_body prog_mixed (fn := Try.f38) Try.func38 (c := bodyC Try.f38) (by kernel_rfl) ((eq_q176 a0 h K).mpr hk)
def B_q176_1 (K : Kont) (s0 : Self) (v1 v3 v4 : Value) (d : Nat → Value) (h : Hp) : Prop :=
  oFieldAddr 8 v1 h fun t6 h1 =>
  oLd1 t6 h1 fun t7 h2 =>
  oLen 0 t7 h2 fun t8 h3 =>
  oBin .lss v4 t8 h3 fun t9 h4 =>
  oIf t9
  (oFieldAddr 8 v1 h4 fun t13 h5 =>
  oLd1 t13 h5 fun t14 h6 =>
  oIdxS 6 t14 v4 h6 fun t16 h7 =>
  oFieldAddr 0 t16 h7 fun t17 h8 =>
  oLd1 t17 h8 fun t18 h9 =>
  oFieldAddr 3 v1 h9 fun t19 h10 =>
  oLd1 t19 h10 fun t20 h11 =>
  oFieldAddr 8 v1 h11 fun t21 h12 =>
  oLd1 t21 h12 fun t22 h13 =>
  oIdxS 6 t22 v4 h13 fun t24 h14 =>
  oFieldAddr 1 t24 h14 fun t25 h15 =>
  oLdN 4 t25 h15 fun t26 h16 =>
  oBuild #[.int .i64 0, .int .u64 0, .int .i64 0, .int .i64 0, .int .u64 0, .int .i64 0] [(0, 1, t18), (1, 1, t20), (2, 4, t26)] h16 fun t27 h17 =>
  oBuildSlice #[.int .i64 0, .int .u64 0, .int .i64 0, .int .i64 0, .int .u64 0, .int .i64 0] 1 [(0 * 6, 6, t27)] h17 fun t28 h18 =>
  ((oLdN 4 t25 h17 (fun v' _ => v' = t26) → oLdN 4 t25 h18 (fun v' _ => v' = t26)) ∧ (oLd1 t21 h17 (fun v' _ => v' = t22) → oLd1 t21 h18 (fun v' _ => v' = t22)) ∧ (oLd1 t19 h17 (fun v' _ => v' = t20) → oLd1 t19 h18 (fun v' _ => v' = t20)) ∧ (oLd1 t17 h17 (fun v' _ => v' = t18) → oLd1 t17 h18 (fun v' _ => v' = t18)) ∧ (oLd1 t13 h17 (fun v' _ => v' = t14) → oLd1 t13 h18 (fun v' _ => v' = t14)) ∧ True) ∧
  oAppend 6 48 #[.int .i64 0, .int .u64 0, .int .i64 0, .int .i64 0, .int .u64 0, .int .i64 0] v3 t28 h18 fun t29 h19 =>
  ((oLdN 4 t25 h18 (fun v' _ => v' = t26) → oLdN 4 t25 h19 (fun v' _ => v' = t26)) ∧ (oLd1 t21 h18 (fun v' _ => v' = t22) → oLd1 t21 h19 (fun v' _ => v' = t22)) ∧ (oLd1 t19 h18 (fun v' _ => v' = t20) → oLd1 t19 h19 (fun v' _ => v' = t20)) ∧ (oLd1 t17 h18 (fun v' _ => v' = t18) → oLd1 t17 h19 (fun v' _ => v' = t18)) ∧ (oLd1 t13 h18 (fun v' _ => v' = t14) → oLd1 t13 h19 (fun v' _ => v' = t14)) ∧ True) ∧
  oBin .add v4 (Value.int .i64 1) h19 fun t11 h20 =>
  s0 (E_q176_1 v1 t29 t11 (ud [(5, v4), (6, t6), (7, t7), (8, t8), (9, t9), (10, v4), (11, t11), (12, v3), (13, t13), (14, t14), (15, v4), (16, t16), (17, t17), (18, t18), (19, t19), (20, t20), (21, t21), (22, t22), (23, v4), (24, t24), (25, t25), (26, t26), (27, t27), (28, t28), (29, t29)] d)) h20)
  (K v3 h4)
def X_q176_1 (Qv : Post) (v1 v3 v4 : Value) (d : Nat → Value) (h : Hp) : Prop :=
  oFieldAddr 8 v1 h fun t6 h1 =>
  oLd1 t6 h1 fun t7 h2 =>
  oLen 0 t7 h2 fun t8 h3 =>
  oBin .lss v4 t8 h3 fun t9 h4 =>
  oIf t9
  (oFieldAddr 8 v1 h4 fun t13 h5 =>
  oLd1 t13 h5 fun t14 h6 =>
  oIdxS 6 t14 v4 h6 fun t16 h7 =>
  oFieldAddr 0 t16 h7 fun t17 h8 =>
  oLd1 t17 h8 fun t18 h9 =>
  oFieldAddr 3 v1 h9 fun t19 h10 =>
  oLd1 t19 h10 fun t20 h11 =>
  oFieldAddr 8 v1 h11 fun t21 h12 =>
  oLd1 t21 h12 fun t22 h13 =>
  oIdxS 6 t22 v4 h13 fun t24 h14 =>
  oFieldAddr 1 t24 h14 fun t25 h15 =>
  oLdN 4 t25 h15 fun t26 h16 =>
  oBuild #[.int .i64 0, .int .u64 0, .int .i64 0, .int .i64 0, .int .u64 0, .int .i64 0] [(0, 1, t18), (1, 1, t20), (2, 4, t26)] h16 fun t27 h17 =>
  oBuildSlice #[.int .i64 0, .int .u64 0, .int .i64 0, .int .i64 0, .int .u64 0, .int .i64 0] 1 [(0 * 6, 6, t27)] h17 fun t28 h18 =>
  ((oLdN 4 t25 h17 (fun v' _ => v' = t26) → oLdN 4 t25 h18 (fun v' _ => v' = t26)) ∧ (oLd1 t21 h17 (fun v' _ => v' = t22) → oLd1 t21 h18 (fun v' _ => v' = t22)) ∧ (oLd1 t19 h17 (fun v' _ => v' = t20) → oLd1 t19 h18 (fun v' _ => v' = t20)) ∧ (oLd1 t17 h17 (fun v' _ => v' = t18) → oLd1 t17 h18 (fun v' _ => v' = t18)) ∧ (oLd1 t13 h17 (fun v' _ => v' = t14) → oLd1 t13 h18 (fun v' _ => v' = t14)) ∧ True) ∧
  oAppend 6 48 #[.int .i64 0, .int .u64 0, .int .i64 0, .int .i64 0, .int .u64 0, .int .i64 0] v3 t28 h18 fun t29 h19 =>
  ((oLdN 4 t25 h18 (fun v' _ => v' = t26) → oLdN 4 t25 h19 (fun v' _ => v' = t26)) ∧ (oLd1 t21 h18 (fun v' _ => v' = t22) → oLd1 t21 h19 (fun v' _ => v' = t22)) ∧ (oLd1 t19 h18 (fun v' _ => v' = t20) → oLd1 t19 h19 (fun v' _ => v' = t20)) ∧ (oLd1 t17 h18 (fun v' _ => v' = t18) → oLd1 t17 h19 (fun v' _ => v' = t18)) ∧ (oLd1 t13 h18 (fun v' _ => v' = t14) → oLd1 t13 h19 (fun v' _ => v' = t14)) ∧ True) ∧
  oBin .add v4 (Value.int .i64 1) h19 fun t11 h20 =>
  Qv .normal (ul (E_q176_1 v1 v3 v4 d) [(3, t29), (4, t11), (5, v4), (6, t6), (7, t7), (8, t8), (9, t9), (10, v4), (11, t11), (12, v3), (13, t13), (14, t14), (15, v4), (16, t16), (17, t17), (18, t18), (19, t19), (20, t20), (21, t21), (22, t22), (23, v4), (24, t24), (25, t25), (26, t26), (27, t27), (28, t28), (29, t29)]) h20)
  ((qSeq (aw Try.prog O_q176 K_q176_3 Qv) Qv) (.exit 0) (ul (E_q176_1 v1 v3 v4 d) [(5, v4), (6, t6), (7, t7), (8, t8), (9, t9)]) h4)
theorem ga_q176_1 (Qv : Post) (v1 v3 v4 : Value) (d : Nat → Value) (h : Hp) : aw Try.prog O_q176 K_q176_2 Qv (E_q176_1 v1 v3 v4 d) h = X_q176_1 Qv v1 v3 v4 d h := by kernel_rfl
theorem gb_q176_1 (K : Kont) (s0 : Self) (v1 v3 v4 : Value) (d : Nat → Value) (h : Hp) : X_q176_1 (Q_q176_2 K s0) v1 v3 v4 d h = B_q176_1 K s0 v1 v3 v4 d h := by kernel_rfl
theorem beq_q176_1 (K : Kont) (s0 : Self) (v1 v3 v4 : Value) (d : Nat → Value) (h : Hp) : aw Try.prog O_q176 K_q176_2 (Q_q176_2 K s0) (E_q176_1 v1 v3 v4 d) h = B_q176_1 K s0 v1 v3 v4 d h := (ga_q176_1 _ v1 v3 v4 d h).trans (gb_q176_1 K s0 v1 v3 v4 d h)
theorem rule_q176_1 {K : Kont} {v1 : Value} (Inv : Value → Value → Hp → Prop) (μ : Value → Value → Hp → Nat)
    (step : ∀ (s0 : Self) (v3 v4 : Value) (d : Nat → Value) (h : Hp), Inv v3 v4 h → (∀ (v3' : Value) (v4' : Value) (d' : Nat → Value) (h' : Hp), Inv v3' v4' h' → μ v3' v4' h' < μ v3 v4 h → s0 (E_q176_1 v1 v3' v4' d') h') → B_q176_1 K s0 v1 v3 v4 d h) (v3 v4 : Value) (d : Nat → Value) (h : Hp) (hi : Inv v3 v4 h) : G_q176_1 K v1 v3 v4 d h :=
  oLoop_rule (α := Value × Value × (Nat → Value)) (fun x => E_q176_1 v1 x.1 x.2.1 x.2.2) (fun x h => Inv x.1 x.2.1 h) (fun x h => μ x.1 x.2.1 h)
    (fun self x h hx hs => (beq_q176_1 K self v1 x.1 x.2.1 x.2.2 h).mpr (step self x.1 x.2.1 x.2.2 h hx (fun v3' v4' d' h' h1 h2 => hs ⟨v3', v4', d'⟩ h' h1 h2))) ⟨v3, v4, d⟩ h hi
def O_q71 : Od := []
noncomputable def K_q71_0 : Code := (cB (cB (bodyC Try.f39)))
def G_q71 (a0 a1 : Value) (h : Hp) (K : Kont) : Prop :=
  oEq 1 false none a0 (Value.pointer none) h fun t6 h1 =>
  oGuard t6 false (fun K => K a0 h1) h1 fun t8 h2 =>
  oGuard t6 false (fun K => oNilCheck t8 h2 K) h2 fun t9 h3 =>
  oGuard t6 false (fun K => oFieldAddr 2 t9 h3 K) h3 fun t10 h4 =>
  oGuard t6 false (fun K => oLd1 t10 h4 K) h4 fun t11 h5 =>
  oGuard t6 false (fun K => oBin .eql t11 (Value.int .i64 0) h5 K) h5 fun t12 h6 =>
  oPick t6 (Value.bool true) t12 h6 fun t13 h7 =>
  oGuard t13 false (fun K => K a1 h7) h7 fun t15 h8 =>
  oGuard t13 false (fun K => K a0 h8) h8 fun t16 h9 =>
  oGuard t13 false (fun K => oNilCheck t16 h9 K) h9 fun t17 h10 =>
  oGuard t13 false (fun K => oFieldAddr 3 t17 h10 K) h10 fun t18 h11 =>
  oGuard t13 false (fun K => oLd1 t18 h11 K) h11 fun t19 h12 =>
  oGuard t13 false (fun K => oBin .leq t15 t19 h12 K) h12 fun t20 h13 =>
  oPick t13 (Value.bool true) t20 h13 fun t21 h14 =>
  oIf t21
  (K (Value.bool false) h14)
  (oNilCheck a0 h14 fun t23 h15 =>
  oFieldAddr 2 t23 h15 fun t24 h16 =>
  oSt 1 t24 (Value.int .i64 0) h16 fun _ h17 =>
  oNilCheck a0 h17 fun t26 h18 =>
  oFieldAddr 7 t26 h18 fun t27 h19 =>
  oLd1 t27 h19 fun t28 h20 =>
  oClearMap t28 h20 fun _ h21 =>
  oNilCheck a0 h21 fun t30 h22 =>
  oFieldAddr 6 t30 h22 fun t31 h23 =>
  oLd1 t31 h23 fun t32 h24 =>
  oClearMap t32 h24 fun _ h25 =>
  K (Value.bool true) h25)
def E0_q71 (a0 a1 : Value) : List Value := [a0, a1, undef, undef, undef, undef, undef, undef, undef, undef, undef, undef, undef, undef, undef, undef, undef, undef, undef, undef, undef, undef, undef, undef, undef, undef, undef, undef, undef, undef, undef, undef, undef]
def X_q71 (Qv : Post) (a0 a1 : Value) (h : Hp) : Prop :=
  oEq 1 false none a0 (Value.pointer none) h fun t6 h1 =>
  oGuard t6 false (fun K => K a0 h1) h1 fun t8 h2 =>
  oGuard t6 false (fun K => oNilCheck t8 h2 K) h2 fun t9 h3 =>
  oGuard t6 false (fun K => oFieldAddr 2 t9 h3 K) h3 fun t10 h4 =>
  oGuard t6 false (fun K => oLd1 t10 h4 K) h4 fun t11 h5 =>
  oGuard t6 false (fun K => oBin .eql t11 (Value.int .i64 0) h5 K) h5 fun t12 h6 =>
  oPick t6 (Value.bool true) t12 h6 fun t13 h7 =>
  oGuard t13 false (fun K => K a1 h7) h7 fun t15 h8 =>
  oGuard t13 false (fun K => K a0 h8) h8 fun t16 h9 =>
  oGuard t13 false (fun K => oNilCheck t16 h9 K) h9 fun t17 h10 =>
  oGuard t13 false (fun K => oFieldAddr 3 t17 h10 K) h10 fun t18 h11 =>
  oGuard t13 false (fun K => oLd1 t18 h11 K) h11 fun t19 h12 =>
  oGuard t13 false (fun K => oBin .leq t15 t19 h12 K) h12 fun t20 h13 =>
  oPick t13 (Value.bool true) t20 h13 fun t21 h14 =>
  oIf t21
  ((qSeq (aw Try.prog O_q71 K_q71_0 Qv) Qv) .ret (ul (E0_q71 a0 a1) [(4, (Value.bool false)), (5, a0), (6, t6), (7, t6), (8, t8), (9, t9), (10, t10), (11, t11), (12, t12), (13, t13), (14, t13), (15, t15), (16, t16), (17, t17), (18, t18), (19, t19), (20, t20), (21, t21)]) h14)
  (oNilCheck a0 h14 fun t23 h15 =>
  oFieldAddr 2 t23 h15 fun t24 h16 =>
  oSt 1 t24 (Value.int .i64 0) h16 fun _ h17 =>
  oNilCheck a0 h17 fun t26 h18 =>
  oFieldAddr 7 t26 h18 fun t27 h19 =>
  oLd1 t27 h19 fun t28 h20 =>
  oClearMap t28 h20 fun _ h21 =>
  oNilCheck a0 h21 fun t30 h22 =>
  oFieldAddr 6 t30 h22 fun t31 h23 =>
  oLd1 t31 h23 fun t32 h24 =>
  oClearMap t32 h24 fun _ h25 =>
  Qv .ret (ul (E0_q71 a0 a1) [(4, (Value.bool true)), (5, a0), (6, t6), (7, t6), (8, t8), (9, t9), (10, t10), (11, t11), (12, t12), (13, t13), (14, t13), (15, t15), (16, t16), (17, t17), (18, t18), (19, t19), (20, t20), (21, t21), (22, a0), (23, t23), (24, t24), (25, a0), (26, t26), (27, t27), (28, t28), (29, a0), (30, t30), (31, t31), (32, t32)]) h25)
theorem ga_q71 (Qv : Post) (a0 a1 : Value) (h : Hp) : aw Try.prog O_q71 (bodyC Try.f39) Qv (E0_q71 a0 a1) h = X_q71 Qv a0 a1 h := by kernel_rfl
theorem gb_q71 (a0 a1 : Value) (h : Hp) (K : Kont) : X_q71 (qTop Try.prog Try.f39 K) a0 a1 h = G_q71 a0 a1 h K := by kernel_rfl
theorem gc_q71 (a0 a1 : Value) (h : Hp) (K : Kont) : abody Try.prog O_q71 Try.f39 (bodyC Try.f39) [a0, a1] h K = aw Try.prog O_q71 (bodyC Try.f39) (qTop Try.prog Try.f39 K) (E0_q71 a0 a1) h := by kernel_rfl
theorem eq_q71 (a0 a1 : Value) (h : Hp) (K : Kont) : abody Try.prog O_q71 Try.f39 (bodyC Try.f39) [a0, a1] h K = G_q71 a0 a1 h K := (gc_q71 a0 a1 h K).trans ((ga_q71 _ a0 a1 h).trans (gb_q71 a0 a1 h K))
theorem ok_q71 {a0 a1 : Value} {h : Hp} {K : Kont} (hk : G_q71 a0 a1 h K) : C_q71 [a0, a1] h K := ac_of_body prog_mixed (fn := Try.f39) Try.func39 (c := bodyC Try.f39) (by kernel_rfl) ((eq_q71 a0 a1 h K).mpr hk)
end Go.Proofs.Ytdolepapmpcpiaa

namespace Go.Proofs.Ytdolepapmpcpiaa
open Go
set_option linter.unusedSectionVars false
variable [Base]
set_option linter.unusedVariables false
set_option maxRecDepth 100000
def O_q101 : Od := []
noncomputable def K_q101_0 : Code := (cI (cB (cA (cB (cB (bodyC Try.f44))))))
noncomputable def K_q101_1 : Code := (cB (cB (cB (bodyC Try.f44))))
def Q_q101_0 (K : Kont) : Post := qSeq (aw Try.prog O_q101 K_q101_1 (qTop Try.prog Try.f44 K)) (qTop Try.prog Try.f44 K)
def Q_q101_1 (K : Kont) : Post := qBlk 0 (Q_q101_0 K)
def E_q101_1 (v0 v1 v5 v10 v11 v12 : Value) (d : Nat → Value) : List Value := [v0, v1, d 2, d 3, d 4, v5, d 6, d 7, d 8, d 9, v10, v11, v12, d 13, d 14, d 15, d 16, d 17, d 18, d 19, d 20, d 21, d 22, d 23, d 24, d 25, d 26]
def G_q101_1 (K : Kont) (v0 v1 v5 v10 v11 v12 : Value) (d : Nat → Value) (h : Hp) : Prop := aw Try.prog O_q101 K_q101_0 (Q_q101_1 K) (E_q101_1 v0 v1 v5 v10 v11 v12 d) h
def Q_q101_2 (K : Kont) (s0 : Self) : Post := qSeq s0 (Q_q101_1 K)
noncomputable def K_q101_2 : Code := (cI (cI (cB (cA (cB (cB (bodyC Try.f44)))))))
noncomputable def K_q101_3 : Code := (cB (cB (cB (cI (cI (cB (cA (cB (cB (bodyC Try.f44))))))))))
def E_q101_2 (v0 v1 v5 v10 v11 v12 : Value) (d : Nat → Value) : List Value := [v0, v1, d 2, d 3, d 4, v5, d 6, d 7, d 8, d 9, v10, v11, v12, d 13, d 14, d 15, d 16, d 17, d 18, d 19, d 20, d 21, d 22, d 23, d 24, d 25, d 26]
def G_q101_2 (K : Kont) (s0 : Self) (v0 v1 v5 v10 v11 v12 : Value) (d : Nat → Value) (h : Hp) : Prop := aw Try.prog O_q101 K_q101_3 (Q_q101_2 K s0) (E_q101_2 v0 v1 v5 v10 v11 v12 d) h
noncomputable def K_q101_4 : Code := (cB (cB (cI (cI (cB (cA (cB (cB (bodyC Try.f44)))))))))
def G_q101 (a0 a1 : Value) (h : Hp) (K : Kont) : Prop :=
  C_q6 [a0] h fun t9 h1 =>
  C_q61 [t9] h1 fun t10 h2 =>
  oLen 0 t10 h2 fun t11 h3 =>
  G_q101_1 K a0 a1 (Value.slice none 0 0) t10 t11 (Value.int .i64 0) (ud [(4, (Value.slice none 0 0)), (8, a0), (9, t9)] dz) h3
def E0_q101 (a0 a1 : Value) : List Value := [a0, a1, undef, undef, undef, undef, undef, undef, undef, undef, undef, undef, undef, undef, undef, undef, undef, undef, undef, undef, undef, undef, undef, undef, undef, undef, undef]
def X_q101 (Qv : Post) (a0 a1 : Value) (h : Hp) : Prop :=
  C_q6 [a0] h fun t9 h1 =>
  C_q61 [t9] h1 fun t10 h2 =>
  oLen 0 t10 h2 fun t11 h3 =>
  aw Try.prog O_q101 K_q101_0 (qBlk 0 (qSeq (aw Try.prog O_q101 K_q101_1 Qv) Qv)) (ul (E0_q101 a0 a1) [(4, (Value.slice none 0 0)), (5, (Value.slice none 0 0)), (8, a0), (9, t9), (10, t10), (11, t11), (12, (Value.int .i64 0))]) h3
theorem ga_q101 (Qv : Post) (a0 a1 : Value) (h : Hp) : aw Try.prog O_q101 (bodyC Try.f44) Qv (E0_q101 a0 a1) h = X_q101 Qv a0 a1 h := by kernel_rfl
theorem gb_q101 (a0 a1 : Value) (h : Hp) (K : Kont) : X_q101 (qTop Try.prog Try.f44 K) a0 a1 h = G_q101 a0 a1 h K := by kernel_rfl
theorem gc_q101 (a0 a1 : Value) (h : Hp) (K : Kont) : abody Try.prog O_q101 Try.f44 (bodyC Try.f44) [a0, a1] h K = aw Try.prog O_q101 (bodyC Try.f44) (qTop Try.prog Try.f44 K) (E0_q101 a0 a1) h := by kernel_rfl
theorem eq_q101 (a0 a1 : Value) (h : Hp) (K : Kont) : abody Try.prog O_q101 Try.f44 (bodyC Try.f44) [a0, a1] h K = G_q101 a0 a1 h K := (gc_q101 a0 a1 h K).trans ((ga_q101 _ a0 a1 h).trans (gb_q101 a0 a1 h K))
theorem ok_q101 {a0 a1 : Value} {h : Hp} {K : Kont} (hk : G_q101 a0 a1 h K) : C_q101 [a0, a1] h K := ac_of_body prog_mixed (fn := Try.f44) Try.func44 (c := bodyC Try.f44) (by kernel_rfl) ((eq_q101 a0 a1 h K).mpr hk)
def B_q101_1 (K : Kont) (s0 : Self) (v0 v1 v5 v10 v11 v12 : Value) (d : Nat → Value) (h : Hp) : Prop :=
  oBin .lss v12 v11 h fun t13 h1 =>
  oIf t13
  (oIdxS 1 v10 v12 h1 fun t14 h2 =>
  oLd1 t14 h2 fun t15 h3 =>
  oBin .geq t15 v1 h3 fun t18 h4 =>
  oIf t18
  (oLookup (.int .i64) (.agg #[.int .i64 0, .int .u64 0, .int .i64 0, .int .i64 0, .int .u64 0, .int .i64 0]) v0 t15 false h4 fun t22 h5 =>
  oBuildSlice #[.int .i64 0, .int .u64 0, .int .i64 0, .int .i64 0, .int .u64 0, .int .i64 0] 1 [(0 * 6, 6, t22)] h5 fun t23 h6 =>
  oAppend 6 48 #[.int .i64 0, .int .u64 0, .int .i64 0, .int .i64 0, .int .u64 0, .int .i64 0] v5 t23 h6 fun t24 h7 =>
  G_q101_2 K s0 v0 v1 t24 v10 v11 v12 (ud [(7, t15), (13, t13), (14, t14), (15, t15), (16, t15), (17, v1), (18, t18), (19, v5), (20, v0), (21, t15), (22, t22), (23, t23), (24, t24)] d) h7)
  (G_q101_2 K s0 v0 v1 v5 v10 v11 v12 (ud [(7, t15), (13, t13), (14, t14), (15, t15), (16, t15), (17, v1), (18, t18)] d) h4))
  (K v5 h1)
def X_q101_1 (Qv : Post) (v0 v1 v5 v10 v11 v12 : Value) (d : Nat → Value) (h : Hp) : Prop :=
  oBin .lss v12 v11 h fun t13 h1 =>
  oIf t13
  (oIdxS 1 v10 v12 h1 fun t14 h2 =>
  oLd1 t14 h2 fun t15 h3 =>
  oBin .geq t15 v1 h3 fun t18 h4 =>
  oIf t18
  (oLookup (.int .i64) (.agg #[.int .i64 0, .int .u64 0, .int .i64 0, .int .i64 0, .int .u64 0, .int .i64 0]) v0 t15 false h4 fun t22 h5 =>
  oBuildSlice #[.int .i64 0, .int .u64 0, .int .i64 0, .int .i64 0, .int .u64 0, .int .i64 0] 1 [(0 * 6, 6, t22)] h5 fun t23 h6 =>
  oAppend 6 48 #[.int .i64 0, .int .u64 0, .int .i64 0, .int .i64 0, .int .u64 0, .int .i64 0] v5 t23 h6 fun t24 h7 =>
  (qBlk 1 (qSeq (aw Try.prog O_q101 K_q101_3 Qv) Qv)) .normal (ul (E_q101_1 v0 v1 v5 v10 v11 v12 d) [(5, t24), (7, t15), (13, t13), (14, t14), (15, t15), (16, t15), (17, v1), (18, t18), (19, v5), (20, v0), (21, t15), (22, t22), (23, t23), (24, t24)]) h7)
  ((qBlk 1 (qSeq (aw Try.prog O_q101 K_q101_3 Qv) Qv)) .normal (ul (E_q101_1 v0 v1 v5 v10 v11 v12 d) [(7, t15), (13, t13), (14, t14), (15, t15), (16, t15), (17, v1), (18, t18)]) h4))
  ((qSeq (aw Try.prog O_q101 K_q101_4 Qv) Qv) (.exit 0) (ul (E_q101_1 v0 v1 v5 v10 v11 v12 d) [(13, t13)]) h1)
theorem ga_q101_1 (Qv : Post) (v0 v1 v5 v10 v11 v12 : Value) (d : Nat → Value) (h : Hp) : aw Try.prog O_q101 K_q101_2 Qv (E_q101_1 v0 v1 v5 v10 v11 v12 d) h = X_q101_1 Qv v0 v1 v5 v10 v11 v12 d h := by kernel_rfl
theorem gb_q101_1 (K : Kont) (s0 : Self) (v0 v1 v5 v10 v11 v12 : Value) (d : Nat → Value) (h : Hp) : X_q101_1 (Q_q101_2 K s0) v0 v1 v5 v10 v11 v12 d h = B_q101_1 K s0 v0 v1 v5 v10 v11 v12 d h := by kernel_rfl
theorem beq_q101_1 (K : Kont) (s0 : Self) (v0 v1 v5 v10 v11 v12 : Value) (d : Nat → Value) (h : Hp) : aw Try.prog O_q101 K_q101_2 (Q_q101_2 K s0) (E_q101_1 v0 v1 v5 v10 v11 v12 d) h = B_q101_1 K s0 v0 v1 v5 v10 v11 v12 d h := (ga_q101_1 _ v0 v1 v5 v10 v11 v12 d h).trans (gb_q101_1 K s0 v0 v1 v5 v10 v11 v12 d h)
theorem rule_q101_1 {K : Kont} {v0 v1 v10 v11 : Value} (Inv : Value → Value → Hp → Prop) (μ : Value → Value → Hp → Nat)
    (step : ∀ (s0 : Self) (v5 v12 : Value) (d : Nat → Value) (h : Hp), Inv v5 v12 h → (∀ (v5' : Value) (v12' : Value) (d' : Nat → Value) (h' : Hp), Inv v5' v12' h' → μ v5' v12' h' < μ v5 v12 h → s0 (E_q101_1 v0 v1 v5' v10 v11 v12' d') h') → B_q101_1 K s0 v0 v1 v5 v10 v11 v12 d h) (v5 v12 : Value) (d : Nat → Value) (h : Hp) (hi : Inv v5 v12 h) : G_q101_1 K v0 v1 v5 v10 v11 v12 d h :=
  oLoop_rule (α := Value × Value × (Nat → Value)) (fun x => E_q101_1 v0 v1 x.1 v10 v11 x.2.1 x.2.2) (fun x h => Inv x.1 x.2.1 h) (fun x h => μ x.1 x.2.1 h)
    (fun self x h hx hs => (beq_q101_1 K self v0 v1 x.1 v10 v11 x.2.1 x.2.2 h).mpr (step self x.1 x.2.1 x.2.2 h hx (fun v5' v12' d' h' h1 h2 => hs ⟨v5', v12', d'⟩ h' h1 h2))) ⟨v5, v12, d⟩ h hi
def R_q101_2 (K : Kont) (s0 : Self) (v0 v1 v5 v10 v11 v12 : Value) (d : Nat → Value) (h : Hp) : Prop :=
  oBin .add v12 (Value.int .i64 1) h fun t25 h1 =>
  s0 (E_q101_1 v0 v1 v5 v10 v11 t25 (ud [(25, t25)] d)) h1
def X_q101_2 (Qv : Post) (v0 v1 v5 v10 v11 v12 : Value) (d : Nat → Value) (h : Hp) : Prop :=
  oBin .add v12 (Value.int .i64 1) h fun t25 h1 =>
  Qv .normal (ul (E_q101_2 v0 v1 v5 v10 v11 v12 d) [(12, t25), (25, t25)]) h1
theorem ga_q101_2 (Qv : Post) (v0 v1 v5 v10 v11 v12 : Value) (d : Nat → Value) (h : Hp) : aw Try.prog O_q101 K_q101_3 Qv (E_q101_2 v0 v1 v5 v10 v11 v12 d) h = X_q101_2 Qv v0 v1 v5 v10 v11 v12 d h := by kernel_rfl
theorem gb_q101_2 (K : Kont) (s0 : Self) (v0 v1 v5 v10 v11 v12 : Value) (d : Nat → Value) (h : Hp) : X_q101_2 (Q_q101_2 K s0) v0 v1 v5 v10 v11 v12 d h = R_q101_2 K s0 v0 v1 v5 v10 v11 v12 d h := by kernel_rfl
theorem req_q101_2 (K : Kont) (s0 : Self) (v0 v1 v5 v10 v11 v12 : Value) (d : Nat → Value) (h : Hp) : G_q101_2 K s0 v0 v1 v5 v10 v11 v12 d h = R_q101_2 K s0 v0 v1 v5 v10 v11 v12 d h := (ga_q101_2 _ v0 v1 v5 v10 v11 v12 d h).trans (gb_q101_2 K s0 v0 v1 v5 v10 v11 v12 d h)
end Go.Proofs.Ytdolepapmpcpiaa

