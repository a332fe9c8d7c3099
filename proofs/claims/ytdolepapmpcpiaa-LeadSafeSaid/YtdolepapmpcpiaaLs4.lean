/- Lemmas for the theorem of the last text; no condition. -/
import Derived.Test.YtdolepapmpcpiaaLs0
import Derived.Test.YtdolepapmpcpiaaLs1
import Derived.Test.YtdolepapmpcpiaaLs2
import Derived.Test.YtdolepapmpcpiaaLs3
import Derived.Test.YtdolepapmpcpiaaProg
namespace Go.Proofs.Ytdolepapmpcpiaa
open Go
set_option linter.unusedSectionVars false
variable [Base]
set_option linter.unusedVariables false
set_option maxRecDepth 100000
def O_q146 : Od := []
def G_q146 (h : Hp) (K : Kont) : Prop :=
  oMakeMap h fun t1 h1 =>
  oBuild #[.int .u64 0, .map none] [(1, 1, t1)] h1 fun t2 h2 =>
  oBox t2 h2 fun t3 h3 =>
  K t3 h3
def E0_q146 : List Value := [undef, undef, undef, undef]
def X_q146 (Qv : Post) (h : Hp) : Prop :=
  oMakeMap h fun t1 h1 =>
  oBuild #[.int .u64 0, .map none] [(1, 1, t1)] h1 fun t2 h2 =>
  oBox t2 h2 fun t3 h3 =>
  Qv .ret (ul (E0_q146) [(0, t3), (1, t1), (2, t2), (3, t3)]) h3
theorem ga_q146 (Qv : Post) (h : Hp) : aw Try.prog O_q146 (bodyC Try.f11) Qv (E0_q146) h = X_q146 Qv  h := by kernel_rfl
theorem gb_q146 (h : Hp) (K : Kont) : X_q146 (qTop Try.prog Try.f11 K)  h = G_q146  h K := by kernel_rfl
theorem gc_q146 (h : Hp) (K : Kont) : abody Try.prog O_q146 Try.f11 (bodyC Try.f11) [] h K = aw Try.prog O_q146 (bodyC Try.f11) (qTop Try.prog Try.f11 K) (E0_q146) h := by kernel_rfl
theorem eq_q146 (h : Hp) (K : Kont) : abody Try.prog O_q146 Try.f11 (bodyC Try.f11) [] h K = G_q146  h K := (gc_q146  h K).trans ((ga_q146 _  h).trans (gb_q146  h K))
theorem ok_q146 {h : Hp} {K : Kont} (hk : G_q146  h K) : C_q146 [] h K := ac_of_body prog_mixed (fn := Try.f11) Try.func11 (c := bodyC Try.f11) (by kernel_rfl) ((eq_q146  h K).mpr hk)
def O_q33 : Od := []
noncomputable def K_q33_0 : Code := (cB (cB (bodyC Try.f13)))
def G_q33 (a0 a1 : Value) (h : Hp) (K : Kont) : Prop :=
  oAlloc #[.int .i64 0, .int .u64 0, .int .i64 0, .int .i64 0, .int .u64 0, .int .i64 0] h fun t4 h1 =>
  oEq 1 false none a0 (Value.pointer none) h1 fun t9 h2 =>
  oIf t9
  (oBuild #[.int .i64 0, .int .u64 0, .int .i64 0, .int .i64 0, .int .u64 0, .int .i64 0] [] h2 fun t10 h3 =>
  oSt 6 t4 t10 h3 fun _ h4 =>
  oLdN 6 t4 h4 fun r1 _ =>
  K (.tuple #[r1, (Value.bool false)]) h4)
  (oNilCheck a0 h2 fun t13 h5 =>
  oFieldAddr 1 t13 h5 fun t14 h6 =>
  oLd1 t14 h6 fun t15 h7 =>
  oLookup (.int .i64) (.agg #[.int .i64 0, .int .u64 0, .int .i64 0, .int .i64 0, .int .u64 0, .int .i64 0]) t15 a1 true h7 fun t17 h8 =>
  oExtract t17 0 h8 fun t18 h9 =>
  oExtract t17 1 h9 fun t19 h10 =>
  oAlloc #[.int .i64 0, .int .u64 0, .int .i64 0, .int .i64 0, .int .u64 0, .int .i64 0] h10 fun t6 h11 =>
  oSt 6 t6 t18 h11 fun _ h12 =>
  oLdN 6 t6 h12 fun t20 h13 =>
  oSt 6 t4 t20 h13 fun _ h14 =>
  oLdN 6 t4 h14 fun r2 _ =>
  K (.tuple #[r2, t19]) h14)
def E0_q33 (a0 a1 : Value) : List Value := [a0, a1, undef, undef, undef, undef, undef, undef, undef, undef, undef, undef, undef, undef, undef, undef, undef, undef, undef, undef, undef, undef]
def X_q33 (Qv : Post) (a0 a1 : Value) (h : Hp) : Prop :=
  oAlloc #[.int .i64 0, .int .u64 0, .int .i64 0, .int .i64 0, .int .u64 0, .int .i64 0] h fun t4 h1 =>
  oEq 1 false none a0 (Value.pointer none) h1 fun t9 h2 =>
  oIf t9
  (oBuild #[.int .i64 0, .int .u64 0, .int .i64 0, .int .i64 0, .int .u64 0, .int .i64 0] [] h2 fun t10 h3 =>
  oSt 6 t4 t10 h3 fun _ h4 =>
  (qSeq (aw Try.prog O_q33 K_q33_0 Qv) Qv) .ret (ul (E0_q33 a0 a1) [(4, t4), (5, (Value.bool false)), (8, a0), (9, t9), (10, t10)]) h4)
  (oNilCheck a0 h2 fun t13 h5 =>
  oFieldAddr 1 t13 h5 fun t14 h6 =>
  oLd1 t14 h6 fun t15 h7 =>
  oLookup (.int .i64) (.agg #[.int .i64 0, .int .u64 0, .int .i64 0, .int .i64 0, .int .u64 0, .int .i64 0]) t15 a1 true h7 fun t17 h8 =>
  oExtract t17 0 h8 fun t18 h9 =>
  oExtract t17 1 h9 fun t19 h10 =>
  oAlloc #[.int .i64 0, .int .u64 0, .int .i64 0, .int .i64 0, .int .u64 0, .int .i64 0] h10 fun t6 h11 =>
  oSt 6 t6 t18 h11 fun _ h12 =>
  oLdN 6 t6 h12 fun t20 h13 =>
  oSt 6 t4 t20 h13 fun _ h14 =>
  Qv .ret (ul (E0_q33 a0 a1) [(4, t4), (5, t19), (6, t6), (7, t19), (8, a0), (9, t9), (11, t17), (12, a0), (13, t13), (14, t14), (15, t15), (16, a1), (17, t17), (18, t18), (19, t19), (20, t20), (21, t19)]) h14)
theorem ga_q33 (Qv : Post) (a0 a1 : Value) (h : Hp) : aw Try.prog O_q33 (bodyC Try.f13) Qv (E0_q33 a0 a1) h = X_q33 Qv a0 a1 h := by kernel_rfl
theorem gb_q33 (a0 a1 : Value) (h : Hp) (K : Kont) : X_q33 (qTop Try.prog Try.f13 K) a0 a1 h = G_q33 a0 a1 h K := by kernel_rfl
theorem gc_q33 (a0 a1 : Value) (h : Hp) (K : Kont) : abody Try.prog O_q33 Try.f13 (bodyC Try.f13) [a0, a1] h K = aw Try.prog O_q33 (bodyC Try.f13) (qTop Try.prog Try.f13 K) (E0_q33 a0 a1) h := by kernel_rfl
theorem eq_q33 (a0 a1 : Value) (h : Hp) (K : Kont) : abody Try.prog O_q33 Try.f13 (bodyC Try.f13) [a0, a1] h K = G_q33 a0 a1 h K := (gc_q33 a0 a1 h K).trans ((ga_q33 _ a0 a1 h).trans (gb_q33 a0 a1 h K))
theorem ok_q33 {a0 a1 : Value} {h : Hp} {K : Kont} (hk : G_q33 a0 a1 h K) : C_q33 [a0, a1] h K := ac_of_body prog_mixed (fn := Try.f13) Try.func13 (c := bodyC Try.f13) (by kernel_rfl) ((eq_q33 a0 a1 h K).mpr hk)
def O_q17 : Od := []
noncomputable def K_q17_0 : Code := (cB (cB (bodyC Try.f15)))
def G_q17 (a0 : Value) (h : Hp) (K : Kont) : Prop :=
  oEq 1 false none a0 (Value.pointer none) h fun t4 h1 =>
  oIf t4
  (K (Value.int .u64 0) h1)
  (oNilCheck a0 h1 fun t6 h2 =>
  oFieldAddr 0 t6 h2 fun t7 h3 =>
  oLd1 t7 h3 fun t8 h4 =>
  K t8 h4)
def E0_q17 (a0 : Value) : List Value := [a0, undef, undef, undef, undef, undef, undef, undef, undef]
def X_q17 (Qv : Post) (a0 : Value) (h : Hp) : Prop :=
  oEq 1 false none a0 (Value.pointer none) h fun t4 h1 =>
  oIf t4
  ((qSeq (aw Try.prog O_q17 K_q17_0 Qv) Qv) .ret (ul (E0_q17 a0) [(2, (Value.int .u64 0)), (3, a0), (4, t4)]) h1)
  (oNilCheck a0 h1 fun t6 h2 =>
  oFieldAddr 0 t6 h2 fun t7 h3 =>
  oLd1 t7 h3 fun t8 h4 =>
  Qv .ret (ul (E0_q17 a0) [(2, t8), (3, a0), (4, t4), (5, a0), (6, t6), (7, t7), (8, t8)]) h4)
theorem ga_q17 (Qv : Post) (a0 : Value) (h : Hp) : aw Try.prog O_q17 (bodyC Try.f15) Qv (E0_q17 a0) h = X_q17 Qv a0 h := by kernel_rfl
theorem gb_q17 (a0 : Value) (h : Hp) (K : Kont) : X_q17 (qTop Try.prog Try.f15 K) a0 h = G_q17 a0 h K := by kernel_rfl
theorem gc_q17 (a0 : Value) (h : Hp) (K : Kont) : abody Try.prog O_q17 Try.f15 (bodyC Try.f15) [a0] h K = aw Try.prog O_q17 (bodyC Try.f15) (qTop Try.prog Try.f15 K) (E0_q17 a0) h := by kernel_rfl
theorem eq_q17 (a0 : Value) (h : Hp) (K : Kont) : abody Try.prog O_q17 Try.f15 (bodyC Try.f15) [a0] h K = G_q17 a0 h K := (gc_q17 a0 h K).trans ((ga_q17 _ a0 h).trans (gb_q17 a0 h K))
theorem ok_q17 {a0 : Value} {h : Hp} {K : Kont} (hk : G_q17 a0 h K) : C_q17 [a0] h K := ac_of_body prog_mixed (fn := Try.f15) Try.func15 (c := bodyC Try.f15) (by kernel_rfl) ((eq_q17 a0 h K).mpr hk)
def O_q38 : Od := []
noncomputable def K_q38_0 : Code := (cB (cB (bodyC Try.f16)))
def G_q38 (a0 : Value) (h : Hp) (K : Kont) : Prop :=
  oEq 1 false none a0 (Value.pointer none) h fun t4 h1 =>
  oIf t4
  (K (Value.int .i64 0) h1)
  (oNilCheck a0 h1 fun t6 h2 =>
  oFieldAddr 1 t6 h2 fun t7 h3 =>
  oLd1 t7 h3 fun t8 h4 =>
  oLen 2 t8 h4 fun t9 h5 =>
  K t9 h5)
def E0_q38 (a0 : Value) : List Value := [a0, undef, undef, undef, undef, undef, undef, undef, undef, undef]
def X_q38 (Qv : Post) (a0 : Value) (h : Hp) : Prop :=
  oEq 1 false none a0 (Value.pointer none) h fun t4 h1 =>
  oIf t4
  ((qSeq (aw Try.prog O_q38 K_q38_0 Qv) Qv) .ret (ul (E0_q38 a0) [(2, (Value.int .i64 0)), (3, a0), (4, t4)]) h1)
  (oNilCheck a0 h1 fun t6 h2 =>
  oFieldAddr 1 t6 h2 fun t7 h3 =>
  oLd1 t7 h3 fun t8 h4 =>
  oLen 2 t8 h4 fun t9 h5 =>
  Qv .ret (ul (E0_q38 a0) [(2, t9), (3, a0), (4, t4), (5, a0), (6, t6), (7, t7), (8, t8), (9, t9)]) h5)
theorem ga_q38 (Qv : Post) (a0 : Value) (h : Hp) : aw Try.prog O_q38 (bodyC Try.f16) Qv (E0_q38 a0) h = X_q38 Qv a0 h := by kernel_rfl
theorem gb_q38 (a0 : Value) (h : Hp) (K : Kont) : X_q38 (qTop Try.prog Try.f16 K) a0 h = G_q38 a0 h K := by kernel_rfl
theorem gc_q38 (a0 : Value) (h : Hp) (K : Kont) : abody Try.prog O_q38 Try.f16 (bodyC Try.f16) [a0] h K = aw Try.prog O_q38 (bodyC Try.f16) (qTop Try.prog Try.f16 K) (E0_q38 a0) h := by kernel_rfl
theorem eq_q38 (a0 : Value) (h : Hp) (K : Kont) : abody Try.prog O_q38 Try.f16 (bodyC Try.f16) [a0] h K = G_q38 a0 h K := (gc_q38 a0 h K).trans ((ga_q38 _ a0 h).trans (gb_q38 a0 h K))
theorem ok_q38 {a0 : Value} {h : Hp} {K : Kont} (hk : G_q38 a0 h K) : C_q38 [a0] h K := ac_of_body prog_mixed (fn := Try.f16) Try.func16 (c := bodyC Try.f16) (by kernel_rfl) ((eq_q38 a0 h K).mpr hk)
def O_q27 : Od := []
noncomputable def K_q27_0 : Code := (cB (cB (bodyC Try.f18)))
def G_q27 (a0 a1 : Value) (h : Hp) (K : Kont) : Prop :=
  oEq 1 false none a0 (Value.pointer none) h fun t6 h1 =>
  oIf t6
  (K (Value.slice none 0 0) h1)
  (oNilCheck a0 h1 fun t8 h2 =>
  oFieldAddr 1 t8 h2 fun t9 h3 =>
  oLd1 t9 h3 fun t10 h4 =>
  C_q101 [t10, a1] h4 fun t12 h5 =>
  K t12 h5)
def E0_q27 (a0 a1 : Value) : List Value := [a0, a1, undef, undef, undef, undef, undef, undef, undef, undef, undef, undef, undef]
def X_q27 (Qv : Post) (a0 a1 : Value) (h : Hp) : Prop :=
  oEq 1 false none a0 (Value.pointer none) h fun t6 h1 =>
  oIf t6
  ((qSeq (aw Try.prog O_q27 K_q27_0 Qv) Qv) .ret (ul (E0_q27 a0 a1) [(4, (Value.slice none 0 0)), (5, a0), (6, t6)]) h1)
  (oNilCheck a0 h1 fun t8 h2 =>
  oFieldAddr 1 t8 h2 fun t9 h3 =>
  oLd1 t9 h3 fun t10 h4 =>
  C_q101 [t10, a1] h4 fun t12 h5 =>
  Qv .ret (ul (E0_q27 a0 a1) [(4, t12), (5, a0), (6, t6), (7, a0), (8, t8), (9, t9), (10, t10), (11, a1), (12, t12)]) h5)
theorem ga_q27 (Qv : Post) (a0 a1 : Value) (h : Hp) : aw Try.prog O_q27 (bodyC Try.f18) Qv (E0_q27 a0 a1) h = X_q27 Qv a0 a1 h := by kernel_rfl
theorem gb_q27 (a0 a1 : Value) (h : Hp) (K : Kont) : X_q27 (qTop Try.prog Try.f18 K) a0 a1 h = G_q27 a0 a1 h K := by kernel_rfl
theorem gc_q27 (a0 a1 : Value) (h : Hp) (K : Kont) : abody Try.prog O_q27 Try.f18 (bodyC Try.f18) [a0, a1] h K = aw Try.prog O_q27 (bodyC Try.f18) (qTop Try.prog Try.f18 K) (E0_q27 a0 a1) h := by kernel_rfl
theorem eq_q27 (a0 a1 : Value) (h : Hp) (K : Kont) : abody Try.prog O_q27 Try.f18 (bodyC Try.f18) [a0, a1] h K = G_q27 a0 a1 h K := (gc_q27 a0 a1 h K).trans ((ga_q27 _ a0 a1 h).trans (gb_q27 a0 a1 h K))
theorem ok_q27 {a0 a1 : Value} {h : Hp} {K : Kont} (hk : G_q27 a0 a1 h K) : C_q27 [a0, a1] h K := ac_of_body prog_mixed (fn := Try.f18) Try.func18 (c := bodyC Try.f18) (by kernel_rfl) ((eq_q27 a0 a1 h K).mpr hk)
def O_q161 : Od := []
def G_q161 (h : Hp) (K : Kont) : Prop :=
  C_q146 [] h fun t7 h1 =>
  C_q21 [t7, (Value.int .u64 9), (Value.int .i64 0)] h1 fun t10 h2 =>
  oExtract t10 0 h2 fun t11 h3 =>
  oExtract t10 1 h3 fun t12 h4 =>
  oBuild #[.int .i64 0, .int .i64 0, .int .u64 0, .int .i64 0] [] h4 fun t14 h5 =>
  C_q24 [t7, (Value.int .u64 17), (Value.int .i64 3), t14] h5 fun t15 h6 =>
  C_q21 [t7, (Value.int .u64 9), (Value.int .i64 0)] h6 fun t18 h7 =>
  oExtract t18 0 h7 fun t19 h8 =>
  oExtract t18 1 h8 fun t20 h9 =>
  oBin .eql t12 (Value.int .i64 0) h9 fun t22 h10 =>
  oGuard t22 true (fun K => K t15 h10) h10 fun t24 h11 =>
  oGuard t22 true (fun K => oBin .eql t24 (Value.int .i64 0) h11 K) h11 fun t25 h12 =>
  oPick t22 t25 (Value.bool false) h12 fun t26 h13 =>
  oGuard t26 true (fun K => K t20 h13) h13 fun t28 h14 =>
  oGuard t26 true (fun K => oBin .eql t28 (Value.int .i64 10) h14 K) h14 fun t29 h15 =>
  oPick t26 t29 (Value.bool false) h15 fun t30 h16 =>
  oGuard t30 true (fun K => K t7 h16) h16 fun t32 h17 =>
  oGuard t30 true (fun K => C_q17 [t32] h17 K) h17 fun t33 h18 =>
  oGuard t30 true (fun K => oBin .eql t33 (Value.int .u64 17) h18 K) h18 fun t34 h19 =>
  oPick t30 t34 (Value.bool false) h19 fun t35 h20 =>
  oGuard t35 true (fun K => K t7 h20) h20 fun t37 h21 =>
  oGuard t35 true (fun K => C_q38 [t37] h21 K) h21 fun t38 h22 =>
  oGuard t35 true (fun K => oBin .eql t38 (Value.int .i64 1) h22 K) h22 fun t39 h23 =>
  oPick t35 t39 (Value.bool false) h23 fun t40 h24 =>
  K t40 h24
def E0_q161 : List Value := [undef, undef, undef, undef, undef, undef, undef, undef, undef, undef, undef, undef, undef, undef, undef, undef, undef, undef, undef, undef, undef, undef, undef, undef, undef, undef, undef, undef, undef, undef, undef, undef, undef, undef, undef, undef, undef, undef, undef, undef, undef]
def X_q161 (Qv : Post) (h : Hp) : Prop :=
  C_q146 [] h fun t7 h1 =>
  C_q21 [t7, (Value.int .u64 9), (Value.int .i64 0)] h1 fun t10 h2 =>
  oExtract t10 0 h2 fun t11 h3 =>
  oExtract t10 1 h3 fun t12 h4 =>
  oBuild #[.int .i64 0, .int .i64 0, .int .u64 0, .int .i64 0] [] h4 fun t14 h5 =>
  C_q24 [t7, (Value.int .u64 17), (Value.int .i64 3), t14] h5 fun t15 h6 =>
  C_q21 [t7, (Value.int .u64 9), (Value.int .i64 0)] h6 fun t18 h7 =>
  oExtract t18 0 h7 fun t19 h8 =>
  oExtract t18 1 h8 fun t20 h9 =>
  oBin .eql t12 (Value.int .i64 0) h9 fun t22 h10 =>
  oGuard t22 true (fun K => K t15 h10) h10 fun t24 h11 =>
  oGuard t22 true (fun K => oBin .eql t24 (Value.int .i64 0) h11 K) h11 fun t25 h12 =>
  oPick t22 t25 (Value.bool false) h12 fun t26 h13 =>
  oGuard t26 true (fun K => K t20 h13) h13 fun t28 h14 =>
  oGuard t26 true (fun K => oBin .eql t28 (Value.int .i64 10) h14 K) h14 fun t29 h15 =>
  oPick t26 t29 (Value.bool false) h15 fun t30 h16 =>
  oGuard t30 true (fun K => K t7 h16) h16 fun t32 h17 =>
  oGuard t30 true (fun K => C_q17 [t32] h17 K) h17 fun t33 h18 =>
  oGuard t30 true (fun K => oBin .eql t33 (Value.int .u64 17) h18 K) h18 fun t34 h19 =>
  oPick t30 t34 (Value.bool false) h19 fun t35 h20 =>
  oGuard t35 true (fun K => K t7 h20) h20 fun t37 h21 =>
  oGuard t35 true (fun K => C_q38 [t37] h21 K) h21 fun t38 h22 =>
  oGuard t35 true (fun K => oBin .eql t38 (Value.int .i64 1) h22 K) h22 fun t39 h23 =>
  oPick t35 t39 (Value.bool false) h23 fun t40 h24 =>
  Qv .ret (ul (E0_q161) [(0, t40), (1, t7), (2, t11), (3, t12), (4, t15), (5, t19), (6, t20), (7, t7), (8, t10), (9, t7), (10, t10), (11, t11), (12, t12), (13, t7), (14, t14), (15, t15), (16, t18), (17, t7), (18, t18), (19, t19), (20, t20), (21, t12), (22, t22), (23, t22), (24, t24), (25, t25), (26, t26), (27, t26), (28, t28), (29, t29), (30, t30), (31, t30), (32, t32), (33, t33), (34, t34), (35, t35), (36, t35), (37, t37), (38, t38), (39, t39), (40, t40)]) h24
theorem ga_q161 (Qv : Post) (h : Hp) : aw Try.prog O_q161 (bodyC Try.f20) Qv (E0_q161) h = X_q161 Qv  h := by kernel_rfl
theorem gb_q161 (h : Hp) (K : Kont) : X_q161 (qTop Try.prog Try.f20 K)  h = G_q161  h K := by kernel_rfl
theorem gc_q161 (h : Hp) (K : Kont) : abody Try.prog O_q161 Try.f20 (bodyC Try.f20) [] h K = aw Try.prog O_q161 (bodyC Try.f20) (qTop Try.prog Try.f20 K) (E0_q161) h := by kernel_rfl
theorem eq_q161 (h : Hp) (K : Kont) : abody Try.prog O_q161 Try.f20 (bodyC Try.f20) [] h K = G_q161  h K := (gc_q161  h K).trans ((ga_q161 _  h).trans (gb_q161  h K))
theorem ok_q161 {h : Hp} {K : Kont} (hk : G_q161  h K) : C_q161 [] h K := ac_of_body prog_mixed (fn := Try.f20) Try.func20 (c := bodyC Try.f20) (by kernel_rfl) ((eq_q161  h K).mpr hk)
def O_q21 : Od := []
noncomputable def K_q21_0 : Code := (cB (cB (bodyC Try.f21)))
def G_q21 (a0 a1 a2 : Value) (h : Hp) (K : Kont) : Prop :=
  oEq 1 false none a0 (Value.pointer none) h fun t10 h1 =>
  oIf t10
  (K (.tuple #[(Value.slice none 0 0), (Value.int .i64 2)]) h1)
  (C_q159 [a1] h1 fun t13 h2 =>
  oNot t13 h2 fun t14 h3 =>
  oGuard t14 false (fun K => K a2 h3) h3 fun t16 h4 =>
  oGuard t14 false (fun K => oBin .lss t16 (Value.int .i64 0) h4 K) h4 fun t17 h5 =>
  oPick t14 (Value.bool true) t17 h5 fun t18 h6 =>
  oGuard t18 false (fun K => K a2 h6) h6 fun t20 h7 =>
  oGuard t18 false (fun K => oBin .gtr t20 (Value.int .i64 512) h7 K) h7 fun t21 h8 =>
  oPick t18 (Value.bool true) t21 h8 fun t22 h9 =>
  oIf t22
  (K (.tuple #[(Value.slice none 0 0), (Value.int .i64 1)]) h9)
  (oNilCheck a0 h9 fun t25 h10 =>
  oFieldAddr 0 t25 h10 fun t26 h11 =>
  oLd1 t26 h11 fun t27 h12 =>
  oBin .gtr t27 a1 h12 fun t29 h13 =>
  oIf t29
  (K (.tuple #[(Value.slice none 0 0), (Value.int .i64 10)]) h13)
  (oNilCheck a0 h13 fun t32 h14 =>
  oFieldAddr 0 t32 h14 fun t33 h15 =>
  oSt 1 t33 a1 h15 fun _ h16 =>
  C_q27 [a0, a2] h16 fun t36 h17 =>
  K (.tuple #[t36, (Value.int .i64 0)]) h17)))
def E0_q21 (a0 a1 a2 : Value) : List Value := [a0, a1, a2, undef, undef, undef, undef, undef, undef, undef, undef, undef, undef, undef, undef, undef, undef, undef, undef, undef, undef, undef, undef, undef, undef, undef, undef, undef, undef, undef, undef, undef, undef, undef, undef, undef, undef]
def X_q21 (Qv : Post) (a0 a1 a2 : Value) (h : Hp) : Prop :=
  oEq 1 false none a0 (Value.pointer none) h fun t10 h1 =>
  oIf t10
  ((qBlk 0 (qSeq (aw Try.prog O_q21 K_q21_0 Qv) Qv)) .ret (ul (E0_q21 a0 a1 a2) [(6, (Value.slice none 0 0)), (7, (Value.int .i64 2)), (8, t10), (9, a0), (10, t10)]) h1)
  (C_q159 [a1] h1 fun t13 h2 =>
  oNot t13 h2 fun t14 h3 =>
  oGuard t14 false (fun K => K a2 h3) h3 fun t16 h4 =>
  oGuard t14 false (fun K => oBin .lss t16 (Value.int .i64 0) h4 K) h4 fun t17 h5 =>
  oPick t14 (Value.bool true) t17 h5 fun t18 h6 =>
  oGuard t18 false (fun K => K a2 h6) h6 fun t20 h7 =>
  oGuard t18 false (fun K => oBin .gtr t20 (Value.int .i64 512) h7 K) h7 fun t21 h8 =>
  oPick t18 (Value.bool true) t21 h8 fun t22 h9 =>
  oIf t22
  ((qBlk 0 (qSeq (aw Try.prog O_q21 K_q21_0 Qv) Qv)) .ret (ul (E0_q21 a0 a1 a2) [(6, (Value.slice none 0 0)), (7, (Value.int .i64 1)), (8, t10), (9, a0), (10, t10), (11, t22), (12, a1), (13, t13), (14, t14), (15, t14), (16, t16), (17, t17), (18, t18), (19, t18), (20, t20), (21, t21), (22, t22)]) h9)
  (oNilCheck a0 h9 fun t25 h10 =>
  oFieldAddr 0 t25 h10 fun t26 h11 =>
  oLd1 t26 h11 fun t27 h12 =>
  oBin .gtr t27 a1 h12 fun t29 h13 =>
  oIf t29
  ((qBlk 0 (qSeq (aw Try.prog O_q21 K_q21_0 Qv) Qv)) .ret (ul (E0_q21 a0 a1 a2) [(6, (Value.slice none 0 0)), (7, (Value.int .i64 10)), (8, t10), (9, a0), (10, t10), (11, t22), (12, a1), (13, t13), (14, t14), (15, t14), (16, t16), (17, t17), (18, t18), (19, t18), (20, t20), (21, t21), (22, t22), (23, t29), (24, a0), (25, t25), (26, t26), (27, t27), (28, a1), (29, t29)]) h13)
  (oNilCheck a0 h13 fun t32 h14 =>
  oFieldAddr 0 t32 h14 fun t33 h15 =>
  oSt 1 t33 a1 h15 fun _ h16 =>
  C_q27 [a0, a2] h16 fun t36 h17 =>
  Qv .ret (ul (E0_q21 a0 a1 a2) [(6, t36), (7, (Value.int .i64 0)), (8, t10), (9, a0), (10, t10), (11, t22), (12, a1), (13, t13), (14, t14), (15, t14), (16, t16), (17, t17), (18, t18), (19, t18), (20, t20), (21, t21), (22, t22), (23, t29), (24, a0), (25, t25), (26, t26), (27, t27), (28, a1), (29, t29), (30, a0), (31, a1), (32, t32), (33, t33), (34, a0), (35, a2), (36, t36)]) h17)))
theorem ga_q21 (Qv : Post) (a0 a1 a2 : Value) (h : Hp) : aw Try.prog O_q21 (bodyC Try.f21) Qv (E0_q21 a0 a1 a2) h = X_q21 Qv a0 a1 a2 h := by kernel_rfl
theorem gb_q21 (a0 a1 a2 : Value) (h : Hp) (K : Kont) : X_q21 (qTop Try.prog Try.f21 K) a0 a1 a2 h = G_q21 a0 a1 a2 h K := by kernel_rfl
theorem gc_q21 (a0 a1 a2 : Value) (h : Hp) (K : Kont) : abody Try.prog O_q21 Try.f21 (bodyC Try.f21) [a0, a1, a2] h K = aw Try.prog O_q21 (bodyC Try.f21) (qTop Try.prog Try.f21 K) (E0_q21 a0 a1 a2) h := by kernel_rfl
theorem eq_q21 (a0 a1 a2 : Value) (h : Hp) (K : Kont) : abody Try.prog O_q21 Try.f21 (bodyC Try.f21) [a0, a1, a2] h K = G_q21 a0 a1 a2 h K := (gc_q21 a0 a1 a2 h K).trans ((ga_q21 _ a0 a1 a2 h).trans (gb_q21 a0 a1 a2 h K))
theorem ok_q21 {a0 a1 a2 : Value} {h : Hp} {K : Kont} (hk : G_q21 a0 a1 a2 h K) : C_q21 [a0, a1, a2] h K := ac_of_body prog_mixed (fn := Try.f21) Try.func21 (c := bodyC Try.f21) (by kernel_rfl) ((eq_q21 a0 a1 a2 h K).mpr hk)
end Go.Proofs.Ytdolepapmpcpiaa

namespace Go.Proofs.Ytdolepapmpcpiaa
open Go
set_option linter.unusedSectionVars false
variable [Base]
set_option linter.unusedVariables false
set_option maxRecDepth 100000
def O_q24 : Od := [(11, (.one 0 true (.one 1 true (.one 2 true (.one 3 true (.one 4 true (.one 5 true (.one 6 true (.one 7 true (.one 8 true (.one 9 false .nil)))))))))))]
noncomputable def K_q24_0 : Code := (cB (cB (bodyC Try.f22)))
noncomputable def K_q24_1 : Code := (cB (cB (cB (bodyC Try.f22))))
noncomputable def K_q24_2 : Code := (cB (cB (cB (cB (bodyC Try.f22)))))
def G_q24 (a0 a1 a2 a3 : Value) (h : Hp) (K : Kont) : Prop :=
  oBox a3 h fun t7 h1 =>
  oEq 1 false none a0 (Value.pointer none) h1 fun t12 h2 =>
  oIf t12
  (K (Value.int .i64 2) h2)
  (C_q159 [a1] h2 fun t15 h3 =>
  oNot t15 h3 fun t16 h4 =>
  oGuard t16 false (fun K => K a2 h4) h4 fun t18 h5 =>
  oGuard t16 false (fun K => oBin .lss t18 (Value.int .i64 0) h5 K) h5 fun t19 h6 =>
  oPick t16 (Value.bool true) t19 h6 fun t20 h7 =>
  oGuard t20 false (fun K => K a2 h7) h7 fun t22 h8 =>
  oGuard t20 false (fun K => oBin .geq t22 (Value.int .i64 512) h8 K) h8 fun t23 h9 =>
  oPick t20 (Value.bool true) t23 h9 fun t24 h10 =>
  oIf t24
  (K (Value.int .i64 1) h10)
  (oLdN 4 t7 h10 fun t25 h11 =>
  C_q147 [t25] h11 fun t26 h12 =>
  oBin .neq t26 (Value.int .i64 0) h12 fun t28 h13 =>
  oIf t28
  (K t26 h13)
  (oNilCheck a0 h13 fun t31 h14 =>
  oFieldAddr 0 t31 h14 fun t32 h15 =>
  oLd1 t32 h15 fun t33 h16 =>
  oBin .gtr t33 a1 h16 fun t35 h17 =>
  oIf t35
  (K (Value.int .i64 10) h17)
  (oNilCheck a0 h17 fun t38 h18 =>
  oFieldAddr 0 t38 h18 fun t39 h19 =>
  oSt 1 t39 a1 h19 fun _ h20 =>
  oNilCheck a0 h20 fun t41 h21 =>
  oFieldAddr 1 t41 h21 fun t42 h22 =>
  oLd1 t42 h22 fun t43 h23 =>
  oLdN 4 t7 h23 fun t47 h24 =>
  oBuild #[.int .i64 0, .int .u64 0, .int .i64 0, .int .i64 0, .int .u64 0, .int .i64 0] [(0, 1, a2), (1, 1, a1), (2, 4, t47)] h24 fun t48 h25 =>
  oMapUpdate (.int .i64) t43 a2 t48 h25 fun _ h26 =>
  (True) ∧
  K (Value.int .i64 0) h26))))
def E0_q24 (a0 a1 a2 a3 : Value) : List Value := [a0, a1, a2, a3, undef, undef, undef, undef, undef, undef, undef, undef, undef, undef, undef, undef, undef, undef, undef, undef, undef, undef, undef, undef, undef, undef, undef, undef, undef, undef, undef, undef, undef, undef, undef, undef, undef, undef, undef, undef, undef, undef, undef, undef, undef, undef, undef, undef, undef]
def X_q24 (Qv : Post) (a0 a1 a2 a3 : Value) (h : Hp) : Prop :=
  oBox a3 h fun t7 h1 =>
  oEq 1 false none a0 (Value.pointer none) h1 fun t12 h2 =>
  oIf t12
  ((qBlk 0 (qSeq (aw Try.prog O_q24 K_q24_0 Qv) Qv)) .ret (ul (E0_q24 a0 a1 a2 a3) [(7, t7), (8, (Value.int .i64 2)), (10, t12), (11, a0), (12, t12)]) h2)
  (C_q159 [a1] h2 fun t15 h3 =>
  oNot t15 h3 fun t16 h4 =>
  oGuard t16 false (fun K => K a2 h4) h4 fun t18 h5 =>
  oGuard t16 false (fun K => oBin .lss t18 (Value.int .i64 0) h5 K) h5 fun t19 h6 =>
  oPick t16 (Value.bool true) t19 h6 fun t20 h7 =>
  oGuard t20 false (fun K => K a2 h7) h7 fun t22 h8 =>
  oGuard t20 false (fun K => oBin .geq t22 (Value.int .i64 512) h8 K) h8 fun t23 h9 =>
  oPick t20 (Value.bool true) t23 h9 fun t24 h10 =>
  oIf t24
  ((qBlk 0 (qSeq (aw Try.prog O_q24 K_q24_0 Qv) Qv)) .ret (ul (E0_q24 a0 a1 a2 a3) [(7, t7), (8, (Value.int .i64 1)), (10, t12), (11, a0), (12, t12), (13, t24), (14, a1), (15, t15), (16, t16), (17, t16), (18, t18), (19, t19), (20, t20), (21, t20), (22, t22), (23, t23), (24, t24)]) h10)
  (oLdN 4 t7 h10 fun t25 h11 =>
  C_q147 [t25] h11 fun t26 h12 =>
  oBin .neq t26 (Value.int .i64 0) h12 fun t28 h13 =>
  oIf t28
  ((qSeq (aw Try.prog O_q24 K_q24_1 Qv) Qv) .ret (ul (E0_q24 a0 a1 a2 a3) [(7, t7), (8, t26), (9, t26), (10, t12), (11, a0), (12, t12), (13, t24), (14, a1), (15, t15), (16, t16), (17, t16), (18, t18), (19, t19), (20, t20), (21, t20), (22, t22), (23, t23), (24, t24), (25, t25), (26, t26), (27, t26), (28, t28), (29, t26)]) h13)
  (oNilCheck a0 h13 fun t31 h14 =>
  oFieldAddr 0 t31 h14 fun t32 h15 =>
  oLd1 t32 h15 fun t33 h16 =>
  oBin .gtr t33 a1 h16 fun t35 h17 =>
  oIf t35
  ((qSeq (aw Try.prog O_q24 K_q24_2 Qv) Qv) .ret (ul (E0_q24 a0 a1 a2 a3) [(7, t7), (8, (Value.int .i64 10)), (9, t26), (10, t12), (11, a0), (12, t12), (13, t24), (14, a1), (15, t15), (16, t16), (17, t16), (18, t18), (19, t19), (20, t20), (21, t20), (22, t22), (23, t23), (24, t24), (25, t25), (26, t26), (27, t26), (28, t28), (30, a0), (31, t31), (32, t32), (33, t33), (34, a1), (35, t35)]) h17)
  (oNilCheck a0 h17 fun t38 h18 =>
  oFieldAddr 0 t38 h18 fun t39 h19 =>
  oSt 1 t39 a1 h19 fun _ h20 =>
  oNilCheck a0 h20 fun t41 h21 =>
  oFieldAddr 1 t41 h21 fun t42 h22 =>
  oLd1 t42 h22 fun t43 h23 =>
  oLdN 4 t7 h23 fun t47 h24 =>
  oBuild #[.int .i64 0, .int .u64 0, .int .i64 0, .int .i64 0, .int .u64 0, .int .i64 0] [(0, 1, a2), (1, 1, a1), (2, 4, t47)] h24 fun t48 h25 =>
  oMapUpdate (.int .i64) t43 a2 t48 h25 fun _ h26 =>
  (True) ∧
  Qv .ret (ul (E0_q24 a0 a1 a2 a3) [(7, t7), (8, (Value.int .i64 0)), (9, t26), (10, t12), (11, a0), (12, t12), (13, t24), (14, a1), (15, t15), (16, t16), (17, t16), (18, t18), (19, t19), (20, t20), (21, t20), (22, t22), (23, t23), (24, t24), (25, t25), (26, t26), (27, t26), (28, t28), (30, a0), (31, t31), (32, t32), (33, t33), (34, a1), (35, t35), (36, a0), (37, a1), (38, t38), (39, t39), (40, a0), (41, t41), (42, t42), (43, t43), (44, a2), (45, a2), (46, a1), (47, t47), (48, t48)]) h26))))
theorem ga_q24 (Qv : Post) (a0 a1 a2 a3 : Value) (h : Hp) : aw Try.prog O_q24 (bodyC Try.f22) Qv (E0_q24 a0 a1 a2 a3) h = X_q24 Qv a0 a1 a2 a3 h := by kernel_rfl
theorem gb_q24 (a0 a1 a2 a3 : Value) (h : Hp) (K : Kont) : X_q24 (qTop Try.prog Try.f22 K) a0 a1 a2 a3 h = G_q24 a0 a1 a2 a3 h K := by kernel_rfl
theorem gc_q24 (a0 a1 a2 a3 : Value) (h : Hp) (K : Kont) : abody Try.prog O_q24 Try.f22 (bodyC Try.f22) [a0, a1, a2, a3] h K = aw Try.prog O_q24 (bodyC Try.f22) (qTop Try.prog Try.f22 K) (E0_q24 a0 a1 a2 a3) h := by kernel_rfl
theorem eq_q24 (a0 a1 a2 a3 : Value) (h : Hp) (K : Kont) : abody Try.prog O_q24 Try.f22 (bodyC Try.f22) [a0, a1, a2, a3] h K = G_q24 a0 a1 a2 a3 h K := (gc_q24 a0 a1 a2 a3 h K).trans ((ga_q24 _ a0 a1 a2 a3 h).trans (gb_q24 a0 a1 a2 a3 h K))
theorem ok_q24 {a0 a1 a2 a3 : Value} {h : Hp} {K : Kont} (hk : G_q24 a0 a1 a2 a3 h K) : C_q24 [a0, a1, a2, a3] h K := ac_of_body prog_mixed (fn := Try.f22) Try.func22 (c := bodyC Try.f22) (by kernel_rfl) ((eq_q24 a0 a1 a2 a3 h K).mpr hk)
def O_q131 : Od := []
noncomputable def K_q131_0 : Code := (cI (cB (cA (cB (cB (bodyC Try.f23))))))
noncomputable def K_q131_1 : Code := (cB (cB (cB (bodyC Try.f23))))
def Q_q131_0 (K : Kont) : Post := qSeq (aw Try.prog O_q131 K_q131_1 (qTop Try.prog Try.f23 K)) (qTop Try.prog Try.f23 K)
def Q_q131_1 (K : Kont) : Post := qBlk 0 (Q_q131_0 K)
def E_q131_1 (v3 v11 v12 v13 : Value) (d : Nat → Value) : List Value := [d 0, d 1, d 2, v3, d 4, d 5, d 6, d 7, d 8, d 9, d 10, v11, v12, v13, d 14, d 15, d 16, d 17, d 18, d 19, d 20, d 21, d 22, d 23, d 24, d 25, d 26, d 27, d 28, d 29, d 30, d 31, d 32, d 33, d 34, d 35, d 36, d 37, d 38, d 39, d 40, d 41, d 42, d 43, d 44, d 45, d 46, d 47, d 48, d 49, d 50, d 51, d 52, d 53]
def G_q131_1 (K : Kont) (v3 v11 v12 v13 : Value) (d : Nat → Value) (h : Hp) : Prop := aw Try.prog O_q131 K_q131_0 (Q_q131_1 K) (E_q131_1 v3 v11 v12 v13 d) h
def Q_q131_2 (K : Kont) (s0 : Self) : Post := qSeq s0 (Q_q131_1 K)
noncomputable def K_q131_2 : Code := (cI (cI (cB (cA (cB (cB (bodyC Try.f23)))))))
noncomputable def K_q131_3 : Code := (cI (cB (cB (cI (cA (cB (cB (cI (cI (cB (cA (cB (cB (bodyC Try.f23))))))))))))))
noncomputable def K_q131_4 : Code := (cB (cB (cB (cI (cI (cB (cA (cB (cB (bodyC Try.f23))))))))))
def Q_q131_3 (K : Kont) (s0 : Self) : Post := qSeq (aw Try.prog O_q131 K_q131_4 (Q_q131_2 K s0)) (Q_q131_2 K s0)
def Q_q131_4 (K : Kont) (s0 : Self) : Post := qBlk 1 (Q_q131_3 K s0)
def Q_q131_5 (K : Kont) (s0 : Self) : Post := qBlk 2 (Q_q131_4 K s0)
def E_q131_2 (v3 v11 v12 v13 v17 v18 v19 : Value) (d : Nat → Value) : List Value := [d 0, d 1, d 2, v3, d 4, d 5, d 6, d 7, d 8, d 9, d 10, v11, v12, v13, d 14, d 15, d 16, v17, v18, v19, d 20, d 21, d 22, d 23, d 24, d 25, d 26, d 27, d 28, d 29, d 30, d 31, d 32, d 33, d 34, d 35, d 36, d 37, d 38, d 39, d 40, d 41, d 42, d 43, d 44, d 45, d 46, d 47, d 48, d 49, d 50, d 51, d 52, d 53]
def G_q131_2 (K : Kont) (s0 : Self) (v3 v11 v12 v13 v17 v18 v19 : Value) (d : Nat → Value) (h : Hp) : Prop := aw Try.prog O_q131 K_q131_3 (Q_q131_5 K s0) (E_q131_2 v3 v11 v12 v13 v17 v18 v19 d) h
noncomputable def K_q131_5 : Code := (cB (cB (cI (cI (cB (cA (cB (cB (bodyC Try.f23)))))))))
def Q_q131_6 (K : Kont) (s0 : Self) (s1 : Self) : Post := qSeq s1 (Q_q131_5 K s0)
noncomputable def K_q131_6 : Code := (cI (cI (cB (cB (cI (cA (cB (cB (cI (cI (cB (cA (cB (cB (bodyC Try.f23)))))))))))))))
noncomputable def K_q131_7 : Code := (cB (cB (cB (cI (cI (cB (cB (cI (cA (cB (cB (cI (cI (cB (cA (cB (cB (bodyC Try.f23))))))))))))))))))
def E_q131_3 (v3 v11 v12 v13 v17 v18 v19 : Value) (d : Nat → Value) : List Value := [d 0, d 1, d 2, v3, d 4, d 5, d 6, d 7, d 8, d 9, d 10, v11, v12, v13, d 14, d 15, d 16, v17, v18, v19, d 20, d 21, d 22, d 23, d 24, d 25, d 26, d 27, d 28, d 29, d 30, d 31, d 32, d 33, d 34, d 35, d 36, d 37, d 38, d 39, d 40, d 41, d 42, d 43, d 44, d 45, d 46, d 47, d 48, d 49, d 50, d 51, d 52, d 53]
def G_q131_3 (K : Kont) (s0 : Self) (s1 : Self) (v3 v11 v12 v13 v17 v18 v19 : Value) (d : Nat → Value) (h : Hp) : Prop := aw Try.prog O_q131 K_q131_7 (Q_q131_6 K s0 s1) (E_q131_3 v3 v11 v12 v13 v17 v18 v19 d) h
noncomputable def K_q131_8 : Code := (cB (cB (cI (cI (cB (cB (cI (cA (cB (cB (cI (cI (cB (cA (cB (cB (bodyC Try.f23)))))))))))))))))
def G_q131 (a0 : Value) (h : Hp) (K : Kont) : Prop :=
  oMakeMap h fun t10 h1 =>
  oLen 0 a0 h1 fun t12 h2 =>
  G_q131_1 K t10 a0 t12 (Value.int .i64 0) (ud [(0, a0), (2, (Value.slice none 0 0)), (10, t10)] dz) h2
def E0_q131 (a0 : Value) : List Value := [a0, undef, undef, undef, undef, undef, undef, undef, undef, undef, undef, undef, undef, undef, undef, undef, undef, undef, undef, undef, undef, undef, undef, undef, undef, undef, undef, undef, undef, undef, undef, undef, undef, undef, undef, undef, undef, undef, undef, undef, undef, undef, undef, undef, undef, undef, undef, undef, undef, undef, undef, undef, undef, undef]
def X_q131 (Qv : Post) (a0 : Value) (h : Hp) : Prop :=
  oMakeMap h fun t10 h1 =>
  oLen 0 a0 h1 fun t12 h2 =>
  aw Try.prog O_q131 K_q131_0 (qBlk 0 (qSeq (aw Try.prog O_q131 K_q131_1 Qv) Qv)) (ul (E0_q131 a0) [(2, (Value.slice none 0 0)), (3, t10), (10, t10), (11, a0), (12, t12), (13, (Value.int .i64 0))]) h2
theorem ga_q131 (Qv : Post) (a0 : Value) (h : Hp) : aw Try.prog O_q131 (bodyC Try.f23) Qv (E0_q131 a0) h = X_q131 Qv a0 h := by kernel_rfl
theorem gb_q131 (a0 : Value) (h : Hp) (K : Kont) : X_q131 (qTop Try.prog Try.f23 K) a0 h = G_q131 a0 h K := by kernel_rfl
theorem gc_q131 (a0 : Value) (h : Hp) (K : Kont) : abody Try.prog O_q131 Try.f23 (bodyC Try.f23) [a0] h K = aw Try.prog O_q131 (bodyC Try.f23) (qTop Try.prog Try.f23 K) (E0_q131 a0) h := by kernel_rfl
theorem eq_q131 (a0 : Value) (h : Hp) (K : Kont) : abody Try.prog O_q131 Try.f23 (bodyC Try.f23) [a0] h K = G_q131 a0 h K := (gc_q131 a0 h K).trans ((ga_q131 _ a0 h).trans (gb_q131 a0 h K))
theorem ok_q131 {a0 : Value} {h : Hp} {K : Kont} (hk : G_q131 a0 h K) : C_q131 [a0] h K := ac_of_body prog_mixed (fn := Try.f23) Try.func23 (c := bodyC Try.f23) (by kernel_rfl) ((eq_q131 a0 h K).mpr hk)
def B_q131_1 (K : Kont) (s0 : Self) (v3 v11 v12 v13 : Value) (d : Nat → Value) (h : Hp) : Prop :=
  oBin .lss v13 v12 h fun t14 h1 =>
  oIf t14
  (oIdxS 1 v11 v13 h1 fun t15 h2 =>
  oLd1 t15 h2 fun t16 h3 =>
  oLen 0 t16 h3 fun t18 h4 =>
  G_q131_2 K s0 v3 v11 v12 v13 t16 t18 (Value.int .i64 0) (ud [(5, t16), (14, t14), (15, t15), (16, t16)] d) h4)
  (oLen 2 v3 h1 fun t46 h5 =>
  oBin .eql t46 (Value.int .i64 0) h5 fun t47 h6 =>
  oIf t47
  (K (Value.slice none 0 0) h6)
  (C_q6 [v3] h6 fun t50 h7 =>
  C_q51 [t50] h7 fun t51 h8 =>
  C_q42 [t51] h8 fun t52 h9 =>
  C_q101 [v3, t52] h9 fun t53 h10 =>
  K t53 h10))
def X_q131_1 (Qv : Post) (v3 v11 v12 v13 : Value) (d : Nat → Value) (h : Hp) : Prop :=
  oBin .lss v13 v12 h fun t14 h1 =>
  oIf t14
  (oIdxS 1 v11 v13 h1 fun t15 h2 =>
  oLd1 t15 h2 fun t16 h3 =>
  oLen 0 t16 h3 fun t18 h4 =>
  aw Try.prog O_q131 K_q131_3 (qBlk 2 (qBlk 1 (qSeq (aw Try.prog O_q131 K_q131_4 Qv) Qv))) (ul (E_q131_1 v3 v11 v12 v13 d) [(5, t16), (14, t14), (15, t15), (16, t16), (17, t16), (18, t18), (19, (Value.int .i64 0))]) h4)
  ((qSeq (aw Try.prog O_q131 K_q131_5 Qv) Qv) (.exit 0) (ul (E_q131_1 v3 v11 v12 v13 d) [(14, t14)]) h1)
theorem ga_q131_1 (Qv : Post) (v3 v11 v12 v13 : Value) (d : Nat → Value) (h : Hp) : aw Try.prog O_q131 K_q131_2 Qv (E_q131_1 v3 v11 v12 v13 d) h = X_q131_1 Qv v3 v11 v12 v13 d h := by kernel_rfl
theorem gb_q131_1 (K : Kont) (s0 : Self) (v3 v11 v12 v13 : Value) (d : Nat → Value) (h : Hp) : X_q131_1 (Q_q131_2 K s0) v3 v11 v12 v13 d h = B_q131_1 K s0 v3 v11 v12 v13 d h := by kernel_rfl
theorem beq_q131_1 (K : Kont) (s0 : Self) (v3 v11 v12 v13 : Value) (d : Nat → Value) (h : Hp) : aw Try.prog O_q131 K_q131_2 (Q_q131_2 K s0) (E_q131_1 v3 v11 v12 v13 d) h = B_q131_1 K s0 v3 v11 v12 v13 d h := (ga_q131_1 _ v3 v11 v12 v13 d h).trans (gb_q131_1 K s0 v3 v11 v12 v13 d h)
theorem rule_q131_1 {K : Kont} {v3 v11 v12 : Value} (Inv : Value → Hp → Prop) (μ : Value → Hp → Nat)
    (step : ∀ (s0 : Self) (v13 : Value) (d : Nat → Value) (h : Hp), Inv v13 h → (∀ (v13' : Value) (d' : Nat → Value) (h' : Hp), Inv v13' h' → μ v13' h' < μ v13 h → s0 (E_q131_1 v3 v11 v12 v13' d') h') → B_q131_1 K s0 v3 v11 v12 v13 d h) (v13 : Value) (d : Nat → Value) (h : Hp) (hi : Inv v13 h) : G_q131_1 K v3 v11 v12 v13 d h :=
  oLoop_rule (α := Value × (Nat → Value)) (fun x => E_q131_1 v3 v11 v12 x.1 x.2) (fun x h => Inv x.1 h) (fun x h => μ x.1 h)
    (fun self x h hx hs => (beq_q131_1 K self v3 v11 v12 x.1 x.2 h).mpr (step self x.1 x.2 h hx (fun v13' d' h' h1 h2 => hs ⟨v13', d'⟩ h' h1 h2))) ⟨v13, d⟩ h hi
def B_q131_2 (K : Kont) (s0 : Self) (s1 : Self) (v3 v11 v12 v13 v17 v18 v19 : Value) (d : Nat → Value) (h : Hp) : Prop :=
  oBin .lss v19 v18 h fun t20 h1 =>
  oIf t20
  (oIdxS 6 v17 v19 h1 fun t21 h2 =>
  oLdN 6 t21 h2 fun t22 h3 =>
  oAlloc #[.int .i64 0, .int .u64 0, .int .i64 0, .int .i64 0, .int .u64 0, .int .i64 0] h3 fun t7 h4 =>
  oSt 6 t7 t22 h4 fun _ h5 =>
  oFieldAddr 0 t7 h5 fun t25 h6 =>
  oLd1 t25 h6 fun t26 h7 =>
  oLookup (.int .i64) (.agg #[.int .i64 0, .int .u64 0, .int .i64 0, .int .i64 0, .int .u64 0, .int .i64 0]) v3 t26 true h7 fun t27 h8 =>
  oExtract t27 0 h8 fun t28 h9 =>
  oExtract t27 1 h9 fun t29 h10 =>
  oAlloc #[.int .i64 0, .int .u64 0, .int .i64 0, .int .i64 0, .int .u64 0, .int .i64 0] h10 fun t8 h11 =>
  oSt 6 t8 t28 h11 fun _ h12 =>
  oNot t29 h12 fun t31 h13 =>
  oGuard t31 false (fun K => oFieldAddr 1 t7 h13 K) h13 fun t33 h14 =>
  oGuard t31 false (fun K => oLd1 t33 h14 K) h14 fun t34 h15 =>
  oGuard t31 false (fun K => oFieldAddr 1 t8 h15 K) h15 fun t35 h16 =>
  oGuard t31 false (fun K => oLd1 t35 h16 K) h16 fun t36 h17 =>
  oGuard t31 false (fun K => oBin .gtr t34 t36 h17 K) h17 fun t37 h18 =>
  oPick t31 (Value.bool true) t37 h18 fun t38 h19 =>
  oIf t38
  (oFieldAddr 0 t7 h19 fun t40 h20 =>
  oLd1 t40 h20 fun t41 h21 =>
  oLdN 6 t7 h21 fun t42 h22 =>
  oMapUpdate (.int .i64) v3 t41 t42 h22 fun _ h23 =>
  G_q131_3 K s0 s1 v3 v11 v12 v13 v17 v18 v19 (ud [(7, t7), (8, t8), (9, t29), (20, t20), (21, t21), (22, t22), (23, t27), (24, v3), (25, t25), (26, t26), (27, t27), (28, t28), (29, t29), (30, t29), (31, t31), (32, t31), (33, t33), (34, t34), (35, t35), (36, t36), (37, t37), (38, t38), (39, v3), (40, t40), (41, t41), (42, t42)] d) h23)
  (G_q131_3 K s0 s1 v3 v11 v12 v13 v17 v18 v19 (ud [(7, t7), (8, t8), (9, t29), (20, t20), (21, t21), (22, t22), (23, t27), (24, v3), (25, t25), (26, t26), (27, t27), (28, t28), (29, t29), (30, t29), (31, t31), (32, t31), (33, t33), (34, t34), (35, t35), (36, t36), (37, t37), (38, t38)] d) h19))
  (oBin .add v13 (Value.int .i64 1) h1 fun t44 h24 =>
  s0 (E_q131_1 v3 v11 v12 t44 (ud [(17, v17), (18, v18), (19, v19), (20, t20), (44, t44)] d)) h24)
def X_q131_2 (Qv : Post) (v3 v11 v12 v13 v17 v18 v19 : Value) (d : Nat → Value) (h : Hp) : Prop :=
  oBin .lss v19 v18 h fun t20 h1 =>
  oIf t20
  (oIdxS 6 v17 v19 h1 fun t21 h2 =>
  oLdN 6 t21 h2 fun t22 h3 =>
  oAlloc #[.int .i64 0, .int .u64 0, .int .i64 0, .int .i64 0, .int .u64 0, .int .i64 0] h3 fun t7 h4 =>
  oSt 6 t7 t22 h4 fun _ h5 =>
  oFieldAddr 0 t7 h5 fun t25 h6 =>
  oLd1 t25 h6 fun t26 h7 =>
  oLookup (.int .i64) (.agg #[.int .i64 0, .int .u64 0, .int .i64 0, .int .i64 0, .int .u64 0, .int .i64 0]) v3 t26 true h7 fun t27 h8 =>
  oExtract t27 0 h8 fun t28 h9 =>
  oExtract t27 1 h9 fun t29 h10 =>
  oAlloc #[.int .i64 0, .int .u64 0, .int .i64 0, .int .i64 0, .int .u64 0, .int .i64 0] h10 fun t8 h11 =>
  oSt 6 t8 t28 h11 fun _ h12 =>
  oNot t29 h12 fun t31 h13 =>
  oGuard t31 false (fun K => oFieldAddr 1 t7 h13 K) h13 fun t33 h14 =>
  oGuard t31 false (fun K => oLd1 t33 h14 K) h14 fun t34 h15 =>
  oGuard t31 false (fun K => oFieldAddr 1 t8 h15 K) h15 fun t35 h16 =>
  oGuard t31 false (fun K => oLd1 t35 h16 K) h16 fun t36 h17 =>
  oGuard t31 false (fun K => oBin .gtr t34 t36 h17 K) h17 fun t37 h18 =>
  oPick t31 (Value.bool true) t37 h18 fun t38 h19 =>
  oIf t38
  (oFieldAddr 0 t7 h19 fun t40 h20 =>
  oLd1 t40 h20 fun t41 h21 =>
  oLdN 6 t7 h21 fun t42 h22 =>
  oMapUpdate (.int .i64) v3 t41 t42 h22 fun _ h23 =>
  (qBlk 3 (qSeq (aw Try.prog O_q131 K_q131_7 Qv) Qv)) .normal (ul (E_q131_2 v3 v11 v12 v13 v17 v18 v19 d) [(7, t7), (8, t8), (9, t29), (20, t20), (21, t21), (22, t22), (23, t27), (24, v3), (25, t25), (26, t26), (27, t27), (28, t28), (29, t29), (30, t29), (31, t31), (32, t31), (33, t33), (34, t34), (35, t35), (36, t36), (37, t37), (38, t38), (39, v3), (40, t40), (41, t41), (42, t42)]) h23)
  ((qBlk 3 (qSeq (aw Try.prog O_q131 K_q131_7 Qv) Qv)) .normal (ul (E_q131_2 v3 v11 v12 v13 v17 v18 v19 d) [(7, t7), (8, t8), (9, t29), (20, t20), (21, t21), (22, t22), (23, t27), (24, v3), (25, t25), (26, t26), (27, t27), (28, t28), (29, t29), (30, t29), (31, t31), (32, t31), (33, t33), (34, t34), (35, t35), (36, t36), (37, t37), (38, t38)]) h19))
  ((qSeq (aw Try.prog O_q131 K_q131_8 Qv) Qv) (.exit 2) (ul (E_q131_2 v3 v11 v12 v13 v17 v18 v19 d) [(20, t20)]) h1)
theorem ga_q131_2 (Qv : Post) (v3 v11 v12 v13 v17 v18 v19 : Value) (d : Nat → Value) (h : Hp) : aw Try.prog O_q131 K_q131_6 Qv (E_q131_2 v3 v11 v12 v13 v17 v18 v19 d) h = X_q131_2 Qv v3 v11 v12 v13 v17 v18 v19 d h := by kernel_rfl
theorem gb_q131_2 (K : Kont) (s0 : Self) (s1 : Self) (v3 v11 v12 v13 v17 v18 v19 : Value) (d : Nat → Value) (h : Hp) : X_q131_2 (Q_q131_6 K s0 s1) v3 v11 v12 v13 v17 v18 v19 d h = B_q131_2 K s0 s1 v3 v11 v12 v13 v17 v18 v19 d h := by kernel_rfl
theorem beq_q131_2 (K : Kont) (s0 : Self) (s1 : Self) (v3 v11 v12 v13 v17 v18 v19 : Value) (d : Nat → Value) (h : Hp) : aw Try.prog O_q131 K_q131_6 (Q_q131_6 K s0 s1) (E_q131_2 v3 v11 v12 v13 v17 v18 v19 d) h = B_q131_2 K s0 s1 v3 v11 v12 v13 v17 v18 v19 d h := (ga_q131_2 _ v3 v11 v12 v13 v17 v18 v19 d h).trans (gb_q131_2 K s0 s1 v3 v11 v12 v13 v17 v18 v19 d h)
theorem rule_q131_2 {K : Kont} {s0 : Self} {v3 v11 v12 v13 v17 v18 : Value} (Inv : Value → Hp → Prop) (μ : Value → Hp → Nat)
    (step : ∀ (s1 : Self) (v19 : Value) (d : Nat → Value) (h : Hp), Inv v19 h → (∀ (v19' : Value) (d' : Nat → Value) (h' : Hp), Inv v19' h' → μ v19' h' < μ v19 h → s1 (E_q131_2 v3 v11 v12 v13 v17 v18 v19' d') h') → B_q131_2 K s0 s1 v3 v11 v12 v13 v17 v18 v19 d h) (v19 : Value) (d : Nat → Value) (h : Hp) (hi : Inv v19 h) : G_q131_2 K s0 v3 v11 v12 v13 v17 v18 v19 d h :=
  oLoop_rule (α := Value × (Nat → Value)) (fun x => E_q131_2 v3 v11 v12 v13 v17 v18 x.1 x.2) (fun x h => Inv x.1 h) (fun x h => μ x.1 h)
    (fun self x h hx hs => (beq_q131_2 K s0 self v3 v11 v12 v13 v17 v18 x.1 x.2 h).mpr (step self x.1 x.2 h hx (fun v19' d' h' h1 h2 => hs ⟨v19', d'⟩ h' h1 h2))) ⟨v19, d⟩ h hi
def R_q131_3 (K : Kont) (s0 : Self) (s1 : Self) (v3 v11 v12 v13 v17 v18 v19 : Value) (d : Nat → Value) (h : Hp) : Prop :=
  oBin .add v19 (Value.int .i64 1) h fun t43 h1 =>
  s1 (E_q131_2 v3 v11 v12 v13 v17 v18 t43 (ud [(43, t43)] d)) h1
def X_q131_3 (Qv : Post) (v3 v11 v12 v13 v17 v18 v19 : Value) (d : Nat → Value) (h : Hp) : Prop :=
  oBin .add v19 (Value.int .i64 1) h fun t43 h1 =>
  Qv .normal (ul (E_q131_3 v3 v11 v12 v13 v17 v18 v19 d) [(19, t43), (43, t43)]) h1
theorem ga_q131_3 (Qv : Post) (v3 v11 v12 v13 v17 v18 v19 : Value) (d : Nat → Value) (h : Hp) : aw Try.prog O_q131 K_q131_7 Qv (E_q131_3 v3 v11 v12 v13 v17 v18 v19 d) h = X_q131_3 Qv v3 v11 v12 v13 v17 v18 v19 d h := by kernel_rfl
theorem gb_q131_3 (K : Kont) (s0 : Self) (s1 : Self) (v3 v11 v12 v13 v17 v18 v19 : Value) (d : Nat → Value) (h : Hp) : X_q131_3 (Q_q131_6 K s0 s1) v3 v11 v12 v13 v17 v18 v19 d h = R_q131_3 K s0 s1 v3 v11 v12 v13 v17 v18 v19 d h := by kernel_rfl
theorem req_q131_3 (K : Kont) (s0 : Self) (s1 : Self) (v3 v11 v12 v13 v17 v18 v19 : Value) (d : Nat → Value) (h : Hp) : G_q131_3 K s0 s1 v3 v11 v12 v13 v17 v18 v19 d h = R_q131_3 K s0 s1 v3 v11 v12 v13 v17 v18 v19 d h := (ga_q131_3 _ v3 v11 v12 v13 v17 v18 v19 d h).trans (gb_q131_3 K s0 s1 v3 v11 v12 v13 v17 v18 v19 d h)
def O_q162 : Od := []
def G_q162 (h : Hp) (K : Kont) : Prop :=
  C_q171 [(Value.int .i64 2), (Value.int .i64 3)] h fun t10 h1 =>
  oExtract t10 0 h1 fun t11 h2 =>
  oExtract t10 1 h2 fun t12 h3 =>
  C_q82 [t11, (Value.int .u64 0), (Value.int .i64 0)] h3 fun t15 h4 =>
  oExtract t15 0 h4 fun t16 h5 =>
  oExtract t15 1 h5 fun t17 h6 =>
  C_q57 [t11, t16, (Value.int .i64 2), (Value.slice none 0 0)] h6 fun t21 h7 =>
  oExtract t21 0 h7 fun t22 h8 =>
  oExtract t21 1 h8 fun t23 h9 =>
  C_q57 [t11, t16, (Value.int .i64 3), (Value.slice none 0 0)] h9 fun t27 h10 =>
  oExtract t27 0 h10 fun t28 h11 =>
  oExtract t27 1 h11 fun t29 h12 =>
  oBin .eql t12 (Value.int .i64 0) h12 fun t31 h13 =>
  oGuard t31 true (fun K => K t17 h13) h13 fun t33 h14 =>
  oGuard t31 true (fun K => oBin .eql t33 (Value.int .i64 0) h14 K) h14 fun t34 h15 =>
  oPick t31 t34 (Value.bool false) h15 fun t35 h16 =>
  oGuard t35 true (fun K => K t16 h16) h16 fun t37 h17 =>
  oGuard t35 true (fun K => oBin .eql t37 (Value.int .u64 10) h17 K) h17 fun t38 h18 =>
  oPick t35 t38 (Value.bool false) h18 fun t39 h19 =>
  oGuard t39 true (fun K => K t23 h19) h19 fun t41 h20 =>
  oGuard t39 true (fun K => oNot t41 h20 K) h20 fun t42 h21 =>
  oPick t39 t42 (Value.bool false) h21 fun t43 h22 =>
  oGuard t43 true (fun K => K t29 h22) h22 fun t45 h23 =>
  oPick t43 t45 (Value.bool false) h23 fun t46 h24 =>
  oGuard t46 true (fun K => K t11 h24) h24 fun t48 h25 =>
  oGuard t46 true (fun K => C_q83 [t48] h25 K) h25 fun t49 h26 =>
  oGuard t46 true (fun K => oBin .eql t49 (Value.int .i64 2) h26 K) h26 fun t50 h27 =>
  oPick t46 t50 (Value.bool false) h27 fun t51 h28 =>
  K t51 h28
def E0_q162 : List Value := [undef, undef, undef, undef, undef, undef, undef, undef, undef, undef, undef, undef, undef, undef, undef, undef, undef, undef, undef, undef, undef, undef, undef, undef, undef, undef, undef, undef, undef, undef, undef, undef, undef, undef, undef, undef, undef, undef, undef, undef, undef, undef, undef, undef, undef, undef, undef, undef, undef, undef, undef, undef]
def X_q162 (Qv : Post) (h : Hp) : Prop :=
  C_q171 [(Value.int .i64 2), (Value.int .i64 3)] h fun t10 h1 =>
  oExtract t10 0 h1 fun t11 h2 =>
  oExtract t10 1 h2 fun t12 h3 =>
  C_q82 [t11, (Value.int .u64 0), (Value.int .i64 0)] h3 fun t15 h4 =>
  oExtract t15 0 h4 fun t16 h5 =>
  oExtract t15 1 h5 fun t17 h6 =>
  C_q57 [t11, t16, (Value.int .i64 2), (Value.slice none 0 0)] h6 fun t21 h7 =>
  oExtract t21 0 h7 fun t22 h8 =>
  oExtract t21 1 h8 fun t23 h9 =>
  C_q57 [t11, t16, (Value.int .i64 3), (Value.slice none 0 0)] h9 fun t27 h10 =>
  oExtract t27 0 h10 fun t28 h11 =>
  oExtract t27 1 h11 fun t29 h12 =>
  oBin .eql t12 (Value.int .i64 0) h12 fun t31 h13 =>
  oGuard t31 true (fun K => K t17 h13) h13 fun t33 h14 =>
  oGuard t31 true (fun K => oBin .eql t33 (Value.int .i64 0) h14 K) h14 fun t34 h15 =>
  oPick t31 t34 (Value.bool false) h15 fun t35 h16 =>
  oGuard t35 true (fun K => K t16 h16) h16 fun t37 h17 =>
  oGuard t35 true (fun K => oBin .eql t37 (Value.int .u64 10) h17 K) h17 fun t38 h18 =>
  oPick t35 t38 (Value.bool false) h18 fun t39 h19 =>
  oGuard t39 true (fun K => K t23 h19) h19 fun t41 h20 =>
  oGuard t39 true (fun K => oNot t41 h20 K) h20 fun t42 h21 =>
  oPick t39 t42 (Value.bool false) h21 fun t43 h22 =>
  oGuard t43 true (fun K => K t29 h22) h22 fun t45 h23 =>
  oPick t43 t45 (Value.bool false) h23 fun t46 h24 =>
  oGuard t46 true (fun K => K t11 h24) h24 fun t48 h25 =>
  oGuard t46 true (fun K => C_q83 [t48] h25 K) h25 fun t49 h26 =>
  oGuard t46 true (fun K => oBin .eql t49 (Value.int .i64 2) h26 K) h26 fun t50 h27 =>
  oPick t46 t50 (Value.bool false) h27 fun t51 h28 =>
  Qv .ret (ul (E0_q162) [(0, t51), (1, t11), (2, t12), (3, t16), (4, t17), (5, t22), (6, t23), (7, t28), (8, t29), (9, t10), (10, t10), (11, t11), (12, t12), (13, t15), (14, t11), (15, t15), (16, t16), (17, t17), (18, t21), (19, t11), (20, t16), (21, t21), (22, t22), (23, t23), (24, t27), (25, t11), (26, t16), (27, t27), (28, t28), (29, t29), (30, t12), (31, t31), (32, t31), (33, t33), (34, t34), (35, t35), (36, t35), (37, t37), (38, t38), (39, t39), (40, t39), (41, t41), (42, t42), (43, t43), (44, t43), (45, t45), (46, t46), (47, t46), (48, t48), (49, t49), (50, t50), (51, t51)]) h28
theorem ga_q162 (Qv : Post) (h : Hp) : aw Try.prog O_q162 (bodyC Try.f26) Qv (E0_q162) h = X_q162 Qv  h := by kernel_rfl
theorem gb_q162 (h : Hp) (K : Kont) : X_q162 (qTop Try.prog Try.f26 K)  h = G_q162  h K := by kernel_rfl
theorem gc_q162 (h : Hp) (K : Kont) : abody Try.prog O_q162 Try.f26 (bodyC Try.f26) [] h K = aw Try.prog O_q162 (bodyC Try.f26) (qTop Try.prog Try.f26 K) (E0_q162) h := by kernel_rfl
theorem eq_q162 (h : Hp) (K : Kont) : abody Try.prog O_q162 Try.f26 (bodyC Try.f26) [] h K = G_q162  h K := (gc_q162  h K).trans ((ga_q162 _  h).trans (gb_q162  h K))
theorem ok_q162 {h : Hp} {K : Kont} (hk : G_q162  h K) : C_q162 [] h K := ac_of_body prog_mixed (fn := Try.f26) Try.func26 (c := bodyC Try.f26) (by kernel_rfl) ((eq_q162  h K).mpr hk)
def O_q171 : Od := []
noncomputable def K_q171_0 : Code := (cB (cB (bodyC Try.f27)))
def G_q171 (a0 a1 : Value) (h : Hp) (K : Kont) : Prop :=
  oBin .lss a1 (Value.int .i64 1) h fun t7 h1 =>
  oGuard t7 false (fun K => K a1 h1) h1 fun t9 h2 =>
  oGuard t7 false (fun K => oBin .gtr t9 (Value.int .i64 5) h2 K) h2 fun t10 h3 =>
  oPick t7 (Value.bool true) t10 h3 fun t11 h4 =>
  oGuard t11 false (fun K => K a0 h4) h4 fun t13 h5 =>
  oGuard t11 false (fun K => oBin .lss t13 (Value.int .i64 1) h5 K) h5 fun t14 h6 =>
  oPick t11 (Value.bool true) t14 h6 fun t15 h7 =>
  oGuard t15 false (fun K => K a0 h7) h7 fun t17 h8 =>
  oGuard t15 false (fun K => K a1 h8) h8 fun t18 h9 =>
  oGuard t15 false (fun K => oBin .gtr t17 t18 h9 K) h9 fun t19 h10 =>
  oPick t15 (Value.bool true) t19 h10 fun t20 h11 =>
  oIf t20
  (K (.tuple #[(Value.pointer none), (Value.int .i64 1)]) h11)
  (oBuild #[.int .i64 0, .int .i64 0, .int .i64 0, .int .u64 0, .int .i64 0, .int .i64 0, .map none, .map none] [(0, 1, a0), (1, 1, a1)] h11 fun t23 h12 =>
  oBox t23 h12 fun t24 h13 =>
  K (.tuple #[t24, (Value.int .i64 0)]) h13)
def E0_q171 (a0 a1 : Value) : List Value := [a0, a1, undef, undef, undef, undef, undef, undef, undef, undef, undef, undef, undef, undef, undef, undef, undef, undef, undef, undef, undef, undef, undef, undef, undef]
def X_q171 (Qv : Post) (a0 a1 : Value) (h : Hp) : Prop :=
  oBin .lss a1 (Value.int .i64 1) h fun t7 h1 =>
  oGuard t7 false (fun K => K a1 h1) h1 fun t9 h2 =>
  oGuard t7 false (fun K => oBin .gtr t9 (Value.int .i64 5) h2 K) h2 fun t10 h3 =>
  oPick t7 (Value.bool true) t10 h3 fun t11 h4 =>
  oGuard t11 false (fun K => K a0 h4) h4 fun t13 h5 =>
  oGuard t11 false (fun K => oBin .lss t13 (Value.int .i64 1) h5 K) h5 fun t14 h6 =>
  oPick t11 (Value.bool true) t14 h6 fun t15 h7 =>
  oGuard t15 false (fun K => K a0 h7) h7 fun t17 h8 =>
  oGuard t15 false (fun K => K a1 h8) h8 fun t18 h9 =>
  oGuard t15 false (fun K => oBin .gtr t17 t18 h9 K) h9 fun t19 h10 =>
  oPick t15 (Value.bool true) t19 h10 fun t20 h11 =>
  oIf t20
  ((qSeq (aw Try.prog O_q171 K_q171_0 Qv) Qv) .ret (ul (E0_q171 a0 a1) [(4, (Value.pointer none)), (5, (Value.int .i64 1)), (6, a1), (7, t7), (8, t7), (9, t9), (10, t10), (11, t11), (12, t11), (13, t13), (14, t14), (15, t15), (16, t15), (17, t17), (18, t18), (19, t19), (20, t20)]) h11)
  (oBuild #[.int .i64 0, .int .i64 0, .int .i64 0, .int .u64 0, .int .i64 0, .int .i64 0, .map none, .map none] [(0, 1, a0), (1, 1, a1)] h11 fun t23 h12 =>
  oBox t23 h12 fun t24 h13 =>
  Qv .ret (ul (E0_q171 a0 a1) [(4, t24), (5, (Value.int .i64 0)), (6, a1), (7, t7), (8, t7), (9, t9), (10, t10), (11, t11), (12, t11), (13, t13), (14, t14), (15, t15), (16, t15), (17, t17), (18, t18), (19, t19), (20, t20), (21, a0), (22, a1), (23, t23), (24, t24)]) h13)
theorem ga_q171 (Qv : Post) (a0 a1 : Value) (h : Hp) : aw Try.prog O_q171 (bodyC Try.f27) Qv (E0_q171 a0 a1) h = X_q171 Qv a0 a1 h := by kernel_rfl
theorem gb_q171 (a0 a1 : Value) (h : Hp) (K : Kont) : X_q171 (qTop Try.prog Try.f27 K) a0 a1 h = G_q171 a0 a1 h K := by kernel_rfl
theorem gc_q171 (a0 a1 : Value) (h : Hp) (K : Kont) : abody Try.prog O_q171 Try.f27 (bodyC Try.f27) [a0, a1] h K = aw Try.prog O_q171 (bodyC Try.f27) (qTop Try.prog Try.f27 K) (E0_q171 a0 a1) h := by kernel_rfl
theorem eq_q171 (a0 a1 : Value) (h : Hp) (K : Kont) : abody Try.prog O_q171 Try.f27 (bodyC Try.f27) [a0, a1] h K = G_q171 a0 a1 h K := (gc_q171 a0 a1 h K).trans ((ga_q171 _ a0 a1 h).trans (gb_q171 a0 a1 h K))
theorem ok_q171 {a0 a1 : Value} {h : Hp} {K : Kont} (hk : G_q171 a0 a1 h K) : C_q171 [a0, a1] h K := ac_of_body prog_mixed (fn := Try.f27) Try.func27 (c := bodyC Try.f27) (by kernel_rfl) ((eq_q171 a0 a1 h K).mpr hk)
end Go.Proofs.Ytdolepapmpcpiaa

namespace Go.Proofs.Ytdolepapmpcpiaa
open Go
set_option linter.unusedSectionVars false
variable [Base]
set_option linter.unusedVariables false
set_option maxRecDepth 100000
def O_q82 : Od := [(5, (.one 0 true (.one 1 true (.one 2 true (.one 3 true (.one 4 true (.one 6 true (.one 7 true (.one 8 true (.one 9 true (.one 5 false (.one 10 false (.one 11 true (.one 12 true (.one 13 true (.one 14 true (.one 15 true .nil)))))))))))))))))]
noncomputable def K_q82_0 : Code := (cB (cB (bodyC Try.f28)))
noncomputable def K_q82_1 : Code := (cB (cB (cB (cB (bodyC Try.f28)))))
def G_q82 (a0 a1 a2 : Value) (h : Hp) (K : Kont) : Prop :=
  oEq 1 false none a0 (Value.pointer none) h fun t12 h1 =>
  oIf t12
  (K (.tuple #[(Value.int .u64 0), (Value.int .i64 2)]) h1)
  (oBin .lss a2 (Value.int .i64 0) h1 fun t15 h2 =>
  oGuard t15 false (fun K => K a2 h2) h2 fun t17 h3 =>
  oGuard t15 false (fun K => oBin .gtr t17 (Value.int .i64 512) h3 K) h3 fun t18 h4 =>
  oPick t15 (Value.bool true) t18 h4 fun t19 h5 =>
  oIf t19
  (K (.tuple #[(Value.int .u64 0), (Value.int .i64 1)]) h5)
  (oNilCheck a0 h5 fun t23 h6 =>
  oFieldAddr 3 t23 h6 fun t24 h7 =>
  oLd1 t24 h7 fun t25 h8 =>
  oNilCheck a0 h8 fun t28 h9 =>
  oFieldAddr 0 t28 h9 fun t29 h10 =>
  oLd1 t29 h10 fun t30 h11 =>
  oMinMax true [a1, t25] h11 fun t26 h12 =>
  ((oLd1 t29 h11 (fun v' _ => v' = t30) → oLd1 t29 h12 (fun v' _ => v' = t30)) ∧ True) ∧
  C_q132 [t26, t30] h12 fun t31 h13 =>
  ((oLd1 t24 h12 (fun v' _ => v' = t25) → oLd1 t24 h13 (fun v' _ => v' = t25)) ∧ True) ∧
  oExtract t31 0 h13 fun t32 h14 =>
  oExtract t31 1 h14 fun t33 h15 =>
  oBin .neq t33 (Value.int .i64 0) h15 fun t35 h16 =>
  oIf t35
  (K (.tuple #[(Value.int .u64 0), t33]) h16)
  (oNilCheck a0 h16 fun t44 h17 =>
  oFieldAddr 2 t44 h17 fun t45 h18 =>
  oSt 1 t45 (Value.int .i64 1) h18 fun _ h19 =>
  oNilCheck a0 h19 fun t46 h20 =>
  oFieldAddr 3 t46 h20 fun t47 h21 =>
  oSt 1 t47 t32 h21 fun _ h22 =>
  oNilCheck a0 h22 fun t48 h23 =>
  oFieldAddr 4 t48 h23 fun t49 h24 =>
  oSt 1 t49 a2 h24 fun _ h25 =>
  oNilCheck a0 h25 fun t50 h26 =>
  oFieldAddr 5 t50 h26 fun t51 h27 =>
  oSt 1 t51 a2 h27 fun _ h28 =>
  oMakeMap h28 fun t54 h29 =>
  oMakeMap h29 fun t55 h30 =>
  oNilCheck a0 h30 fun t56 h31 =>
  oFieldAddr 6 t56 h31 fun t57 h32 =>
  oSt 1 t57 t54 h32 fun _ h33 =>
  oNilCheck a0 h33 fun t58 h34 =>
  oFieldAddr 7 t58 h34 fun t59 h35 =>
  oSt 1 t59 t55 h35 fun _ h36 =>
  K (.tuple #[t32, (Value.int .i64 0)]) h36)))
def E0_q82 (a0 a1 a2 : Value) : List Value := [a0, a1, a2, undef, undef, undef, undef, undef, undef, undef, undef, undef, undef, undef, undef, undef, undef, undef, undef, undef, undef, undef, undef, undef, undef, undef, undef, undef, undef, undef, undef, undef, undef, undef, undef, undef, undef, undef, undef, undef, undef, undef, undef, undef, undef, undef, undef, undef, undef, undef, undef, undef, undef, undef, undef, undef, undef, undef, undef, undef, undef]
def X_q82 (Qv : Post) (a0 a1 a2 : Value) (h : Hp) : Prop :=
  oEq 1 false none a0 (Value.pointer none) h fun t12 h1 =>
  oIf t12
  ((qBlk 0 (qSeq (aw Try.prog O_q82 K_q82_0 Qv) Qv)) .ret (ul (E0_q82 a0 a1 a2) [(6, (Value.int .u64 0)), (7, (Value.int .i64 2)), (10, t12), (11, a0), (12, t12)]) h1)
  (oBin .lss a2 (Value.int .i64 0) h1 fun t15 h2 =>
  oGuard t15 false (fun K => K a2 h2) h2 fun t17 h3 =>
  oGuard t15 false (fun K => oBin .gtr t17 (Value.int .i64 512) h3 K) h3 fun t18 h4 =>
  oPick t15 (Value.bool true) t18 h4 fun t19 h5 =>
  oIf t19
  ((qBlk 0 (qSeq (aw Try.prog O_q82 K_q82_0 Qv) Qv)) .ret (ul (E0_q82 a0 a1 a2) [(6, (Value.int .u64 0)), (7, (Value.int .i64 1)), (10, t12), (11, a0), (12, t12), (13, t19), (14, a2), (15, t15), (16, t15), (17, t17), (18, t18), (19, t19)]) h5)
  (oNilCheck a0 h5 fun t23 h6 =>
  oFieldAddr 3 t23 h6 fun t24 h7 =>
  oLd1 t24 h7 fun t25 h8 =>
  oNilCheck a0 h8 fun t28 h9 =>
  oFieldAddr 0 t28 h9 fun t29 h10 =>
  oLd1 t29 h10 fun t30 h11 =>
  oMinMax true [a1, t25] h11 fun t26 h12 =>
  ((oLd1 t29 h11 (fun v' _ => v' = t30) → oLd1 t29 h12 (fun v' _ => v' = t30)) ∧ True) ∧
  C_q132 [t26, t30] h12 fun t31 h13 =>
  ((oLd1 t24 h12 (fun v' _ => v' = t25) → oLd1 t24 h13 (fun v' _ => v' = t25)) ∧ True) ∧
  oExtract t31 0 h13 fun t32 h14 =>
  oExtract t31 1 h14 fun t33 h15 =>
  oBin .neq t33 (Value.int .i64 0) h15 fun t35 h16 =>
  oIf t35
  ((qSeq (aw Try.prog O_q82 K_q82_1 Qv) Qv) .ret (ul (E0_q82 a0 a1 a2) [(6, (Value.int .u64 0)), (7, t33), (8, t32), (9, t33), (10, t12), (11, a0), (12, t12), (13, t19), (14, a2), (15, t15), (16, t15), (17, t17), (18, t18), (19, t19), (20, t31), (21, a1), (22, a0), (23, t23), (24, t24), (25, t25), (26, t26), (27, a0), (28, t28), (29, t29), (30, t30), (31, t31), (32, t32), (33, t33), (34, t33), (35, t35), (36, t33)]) h16)
  (oNilCheck a0 h16 fun t44 h17 =>
  oFieldAddr 2 t44 h17 fun t45 h18 =>
  oSt 1 t45 (Value.int .i64 1) h18 fun _ h19 =>
  oNilCheck a0 h19 fun t46 h20 =>
  oFieldAddr 3 t46 h20 fun t47 h21 =>
  oSt 1 t47 t32 h21 fun _ h22 =>
  oNilCheck a0 h22 fun t48 h23 =>
  oFieldAddr 4 t48 h23 fun t49 h24 =>
  oSt 1 t49 a2 h24 fun _ h25 =>
  oNilCheck a0 h25 fun t50 h26 =>
  oFieldAddr 5 t50 h26 fun t51 h27 =>
  oSt 1 t51 a2 h27 fun _ h28 =>
  oMakeMap h28 fun t54 h29 =>
  oMakeMap h29 fun t55 h30 =>
  oNilCheck a0 h30 fun t56 h31 =>
  oFieldAddr 6 t56 h31 fun t57 h32 =>
  oSt 1 t57 t54 h32 fun _ h33 =>
  oNilCheck a0 h33 fun t58 h34 =>
  oFieldAddr 7 t58 h34 fun t59 h35 =>
  oSt 1 t59 t55 h35 fun _ h36 =>
  Qv .ret (ul (E0_q82 a0 a1 a2) [(6, t32), (7, (Value.int .i64 0)), (8, t32), (9, t33), (10, t12), (11, a0), (12, t12), (13, t19), (14, a2), (15, t15), (16, t15), (17, t17), (18, t18), (19, t19), (20, t31), (21, a1), (22, a0), (23, t23), (24, t24), (25, t25), (26, t26), (27, a0), (28, t28), (29, t29), (30, t30), (31, t31), (32, t32), (33, t33), (34, t33), (35, t35), (37, a0), (38, a0), (39, a0), (40, a0), (41, t32), (42, a2), (43, a2), (44, t44), (45, t45), (46, t46), (47, t47), (48, t48), (49, t49), (50, t50), (51, t51), (52, a0), (53, a0), (54, t54), (55, t55), (56, t56), (57, t57), (58, t58), (59, t59), (60, t32)]) h36)))
theorem ga_q82 (Qv : Post) (a0 a1 a2 : Value) (h : Hp) : aw Try.prog O_q82 (bodyC Try.f28) Qv (E0_q82 a0 a1 a2) h = X_q82 Qv a0 a1 a2 h := by kernel_rfl
theorem gb_q82 (a0 a1 a2 : Value) (h : Hp) (K : Kont) : X_q82 (qTop Try.prog Try.f28 K) a0 a1 a2 h = G_q82 a0 a1 a2 h K := by kernel_rfl
theorem gc_q82 (a0 a1 a2 : Value) (h : Hp) (K : Kont) : abody Try.prog O_q82 Try.f28 (bodyC Try.f28) [a0, a1, a2] h K = aw Try.prog O_q82 (bodyC Try.f28) (qTop Try.prog Try.f28 K) (E0_q82 a0 a1 a2) h := by kernel_rfl
theorem eq_q82 (a0 a1 a2 : Value) (h : Hp) (K : Kont) : abody Try.prog O_q82 Try.f28 (bodyC Try.f28) [a0, a1, a2] h K = G_q82 a0 a1 a2 h K := (gc_q82 a0 a1 a2 h K).trans ((ga_q82 _ a0 a1 a2 h).trans (gb_q82 a0 a1 a2 h K))
theorem ok_q82 {a0 a1 a2 : Value} {h : Hp} {K : Kont} (hk : G_q82 a0 a1 a2 h K) : C_q82 [a0, a1, a2] h K := ac_of_body prog_mixed (fn := Try.f28) Try.func28 (c := bodyC Try.f28) (by kernel_rfl) ((eq_q82 a0 a1 a2 h K).mpr hk)
def O_q57 : Od := [(5, (.one 0 true (.one 1 true (.one 2 true (.one 3 true (.one 4 true (.one 5 true (.one 7 true (.one 6 false (.one 8 false (.one 9 false .nil)))))))))))]
noncomputable def K_q57_0 : Code := (cB (cB (cB (bodyC Try.f29))))
def E_q57_1 (v4 : Value) (d : Nat → Value) : List Value := [d 0, d 1, d 2, d 3, v4, d 5, d 6, d 7, d 8, d 9, d 10, d 11, d 12, d 13, d 14, d 15, d 16, d 17, d 18, d 19, d 20, d 21, d 22, d 23, d 24, d 25, d 26, d 27, d 28, d 29, d 30, d 31, d 32, d 33, d 34, d 35, d 36, d 37, d 38, d 39, d 40, d 41, d 42, d 43, d 44, d 45, d 46, d 47, d 48, d 49, d 50, d 51, d 52, d 53, d 54, d 55, d 56, d 57, d 58, d 59, d 60, d 61, d 62, d 63]
def G_q57_1 (K : Kont) (v4 : Value) (d : Nat → Value) (h : Hp) : Prop := aw Try.prog O_q57 K_q57_0 (qTop Try.prog Try.f29 K) (E_q57_1 v4 d) h
noncomputable def K_q57_1 : Code := (cB (cB (bodyC Try.f29)))
noncomputable def K_q57_2 : Code := (cB (cB (cB (cB (cB (bodyC Try.f29))))))
def G_q57 (a0 a1 a2 a3 : Value) (h : Hp) (K : Kont) : Prop :=
  oBox a0 h fun t4 h1 =>
  oLd1 t4 h1 fun t13 h2 =>
  C_q126 [t13, (Value.int .i64 1), a1] h2 fun t15 h3 =>
  oNot t15 h3 fun t16 h4 =>
  oGuard t16 false (fun K => oLd1 t4 h4 K) h4 fun t18 h5 =>
  oGuard t16 false (fun K => K a2 h5) h5 fun t19 h6 =>
  oGuard t16 false (fun K => C_q74 [t18, t19] h6 K) h6 fun t20 h7 =>
  oGuard t16 false (fun K => oNot t20 h7 K) h7 fun t21 h8 =>
  oPick t16 (Value.bool true) t21 h8 fun t22 h9 =>
  oIf t22
  (K (.tuple #[(Value.slice none 0 0), (Value.bool false)]) h9)
  (oLd1 t4 h9 fun t24 h10 =>
  oNilCheck t24 h10 fun t25 h11 =>
  oFieldAddr 6 t25 h11 fun t26 h12 =>
  oLd1 t26 h12 fun t27 h13 =>
  oLookup (.int .i64) (.slice none 0 0) t27 a2 true h13 fun t29 h14 =>
  oExtract t29 0 h14 fun t30 h15 =>
  oExtract t29 1 h15 fun t31 h16 =>
  oNot t31 h16 fun t33 h17 =>
  oIf t33
  (oLd1 t4 h17 fun t34 h18 =>
  oNilCheck t34 h18 fun t35 h19 =>
  oFieldAddr 6 t35 h19 fun t36 h20 =>
  oLd1 t36 h20 fun t37 h21 =>
  C_q13 [a3] h21 fun t40 h22 =>
  ((oLd1 t36 h21 (fun v' _ => v' = t37) → oLd1 t36 h22 (fun v' _ => v' = t37)) ∧ (oLd1 t4 h21 (fun v' _ => v' = t34) → oLd1 t4 h22 (fun v' _ => v' = t34)) ∧ True) ∧
  C_q10 [t40, (.func (Go.Fn.func 56) #[] #[t4])] h22 fun t42 h23 =>
  ((oLd1 t36 h22 (fun v' _ => v' = t37) → oLd1 t36 h23 (fun v' _ => v' = t37)) ∧ (oLd1 t4 h22 (fun v' _ => v' = t34) → oLd1 t4 h23 (fun v' _ => v' = t34)) ∧ True) ∧
  oMapUpdate (.int .i64) t37 a2 t42 h23 fun _ h24 =>
  (True) ∧
  G_q57_1 K t4 (ud [(0, a0), (1, a1), (2, a2), (3, a3), (8, (Value.slice none 0 0)), (9, (Value.bool false)), (10, t30), (11, t31), (13, t13), (14, a1), (15, t15), (16, t16), (17, t16), (18, t18), (19, t19), (20, t20), (21, t21), (22, t22), (23, t29), (24, t24), (25, t25), (26, t26), (27, t27), (28, a2), (29, t29), (30, t30), (31, t31), (32, t31), (33, t33), (34, t34), (35, t35), (36, t36), (37, t37), (38, a2), (39, a3), (40, t40), (41, (.func (Go.Fn.func 56) #[] #[t4])), (42, t42)] dz) h24)
  (G_q57_1 K t4 (ud [(0, a0), (1, a1), (2, a2), (3, a3), (8, (Value.slice none 0 0)), (9, (Value.bool false)), (10, t30), (11, t31), (13, t13), (14, a1), (15, t15), (16, t16), (17, t16), (18, t18), (19, t19), (20, t20), (21, t21), (22, t22), (23, t29), (24, t24), (25, t25), (26, t26), (27, t27), (28, a2), (29, t29), (30, t30), (31, t31), (32, t31), (33, t33)] dz) h17))
def E0_q57 (a0 a1 a2 a3 : Value) : List Value := [a0, a1, a2, a3, undef, undef, undef, undef, undef, undef, undef, undef, undef, undef, undef, undef, undef, undef, undef, undef, undef, undef, undef, undef, undef, undef, undef, undef, undef, undef, undef, undef, undef, undef, undef, undef, undef, undef, undef, undef, undef, undef, undef, undef, undef, undef, undef, undef, undef, undef, undef, undef, undef, undef, undef, undef, undef, undef, undef, undef, undef, undef, undef, undef]
def X_q57 (Qv : Post) (a0 a1 a2 a3 : Value) (h : Hp) : Prop :=
  oBox a0 h fun t4 h1 =>
  oLd1 t4 h1 fun t13 h2 =>
  C_q126 [t13, (Value.int .i64 1), a1] h2 fun t15 h3 =>
  oNot t15 h3 fun t16 h4 =>
  oGuard t16 false (fun K => oLd1 t4 h4 K) h4 fun t18 h5 =>
  oGuard t16 false (fun K => K a2 h5) h5 fun t19 h6 =>
  oGuard t16 false (fun K => C_q74 [t18, t19] h6 K) h6 fun t20 h7 =>
  oGuard t16 false (fun K => oNot t20 h7 K) h7 fun t21 h8 =>
  oPick t16 (Value.bool true) t21 h8 fun t22 h9 =>
  oIf t22
  ((qSeq (aw Try.prog O_q57 K_q57_1 Qv) Qv) .ret (ul (E0_q57 a0 a1 a2 a3) [(4, t4), (8, (Value.slice none 0 0)), (9, (Value.bool false)), (13, t13), (14, a1), (15, t15), (16, t16), (17, t16), (18, t18), (19, t19), (20, t20), (21, t21), (22, t22)]) h9)
  (oLd1 t4 h9 fun t24 h10 =>
  oNilCheck t24 h10 fun t25 h11 =>
  oFieldAddr 6 t25 h11 fun t26 h12 =>
  oLd1 t26 h12 fun t27 h13 =>
  oLookup (.int .i64) (.slice none 0 0) t27 a2 true h13 fun t29 h14 =>
  oExtract t29 0 h14 fun t30 h15 =>
  oExtract t29 1 h15 fun t31 h16 =>
  oNot t31 h16 fun t33 h17 =>
  oIf t33
  (oLd1 t4 h17 fun t34 h18 =>
  oNilCheck t34 h18 fun t35 h19 =>
  oFieldAddr 6 t35 h19 fun t36 h20 =>
  oLd1 t36 h20 fun t37 h21 =>
  C_q13 [a3] h21 fun t40 h22 =>
  ((oLd1 t36 h21 (fun v' _ => v' = t37) → oLd1 t36 h22 (fun v' _ => v' = t37)) ∧ (oLd1 t4 h21 (fun v' _ => v' = t34) → oLd1 t4 h22 (fun v' _ => v' = t34)) ∧ True) ∧
  C_q10 [t40, (.func (Go.Fn.func 56) #[] #[t4])] h22 fun t42 h23 =>
  ((oLd1 t36 h22 (fun v' _ => v' = t37) → oLd1 t36 h23 (fun v' _ => v' = t37)) ∧ (oLd1 t4 h22 (fun v' _ => v' = t34) → oLd1 t4 h23 (fun v' _ => v' = t34)) ∧ True) ∧
  oMapUpdate (.int .i64) t37 a2 t42 h23 fun _ h24 =>
  (True) ∧
  (qSeq (aw Try.prog O_q57 K_q57_0 Qv) Qv) .normal (ul (E0_q57 a0 a1 a2 a3) [(4, t4), (8, (Value.slice none 0 0)), (9, (Value.bool false)), (10, t30), (11, t31), (13, t13), (14, a1), (15, t15), (16, t16), (17, t16), (18, t18), (19, t19), (20, t20), (21, t21), (22, t22), (23, t29), (24, t24), (25, t25), (26, t26), (27, t27), (28, a2), (29, t29), (30, t30), (31, t31), (32, t31), (33, t33), (34, t34), (35, t35), (36, t36), (37, t37), (38, a2), (39, a3), (40, t40), (41, (.func (Go.Fn.func 56) #[] #[t4])), (42, t42)]) h24)
  ((qSeq (aw Try.prog O_q57 K_q57_0 Qv) Qv) .normal (ul (E0_q57 a0 a1 a2 a3) [(4, t4), (8, (Value.slice none 0 0)), (9, (Value.bool false)), (10, t30), (11, t31), (13, t13), (14, a1), (15, t15), (16, t16), (17, t16), (18, t18), (19, t19), (20, t20), (21, t21), (22, t22), (23, t29), (24, t24), (25, t25), (26, t26), (27, t27), (28, a2), (29, t29), (30, t30), (31, t31), (32, t31), (33, t33)]) h17))
theorem ga_q57 (Qv : Post) (a0 a1 a2 a3 : Value) (h : Hp) : aw Try.prog O_q57 (bodyC Try.f29) Qv (E0_q57 a0 a1 a2 a3) h = X_q57 Qv a0 a1 a2 a3 h := by kernel_rfl
theorem gb_q57 (a0 a1 a2 a3 : Value) (h : Hp) (K : Kont) : X_q57 (qTop Try.prog Try.f29 K) a0 a1 a2 a3 h = G_q57 a0 a1 a2 a3 h K := by kernel_rfl
theorem gc_q57 (a0 a1 a2 a3 : Value) (h : Hp) (K : Kont) : abody Try.prog O_q57 Try.f29 (bodyC Try.f29) [a0, a1, a2, a3] h K = aw Try.prog O_q57 (bodyC Try.f29) (qTop Try.prog Try.f29 K) (E0_q57 a0 a1 a2 a3) h := by kernel_rfl
theorem eq_q57 (a0 a1 a2 a3 : Value) (h : Hp) (K : Kont) : abody Try.prog O_q57 Try.f29 (bodyC Try.f29) [a0, a1, a2, a3] h K = G_q57 a0 a1 a2 a3 h K := (gc_q57 a0 a1 a2 a3 h K).trans ((ga_q57 _ a0 a1 a2 a3 h).trans (gb_q57 a0 a1 a2 a3 h K))
theorem ok_q57 {a0 a1 a2 a3 : Value} {h : Hp} {K : Kont} (hk : G_q57 a0 a1 a2 a3 h K) : C_q57 [a0, a1, a2, a3] h K := ac_of_body prog_mixed (fn := Try.f29) Try.func29 (c := bodyC Try.f29) (by kernel_rfl) ((eq_q57 a0 a1 a2 a3 h K).mpr hk)
def R_q57_1 (K : Kont) (v4 : Value) (d : Nat → Value) (h : Hp) : Prop :=
  oLd1 v4 h fun t43 h1 =>
  oNilCheck t43 h1 fun t44 h2 =>
  oFieldAddr 6 t44 h2 fun t45 h3 =>
  oLd1 t45 h3 fun t46 h4 =>
  C_q4 [t46] h4 fun t47 h5 =>
  C_q51 [t47] h5 fun t48 h6 =>
  C_q133 [(Value.int .u64 0), t48] h6 fun t49 h7 =>
  oLd1 v4 h7 fun t51 h8 =>
  oNilCheck t51 h8 fun t52 h9 =>
  oFieldAddr 1 t52 h9 fun t53 h10 =>
  oLd1 t53 h10 fun t54 h11 =>
  C_q102 [t49, t54] h11 fun t55 h12 =>
  oNot t55 h12 fun t56 h13 =>
  oIf t56
  (K (.tuple #[(Value.slice none 0 0), (Value.bool false)]) h13)
  (oLd1 v4 h13 fun t57 h14 =>
  oNilCheck t57 h14 fun t58 h15 =>
  oFieldAddr 2 t58 h15 fun t59 h16 =>
  oSt 1 t59 (Value.int .i64 2) h16 fun _ h17 =>
  oLd1 v4 h17 fun t60 h18 =>
  C_q95 [t60] h18 fun t61 h19 =>
  oLd1 v4 h19 fun t62 h20 =>
  C_q94 [t62] h20 fun t63 h21 =>
  K (.tuple #[t63, (Value.bool true)]) h21)
def X_q57_1 (Qv : Post) (v4 : Value) (d : Nat → Value) (h : Hp) : Prop :=
  oLd1 v4 h fun t43 h1 =>
  oNilCheck t43 h1 fun t44 h2 =>
  oFieldAddr 6 t44 h2 fun t45 h3 =>
  oLd1 t45 h3 fun t46 h4 =>
  C_q4 [t46] h4 fun t47 h5 =>
  C_q51 [t47] h5 fun t48 h6 =>
  C_q133 [(Value.int .u64 0), t48] h6 fun t49 h7 =>
  oLd1 v4 h7 fun t51 h8 =>
  oNilCheck t51 h8 fun t52 h9 =>
  oFieldAddr 1 t52 h9 fun t53 h10 =>
  oLd1 t53 h10 fun t54 h11 =>
  C_q102 [t49, t54] h11 fun t55 h12 =>
  oNot t55 h12 fun t56 h13 =>
  oIf t56
  ((qSeq (aw Try.prog O_q57 K_q57_2 Qv) Qv) .ret (ul (E_q57_1 v4 d) [(8, (Value.slice none 0 0)), (9, (Value.bool false)), (12, t49), (43, t43), (44, t44), (45, t45), (46, t46), (47, t47), (48, t48), (49, t49), (50, t49), (51, t51), (52, t52), (53, t53), (54, t54), (55, t55), (56, t56)]) h13)
  (oLd1 v4 h13 fun t57 h14 =>
  oNilCheck t57 h14 fun t58 h15 =>
  oFieldAddr 2 t58 h15 fun t59 h16 =>
  oSt 1 t59 (Value.int .i64 2) h16 fun _ h17 =>
  oLd1 v4 h17 fun t60 h18 =>
  C_q95 [t60] h18 fun t61 h19 =>
  oLd1 v4 h19 fun t62 h20 =>
  C_q94 [t62] h20 fun t63 h21 =>
  Qv .ret (ul (E_q57_1 v4 d) [(8, t63), (9, (Value.bool true)), (12, t49), (43, t43), (44, t44), (45, t45), (46, t46), (47, t47), (48, t48), (49, t49), (50, t49), (51, t51), (52, t52), (53, t53), (54, t54), (55, t55), (56, t56), (57, t57), (58, t58), (59, t59), (60, t60), (61, t61), (62, t62), (63, t63)]) h21)
theorem ga_q57_1 (Qv : Post) (v4 : Value) (d : Nat → Value) (h : Hp) : aw Try.prog O_q57 K_q57_0 Qv (E_q57_1 v4 d) h = X_q57_1 Qv v4 d h := by kernel_rfl
theorem gb_q57_1 (K : Kont) (v4 : Value) (d : Nat → Value) (h : Hp) : X_q57_1 (qTop Try.prog Try.f29 K) v4 d h = R_q57_1 K v4 d h := by kernel_rfl
theorem req_q57_1 (K : Kont) (v4 : Value) (d : Nat → Value) (h : Hp) : G_q57_1 K v4 d h = R_q57_1 K v4 d h := (ga_q57_1 _ v4 d h).trans (gb_q57_1 K v4 d h)
def O_q93 : Od := []
noncomputable def K_q93_0 : Code := (cB (cB (bodyC Try.f30)))
def G_q93 (a0 : Value) (h : Hp) (K : Kont) : Prop :=
  oEq 1 false none a0 (Value.pointer none) h fun t4 h1 =>
  oIf t4
  (K (Value.int .i64 0) h1)
  (oNilCheck a0 h1 fun t6 h2 =>
  oFieldAddr 5 t6 h2 fun t7 h3 =>
  oLd1 t7 h3 fun t8 h4 =>
  K t8 h4)
def E0_q93 (a0 : Value) : List Value := [a0, undef, undef, undef, undef, undef, undef, undef, undef]
def X_q93 (Qv : Post) (a0 : Value) (h : Hp) : Prop :=
  oEq 1 false none a0 (Value.pointer none) h fun t4 h1 =>
  oIf t4
  ((qSeq (aw Try.prog O_q93 K_q93_0 Qv) Qv) .ret (ul (E0_q93 a0) [(2, (Value.int .i64 0)), (3, a0), (4, t4)]) h1)
  (oNilCheck a0 h1 fun t6 h2 =>
  oFieldAddr 5 t6 h2 fun t7 h3 =>
  oLd1 t7 h3 fun t8 h4 =>
  Qv .ret (ul (E0_q93 a0) [(2, t8), (3, a0), (4, t4), (5, a0), (6, t6), (7, t7), (8, t8)]) h4)
theorem ga_q93 (Qv : Post) (a0 : Value) (h : Hp) : aw Try.prog O_q93 (bodyC Try.f30) Qv (E0_q93 a0) h = X_q93 Qv a0 h := by kernel_rfl
theorem gb_q93 (a0 : Value) (h : Hp) (K : Kont) : X_q93 (qTop Try.prog Try.f30 K) a0 h = G_q93 a0 h K := by kernel_rfl
theorem gc_q93 (a0 : Value) (h : Hp) (K : Kont) : abody Try.prog O_q93 Try.f30 (bodyC Try.f30) [a0] h K = aw Try.prog O_q93 (bodyC Try.f30) (qTop Try.prog Try.f30 K) (E0_q93 a0) h := by kernel_rfl
theorem eq_q93 (a0 : Value) (h : Hp) (K : Kont) : abody Try.prog O_q93 Try.f30 (bodyC Try.f30) [a0] h K = G_q93 a0 h K := (gc_q93 a0 h K).trans ((ga_q93 _ a0 h).trans (gb_q93 a0 h K))
theorem ok_q93 {a0 : Value} {h : Hp} {K : Kont} (hk : G_q93 a0 h K) : C_q93 [a0] h K := ac_of_body prog_mixed (fn := Try.f30) Try.func30 (c := bodyC Try.f30) (by kernel_rfl) ((eq_q93 a0 h K).mpr hk)
def O_q58 : Od := []
noncomputable def K_q58_0 : Code := (cB (cB (bodyC Try.f31)))
noncomputable def K_q58_1 : Code := (cB (cB (cB (bodyC Try.f31))))
noncomputable def K_q58_2 : Code := (cB (cB (cB (cB (bodyC Try.f31)))))
def G_q58 (a0 a1 : Value) (h : Hp) (K : Kont) : Prop :=
  oBox a1 h fun t3 h1 =>
  oAlloc #[.int .i64 0, .int .u64 0, .int .i64 0, .int .i64 0, .int .u64 0, .int .i64 0] h1 fun t4 h2 =>
  oEq 1 false none a0 (Value.pointer none) h2 fun t9 h3 =>
  oIf t9
  (oBuild #[.int .i64 0, .int .u64 0, .int .i64 0, .int .i64 0, .int .u64 0, .int .i64 0] [] h3 fun t10 h4 =>
  oSt 6 t4 t10 h4 fun _ h5 =>
  oLdN 6 t4 h5 fun r1 _ =>
  K (.tuple #[r1, (Value.int .i64 2)]) h5)
  (oNilCheck a0 h3 fun t13 h6 =>
  oFieldAddr 2 t13 h6 fun t14 h7 =>
  oLd1 t14 h7 fun t15 h8 =>
  oBin .neq t15 (Value.int .i64 2) h8 fun t16 h9 =>
  oIf t16
  (oBuild #[.int .i64 0, .int .u64 0, .int .i64 0, .int .i64 0, .int .u64 0, .int .i64 0] [] h9 fun t17 h10 =>
  oSt 6 t4 t17 h10 fun _ h11 =>
  oLdN 6 t4 h11 fun r2 _ =>
  K (.tuple #[r2, (Value.int .i64 12)]) h11)
  (oLdN 4 t3 h9 fun t18 h12 =>
  C_q147 [t18] h12 fun t19 h13 =>
  oBin .neq t19 (Value.int .i64 0) h13 fun t21 h14 =>
  oIf t21
  (oBuild #[.int .i64 0, .int .u64 0, .int .i64 0, .int .i64 0, .int .u64 0, .int .i64 0] [] h14 fun t22 h15 =>
  oSt 6 t4 t22 h15 fun _ h16 =>
  oLdN 6 t4 h16 fun r3 _ =>
  K (.tuple #[r3, t19]) h16)
  (oFieldAddr 0 t3 h14 fun t25 h17 =>
  oLd1 t25 h17 fun t26 h18 =>
  oBin .neq t26 (Value.int .i64 0) h18 fun t27 h19 =>
  oGuard t27 true (fun K => K a0 h19) h19 fun t29 h20 =>
  oGuard t27 true (fun K => oLdN 4 t3 h20 K) h20 fun t30 h21 =>
  oGuard t27 true (fun K => C_q50 [t29, t30] h21 K) h21 fun t31 h22 =>
  oPick t27 t31 (Value.bool false) h22 fun t32 h23 =>
  oIf t32
  (oBuild #[.int .i64 0, .int .u64 0, .int .i64 0, .int .i64 0, .int .u64 0, .int .i64 0] [] h23 fun t33 h24 =>
  oSt 6 t4 t33 h24 fun _ h25 =>
  oLdN 6 t4 h25 fun r4 _ =>
  K (.tuple #[r4, (Value.int .i64 8)]) h25)
  (oNilCheck a0 h23 fun t36 h26 =>
  oFieldAddr 7 t36 h26 fun t37 h27 =>
  oLd1 t37 h27 fun t38 h28 =>
  oLen 2 t38 h28 fun t39 h29 =>
  oBin .geq t39 (Value.int .i64 8) h29 fun t40 h30 =>
  oGuard t40 false (fun K => K a0 h30) h30 fun t42 h31 =>
  oGuard t40 false (fun K => oNilCheck t42 h31 K) h31 fun t43 h32 =>
  oGuard t40 false (fun K => oFieldAddr 5 t43 h32 K) h32 fun t44 h33 =>
  oGuard t40 false (fun K => oLd1 t44 h33 K) h33 fun t45 h34 =>
  oGuard t40 false (fun K => oBin .geq t45 (Value.int .i64 512) h34 K) h34 fun t46 h35 =>
  oPick t40 (Value.bool true) t46 h35 fun t47 h36 =>
  oIf t47
  (oBuild #[.int .i64 0, .int .u64 0, .int .i64 0, .int .i64 0, .int .u64 0, .int .i64 0] [] h36 fun t48 h37 =>
  oSt 6 t4 t48 h37 fun _ h38 =>
  oLdN 6 t4 h38 fun r5 _ =>
  K (.tuple #[r5, (Value.int .i64 9)]) h38)
  (oLdN 4 t3 h36 fun t51 h39 =>
  C_q111 [a0, t51] h39 fun t52 h40 =>
  C_q96 [a0, t52] h40 fun t53 h41 =>
  oSt 6 t4 t53 h41 fun _ h42 =>
  oLdN 6 t4 h42 fun r6 _ =>
  K (.tuple #[r6, (Value.int .i64 0)]) h42)))))
def E0_q58 (a0 a1 : Value) : List Value := [a0, a1, undef, undef, undef, undef, undef, undef, undef, undef, undef, undef, undef, undef, undef, undef, undef, undef, undef, undef, undef, undef, undef, undef, undef, undef, undef, undef, undef, undef, undef, undef, undef, undef, undef, undef, undef, undef, undef, undef, undef, undef, undef, undef, undef, undef, undef, undef, undef, undef, undef, undef, undef, undef]
def X_q58 (Qv : Post) (a0 a1 : Value) (h : Hp) : Prop :=
  oBox a1 h fun t3 h1 =>
  oAlloc #[.int .i64 0, .int .u64 0, .int .i64 0, .int .i64 0, .int .u64 0, .int .i64 0] h1 fun t4 h2 =>
  oEq 1 false none a0 (Value.pointer none) h2 fun t9 h3 =>
  oIf t9
  (oBuild #[.int .i64 0, .int .u64 0, .int .i64 0, .int .i64 0, .int .u64 0, .int .i64 0] [] h3 fun t10 h4 =>
  oSt 6 t4 t10 h4 fun _ h5 =>
  (qBlk 0 (qSeq (aw Try.prog O_q58 K_q58_0 Qv) Qv)) .ret (ul (E0_q58 a0 a1) [(3, t3), (4, t4), (5, (Value.int .i64 2)), (7, t9), (8, a0), (9, t9), (10, t10)]) h5)
  (oNilCheck a0 h3 fun t13 h6 =>
  oFieldAddr 2 t13 h6 fun t14 h7 =>
  oLd1 t14 h7 fun t15 h8 =>
  oBin .neq t15 (Value.int .i64 2) h8 fun t16 h9 =>
  oIf t16
  (oBuild #[.int .i64 0, .int .u64 0, .int .i64 0, .int .i64 0, .int .u64 0, .int .i64 0] [] h9 fun t17 h10 =>
  oSt 6 t4 t17 h10 fun _ h11 =>
  (qBlk 0 (qSeq (aw Try.prog O_q58 K_q58_0 Qv) Qv)) .ret (ul (E0_q58 a0 a1) [(3, t3), (4, t4), (5, (Value.int .i64 12)), (7, t9), (8, a0), (9, t9), (11, t16), (12, a0), (13, t13), (14, t14), (15, t15), (16, t16), (17, t17)]) h11)
  (oLdN 4 t3 h9 fun t18 h12 =>
  C_q147 [t18] h12 fun t19 h13 =>
  oBin .neq t19 (Value.int .i64 0) h13 fun t21 h14 =>
  oIf t21
  (oBuild #[.int .i64 0, .int .u64 0, .int .i64 0, .int .i64 0, .int .u64 0, .int .i64 0] [] h14 fun t22 h15 =>
  oSt 6 t4 t22 h15 fun _ h16 =>
  (qSeq (aw Try.prog O_q58 K_q58_1 Qv) Qv) .ret (ul (E0_q58 a0 a1) [(3, t3), (4, t4), (5, t19), (6, t19), (7, t9), (8, a0), (9, t9), (11, t16), (12, a0), (13, t13), (14, t14), (15, t15), (16, t16), (18, t18), (19, t19), (20, t19), (21, t21), (22, t22), (23, t19)]) h16)
  (oFieldAddr 0 t3 h14 fun t25 h17 =>
  oLd1 t25 h17 fun t26 h18 =>
  oBin .neq t26 (Value.int .i64 0) h18 fun t27 h19 =>
  oGuard t27 true (fun K => K a0 h19) h19 fun t29 h20 =>
  oGuard t27 true (fun K => oLdN 4 t3 h20 K) h20 fun t30 h21 =>
  oGuard t27 true (fun K => C_q50 [t29, t30] h21 K) h21 fun t31 h22 =>
  oPick t27 t31 (Value.bool false) h22 fun t32 h23 =>
  oIf t32
  (oBuild #[.int .i64 0, .int .u64 0, .int .i64 0, .int .i64 0, .int .u64 0, .int .i64 0] [] h23 fun t33 h24 =>
  oSt 6 t4 t33 h24 fun _ h25 =>
  (qBlk 1 (qSeq (aw Try.prog O_q58 K_q58_2 Qv) Qv)) .ret (ul (E0_q58 a0 a1) [(3, t3), (4, t4), (5, (Value.int .i64 8)), (6, t19), (7, t9), (8, a0), (9, t9), (11, t16), (12, a0), (13, t13), (14, t14), (15, t15), (16, t16), (18, t18), (19, t19), (20, t19), (21, t21), (24, t32), (25, t25), (26, t26), (27, t27), (28, t27), (29, t29), (30, t30), (31, t31), (32, t32), (33, t33)]) h25)
  (oNilCheck a0 h23 fun t36 h26 =>
  oFieldAddr 7 t36 h26 fun t37 h27 =>
  oLd1 t37 h27 fun t38 h28 =>
  oLen 2 t38 h28 fun t39 h29 =>
  oBin .geq t39 (Value.int .i64 8) h29 fun t40 h30 =>
  oGuard t40 false (fun K => K a0 h30) h30 fun t42 h31 =>
  oGuard t40 false (fun K => oNilCheck t42 h31 K) h31 fun t43 h32 =>
  oGuard t40 false (fun K => oFieldAddr 5 t43 h32 K) h32 fun t44 h33 =>
  oGuard t40 false (fun K => oLd1 t44 h33 K) h33 fun t45 h34 =>
  oGuard t40 false (fun K => oBin .geq t45 (Value.int .i64 512) h34 K) h34 fun t46 h35 =>
  oPick t40 (Value.bool true) t46 h35 fun t47 h36 =>
  oIf t47
  (oBuild #[.int .i64 0, .int .u64 0, .int .i64 0, .int .i64 0, .int .u64 0, .int .i64 0] [] h36 fun t48 h37 =>
  oSt 6 t4 t48 h37 fun _ h38 =>
  (qBlk 1 (qSeq (aw Try.prog O_q58 K_q58_2 Qv) Qv)) .ret (ul (E0_q58 a0 a1) [(3, t3), (4, t4), (5, (Value.int .i64 9)), (6, t19), (7, t9), (8, a0), (9, t9), (11, t16), (12, a0), (13, t13), (14, t14), (15, t15), (16, t16), (18, t18), (19, t19), (20, t19), (21, t21), (24, t32), (25, t25), (26, t26), (27, t27), (28, t27), (29, t29), (30, t30), (31, t31), (32, t32), (34, t47), (35, a0), (36, t36), (37, t37), (38, t38), (39, t39), (40, t40), (41, t40), (42, t42), (43, t43), (44, t44), (45, t45), (46, t46), (47, t47), (48, t48)]) h38)
  (oLdN 4 t3 h36 fun t51 h39 =>
  C_q111 [a0, t51] h39 fun t52 h40 =>
  C_q96 [a0, t52] h40 fun t53 h41 =>
  oSt 6 t4 t53 h41 fun _ h42 =>
  Qv .ret (ul (E0_q58 a0 a1) [(3, t3), (4, t4), (5, (Value.int .i64 0)), (6, t19), (7, t9), (8, a0), (9, t9), (11, t16), (12, a0), (13, t13), (14, t14), (15, t15), (16, t16), (18, t18), (19, t19), (20, t19), (21, t21), (24, t32), (25, t25), (26, t26), (27, t27), (28, t27), (29, t29), (30, t30), (31, t31), (32, t32), (34, t47), (35, a0), (36, t36), (37, t37), (38, t38), (39, t39), (40, t40), (41, t40), (42, t42), (43, t43), (44, t44), (45, t45), (46, t46), (47, t47), (49, a0), (50, a0), (51, t51), (52, t52), (53, t53)]) h42)))))
theorem ga_q58 (Qv : Post) (a0 a1 : Value) (h : Hp) : aw Try.prog O_q58 (bodyC Try.f31) Qv (E0_q58 a0 a1) h = X_q58 Qv a0 a1 h := by kernel_rfl
theorem gb_q58 (a0 a1 : Value) (h : Hp) (K : Kont) : X_q58 (qTop Try.prog Try.f31 K) a0 a1 h = G_q58 a0 a1 h K := by kernel_rfl
theorem gc_q58 (a0 a1 : Value) (h : Hp) (K : Kont) : abody Try.prog O_q58 Try.f31 (bodyC Try.f31) [a0, a1] h K = aw Try.prog O_q58 (bodyC Try.f31) (qTop Try.prog Try.f31 K) (E0_q58 a0 a1) h := by kernel_rfl
theorem eq_q58 (a0 a1 : Value) (h : Hp) (K : Kont) : abody Try.prog O_q58 Try.f31 (bodyC Try.f31) [a0, a1] h K = G_q58 a0 a1 h K := (gc_q58 a0 a1 h K).trans ((ga_q58 _ a0 a1 h).trans (gb_q58 a0 a1 h K))
theorem ok_q58 {a0 a1 : Value} {h : Hp} {K : Kont} (hk : G_q58 a0 a1 h K) : C_q58 [a0, a1] h K := ac_of_body prog_mixed (fn := Try.f31) Try.func31 (c := bodyC Try.f31) (by kernel_rfl) ((eq_q58 a0 a1 h K).mpr hk)
def O_q47 : Od := [(7, (.one 0 true (.one 1 true (.one 2 true (.one 3 true (.one 4 true (.one 5 true (.one 6 false .nil)))))))), (8, (.one 0 true (.one 1 true (.one 2 true (.one 3 true (.one 4 true (.one 5 true (.one 6 false (.one 7 true .nil)))))))))]
noncomputable def K_q47_0 : Code := (cB (cB (bodyC Try.f32)))
noncomputable def K_q47_1 : Code := (cB (cB (cB (cB (bodyC Try.f32)))))
noncomputable def K_q47_2 : Code := (cB (cB (cB (cB (cB (cB (cB (bodyC Try.f32))))))))
def G_q47 (a0 a1 a2 a3 : Value) (h : Hp) (K : Kont) : Prop :=
  oAlloc #[.int .i64 0, .int .u64 0, .int .i64 0, .int .i64 0, .int .u64 0, .int .i64 0] h fun t8 h1 =>
  C_q126 [a0, (Value.int .i64 2), a1] h1 fun t15 h2 =>
  oNot t15 h2 fun t16 h3 =>
  oGuard t16 false (fun K => K a0 h3) h3 fun t18 h4 =>
  oGuard t16 false (fun K => K a3 h4) h4 fun t19 h5 =>
  oGuard t16 false (fun K => C_q74 [t18, t19] h5 K) h5 fun t20 h6 =>
  oGuard t16 false (fun K => oNot t20 h6 K) h6 fun t21 h7 =>
  oPick t16 (Value.bool true) t21 h7 fun t22 h8 =>
  oIf t22
  (oBuild #[.int .i64 0, .int .u64 0, .int .i64 0, .int .i64 0, .int .u64 0, .int .i64 0] [] h8 fun t23 h9 =>
  oSt 6 t8 t23 h9 fun _ h10 =>
  oLdN 6 t8 h10 fun r1 _ =>
  K (.tuple #[r1, (Value.bool false)]) h10)
  (oNilCheck a0 h8 fun t26 h11 =>
  oFieldAddr 7 t26 h11 fun t27 h12 =>
  oLd1 t27 h12 fun t28 h13 =>
  oLookup (.int .i64) (.agg #[.int .i64 0, .int .i64 0, .int .u64 0, .int .i64 0, .int .u64 0]) t28 a2 true h13 fun t30 h14 =>
  oExtract t30 0 h14 fun t31 h15 =>
  oExtract t30 1 h15 fun t32 h16 =>
  oAlloc #[.int .i64 0, .int .i64 0, .int .u64 0, .int .i64 0, .int .u64 0] h16 fun t10 h17 =>
  oSt 5 t10 t31 h17 fun _ h18 =>
  oNot t32 h18 fun t34 h19 =>
  oIf t34
  (oBuild #[.int .i64 0, .int .u64 0, .int .i64 0, .int .i64 0, .int .u64 0, .int .i64 0] [] h19 fun t35 h20 =>
  oSt 6 t8 t35 h20 fun _ h21 =>
  oLdN 6 t8 h21 fun r2 _ =>
  K (.tuple #[r2, (Value.bool false)]) h21)
  (oFieldAddr 4 t10 h19 fun t36 h22 =>
  oLd1 t36 h22 fun t37 h23 =>
  oBuildSlice #[.int .i64 0] 1 [(0 * 1, 1, a3)] h23 fun t39 h24 =>
  C_q133 [t37, t39] h24 fun t40 h25 =>
  oFieldAddr 4 t10 h25 fun t41 h26 =>
  oSt 1 t41 t40 h26 fun _ h27 =>
  oNilCheck a0 h27 fun t43 h28 =>
  oFieldAddr 7 t43 h28 fun t44 h29 =>
  oLd1 t44 h29 fun t45 h30 =>
  oLdN 5 t10 h30 fun t47 h31 =>
  oMapUpdate (.int .i64) t45 a2 t47 h31 fun _ h32 =>
  (True) ∧
  oFieldAddr 4 t10 h32 fun t48 h33 =>
  oLd1 t48 h33 fun t49 h34 =>
  oNilCheck a0 h34 fun t51 h35 =>
  oFieldAddr 1 t51 h35 fun t52 h36 =>
  oLd1 t52 h36 fun t53 h37 =>
  C_q102 [t49, t53] h37 fun t54 h38 =>
  (True) ∧
  oNot t54 h38 fun t55 h39 =>
  oIf t55
  (oBuild #[.int .i64 0, .int .u64 0, .int .i64 0, .int .i64 0, .int .u64 0, .int .i64 0] [] h39 fun t56 h40 =>
  oSt 6 t8 t56 h40 fun _ h41 =>
  oLdN 6 t8 h41 fun r3 _ =>
  K (.tuple #[r3, (Value.bool false)]) h41)
  (C_q96 [a0, a2] h39 fun t59 h42 =>
  oAlloc #[.int .i64 0, .int .u64 0, .int .i64 0, .int .i64 0, .int .u64 0, .int .i64 0] h42 fun t12 h43 =>
  oSt 6 t12 t59 h43 fun _ h44 =>
  oNilCheck a0 h44 fun t61 h45 =>
  oFieldAddr 7 t61 h45 fun t62 h46 =>
  oLd1 t62 h46 fun t63 h47 =>
  oDelete (.int .i64) t63 a2 h47 fun _ h48 =>
  oLdN 6 t12 h48 fun t65 h49 =>
  oSt 6 t8 t65 h49 fun _ h50 =>
  oLdN 6 t8 h50 fun r4 _ =>
  K (.tuple #[r4, (Value.bool true)]) h50)))
def E0_q47 (a0 a1 a2 a3 : Value) : List Value := [a0, a1, a2, a3, undef, undef, undef, undef, undef, undef, undef, undef, undef, undef, undef, undef, undef, undef, undef, undef, undef, undef, undef, undef, undef, undef, undef, undef, undef, undef, undef, undef, undef, undef, undef, undef, undef, undef, undef, undef, undef, undef, undef, undef, undef, undef, undef, undef, undef, undef, undef, undef, undef, undef, undef, undef, undef, undef, undef, undef, undef, undef, undef, undef, undef, undef]
def X_q47 (Qv : Post) (a0 a1 a2 a3 : Value) (h : Hp) : Prop :=
  oAlloc #[.int .i64 0, .int .u64 0, .int .i64 0, .int .i64 0, .int .u64 0, .int .i64 0] h fun t8 h1 =>
  C_q126 [a0, (Value.int .i64 2), a1] h1 fun t15 h2 =>
  oNot t15 h2 fun t16 h3 =>
  oGuard t16 false (fun K => K a0 h3) h3 fun t18 h4 =>
  oGuard t16 false (fun K => K a3 h4) h4 fun t19 h5 =>
  oGuard t16 false (fun K => C_q74 [t18, t19] h5 K) h5 fun t20 h6 =>
  oGuard t16 false (fun K => oNot t20 h6 K) h6 fun t21 h7 =>
  oPick t16 (Value.bool true) t21 h7 fun t22 h8 =>
  oIf t22
  (oBuild #[.int .i64 0, .int .u64 0, .int .i64 0, .int .i64 0, .int .u64 0, .int .i64 0] [] h8 fun t23 h9 =>
  oSt 6 t8 t23 h9 fun _ h10 =>
  (qSeq (aw Try.prog O_q47 K_q47_0 Qv) Qv) .ret (ul (E0_q47 a0 a1 a2 a3) [(8, t8), (9, (Value.bool false)), (13, a0), (14, a1), (15, t15), (16, t16), (17, t16), (18, t18), (19, t19), (20, t20), (21, t21), (22, t22), (23, t23)]) h10)
  (oNilCheck a0 h8 fun t26 h11 =>
  oFieldAddr 7 t26 h11 fun t27 h12 =>
  oLd1 t27 h12 fun t28 h13 =>
  oLookup (.int .i64) (.agg #[.int .i64 0, .int .i64 0, .int .u64 0, .int .i64 0, .int .u64 0]) t28 a2 true h13 fun t30 h14 =>
  oExtract t30 0 h14 fun t31 h15 =>
  oExtract t30 1 h15 fun t32 h16 =>
  oAlloc #[.int .i64 0, .int .i64 0, .int .u64 0, .int .i64 0, .int .u64 0] h16 fun t10 h17 =>
  oSt 5 t10 t31 h17 fun _ h18 =>
  oNot t32 h18 fun t34 h19 =>
  oIf t34
  (oBuild #[.int .i64 0, .int .u64 0, .int .i64 0, .int .i64 0, .int .u64 0, .int .i64 0] [] h19 fun t35 h20 =>
  oSt 6 t8 t35 h20 fun _ h21 =>
  (qSeq (aw Try.prog O_q47 K_q47_1 Qv) Qv) .ret (ul (E0_q47 a0 a1 a2 a3) [(8, t8), (9, (Value.bool false)), (10, t10), (11, t32), (13, a0), (14, a1), (15, t15), (16, t16), (17, t16), (18, t18), (19, t19), (20, t20), (21, t21), (22, t22), (24, t30), (25, a0), (26, t26), (27, t27), (28, t28), (29, a2), (30, t30), (31, t31), (32, t32), (33, t32), (34, t34), (35, t35)]) h21)
  (oFieldAddr 4 t10 h19 fun t36 h22 =>
  oLd1 t36 h22 fun t37 h23 =>
  oBuildSlice #[.int .i64 0] 1 [(0 * 1, 1, a3)] h23 fun t39 h24 =>
  C_q133 [t37, t39] h24 fun t40 h25 =>
  oFieldAddr 4 t10 h25 fun t41 h26 =>
  oSt 1 t41 t40 h26 fun _ h27 =>
  oNilCheck a0 h27 fun t43 h28 =>
  oFieldAddr 7 t43 h28 fun t44 h29 =>
  oLd1 t44 h29 fun t45 h30 =>
  oLdN 5 t10 h30 fun t47 h31 =>
  oMapUpdate (.int .i64) t45 a2 t47 h31 fun _ h32 =>
  (True) ∧
  oFieldAddr 4 t10 h32 fun t48 h33 =>
  oLd1 t48 h33 fun t49 h34 =>
  oNilCheck a0 h34 fun t51 h35 =>
  oFieldAddr 1 t51 h35 fun t52 h36 =>
  oLd1 t52 h36 fun t53 h37 =>
  C_q102 [t49, t53] h37 fun t54 h38 =>
  (True) ∧
  oNot t54 h38 fun t55 h39 =>
  oIf t55
  (oBuild #[.int .i64 0, .int .u64 0, .int .i64 0, .int .i64 0, .int .u64 0, .int .i64 0] [] h39 fun t56 h40 =>
  oSt 6 t8 t56 h40 fun _ h41 =>
  (qSeq (aw Try.prog O_q47 K_q47_2 Qv) Qv) .ret (ul (E0_q47 a0 a1 a2 a3) [(8, t8), (9, (Value.bool false)), (10, t10), (11, t32), (13, a0), (14, a1), (15, t15), (16, t16), (17, t16), (18, t18), (19, t19), (20, t20), (21, t21), (22, t22), (24, t30), (25, a0), (26, t26), (27, t27), (28, t28), (29, a2), (30, t30), (31, t31), (32, t32), (33, t32), (34, t34), (36, t36), (37, t37), (38, a3), (39, t39), (40, t40), (41, t41), (42, a0), (43, t43), (44, t44), (45, t45), (46, a2), (47, t47), (48, t48), (49, t49), (50, a0), (51, t51), (52, t52), (53, t53), (54, t54), (55, t55), (56, t56)]) h41)
  (C_q96 [a0, a2] h39 fun t59 h42 =>
  oAlloc #[.int .i64 0, .int .u64 0, .int .i64 0, .int .i64 0, .int .u64 0, .int .i64 0] h42 fun t12 h43 =>
  oSt 6 t12 t59 h43 fun _ h44 =>
  oNilCheck a0 h44 fun t61 h45 =>
  oFieldAddr 7 t61 h45 fun t62 h46 =>
  oLd1 t62 h46 fun t63 h47 =>
  oDelete (.int .i64) t63 a2 h47 fun _ h48 =>
  oLdN 6 t12 h48 fun t65 h49 =>
  oSt 6 t8 t65 h49 fun _ h50 =>
  Qv .ret (ul (E0_q47 a0 a1 a2 a3) [(8, t8), (9, (Value.bool true)), (10, t10), (11, t32), (12, t12), (13, a0), (14, a1), (15, t15), (16, t16), (17, t16), (18, t18), (19, t19), (20, t20), (21, t21), (22, t22), (24, t30), (25, a0), (26, t26), (27, t27), (28, t28), (29, a2), (30, t30), (31, t31), (32, t32), (33, t32), (34, t34), (36, t36), (37, t37), (38, a3), (39, t39), (40, t40), (41, t41), (42, a0), (43, t43), (44, t44), (45, t45), (46, a2), (47, t47), (48, t48), (49, t49), (50, a0), (51, t51), (52, t52), (53, t53), (54, t54), (55, t55), (57, a0), (58, a2), (59, t59), (60, a0), (61, t61), (62, t62), (63, t63), (64, a2), (65, t65)]) h50)))
theorem ga_q47 (Qv : Post) (a0 a1 a2 a3 : Value) (h : Hp) : aw Try.prog O_q47 (bodyC Try.f32) Qv (E0_q47 a0 a1 a2 a3) h = X_q47 Qv a0 a1 a2 a3 h := by kernel_rfl
theorem gb_q47 (a0 a1 a2 a3 : Value) (h : Hp) (K : Kont) : X_q47 (qTop Try.prog Try.f32 K) a0 a1 a2 a3 h = G_q47 a0 a1 a2 a3 h K := by kernel_rfl
theorem gc_q47 (a0 a1 a2 a3 : Value) (h : Hp) (K : Kont) : abody Try.prog O_q47 Try.f32 (bodyC Try.f32) [a0, a1, a2, a3] h K = aw Try.prog O_q47 (bodyC Try.f32) (qTop Try.prog Try.f32 K) (E0_q47 a0 a1 a2 a3) h := by kernel_rfl
theorem eq_q47 (a0 a1 a2 a3 : Value) (h : Hp) (K : Kont) : abody Try.prog O_q47 Try.f32 (bodyC Try.f32) [a0, a1, a2, a3] h K = G_q47 a0 a1 a2 a3 h K := (gc_q47 a0 a1 a2 a3 h K).trans ((ga_q47 _ a0 a1 a2 a3 h).trans (gb_q47 a0 a1 a2 a3 h K))
theorem ok_q47 {a0 a1 a2 a3 : Value} {h : Hp} {K : Kont} (hk : G_q47 a0 a1 a2 a3 h K) : C_q47 [a0, a1, a2, a3] h K := ac_of_body prog_mixed (fn := Try.f32) Try.func32 (c := bodyC Try.f32) (by kernel_rfl) ((eq_q47 a0 a1 a2 a3 h K).mpr hk)
def O_q94 : Od := []
noncomputable def K_q94_0 : Code := (cI (cB (cA (cB (cB (cB (bodyC Try.f33)))))))
noncomputable def K_q94_1 : Code := (cB (cB (cB (cB (bodyC Try.f33)))))
def Q_q94_0 (K : Kont) : Post := qSeq (aw Try.prog O_q94 K_q94_1 (qTop Try.prog Try.f33 K)) (qTop Try.prog Try.f33 K)
def Q_q94_1 (K : Kont) : Post := qBlk 0 (Q_q94_0 K)
def E_q94_1 (v0 v3 v13 v14 v15 : Value) (d : Nat → Value) : List Value := [v0, d 1, d 2, v3, d 4, d 5, d 6, d 7, d 8, d 9, d 10, d 11, d 12, v13, v14, v15, d 16, d 17, d 18, d 19, d 20, d 21, d 22, d 23, d 24, d 25, d 26]
def G_q94_1 (K : Kont) (v0 v3 v13 v14 v15 : Value) (d : Nat → Value) (h : Hp) : Prop := aw Try.prog O_q94 K_q94_0 (Q_q94_1 K) (E_q94_1 v0 v3 v13 v14 v15 d) h
noncomputable def K_q94_2 : Code := (cB (cB (bodyC Try.f33)))
def Q_q94_2 (K : Kont) (s0 : Self) : Post := qSeq s0 (Q_q94_1 K)
noncomputable def K_q94_3 : Code := (cI (cI (cB (cA (cB (cB (cB (bodyC Try.f33))))))))
noncomputable def K_q94_4 : Code := (cB (cB (cI (cI (cB (cA (cB (cB (cB (bodyC Try.f33))))))))))
def G_q94 (a0 : Value) (h : Hp) (K : Kont) : Prop :=
  oEq 1 false none a0 (Value.pointer none) h fun t7 h1 =>
  oIf t7
  (K (Value.slice none 0 0) h1)
  (oNilCheck a0 h1 fun t9 h2 =>
  oFieldAddr 7 t9 h2 fun t10 h3 =>
  oLd1 t10 h3 fun t11 h4 =>
  C_q1 [t11] h4 fun t12 h5 =>
  C_q61 [t12] h5 fun t13 h6 =>
  oLen 0 t13 h6 fun t14 h7 =>
  G_q94_1 K a0 (Value.slice none 0 0) t13 t14 (Value.int .i64 0) (ud [(2, (Value.slice none 0 0)), (6, a0), (7, t7), (8, a0), (9, t9), (10, t10), (11, t11), (12, t12)] dz) h7)
def E0_q94 (a0 : Value) : List Value := [a0, undef, undef, undef, undef, undef, undef, undef, undef, undef, undef, undef, undef, undef, undef, undef, undef, undef, undef, undef, undef, undef, undef, undef, undef, undef, undef]
def X_q94 (Qv : Post) (a0 : Value) (h : Hp) : Prop :=
  oEq 1 false none a0 (Value.pointer none) h fun t7 h1 =>
  oIf t7
  ((qSeq (aw Try.prog O_q94 K_q94_2 Qv) Qv) .ret (ul (E0_q94 a0) [(2, (Value.slice none 0 0)), (6, a0), (7, t7)]) h1)
  (oNilCheck a0 h1 fun t9 h2 =>
  oFieldAddr 7 t9 h2 fun t10 h3 =>
  oLd1 t10 h3 fun t11 h4 =>
  C_q1 [t11] h4 fun t12 h5 =>
  C_q61 [t12] h5 fun t13 h6 =>
  oLen 0 t13 h6 fun t14 h7 =>
  aw Try.prog O_q94 K_q94_0 (qBlk 0 (qSeq (aw Try.prog O_q94 K_q94_1 Qv) Qv)) (ul (E0_q94 a0) [(2, (Value.slice none 0 0)), (3, (Value.slice none 0 0)), (6, a0), (7, t7), (8, a0), (9, t9), (10, t10), (11, t11), (12, t12), (13, t13), (14, t14), (15, (Value.int .i64 0))]) h7)
theorem ga_q94 (Qv : Post) (a0 : Value) (h : Hp) : aw Try.prog O_q94 (bodyC Try.f33) Qv (E0_q94 a0) h = X_q94 Qv a0 h := by kernel_rfl
theorem gb_q94 (a0 : Value) (h : Hp) (K : Kont) : X_q94 (qTop Try.prog Try.f33 K) a0 h = G_q94 a0 h K := by kernel_rfl
theorem gc_q94 (a0 : Value) (h : Hp) (K : Kont) : abody Try.prog O_q94 Try.f33 (bodyC Try.f33) [a0] h K = aw Try.prog O_q94 (bodyC Try.f33) (qTop Try.prog Try.f33 K) (E0_q94 a0) h := by kernel_rfl
theorem eq_q94 (a0 : Value) (h : Hp) (K : Kont) : abody Try.prog O_q94 Try.f33 (bodyC Try.f33) [a0] h K = G_q94 a0 h K := (gc_q94 a0 h K).trans ((ga_q94 _ a0 h).trans (gb_q94 a0 h K))
theorem ok_q94 {a0 : Value} {h : Hp} {K : Kont} (hk : G_q94 a0 h K) : C_q94 [a0] h K := ac_of_body prog_mixed (fn := Try.f33) Try.func33 (c := bodyC Try.f33) (by kernel_rfl) ((eq_q94 a0 h K).mpr hk)
def B_q94_1 (K : Kont) (s0 : Self) (v0 v3 v13 v14 v15 : Value) (d : Nat → Value) (h : Hp) : Prop :=
  oBin .lss v15 v14 h fun t16 h1 =>
  oIf t16
  (oIdxS 1 v13 v15 h1 fun t17 h2 =>
  oLd1 t17 h2 fun t18 h3 =>
  C_q96 [v0, t18] h3 fun t22 h4 =>
  oBuildSlice #[.int .i64 0, .int .u64 0, .int .i64 0, .int .i64 0, .int .u64 0, .int .i64 0] 1 [(0 * 6, 6, t22)] h4 fun t23 h5 =>
  oAppend 6 48 #[.int .i64 0, .int .u64 0, .int .i64 0, .int .i64 0, .int .u64 0, .int .i64 0] v3 t23 h5 fun t24 h6 =>
  oBin .add v15 (Value.int .i64 1) h6 fun t25 h7 =>
  s0 (E_q94_1 v0 t24 v13 v14 t25 (ud [(5, t18), (16, t16), (17, t17), (18, t18), (19, v3), (20, v0), (21, t18), (22, t22), (23, t23), (24, t24), (25, t25)] d)) h7)
  (K v3 h1)
def X_q94_1 (Qv : Post) (v0 v3 v13 v14 v15 : Value) (d : Nat → Value) (h : Hp) : Prop :=
  oBin .lss v15 v14 h fun t16 h1 =>
  oIf t16
  (oIdxS 1 v13 v15 h1 fun t17 h2 =>
  oLd1 t17 h2 fun t18 h3 =>
  C_q96 [v0, t18] h3 fun t22 h4 =>
  oBuildSlice #[.int .i64 0, .int .u64 0, .int .i64 0, .int .i64 0, .int .u64 0, .int .i64 0] 1 [(0 * 6, 6, t22)] h4 fun t23 h5 =>
  oAppend 6 48 #[.int .i64 0, .int .u64 0, .int .i64 0, .int .i64 0, .int .u64 0, .int .i64 0] v3 t23 h5 fun t24 h6 =>
  oBin .add v15 (Value.int .i64 1) h6 fun t25 h7 =>
  Qv .normal (ul (E_q94_1 v0 v3 v13 v14 v15 d) [(3, t24), (5, t18), (15, t25), (16, t16), (17, t17), (18, t18), (19, v3), (20, v0), (21, t18), (22, t22), (23, t23), (24, t24), (25, t25)]) h7)
  ((qSeq (aw Try.prog O_q94 K_q94_4 Qv) Qv) (.exit 0) (ul (E_q94_1 v0 v3 v13 v14 v15 d) [(16, t16)]) h1)
theorem ga_q94_1 (Qv : Post) (v0 v3 v13 v14 v15 : Value) (d : Nat → Value) (h : Hp) : aw Try.prog O_q94 K_q94_3 Qv (E_q94_1 v0 v3 v13 v14 v15 d) h = X_q94_1 Qv v0 v3 v13 v14 v15 d h := by kernel_rfl
theorem gb_q94_1 (K : Kont) (s0 : Self) (v0 v3 v13 v14 v15 : Value) (d : Nat → Value) (h : Hp) : X_q94_1 (Q_q94_2 K s0) v0 v3 v13 v14 v15 d h = B_q94_1 K s0 v0 v3 v13 v14 v15 d h := by kernel_rfl
theorem beq_q94_1 (K : Kont) (s0 : Self) (v0 v3 v13 v14 v15 : Value) (d : Nat → Value) (h : Hp) : aw Try.prog O_q94 K_q94_3 (Q_q94_2 K s0) (E_q94_1 v0 v3 v13 v14 v15 d) h = B_q94_1 K s0 v0 v3 v13 v14 v15 d h := (ga_q94_1 _ v0 v3 v13 v14 v15 d h).trans (gb_q94_1 K s0 v0 v3 v13 v14 v15 d h)
theorem rule_q94_1 {K : Kont} {v0 v13 v14 : Value} (Inv : Value → Value → Hp → Prop) (μ : Value → Value → Hp → Nat)
    (step : ∀ (s0 : Self) (v3 v15 : Value) (d : Nat → Value) (h : Hp), Inv v3 v15 h → (∀ (v3' : Value) (v15' : Value) (d' : Nat → Value) (h' : Hp), Inv v3' v15' h' → μ v3' v15' h' < μ v3 v15 h → s0 (E_q94_1 v0 v3' v13 v14 v15' d') h') → B_q94_1 K s0 v0 v3 v13 v14 v15 d h) (v3 v15 : Value) (d : Nat → Value) (h : Hp) (hi : Inv v3 v15 h) : G_q94_1 K v0 v3 v13 v14 v15 d h :=
  oLoop_rule (α := Value × Value × (Nat → Value)) (fun x => E_q94_1 v0 x.1 v13 v14 x.2.1 x.2.2) (fun x h => Inv x.1 x.2.1 h) (fun x h => μ x.1 x.2.1 h)
    (fun self x h hx hs => (beq_q94_1 K self v0 x.1 v13 v14 x.2.1 x.2.2 h).mpr (step self x.1 x.2.1 x.2.2 h hx (fun v3' v15' d' h' h1 h2 => hs ⟨v3', v15', d'⟩ h' h1 h2))) ⟨v3, v15, d⟩ h hi
end Go.Proofs.Ytdolepapmpcpiaa

