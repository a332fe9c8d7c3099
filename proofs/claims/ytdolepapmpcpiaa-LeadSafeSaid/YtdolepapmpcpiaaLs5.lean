/- Lemmas for the theorem of the last text; no condition. -/
import Derived.Test.YtdolepapmpcpiaaLs0
import Derived.Test.YtdolepapmpcpiaaLs1
import Derived.Test.YtdolepapmpcpiaaLs2
import Derived.Test.YtdolepapmpcpiaaLs3
import Derived.Test.YtdolepapmpcpiaaLs4
import Derived.Test.YtdolepapmpcpiaaProg
namespace Go.Proofs.Ytdolepapmpcpiaa
open Go
set_option linter.unusedSectionVars false
variable [Base]
set_option linter.unusedVariables false
set_option maxRecDepth 100000
def O_q83 : Od := []
noncomputable def K_q83_0 : Code := (cB (cB (bodyC Try.f35)))
def G_q83 (a0 : Value) (h : Hp) (K : Kont) : Prop :=
  oEq 1 false none a0 (Value.pointer none) h fun t4 h1 =>
  oIf t4
  (K (Value.int .i64 0) h1)
  (oNilCheck a0 h1 fun t6 h2 =>
  oFieldAddr 2 t6 h2 fun t7 h3 =>
  oLd1 t7 h3 fun t8 h4 =>
  K t8 h4)
def E0_q83 (a0 : Value) : List Value := [a0, undef, undef, undef, undef, undef, undef, undef, undef]
def X_q83 (Qv : Post) (a0 : Value) (h : Hp) : Prop :=
  oEq 1 false none a0 (Value.pointer none) h fun t4 h1 =>
  oIf t4
  ((qSeq (aw Try.prog O_q83 K_q83_0 Qv) Qv) .ret (ul (E0_q83 a0) [(2, (Value.int .i64 0)), (3, a0), (4, t4)]) h1)
  (oNilCheck a0 h1 fun t6 h2 =>
  oFieldAddr 2 t6 h2 fun t7 h3 =>
  oLd1 t7 h3 fun t8 h4 =>
  Qv .ret (ul (E0_q83 a0) [(2, t8), (3, a0), (4, t4), (5, a0), (6, t6), (7, t7), (8, t8)]) h4)
theorem ga_q83 (Qv : Post) (a0 : Value) (h : Hp) : aw Try.prog O_q83 (bodyC Try.f35) Qv (E0_q83 a0) h = X_q83 Qv a0 h := by kernel_rfl
theorem gb_q83 (a0 : Value) (h : Hp) (K : Kont) : X_q83 (qTop Try.prog Try.f35 K) a0 h = G_q83 a0 h K := by kernel_rfl
theorem gc_q83 (a0 : Value) (h : Hp) (K : Kont) : abody Try.prog O_q83 Try.f35 (bodyC Try.f35) [a0] h K = aw Try.prog O_q83 (bodyC Try.f35) (qTop Try.prog Try.f35 K) (E0_q83 a0) h := by kernel_rfl
theorem eq_q83 (a0 : Value) (h : Hp) (K : Kont) : abody Try.prog O_q83 Try.f35 (bodyC Try.f35) [a0] h K = G_q83 a0 h K := (gc_q83 a0 h K).trans ((ga_q83 _ a0 h).trans (gb_q83 a0 h K))
theorem ok_q83 {a0 : Value} {h : Hp} {K : Kont} (hk : G_q83 a0 h K) : C_q83 [a0] h K := ac_of_body prog_mixed (fn := Try.f35) Try.func35 (c := bodyC Try.f35) (by kernel_rfl) ((eq_q83 a0 h K).mpr hk)
def O_q70 : Od := []
noncomputable def K_q70_0 : Code := (cB (cB (bodyC Try.f36)))
def G_q70 (a0 : Value) (h : Hp) (K : Kont) : Prop :=
  oEq 1 false none a0 (Value.pointer none) h fun t4 h1 =>
  oIf t4
  (K (Value.int .u64 0) h1)
  (oNilCheck a0 h1 fun t6 h2 =>
  oFieldAddr 3 t6 h2 fun t7 h3 =>
  oLd1 t7 h3 fun t8 h4 =>
  K t8 h4)
def E0_q70 (a0 : Value) : List Value := [a0, undef, undef, undef, undef, undef, undef, undef, undef]
def X_q70 (Qv : Post) (a0 : Value) (h : Hp) : Prop :=
  oEq 1 false none a0 (Value.pointer none) h fun t4 h1 =>
  oIf t4
  ((qSeq (aw Try.prog O_q70 K_q70_0 Qv) Qv) .ret (ul (E0_q70 a0) [(2, (Value.int .u64 0)), (3, a0), (4, t4)]) h1)
  (oNilCheck a0 h1 fun t6 h2 =>
  oFieldAddr 3 t6 h2 fun t7 h3 =>
  oLd1 t7 h3 fun t8 h4 =>
  Qv .ret (ul (E0_q70 a0) [(2, t8), (3, a0), (4, t4), (5, a0), (6, t6), (7, t7), (8, t8)]) h4)
theorem ga_q70 (Qv : Post) (a0 : Value) (h : Hp) : aw Try.prog O_q70 (bodyC Try.f36) Qv (E0_q70 a0) h = X_q70 Qv a0 h := by kernel_rfl
theorem gb_q70 (a0 : Value) (h : Hp) (K : Kont) : X_q70 (qTop Try.prog Try.f36 K) a0 h = G_q70 a0 h K := by kernel_rfl
theorem gc_q70 (a0 : Value) (h : Hp) (K : Kont) : abody Try.prog O_q70 Try.f36 (bodyC Try.f36) [a0] h K = aw Try.prog O_q70 (bodyC Try.f36) (qTop Try.prog Try.f36 K) (E0_q70 a0) h := by kernel_rfl
theorem eq_q70 (a0 : Value) (h : Hp) (K : Kont) : abody Try.prog O_q70 Try.f36 (bodyC Try.f36) [a0] h K = G_q70 a0 h K := (gc_q70 a0 h K).trans ((ga_q70 _ a0 h).trans (gb_q70 a0 h K))
theorem ok_q70 {a0 : Value} {h : Hp} {K : Kont} (hk : G_q70 a0 h K) : C_q70 [a0] h K := ac_of_body prog_mixed (fn := Try.f36) Try.func36 (c := bodyC Try.f36) (by kernel_rfl) ((eq_q70 a0 h K).mpr hk)
def O_q92 : Od := []
noncomputable def K_q92_0 : Code := (cB (cB (bodyC Try.f37)))
def G_q92 (a0 : Value) (h : Hp) (K : Kont) : Prop :=
  oEq 1 false none a0 (Value.pointer none) h fun t4 h1 =>
  oIf t4
  (K (Value.int .i64 0) h1)
  (oNilCheck a0 h1 fun t6 h2 =>
  oFieldAddr 4 t6 h2 fun t7 h3 =>
  oLd1 t7 h3 fun t8 h4 =>
  K t8 h4)
def E0_q92 (a0 : Value) : List Value := [a0, undef, undef, undef, undef, undef, undef, undef, undef]
def X_q92 (Qv : Post) (a0 : Value) (h : Hp) : Prop :=
  oEq 1 false none a0 (Value.pointer none) h fun t4 h1 =>
  oIf t4
  ((qSeq (aw Try.prog O_q92 K_q92_0 Qv) Qv) .ret (ul (E0_q92 a0) [(2, (Value.int .i64 0)), (3, a0), (4, t4)]) h1)
  (oNilCheck a0 h1 fun t6 h2 =>
  oFieldAddr 4 t6 h2 fun t7 h3 =>
  oLd1 t7 h3 fun t8 h4 =>
  Qv .ret (ul (E0_q92 a0) [(2, t8), (3, a0), (4, t4), (5, a0), (6, t6), (7, t7), (8, t8)]) h4)
theorem ga_q92 (Qv : Post) (a0 : Value) (h : Hp) : aw Try.prog O_q92 (bodyC Try.f37) Qv (E0_q92 a0) h = X_q92 Qv a0 h := by kernel_rfl
theorem gb_q92 (a0 : Value) (h : Hp) (K : Kont) : X_q92 (qTop Try.prog Try.f37 K) a0 h = G_q92 a0 h K := by kernel_rfl
theorem gc_q92 (a0 : Value) (h : Hp) (K : Kont) : abody Try.prog O_q92 Try.f37 (bodyC Try.f37) [a0] h K = aw Try.prog O_q92 (bodyC Try.f37) (qTop Try.prog Try.f37 K) (E0_q92 a0) h := by kernel_rfl
theorem eq_q92 (a0 : Value) (h : Hp) (K : Kont) : abody Try.prog O_q92 Try.f37 (bodyC Try.f37) [a0] h K = G_q92 a0 h K := (gc_q92 a0 h K).trans ((ga_q92 _ a0 h).trans (gb_q92 a0 h K))
theorem ok_q92 {a0 : Value} {h : Hp} {K : Kont} (hk : G_q92 a0 h K) : C_q92 [a0] h K := ac_of_body prog_mixed (fn := Try.f37) Try.func37 (c := bodyC Try.f37) (by kernel_rfl) ((eq_q92 a0 h K).mpr hk)
def O_q71 : Od := []
noncomputable def K_q71_0 : Code := (cB (cB (bodyC Try.f39)))
def G_q71 (a0 a1 : Value) (h : Hp) (K : Kont) : Prop :=
  oEq 1 false none a0 (Value.pointer none) h fun t6 h1 =>
  oGuard t6 false (fun K => K a0 h1) h1 fun t8 h2 =>
  oGuard t6 false (fun K => oNilCheck t8 h2 K) h2 fun t9 h3 =>
  oGuard t6 false (fun K => oFieldAddr 2 t9 h3 K) h3 fun t10 h4 =>
  oGuard t6 false (fun K => oLd1 t10 h4 K) h4 fun t11 h5 =>
  oGuard t6 false (fun K => oBin .eql t11 (Value.int .i64 0) h5 K) h5 fun t12 h6 =>
  oPick t6 (Value.bool true) t12 h6 fun t13 h7 =>
  oGuard t13 false (fun K => K a1 h7) h7 fun t15 h8 =>
  oGuard t13 false (fun K => K a0 h8) h8 fun t16 h9 =>
  oGuard t13 false (fun K => oNilCheck t16 h9 K) h9 fun t17 h10 =>
  oGuard t13 false (fun K => oFieldAddr 3 t17 h10 K) h10 fun t18 h11 =>
  oGuard t13 false (fun K => oLd1 t18 h11 K) h11 fun t19 h12 =>
  oGuard t13 false (fun K => oBin .leq t15 t19 h12 K) h12 fun t20 h13 =>
  oPick t13 (Value.bool true) t20 h13 fun t21 h14 =>
  oIf t21
  (K (Value.bool false) h14)
  (oNilCheck a0 h14 fun t23 h15 =>
  oFieldAddr 2 t23 h15 fun t24 h16 =>
  oSt 1 t24 (Value.int .i64 0) h16 fun _ h17 =>
  oNilCheck a0 h17 fun t26 h18 =>
  oFieldAddr 7 t26 h18 fun t27 h19 =>
  oLd1 t27 h19 fun t28 h20 =>
  oClearMap t28 h20 fun _ h21 =>
  oNilCheck a0 h21 fun t30 h22 =>
  oFieldAddr 6 t30 h22 fun t31 h23 =>
  oLd1 t31 h23 fun t32 h24 =>
  oClearMap t32 h24 fun _ h25 =>
  K (Value.bool true) h25)
def E0_q71 (a0 a1 : Value) : List Value := [a0, a1, undef, undef, undef, undef, undef, undef, undef, undef, undef, undef, undef, undef, undef, undef, undef, undef, undef, undef, undef, undef, undef, undef, undef, undef, undef, undef, undef, undef, undef, undef, undef]
def X_q71 (Qv : Post) (a0 a1 : Value) (h : Hp) : Prop :=
  oEq 1 false none a0 (Value.pointer none) h fun t6 h1 =>
  oGuard t6 false (fun K => K a0 h1) h1 fun t8 h2 =>
  oGuard t6 false (fun K => oNilCheck t8 h2 K) h2 fun t9 h3 =>
  oGuard t6 false (fun K => oFieldAddr 2 t9 h3 K) h3 fun t10 h4 =>
  oGuard t6 false (fun K => oLd1 t10 h4 K) h4 fun t11 h5 =>
  oGuard t6 false (fun K => oBin .eql t11 (Value.int .i64 0) h5 K) h5 fun t12 h6 =>
  oPick t6 (Value.bool true) t12 h6 fun t13 h7 =>
  oGuard t13 false (fun K => K a1 h7) h7 fun t15 h8 =>
  oGuard t13 false (fun K => K a0 h8) h8 fun t16 h9 =>
  oGuard t13 false (fun K => oNilCheck t16 h9 K) h9 fun t17 h10 =>
  oGuard t13 false (fun K => oFieldAddr 3 t17 h10 K) h10 fun t18 h11 =>
  oGuard t13 false (fun K => oLd1 t18 h11 K) h11 fun t19 h12 =>
  oGuard t13 false (fun K => oBin .leq t15 t19 h12 K) h12 fun t20 h13 =>
  oPick t13 (Value.bool true) t20 h13 fun t21 h14 =>
  oIf t21
  ((qSeq (aw Try.prog O_q71 K_q71_0 Qv) Qv) .ret (ul (E0_q71 a0 a1) [(4, (Value.bool false)), (5, a0), (6, t6), (7, t6), (8, t8), (9, t9), (10, t10), (11, t11), (12, t12), (13, t13), (14, t13), (15, t15), (16, t16), (17, t17), (18, t18), (19, t19), (20, t20), (21, t21)]) h14)
  (oNilCheck a0 h14 fun t23 h15 =>
  oFieldAddr 2 t23 h15 fun t24 h16 =>
  oSt 1 t24 (Value.int .i64 0) h16 fun _ h17 =>
  oNilCheck a0 h17 fun t26 h18 =>
  oFieldAddr 7 t26 h18 fun t27 h19 =>
  oLd1 t27 h19 fun t28 h20 =>
  oClearMap t28 h20 fun _ h21 =>
  oNilCheck a0 h21 fun t30 h22 =>
  oFieldAddr 6 t30 h22 fun t31 h23 =>
  oLd1 t31 h23 fun t32 h24 =>
  oClearMap t32 h24 fun _ h25 =>
  Qv .ret (ul (E0_q71 a0 a1) [(4, (Value.bool true)), (5, a0), (6, t6), (7, t6), (8, t8), (9, t9), (10, t10), (11, t11), (12, t12), (13, t13), (14, t13), (15, t15), (16, t16), (17, t17), (18, t18), (19, t19), (20, t20), (21, t21), (22, a0), (23, t23), (24, t24), (25, a0), (26, t26), (27, t27), (28, t28), (29, a0), (30, t30), (31, t31), (32, t32)]) h25)
theorem ga_q71 (Qv : Post) (a0 a1 : Value) (h : Hp) : aw Try.prog O_q71 (bodyC Try.f39) Qv (E0_q71 a0 a1) h = X_q71 Qv a0 a1 h := by kernel_rfl
theorem gb_q71 (a0 a1 : Value) (h : Hp) (K : Kont) : X_q71 (qTop Try.prog Try.f39 K) a0 a1 h = G_q71 a0 a1 h K := by kernel_rfl
theorem gc_q71 (a0 a1 : Value) (h : Hp) (K : Kont) : abody Try.prog O_q71 Try.f39 (bodyC Try.f39) [a0, a1] h K = aw Try.prog O_q71 (bodyC Try.f39) (qTop Try.prog Try.f39 K) (E0_q71 a0 a1) h := by kernel_rfl
theorem eq_q71 (a0 a1 : Value) (h : Hp) (K : Kont) : abody Try.prog O_q71 Try.f39 (bodyC Try.f39) [a0, a1] h K = G_q71 a0 a1 h K := (gc_q71 a0 a1 h K).trans ((ga_q71 _ a0 a1 h).trans (gb_q71 a0 a1 h K))
theorem ok_q71 {a0 a1 : Value} {h : Hp} {K : Kont} (hk : G_q71 a0 a1 h K) : C_q71 [a0, a1] h K := ac_of_body prog_mixed (fn := Try.f39) Try.func39 (c := bodyC Try.f39) (by kernel_rfl) ((eq_q71 a0 a1 h K).mpr hk)
end Go.Proofs.Ytdolepapmpcpiaa

namespace Go.Proofs.Ytdolepapmpcpiaa
open Go
set_option linter.unusedSectionVars false
variable [Base]
set_option linter.unusedVariables false
set_option maxRecDepth 100000
def O_q109 : Od := [(1, (.one 0 true (.one 1 true (.one 2 true (.one 3 true (.one 4 true (.one 5 true (.one 6 true (.one 7 true (.one 8 true (.one 9 true .nil))))))))))), (2, (.one 0 true (.one 1 true (.one 2 true (.one 3 true (.one 4 true (.one 5 true (.one 6 true (.one 7 true (.one 8 true (.one 9 true .nil))))))))))), (13, (.one 0 true (.one 1 true (.one 2 true (.one 3 true (.one 4 true (.one 5 true (.one 6 false (.one 7 false (.one 8 true (.one 9 true (.one 10 false .nil)))))))))))), (19, (.one 0 true (.one 1 true (.one 2 true (.one 3 true (.one 4 true (.one 5 true (.one 6 true (.one 7 true (.one 8 true (.one 9 true (.one 10 true (.one 11 true (.one 12 true (.one 13 true (.one 14 true (.one 15 true (.one 16 true (.one 17 true (.one 18 true (.one 19 false .nil))))))))))))))))))))), (23, (.one 0 true (.one 1 true (.one 2 true (.one 3 true (.one 4 true (.one 5 true (.one 6 false (.one 7 false (.one 8 true (.one 9 true (.one 10 false .nil))))))))))))]
noncomputable def K_q109_0 : Code := (cI (cB (cB (cT (cB (cE (cB (cI (cB (cB (cB (cB (cB (bodyC Try.f40))))))))))))))
def Q_q109_0 (K : Kont) : Post := qBlk 0 (qTop Try.prog Try.f40 K)
def Q_q109_1 (K : Kont) : Post := qBlk 1 (Q_q109_0 K)
def E_q109_1 (v0 v3 v9 v11 : Value) (d : Nat → Value) : List Value := [v0, d 1, d 2, v3, d 4, d 5, d 6, d 7, d 8, v9, d 10, v11, d 12, d 13, d 14, d 15, d 16, d 17, d 18, d 19, d 20, d 21, d 22, d 23, d 24, d 25, d 26, d 27, d 28, d 29, d 30, d 31, d 32, d 33, d 34, d 35, d 36, d 37, d 38, d 39, d 40, d 41, d 42, d 43, d 44, d 45, d 46, d 47, d 48, d 49, d 50, d 51, d 52, d 53, d 54, d 55, d 56, d 57, d 58, d 59, d 60, d 61, d 62, d 63, d 64, d 65, d 66, d 67, d 68, d 69, d 70, d 71, d 72, d 73, d 74, d 75, d 76, d 77, d 78, d 79, d 80, d 81, d 82, d 83, d 84, d 85, d 86, d 87, d 88, d 89, d 90, d 91, d 92, d 93, d 94, d 95, d 96, d 97, d 98, d 99, d 100, d 101, d 102, d 103, d 104, d 105, d 106, d 107, d 108, d 109, d 110, d 111, d 112, d 113, d 114, d 115, d 116, d 117, d 118, d 119, d 120, d 121, d 122, d 123, d 124, d 125, d 126, d 127, d 128, d 129, d 130, d 131, d 132, d 133, d 134, d 135, d 136, d 137, d 138, d 139, d 140, d 141, d 142, d 143, d 144]
def G_q109_1 (K : Kont) (v0 v3 v9 v11 : Value) (d : Nat → Value) (h : Hp) : Prop := aw Try.prog O_q109 K_q109_0 (Q_q109_1 K) (E_q109_1 v0 v3 v9 v11 d) h
def Q_q109_2 (K : Kont) (s0 : Self) : Post := qSeq s0 (Q_q109_1 K)
noncomputable def K_q109_1 : Code := (cI (cI (cB (cB (cT (cB (cE (cB (cI (cB (cB (cB (cB (cB (bodyC Try.f40)))))))))))))))
noncomputable def K_q109_2 : Code := (cB (cI (cI (cB (cB (cT (cB (cE (cB (cI (cB (cB (cB (cB (cB (bodyC Try.f40))))))))))))))))
def G_q109 (a0 a1 : Value) (h : Hp) (K : Kont) : Prop :=
  oBox a1 h fun t3 h1 =>
  oNilCheck a0 h1 fun t15 h2 =>
  oFieldAddr 0 t15 h2 fun t16 h3 =>
  oLd1 t16 h3 fun t17 h4 =>
  oFieldAddr 2 t3 h4 fun t18 h5 =>
  oLd1 t18 h5 fun t19 h6 =>
  oBin .sub t19 (Value.int .i64 1) h6 fun t20 h7 =>
  oIdxS 1 t17 t20 h7 fun t21 h8 =>
  oLd1 t21 h8 fun t22 h9 =>
  oNilCheck a0 h9 fun t24 h10 =>
  oFieldAddr 1 t24 h10 fun t25 h11 =>
  oLd1 t25 h11 fun t26 h12 =>
  oFieldAddr 2 t3 h12 fun t27 h13 =>
  oLd1 t27 h13 fun t28 h14 =>
  oBin .sub t28 (Value.int .i64 1) h14 fun t29 h15 =>
  oIdxS 1 t26 t29 h15 fun t30 h16 =>
  oLd1 t30 h16 fun t31 h17 =>
  oFieldAddr 2 t3 h17 fun t32 h18 =>
  oLd1 t32 h18 fun t33 h19 =>
  oFieldAddr 1 t3 h19 fun t34 h20 =>
  oLd1 t34 h20 fun t35 h21 =>
  oFieldAddr 3 t3 h21 fun t36 h22 =>
  oLd1 t36 h22 fun t37 h23 =>
  oFieldAddr 4 t3 h23 fun t38 h24 =>
  oLd1 t38 h24 fun t39 h25 =>
  oBuild #[.int .i64 0, .int .i64 0, .int .i64 0, .int .u64 0, .int .i64 0, .slice none 0 0, .int .i64 0, .int .i64 0, .int .u64 0, .int .i64 0] [(1, 1, t33), (2, 1, t35), (3, 1, t37), (4, 1, t39)] h25 fun t40 h26 =>
  oAlloc #[.int .i64 0, .int .i64 0, .int .i64 0, .int .u64 0, .int .i64 0, .slice none 0 0, .int .i64 0, .int .i64 0, .int .u64 0, .int .i64 0] h26 fun t6 h27 =>
  oSt 10 t6 t40 h27 fun _ h28 =>
  oFieldAddr 0 t3 h28 fun t41 h29 =>
  oLd1 t41 h29 fun t42 h30 =>
  oBin .eql t42 (Value.int .i64 1) h30 fun t59 h31 =>
  oIf t59
  (oFieldAddr 3 t3 h31 fun t62 h32 =>
  oLd1 t62 h32 fun t63 h33 =>
  oFieldAddr 4 t3 h33 fun t64 h34 =>
  oLd1 t64 h34 fun t65 h35 =>
  C_q21 [t31, t63, t65] h35 fun t66 h36 =>
  oExtract t66 0 h36 fun t67 h37 =>
  oExtract t66 1 h37 fun t68 h38 =>
  oBin .eql t68 (Value.int .i64 0) h38 fun t70 h39 =>
  oIf t70
  (oFieldAddr 0 t6 h39 fun t71 h40 =>
  oSt 1 t71 (Value.int .i64 2) h40 fun _ h41 =>
  oFieldAddr 5 t6 h41 fun t73 h42 =>
  oSt 1 t73 t67 h42 fun _ h43 =>
  oNilCheck a0 h43 fun t76 h44 =>
  oFieldAddr 2 t76 h44 fun t77 h45 =>
  oLd1 t77 h45 fun t78 h46 =>
  oLdN 10 t6 h46 fun t79 h47 =>
  oBuildSlice #[.int .i64 0, .int .i64 0, .int .i64 0, .int .u64 0, .int .i64 0, .slice none 0 0, .int .i64 0, .int .i64 0, .int .u64 0, .int .i64 0] 1 [(0 * 10, 10, t79)] h47 fun t80 h48 =>
  ((oLd1 t77 h47 (fun v' _ => v' = t78) → oLd1 t77 h48 (fun v' _ => v' = t78)) ∧ True) ∧
  oAppend 10 96 #[.int .i64 0, .int .i64 0, .int .i64 0, .int .u64 0, .int .i64 0, .slice none 0 0, .int .i64 0, .int .i64 0, .int .u64 0, .int .i64 0] t78 t80 h48 fun t81 h49 =>
  ((oLdN 10 t6 h48 (fun v' _ => v' = t79) → oLdN 10 t6 h49 (fun v' _ => v' = t79)) ∧ True) ∧
  oNilCheck a0 h49 fun t82 h50 =>
  oFieldAddr 2 t82 h50 fun t83 h51 =>
  oSt 1 t83 t81 h51 fun _ h52 =>
  (True) ∧
  K (.tuple #[]) h52)
  (K (.tuple #[]) h39))
  (oBin .eql t42 (Value.int .i64 2) h31 fun t85 h53 =>
  oIf t85
  (oFieldAddr 3 t3 h53 fun t88 h54 =>
  oLd1 t88 h54 fun t89 h55 =>
  oFieldAddr 1 t3 h55 fun t90 h56 =>
  oLd1 t90 h56 fun t91 h57 =>
  oFieldAddr 5 t3 h57 fun t92 h58 =>
  oLd1 t92 h58 fun t93 h59 =>
  C_q57 [t22, t89, t91, t93] h59 fun t94 h60 =>
  oExtract t94 0 h60 fun t95 h61 =>
  oExtract t94 1 h61 fun t96 h62 =>
  G_q109_1 K a0 t3 t95 (Value.int .i64 0) (ud [(1, a1), (4, t22), (5, t31), (6, t6), (10, t96), (14, a0), (15, t15), (16, t16), (17, t17), (18, t18), (19, t19), (20, t20), (21, t21), (22, t22), (23, a0), (24, t24), (25, t25), (26, t26), (27, t27), (28, t28), (29, t29), (30, t30), (31, t31), (32, t32), (33, t33), (34, t34), (35, t35), (36, t36), (37, t37), (38, t38), (39, t39), (40, t40), (41, t41), (42, t42), (58, t59), (59, t59), (84, t85), (85, t85), (86, t94), (87, t22), (88, t88), (89, t89), (90, t90), (91, t91), (92, t92), (93, t93), (94, t94), (95, t95), (96, t96)] dz) h62)
  (oBin .eql t42 (Value.int .i64 3) h53 fun t124 h63 =>
  oIf t124
  (oFieldAddr 3 t3 h63 fun t126 h64 =>
  oLd1 t126 h64 fun t127 h65 =>
  oFieldAddr 4 t3 h65 fun t128 h66 =>
  oLd1 t128 h66 fun t129 h67 =>
  oFieldAddr 6 t3 h67 fun t130 h68 =>
  oLdN 4 t130 h68 fun t131 h69 =>
  C_q24 [t31, t127, t129, t131] h69 fun t132 h70 =>
  oBin .eql t132 (Value.int .i64 0) h70 fun t133 h71 =>
  oIf t133
  (oFieldAddr 0 t6 h71 fun t134 h72 =>
  oSt 1 t134 (Value.int .i64 4) h72 fun _ h73 =>
  oNilCheck a0 h73 fun t137 h74 =>
  oFieldAddr 2 t137 h74 fun t138 h75 =>
  oLd1 t138 h75 fun t139 h76 =>
  oLdN 10 t6 h76 fun t140 h77 =>
  oBuildSlice #[.int .i64 0, .int .i64 0, .int .i64 0, .int .u64 0, .int .i64 0, .slice none 0 0, .int .i64 0, .int .i64 0, .int .u64 0, .int .i64 0] 1 [(0 * 10, 10, t140)] h77 fun t141 h78 =>
  ((oLd1 t138 h77 (fun v' _ => v' = t139) → oLd1 t138 h78 (fun v' _ => v' = t139)) ∧ True) ∧
  oAppend 10 96 #[.int .i64 0, .int .i64 0, .int .i64 0, .int .u64 0, .int .i64 0, .slice none 0 0, .int .i64 0, .int .i64 0, .int .u64 0, .int .i64 0] t139 t141 h78 fun t142 h79 =>
  ((oLdN 10 t6 h78 (fun v' _ => v' = t140) → oLdN 10 t6 h79 (fun v' _ => v' = t140)) ∧ True) ∧
  oNilCheck a0 h79 fun t143 h80 =>
  oFieldAddr 2 t143 h80 fun t144 h81 =>
  oSt 1 t144 t142 h81 fun _ h82 =>
  (True) ∧
  K (.tuple #[]) h82)
  (K (.tuple #[]) h71))
  (oFieldAddr 3 t3 h63 fun t45 h83 =>
  oLd1 t45 h83 fun t46 h84 =>
  oFieldAddr 4 t3 h84 fun t47 h85 =>
  oLd1 t47 h85 fun t48 h86 =>
  oFieldAddr 1 t3 h86 fun t49 h87 =>
  oLd1 t49 h87 fun t50 h88 =>
  C_q47 [t22, t46, t48, t50] h88 fun t51 h89 =>
  oExtract t51 0 h89 fun t52 h90 =>
  oExtract t51 1 h90 fun t53 h91 =>
  oAlloc #[.int .i64 0, .int .u64 0, .int .i64 0, .int .i64 0, .int .u64 0, .int .i64 0] h91 fun t12 h92 =>
  oSt 6 t12 t52 h92 fun _ h93 =>
  oIf t53
  (oLdN 6 t12 h93 fun t56 h94 =>
  C_q81 [a0, t56] h94 fun t57 h95 =>
  K (.tuple #[]) h95)
  (K (.tuple #[]) h93))))
def E0_q109 (a0 a1 : Value) : List Value := [a0, a1, undef, undef, undef, undef, undef, undef, undef, undef, undef, undef, undef, undef, undef, undef, undef, undef, undef, undef, undef, undef, undef, undef, undef, undef, undef, undef, undef, undef, undef, undef, undef, undef, undef, undef, undef, undef, undef, undef, undef, undef, undef, undef, undef, undef, undef, undef, undef, undef, undef, undef, undef, undef, undef, undef, undef, undef, undef, undef, undef, undef, undef, undef, undef, undef, undef, undef, undef, undef, undef, undef, undef, undef, undef, undef, undef, undef, undef, undef, undef, undef, undef, undef, undef, undef, undef, undef, undef, undef, undef, undef, undef, undef, undef, undef, undef, undef, undef, undef, undef, undef, undef, undef, undef, undef, undef, undef, undef, undef, undef, undef, undef, undef, undef, undef, undef, undef, undef, undef, undef, undef, undef, undef, undef, undef, undef, undef, undef, undef, undef, undef, undef, undef, undef, undef, undef, undef, undef, undef, undef, undef, undef, undef, undef]
def X_q109 (Qv : Post) (a0 a1 : Value) (h : Hp) : Prop :=
  oBox a1 h fun t3 h1 =>
  oNilCheck a0 h1 fun t15 h2 =>
  oFieldAddr 0 t15 h2 fun t16 h3 =>
  oLd1 t16 h3 fun t17 h4 =>
  oFieldAddr 2 t3 h4 fun t18 h5 =>
  oLd1 t18 h5 fun t19 h6 =>
  oBin .sub t19 (Value.int .i64 1) h6 fun t20 h7 =>
  oIdxS 1 t17 t20 h7 fun t21 h8 =>
  oLd1 t21 h8 fun t22 h9 =>
  oNilCheck a0 h9 fun t24 h10 =>
  oFieldAddr 1 t24 h10 fun t25 h11 =>
  oLd1 t25 h11 fun t26 h12 =>
  oFieldAddr 2 t3 h12 fun t27 h13 =>
  oLd1 t27 h13 fun t28 h14 =>
  oBin .sub t28 (Value.int .i64 1) h14 fun t29 h15 =>
  oIdxS 1 t26 t29 h15 fun t30 h16 =>
  oLd1 t30 h16 fun t31 h17 =>
  oFieldAddr 2 t3 h17 fun t32 h18 =>
  oLd1 t32 h18 fun t33 h19 =>
  oFieldAddr 1 t3 h19 fun t34 h20 =>
  oLd1 t34 h20 fun t35 h21 =>
  oFieldAddr 3 t3 h21 fun t36 h22 =>
  oLd1 t36 h22 fun t37 h23 =>
  oFieldAddr 4 t3 h23 fun t38 h24 =>
  oLd1 t38 h24 fun t39 h25 =>
  oBuild #[.int .i64 0, .int .i64 0, .int .i64 0, .int .u64 0, .int .i64 0, .slice none 0 0, .int .i64 0, .int .i64 0, .int .u64 0, .int .i64 0] [(1, 1, t33), (2, 1, t35), (3, 1, t37), (4, 1, t39)] h25 fun t40 h26 =>
  oAlloc #[.int .i64 0, .int .i64 0, .int .i64 0, .int .u64 0, .int .i64 0, .slice none 0 0, .int .i64 0, .int .i64 0, .int .u64 0, .int .i64 0] h26 fun t6 h27 =>
  oSt 10 t6 t40 h27 fun _ h28 =>
  oFieldAddr 0 t3 h28 fun t41 h29 =>
  oLd1 t41 h29 fun t42 h30 =>
  oBin .eql t42 (Value.int .i64 1) h30 fun t59 h31 =>
  oIf t59
  (oFieldAddr 3 t3 h31 fun t62 h32 =>
  oLd1 t62 h32 fun t63 h33 =>
  oFieldAddr 4 t3 h33 fun t64 h34 =>
  oLd1 t64 h34 fun t65 h35 =>
  C_q21 [t31, t63, t65] h35 fun t66 h36 =>
  oExtract t66 0 h36 fun t67 h37 =>
  oExtract t66 1 h37 fun t68 h38 =>
  oBin .eql t68 (Value.int .i64 0) h38 fun t70 h39 =>
  oIf t70
  (oFieldAddr 0 t6 h39 fun t71 h40 =>
  oSt 1 t71 (Value.int .i64 2) h40 fun _ h41 =>
  oFieldAddr 5 t6 h41 fun t73 h42 =>
  oSt 1 t73 t67 h42 fun _ h43 =>
  oNilCheck a0 h43 fun t76 h44 =>
  oFieldAddr 2 t76 h44 fun t77 h45 =>
  oLd1 t77 h45 fun t78 h46 =>
  oLdN 10 t6 h46 fun t79 h47 =>
  oBuildSlice #[.int .i64 0, .int .i64 0, .int .i64 0, .int .u64 0, .int .i64 0, .slice none 0 0, .int .i64 0, .int .i64 0, .int .u64 0, .int .i64 0] 1 [(0 * 10, 10, t79)] h47 fun t80 h48 =>
  ((oLd1 t77 h47 (fun v' _ => v' = t78) → oLd1 t77 h48 (fun v' _ => v' = t78)) ∧ True) ∧
  oAppend 10 96 #[.int .i64 0, .int .i64 0, .int .i64 0, .int .u64 0, .int .i64 0, .slice none 0 0, .int .i64 0, .int .i64 0, .int .u64 0, .int .i64 0] t78 t80 h48 fun t81 h49 =>
  ((oLdN 10 t6 h48 (fun v' _ => v' = t79) → oLdN 10 t6 h49 (fun v' _ => v' = t79)) ∧ True) ∧
  oNilCheck a0 h49 fun t82 h50 =>
  oFieldAddr 2 t82 h50 fun t83 h51 =>
  oSt 1 t83 t81 h51 fun _ h52 =>
  (True) ∧
  (qBlk 0 Qv) .normal (ul (E0_q109 a0 a1) [(3, t3), (4, t22), (5, t31), (6, t6), (7, t67), (8, t68), (14, a0), (15, t15), (16, t16), (17, t17), (18, t18), (19, t19), (20, t20), (21, t21), (22, t22), (23, a0), (24, t24), (25, t25), (26, t26), (27, t27), (28, t28), (29, t29), (30, t30), (31, t31), (32, t32), (33, t33), (34, t34), (35, t35), (36, t36), (37, t37), (38, t38), (39, t39), (40, t40), (41, t41), (42, t42), (58, t59), (59, t59), (60, t66), (61, t31), (62, t62), (63, t63), (64, t64), (65, t65), (66, t66), (67, t67), (68, t68), (69, t68), (70, t70), (71, t71), (72, t67), (73, t73), (74, a0), (75, a0), (76, t76), (77, t77), (78, t78), (79, t79), (80, t80), (81, t81), (82, t82), (83, t83)]) h52)
  ((qBlk 0 Qv) .normal (ul (E0_q109 a0 a1) [(3, t3), (4, t22), (5, t31), (6, t6), (7, t67), (8, t68), (14, a0), (15, t15), (16, t16), (17, t17), (18, t18), (19, t19), (20, t20), (21, t21), (22, t22), (23, a0), (24, t24), (25, t25), (26, t26), (27, t27), (28, t28), (29, t29), (30, t30), (31, t31), (32, t32), (33, t33), (34, t34), (35, t35), (36, t36), (37, t37), (38, t38), (39, t39), (40, t40), (41, t41), (42, t42), (58, t59), (59, t59), (60, t66), (61, t31), (62, t62), (63, t63), (64, t64), (65, t65), (66, t66), (67, t67), (68, t68), (69, t68), (70, t70)]) h39))
  (oBin .eql t42 (Value.int .i64 2) h31 fun t85 h53 =>
  oIf t85
  (oFieldAddr 3 t3 h53 fun t88 h54 =>
  oLd1 t88 h54 fun t89 h55 =>
  oFieldAddr 1 t3 h55 fun t90 h56 =>
  oLd1 t90 h56 fun t91 h57 =>
  oFieldAddr 5 t3 h57 fun t92 h58 =>
  oLd1 t92 h58 fun t93 h59 =>
  C_q57 [t22, t89, t91, t93] h59 fun t94 h60 =>
  oExtract t94 0 h60 fun t95 h61 =>
  oExtract t94 1 h61 fun t96 h62 =>
  aw Try.prog O_q109 K_q109_0 (qBlk 1 (qBlk 0 Qv)) (ul (E0_q109 a0 a1) [(3, t3), (4, t22), (5, t31), (6, t6), (9, t95), (10, t96), (11, (Value.int .i64 0)), (14, a0), (15, t15), (16, t16), (17, t17), (18, t18), (19, t19), (20, t20), (21, t21), (22, t22), (23, a0), (24, t24), (25, t25), (26, t26), (27, t27), (28, t28), (29, t29), (30, t30), (31, t31), (32, t32), (33, t33), (34, t34), (35, t35), (36, t36), (37, t37), (38, t38), (39, t39), (40, t40), (41, t41), (42, t42), (58, t59), (59, t59), (84, t85), (85, t85), (86, t94), (87, t22), (88, t88), (89, t89), (90, t90), (91, t91), (92, t92), (93, t93), (94, t94), (95, t95), (96, t96)]) h62)
  (oBin .eql t42 (Value.int .i64 3) h53 fun t124 h63 =>
  oIf t124
  (oFieldAddr 3 t3 h63 fun t126 h64 =>
  oLd1 t126 h64 fun t127 h65 =>
  oFieldAddr 4 t3 h65 fun t128 h66 =>
  oLd1 t128 h66 fun t129 h67 =>
  oFieldAddr 6 t3 h67 fun t130 h68 =>
  oLdN 4 t130 h68 fun t131 h69 =>
  C_q24 [t31, t127, t129, t131] h69 fun t132 h70 =>
  oBin .eql t132 (Value.int .i64 0) h70 fun t133 h71 =>
  oIf t133
  (oFieldAddr 0 t6 h71 fun t134 h72 =>
  oSt 1 t134 (Value.int .i64 4) h72 fun _ h73 =>
  oNilCheck a0 h73 fun t137 h74 =>
  oFieldAddr 2 t137 h74 fun t138 h75 =>
  oLd1 t138 h75 fun t139 h76 =>
  oLdN 10 t6 h76 fun t140 h77 =>
  oBuildSlice #[.int .i64 0, .int .i64 0, .int .i64 0, .int .u64 0, .int .i64 0, .slice none 0 0, .int .i64 0, .int .i64 0, .int .u64 0, .int .i64 0] 1 [(0 * 10, 10, t140)] h77 fun t141 h78 =>
  ((oLd1 t138 h77 (fun v' _ => v' = t139) → oLd1 t138 h78 (fun v' _ => v' = t139)) ∧ True) ∧
  oAppend 10 96 #[.int .i64 0, .int .i64 0, .int .i64 0, .int .u64 0, .int .i64 0, .slice none 0 0, .int .i64 0, .int .i64 0, .int .u64 0, .int .i64 0] t139 t141 h78 fun t142 h79 =>
  ((oLdN 10 t6 h78 (fun v' _ => v' = t140) → oLdN 10 t6 h79 (fun v' _ => v' = t140)) ∧ True) ∧
  oNilCheck a0 h79 fun t143 h80 =>
  oFieldAddr 2 t143 h80 fun t144 h81 =>
  oSt 1 t144 t142 h81 fun _ h82 =>
  (True) ∧
  (qBlk 0 Qv) .normal (ul (E0_q109 a0 a1) [(3, t3), (4, t22), (5, t31), (6, t6), (14, a0), (15, t15), (16, t16), (17, t17), (18, t18), (19, t19), (20, t20), (21, t21), (22, t22), (23, a0), (24, t24), (25, t25), (26, t26), (27, t27), (28, t28), (29, t29), (30, t30), (31, t31), (32, t32), (33, t33), (34, t34), (35, t35), (36, t36), (37, t37), (38, t38), (39, t39), (40, t40), (41, t41), (42, t42), (58, t59), (59, t59), (84, t85), (85, t85), (123, t124), (124, t124), (125, t31), (126, t126), (127, t127), (128, t128), (129, t129), (130, t130), (131, t131), (132, t132), (133, t133), (134, t134), (135, a0), (136, a0), (137, t137), (138, t138), (139, t139), (140, t140), (141, t141), (142, t142), (143, t143), (144, t144)]) h82)
  ((qBlk 0 Qv) .normal (ul (E0_q109 a0 a1) [(3, t3), (4, t22), (5, t31), (6, t6), (14, a0), (15, t15), (16, t16), (17, t17), (18, t18), (19, t19), (20, t20), (21, t21), (22, t22), (23, a0), (24, t24), (25, t25), (26, t26), (27, t27), (28, t28), (29, t29), (30, t30), (31, t31), (32, t32), (33, t33), (34, t34), (35, t35), (36, t36), (37, t37), (38, t38), (39, t39), (40, t40), (41, t41), (42, t42), (58, t59), (59, t59), (84, t85), (85, t85), (123, t124), (124, t124), (125, t31), (126, t126), (127, t127), (128, t128), (129, t129), (130, t130), (131, t131), (132, t132), (133, t133)]) h71))
  (oFieldAddr 3 t3 h63 fun t45 h83 =>
  oLd1 t45 h83 fun t46 h84 =>
  oFieldAddr 4 t3 h84 fun t47 h85 =>
  oLd1 t47 h85 fun t48 h86 =>
  oFieldAddr 1 t3 h86 fun t49 h87 =>
  oLd1 t49 h87 fun t50 h88 =>
  C_q47 [t22, t46, t48, t50] h88 fun t51 h89 =>
  oExtract t51 0 h89 fun t52 h90 =>
  oExtract t51 1 h90 fun t53 h91 =>
  oAlloc #[.int .i64 0, .int .u64 0, .int .i64 0, .int .i64 0, .int .u64 0, .int .i64 0] h91 fun t12 h92 =>
  oSt 6 t12 t52 h92 fun _ h93 =>
  oIf t53
  (oLdN 6 t12 h93 fun t56 h94 =>
  C_q81 [a0, t56] h94 fun t57 h95 =>
  (qBlk 0 Qv) .normal (ul (E0_q109 a0 a1) [(3, t3), (4, t22), (5, t31), (6, t6), (12, t12), (13, t53), (14, a0), (15, t15), (16, t16), (17, t17), (18, t18), (19, t19), (20, t20), (21, t21), (22, t22), (23, a0), (24, t24), (25, t25), (26, t26), (27, t27), (28, t28), (29, t29), (30, t30), (31, t31), (32, t32), (33, t33), (34, t34), (35, t35), (36, t36), (37, t37), (38, t38), (39, t39), (40, t40), (41, t41), (42, t42), (43, t51), (44, t22), (45, t45), (46, t46), (47, t47), (48, t48), (49, t49), (50, t50), (51, t51), (52, t52), (53, t53), (54, t53), (55, a0), (56, t56), (57, t57), (58, t59), (59, t59), (84, t85), (85, t85), (123, t124), (124, t124)]) h95)
  ((qBlk 0 Qv) .normal (ul (E0_q109 a0 a1) [(3, t3), (4, t22), (5, t31), (6, t6), (12, t12), (13, t53), (14, a0), (15, t15), (16, t16), (17, t17), (18, t18), (19, t19), (20, t20), (21, t21), (22, t22), (23, a0), (24, t24), (25, t25), (26, t26), (27, t27), (28, t28), (29, t29), (30, t30), (31, t31), (32, t32), (33, t33), (34, t34), (35, t35), (36, t36), (37, t37), (38, t38), (39, t39), (40, t40), (41, t41), (42, t42), (43, t51), (44, t22), (45, t45), (46, t46), (47, t47), (48, t48), (49, t49), (50, t50), (51, t51), (52, t52), (53, t53), (54, t53), (58, t59), (59, t59), (84, t85), (85, t85), (123, t124), (124, t124)]) h93))))
theorem ga_q109 (Qv : Post) (a0 a1 : Value) (h : Hp) : aw Try.prog O_q109 (bodyC Try.f40) Qv (E0_q109 a0 a1) h = X_q109 Qv a0 a1 h := by kernel_rfl
theorem gb_q109 (a0 a1 : Value) (h : Hp) (K : Kont) : X_q109 (qTop Try.prog Try.f40 K) a0 a1 h = G_q109 a0 a1 h K := by kernel_rfl
theorem gc_q109 (a0 a1 : Value) (h : Hp) (K : Kont) : abody Try.prog O_q109 Try.f40 (bodyC Try.f40) [a0, a1] h K = aw Try.prog O_q109 (bodyC Try.f40) (qTop Try.prog Try.f40 K) (E0_q109 a0 a1) h := by kernel_rfl
theorem eq_q109 (a0 a1 : Value) (h : Hp) (K : Kont) : abody Try.prog O_q109 Try.f40 (bodyC Try.f40) [a0, a1] h K = G_q109 a0 a1 h K := (gc_q109 a0 a1 h K).trans ((ga_q109 _ a0 a1 h).trans (gb_q109 a0 a1 h K))
theorem ok_q109 {a0 a1 : Value} {h : Hp} {K : Kont} (hk : G_q109 a0 a1 h K) : C_q109 [a0, a1] h K := ac_of_body prog_mixed (fn := Try.f40) Try.func40 (c := bodyC Try.f40) (by kernel_rfl) ((eq_q109 a0 a1 h K).mpr hk)
def B_q109_1 (K : Kont) (s0 : Self) (v0 v3 v9 v11 : Value) (d : Nat → Value) (h : Hp) : Prop :=
  oLen 0 v9 h fun t99 h1 =>
  oBin .lss v11 t99 h1 fun t100 h2 =>
  oIf t100
  (oFieldAddr 2 v3 h2 fun t104 h3 =>
  oLd1 t104 h3 fun t105 h4 =>
  oIdxS 6 v9 v11 h4 fun t108 h5 =>
  oFieldAddr 1 t108 h5 fun t109 h6 =>
  oLd1 t109 h6 fun t110 h7 =>
  oIdxS 6 v9 v11 h7 fun t113 h8 =>
  oFieldAddr 0 t113 h8 fun t114 h9 =>
  oLd1 t114 h9 fun t115 h10 =>
  oIdxS 6 v9 v11 h10 fun t118 h11 =>
  oFieldAddr 2 t118 h11 fun t119 h12 =>
  oLdN 4 t119 h12 fun t120 h13 =>
  oBuild #[.int .i64 0, .int .i64 0, .int .i64 0, .int .u64 0, .int .i64 0, .slice none 0 0, .int .i64 0, .int .i64 0, .int .u64 0, .int .i64 0] [(0, 1, (Value.int .i64 3)), (1, 1, t105), (3, 1, t110), (4, 1, t115), (6, 4, t120)] h13 fun t121 h14 =>
  C_q91 [v0, t121] h14 fun t122 h15 =>
  ((oLdN 4 t119 h14 (fun v' _ => v' = t120) → oLdN 4 t119 h15 (fun v' _ => v' = t120)) ∧ (oLd1 t114 h14 (fun v' _ => v' = t115) → oLd1 t114 h15 (fun v' _ => v' = t115)) ∧ (oLd1 t109 h14 (fun v' _ => v' = t110) → oLd1 t109 h15 (fun v' _ => v' = t110)) ∧ (oLd1 t104 h14 (fun v' _ => v' = t105) → oLd1 t104 h15 (fun v' _ => v' = t105)) ∧ True) ∧
  oBin .add v11 (Value.int .i64 1) h15 fun t102 h16 =>
  s0 (E_q109_1 v0 v3 v9 t102 (ud [(97, v11), (98, v9), (99, t99), (100, t100), (101, v11), (102, t102), (103, v0), (104, t104), (105, t105), (106, v9), (107, v11), (108, t108), (109, t109), (110, t110), (111, v9), (112, v11), (113, t113), (114, t114), (115, t115), (116, v9), (117, v11), (118, t118), (119, t119), (120, t120), (121, t121), (122, t122)] d)) h16)
  (K (.tuple #[]) h2)
def X_q109_1 (Qv : Post) (v0 v3 v9 v11 : Value) (d : Nat → Value) (h : Hp) : Prop :=
  oLen 0 v9 h fun t99 h1 =>
  oBin .lss v11 t99 h1 fun t100 h2 =>
  oIf t100
  (oFieldAddr 2 v3 h2 fun t104 h3 =>
  oLd1 t104 h3 fun t105 h4 =>
  oIdxS 6 v9 v11 h4 fun t108 h5 =>
  oFieldAddr 1 t108 h5 fun t109 h6 =>
  oLd1 t109 h6 fun t110 h7 =>
  oIdxS 6 v9 v11 h7 fun t113 h8 =>
  oFieldAddr 0 t113 h8 fun t114 h9 =>
  oLd1 t114 h9 fun t115 h10 =>
  oIdxS 6 v9 v11 h10 fun t118 h11 =>
  oFieldAddr 2 t118 h11 fun t119 h12 =>
  oLdN 4 t119 h12 fun t120 h13 =>
  oBuild #[.int .i64 0, .int .i64 0, .int .i64 0, .int .u64 0, .int .i64 0, .slice none 0 0, .int .i64 0, .int .i64 0, .int .u64 0, .int .i64 0] [(0, 1, (Value.int .i64 3)), (1, 1, t105), (3, 1, t110), (4, 1, t115), (6, 4, t120)] h13 fun t121 h14 =>
  C_q91 [v0, t121] h14 fun t122 h15 =>
  ((oLdN 4 t119 h14 (fun v' _ => v' = t120) → oLdN 4 t119 h15 (fun v' _ => v' = t120)) ∧ (oLd1 t114 h14 (fun v' _ => v' = t115) → oLd1 t114 h15 (fun v' _ => v' = t115)) ∧ (oLd1 t109 h14 (fun v' _ => v' = t110) → oLd1 t109 h15 (fun v' _ => v' = t110)) ∧ (oLd1 t104 h14 (fun v' _ => v' = t105) → oLd1 t104 h15 (fun v' _ => v' = t105)) ∧ True) ∧
  oBin .add v11 (Value.int .i64 1) h15 fun t102 h16 =>
  Qv .normal (ul (E_q109_1 v0 v3 v9 v11 d) [(11, t102), (97, v11), (98, v9), (99, t99), (100, t100), (101, v11), (102, t102), (103, v0), (104, t104), (105, t105), (106, v9), (107, v11), (108, t108), (109, t109), (110, t110), (111, v9), (112, v11), (113, t113), (114, t114), (115, t115), (116, v9), (117, v11), (118, t118), (119, t119), (120, t120), (121, t121), (122, t122)]) h16)
  ((qSeq (aw Try.prog O_q109 K_q109_2 Qv) Qv) (.exit 1) (ul (E_q109_1 v0 v3 v9 v11 d) [(97, v11), (98, v9), (99, t99), (100, t100)]) h2)
theorem ga_q109_1 (Qv : Post) (v0 v3 v9 v11 : Value) (d : Nat → Value) (h : Hp) : aw Try.prog O_q109 K_q109_1 Qv (E_q109_1 v0 v3 v9 v11 d) h = X_q109_1 Qv v0 v3 v9 v11 d h := by kernel_rfl
theorem gb_q109_1 (K : Kont) (s0 : Self) (v0 v3 v9 v11 : Value) (d : Nat → Value) (h : Hp) : X_q109_1 (Q_q109_2 K s0) v0 v3 v9 v11 d h = B_q109_1 K s0 v0 v3 v9 v11 d h := by kernel_rfl
theorem beq_q109_1 (K : Kont) (s0 : Self) (v0 v3 v9 v11 : Value) (d : Nat → Value) (h : Hp) : aw Try.prog O_q109 K_q109_1 (Q_q109_2 K s0) (E_q109_1 v0 v3 v9 v11 d) h = B_q109_1 K s0 v0 v3 v9 v11 d h := (ga_q109_1 _ v0 v3 v9 v11 d h).trans (gb_q109_1 K s0 v0 v3 v9 v11 d h)
theorem rule_q109_1 {K : Kont} {v0 v3 v9 : Value} (Inv : Value → Hp → Prop) (μ : Value → Hp → Nat)
    (step : ∀ (s0 : Self) (v11 : Value) (d : Nat → Value) (h : Hp), Inv v11 h → (∀ (v11' : Value) (d' : Nat → Value) (h' : Hp), Inv v11' h' → μ v11' h' < μ v11 h → s0 (E_q109_1 v0 v3 v9 v11' d') h') → B_q109_1 K s0 v0 v3 v9 v11 d h) (v11 : Value) (d : Nat → Value) (h : Hp) (hi : Inv v11 h) : G_q109_1 K v0 v3 v9 v11 d h :=
  oLoop_rule (α := Value × (Nat → Value)) (fun x => E_q109_1 v0 v3 v9 x.1 x.2) (fun x h => Inv x.1 h) (fun x h => μ x.1 h)
    (fun self x h hx hs => (beq_q109_1 K self v0 v3 v9 x.1 x.2 h).mpr (step self x.1 x.2 h hx (fun v11' d' h' h1 h2 => hs ⟨v11', d'⟩ h' h1 h2))) ⟨v11, d⟩ h hi
def O_q91 : Od := [(5, (.one 0 true (.one 1 true (.one 2 true (.one 3 true (.one 4 true (.one 5 true (.one 6 false (.one 7 false (.one 8 true (.one 9 true (.one 10 false .nil))))))))))))]
noncomputable def K_q91_0 : Code := (cI (cB (cB (bodyC Try.f41))))
def Q_q91_0 (K : Kont) : Post := qBlk 0 (qTop Try.prog Try.f41 K)
def E_q91_1 (v0 v3 v4 : Value) (d : Nat → Value) : List Value := [v0, d 1, d 2, v3, v4, d 5, d 6, d 7, d 8, d 9, d 10, d 11, d 12, d 13, d 14, d 15, d 16, d 17, d 18, d 19, d 20, d 21, d 22, d 23, d 24, d 25]
def G_q91_1 (K : Kont) (v0 v3 v4 : Value) (d : Nat → Value) (h : Hp) : Prop := aw Try.prog O_q91 K_q91_0 (Q_q91_0 K) (E_q91_1 v0 v3 v4 d) h
def Q_q91_1 (K : Kont) (s0 : Self) : Post := qSeq s0 (Q_q91_0 K)
noncomputable def K_q91_1 : Code := (cI (cI (cB (cB (bodyC Try.f41)))))
noncomputable def K_q91_2 : Code := (cB (cI (cI (cB (cB (bodyC Try.f41))))))
def G_q91 (a0 a1 : Value) (h : Hp) (K : Kont) : Prop :=
  oBox a1 h fun t3 h1 =>
  G_q91_1 K a0 t3 (Value.int .i64 1) (ud [(1, a1)] dz) h1
def E0_q91 (a0 a1 : Value) : List Value := [a0, a1, undef, undef, undef, undef, undef, undef, undef, undef, undef, undef, undef, undef, undef, undef, undef, undef, undef, undef, undef, undef, undef, undef, undef, undef]
def X_q91 (Qv : Post) (a0 a1 : Value) (h : Hp) : Prop :=
  oBox a1 h fun t3 h1 =>
  aw Try.prog O_q91 K_q91_0 (qBlk 0 Qv) (ul (E0_q91 a0 a1) [(3, t3), (4, (Value.int .i64 1))]) h1
theorem ga_q91 (Qv : Post) (a0 a1 : Value) (h : Hp) : aw Try.prog O_q91 (bodyC Try.f41) Qv (E0_q91 a0 a1) h = X_q91 Qv a0 a1 h := by kernel_rfl
theorem gb_q91 (a0 a1 : Value) (h : Hp) (K : Kont) : X_q91 (qTop Try.prog Try.f41 K) a0 a1 h = G_q91 a0 a1 h K := by kernel_rfl
theorem gc_q91 (a0 a1 : Value) (h : Hp) (K : Kont) : abody Try.prog O_q91 Try.f41 (bodyC Try.f41) [a0, a1] h K = aw Try.prog O_q91 (bodyC Try.f41) (qTop Try.prog Try.f41 K) (E0_q91 a0 a1) h := by kernel_rfl
theorem eq_q91 (a0 a1 : Value) (h : Hp) (K : Kont) : abody Try.prog O_q91 Try.f41 (bodyC Try.f41) [a0, a1] h K = G_q91 a0 a1 h K := (gc_q91 a0 a1 h K).trans ((ga_q91 _ a0 a1 h).trans (gb_q91 a0 a1 h K))
theorem ok_q91 {a0 a1 : Value} {h : Hp} {K : Kont} (hk : G_q91 a0 a1 h K) : C_q91 [a0, a1] h K := ac_of_body prog_mixed (fn := Try.f41) Try.func41 (c := bodyC Try.f41) (by kernel_rfl) ((eq_q91 a0 a1 h K).mpr hk)
def B_q91_1 (K : Kont) (s0 : Self) (v0 v3 v4 : Value) (d : Nat → Value) (h : Hp) : Prop :=
  oNilCheck v0 h fun t7 h1 =>
  oFieldAddr 0 t7 h1 fun t8 h2 =>
  oLd1 t8 h2 fun t9 h3 =>
  oLen 0 t9 h3 fun t10 h4 =>
  oBin .leq v4 t10 h4 fun t11 h5 =>
  oIf t11
  (oFieldAddr 2 v3 h5 fun t15 h6 =>
  oSt 1 t15 v4 h6 fun _ h7 =>
  oNilCheck v0 h7 fun t18 h8 =>
  oFieldAddr 2 t18 h8 fun t19 h9 =>
  oLd1 t19 h9 fun t20 h10 =>
  oLdN 10 v3 h10 fun t21 h11 =>
  oBuildSlice #[.int .i64 0, .int .i64 0, .int .i64 0, .int .u64 0, .int .i64 0, .slice none 0 0, .int .i64 0, .int .i64 0, .int .u64 0, .int .i64 0] 1 [(0 * 10, 10, t21)] h11 fun t22 h12 =>
  ((oLd1 t19 h11 (fun v' _ => v' = t20) → oLd1 t19 h12 (fun v' _ => v' = t20)) ∧ True) ∧
  oAppend 10 96 #[.int .i64 0, .int .i64 0, .int .i64 0, .int .u64 0, .int .i64 0, .slice none 0 0, .int .i64 0, .int .i64 0, .int .u64 0, .int .i64 0] t20 t22 h12 fun t23 h13 =>
  ((oLdN 10 v3 h12 (fun v' _ => v' = t21) → oLdN 10 v3 h13 (fun v' _ => v' = t21)) ∧ True) ∧
  oNilCheck v0 h13 fun t24 h14 =>
  oFieldAddr 2 t24 h14 fun t25 h15 =>
  oSt 1 t25 t23 h15 fun _ h16 =>
  (True) ∧
  oBin .add v4 (Value.int .i64 1) h16 fun t13 h17 =>
  s0 (E_q91_1 v0 v3 t13 (ud [(5, v4), (6, v0), (7, t7), (8, t8), (9, t9), (10, t10), (11, t11), (12, v4), (13, t13), (14, v4), (15, t15), (16, v0), (17, v0), (18, t18), (19, t19), (20, t20), (21, t21), (22, t22), (23, t23), (24, t24), (25, t25)] d)) h17)
  (K (.tuple #[]) h5)
def X_q91_1 (Qv : Post) (v0 v3 v4 : Value) (d : Nat → Value) (h : Hp) : Prop :=
  oNilCheck v0 h fun t7 h1 =>
  oFieldAddr 0 t7 h1 fun t8 h2 =>
  oLd1 t8 h2 fun t9 h3 =>
  oLen 0 t9 h3 fun t10 h4 =>
  oBin .leq v4 t10 h4 fun t11 h5 =>
  oIf t11
  (oFieldAddr 2 v3 h5 fun t15 h6 =>
  oSt 1 t15 v4 h6 fun _ h7 =>
  oNilCheck v0 h7 fun t18 h8 =>
  oFieldAddr 2 t18 h8 fun t19 h9 =>
  oLd1 t19 h9 fun t20 h10 =>
  oLdN 10 v3 h10 fun t21 h11 =>
  oBuildSlice #[.int .i64 0, .int .i64 0, .int .i64 0, .int .u64 0, .int .i64 0, .slice none 0 0, .int .i64 0, .int .i64 0, .int .u64 0, .int .i64 0] 1 [(0 * 10, 10, t21)] h11 fun t22 h12 =>
  ((oLd1 t19 h11 (fun v' _ => v' = t20) → oLd1 t19 h12 (fun v' _ => v' = t20)) ∧ True) ∧
  oAppend 10 96 #[.int .i64 0, .int .i64 0, .int .i64 0, .int .u64 0, .int .i64 0, .slice none 0 0, .int .i64 0, .int .i64 0, .int .u64 0, .int .i64 0] t20 t22 h12 fun t23 h13 =>
  ((oLdN 10 v3 h12 (fun v' _ => v' = t21) → oLdN 10 v3 h13 (fun v' _ => v' = t21)) ∧ True) ∧
  oNilCheck v0 h13 fun t24 h14 =>
  oFieldAddr 2 t24 h14 fun t25 h15 =>
  oSt 1 t25 t23 h15 fun _ h16 =>
  (True) ∧
  oBin .add v4 (Value.int .i64 1) h16 fun t13 h17 =>
  Qv .normal (ul (E_q91_1 v0 v3 v4 d) [(4, t13), (5, v4), (6, v0), (7, t7), (8, t8), (9, t9), (10, t10), (11, t11), (12, v4), (13, t13), (14, v4), (15, t15), (16, v0), (17, v0), (18, t18), (19, t19), (20, t20), (21, t21), (22, t22), (23, t23), (24, t24), (25, t25)]) h17)
  ((qSeq (aw Try.prog O_q91 K_q91_2 Qv) Qv) (.exit 0) (ul (E_q91_1 v0 v3 v4 d) [(5, v4), (6, v0), (7, t7), (8, t8), (9, t9), (10, t10), (11, t11)]) h5)
theorem ga_q91_1 (Qv : Post) (v0 v3 v4 : Value) (d : Nat → Value) (h : Hp) : aw Try.prog O_q91 K_q91_1 Qv (E_q91_1 v0 v3 v4 d) h = X_q91_1 Qv v0 v3 v4 d h := by kernel_rfl
theorem gb_q91_1 (K : Kont) (s0 : Self) (v0 v3 v4 : Value) (d : Nat → Value) (h : Hp) : X_q91_1 (Q_q91_1 K s0) v0 v3 v4 d h = B_q91_1 K s0 v0 v3 v4 d h := by kernel_rfl
theorem beq_q91_1 (K : Kont) (s0 : Self) (v0 v3 v4 : Value) (d : Nat → Value) (h : Hp) : aw Try.prog O_q91 K_q91_1 (Q_q91_1 K s0) (E_q91_1 v0 v3 v4 d) h = B_q91_1 K s0 v0 v3 v4 d h := (ga_q91_1 _ v0 v3 v4 d h).trans (gb_q91_1 K s0 v0 v3 v4 d h)
theorem rule_q91_1 {K : Kont} {v0 v3 : Value} (Inv : Value → Hp → Prop) (μ : Value → Hp → Nat)
    (step : ∀ (s0 : Self) (v4 : Value) (d : Nat → Value) (h : Hp), Inv v4 h → (∀ (v4' : Value) (d' : Nat → Value) (h' : Hp), Inv v4' h' → μ v4' h' < μ v4 h → s0 (E_q91_1 v0 v3 v4' d') h') → B_q91_1 K s0 v0 v3 v4 d h) (v4 : Value) (d : Nat → Value) (h : Hp) (hi : Inv v4 h) : G_q91_1 K v0 v3 v4 d h :=
  oLoop_rule (α := Value × (Nat → Value)) (fun x => E_q91_1 v0 v3 x.1 x.2) (fun x h => Inv x.1 h) (fun x h => μ x.1 h)
    (fun self x h hx hs => (beq_q91_1 K self v0 v3 x.1 x.2 h).mpr (step self x.1 x.2 h hx (fun v4' d' h' h1 h2 => hs ⟨v4', d'⟩ h' h1 h2))) ⟨v4, d⟩ h hi
def O_q101 : Od := []
noncomputable def K_q101_0 : Code := (cI (cB (cA (cB (cB (bodyC Try.f44))))))
noncomputable def K_q101_1 : Code := (cB (cB (cB (bodyC Try.f44))))
def Q_q101_0 (K : Kont) : Post := qSeq (aw Try.prog O_q101 K_q101_1 (qTop Try.prog Try.f44 K)) (qTop Try.prog Try.f44 K)
def Q_q101_1 (K : Kont) : Post := qBlk 0 (Q_q101_0 K)
def E_q101_1 (v0 v1 v5 v10 v11 v12 : Value) (d : Nat → Value) : List Value := [v0, v1, d 2, d 3, d 4, v5, d 6, d 7, d 8, d 9, v10, v11, v12, d 13, d 14, d 15, d 16, d 17, d 18, d 19, d 20, d 21, d 22, d 23, d 24, d 25, d 26]
def G_q101_1 (K : Kont) (v0 v1 v5 v10 v11 v12 : Value) (d : Nat → Value) (h : Hp) : Prop := aw Try.prog O_q101 K_q101_0 (Q_q101_1 K) (E_q101_1 v0 v1 v5 v10 v11 v12 d) h
def Q_q101_2 (K : Kont) (s0 : Self) : Post := qSeq s0 (Q_q101_1 K)
noncomputable def K_q101_2 : Code := (cI (cI (cB (cA (cB (cB (bodyC Try.f44)))))))
noncomputable def K_q101_3 : Code := (cB (cB (cB (cI (cI (cB (cA (cB (cB (bodyC Try.f44))))))))))
def E_q101_2 (v0 v1 v5 v10 v11 v12 : Value) (d : Nat → Value) : List Value := [v0, v1, d 2, d 3, d 4, v5, d 6, d 7, d 8, d 9, v10, v11, v12, d 13, d 14, d 15, d 16, d 17, d 18, d 19, d 20, d 21, d 22, d 23, d 24, d 25, d 26]
def G_q101_2 (K : Kont) (s0 : Self) (v0 v1 v5 v10 v11 v12 : Value) (d : Nat → Value) (h : Hp) : Prop := aw Try.prog O_q101 K_q101_3 (Q_q101_2 K s0) (E_q101_2 v0 v1 v5 v10 v11 v12 d) h
noncomputable def K_q101_4 : Code := (cB (cB (cI (cI (cB (cA (cB (cB (bodyC Try.f44)))))))))
def G_q101 (a0 a1 : Value) (h : Hp) (K : Kont) : Prop :=
  C_q6 [a0] h fun t9 h1 =>
  C_q61 [t9] h1 fun t10 h2 =>
  oLen 0 t10 h2 fun t11 h3 =>
  G_q101_1 K a0 a1 (Value.slice none 0 0) t10 t11 (Value.int .i64 0) (ud [(4, (Value.slice none 0 0)), (8, a0), (9, t9)] dz) h3
def E0_q101 (a0 a1 : Value) : List Value := [a0, a1, undef, undef, undef, undef, undef, undef, undef, undef, undef, undef, undef, undef, undef, undef, undef, undef, undef, undef, undef, undef, undef, undef, undef, undef, undef]
def X_q101 (Qv : Post) (a0 a1 : Value) (h : Hp) : Prop :=
  C_q6 [a0] h fun t9 h1 =>
  C_q61 [t9] h1 fun t10 h2 =>
  oLen 0 t10 h2 fun t11 h3 =>
  aw Try.prog O_q101 K_q101_0 (qBlk 0 (qSeq (aw Try.prog O_q101 K_q101_1 Qv) Qv)) (ul (E0_q101 a0 a1) [(4, (Value.slice none 0 0)), (5, (Value.slice none 0 0)), (8, a0), (9, t9), (10, t10), (11, t11), (12, (Value.int .i64 0))]) h3
theorem ga_q101 (Qv : Post) (a0 a1 : Value) (h : Hp) : aw Try.prog O_q101 (bodyC Try.f44) Qv (E0_q101 a0 a1) h = X_q101 Qv a0 a1 h := by kernel_rfl
theorem gb_q101 (a0 a1 : Value) (h : Hp) (K : Kont) : X_q101 (qTop Try.prog Try.f44 K) a0 a1 h = G_q101 a0 a1 h K := by kernel_rfl
theorem gc_q101 (a0 a1 : Value) (h : Hp) (K : Kont) : abody Try.prog O_q101 Try.f44 (bodyC Try.f44) [a0, a1] h K = aw Try.prog O_q101 (bodyC Try.f44) (qTop Try.prog Try.f44 K) (E0_q101 a0 a1) h := by kernel_rfl
theorem eq_q101 (a0 a1 : Value) (h : Hp) (K : Kont) : abody Try.prog O_q101 Try.f44 (bodyC Try.f44) [a0, a1] h K = G_q101 a0 a1 h K := (gc_q101 a0 a1 h K).trans ((ga_q101 _ a0 a1 h).trans (gb_q101 a0 a1 h K))
theorem ok_q101 {a0 a1 : Value} {h : Hp} {K : Kont} (hk : G_q101 a0 a1 h K) : C_q101 [a0, a1] h K := ac_of_body prog_mixed (fn := Try.f44) Try.func44 (c := bodyC Try.f44) (by kernel_rfl) ((eq_q101 a0 a1 h K).mpr hk)
def B_q101_1 (K : Kont) (s0 : Self) (v0 v1 v5 v10 v11 v12 : Value) (d : Nat → Value) (h : Hp) : Prop :=
  oBin .lss v12 v11 h fun t13 h1 =>
  oIf t13
  (oIdxS 1 v10 v12 h1 fun t14 h2 =>
  oLd1 t14 h2 fun t15 h3 =>
  oBin .geq t15 v1 h3 fun t18 h4 =>
  oIf t18
  (oLookup (.int .i64) (.agg #[.int .i64 0, .int .u64 0, .int .i64 0, .int .i64 0, .int .u64 0, .int .i64 0]) v0 t15 false h4 fun t22 h5 =>
  oBuildSlice #[.int .i64 0, .int .u64 0, .int .i64 0, .int .i64 0, .int .u64 0, .int .i64 0] 1 [(0 * 6, 6, t22)] h5 fun t23 h6 =>
  oAppend 6 48 #[.int .i64 0, .int .u64 0, .int .i64 0, .int .i64 0, .int .u64 0, .int .i64 0] v5 t23 h6 fun t24 h7 =>
  G_q101_2 K s0 v0 v1 t24 v10 v11 v12 (ud [(7, t15), (13, t13), (14, t14), (15, t15), (16, t15), (17, v1), (18, t18), (19, v5), (20, v0), (21, t15), (22, t22), (23, t23), (24, t24)] d) h7)
  (G_q101_2 K s0 v0 v1 v5 v10 v11 v12 (ud [(7, t15), (13, t13), (14, t14), (15, t15), (16, t15), (17, v1), (18, t18)] d) h4))
  (K v5 h1)
def X_q101_1 (Qv : Post) (v0 v1 v5 v10 v11 v12 : Value) (d : Nat → Value) (h : Hp) : Prop :=
  oBin .lss v12 v11 h fun t13 h1 =>
  oIf t13
  (oIdxS 1 v10 v12 h1 fun t14 h2 =>
  oLd1 t14 h2 fun t15 h3 =>
  oBin .geq t15 v1 h3 fun t18 h4 =>
  oIf t18
  (oLookup (.int .i64) (.agg #[.int .i64 0, .int .u64 0, .int .i64 0, .int .i64 0, .int .u64 0, .int .i64 0]) v0 t15 false h4 fun t22 h5 =>
  oBuildSlice #[.int .i64 0, .int .u64 0, .int .i64 0, .int .i64 0, .int .u64 0, .int .i64 0] 1 [(0 * 6, 6, t22)] h5 fun t23 h6 =>
  oAppend 6 48 #[.int .i64 0, .int .u64 0, .int .i64 0, .int .i64 0, .int .u64 0, .int .i64 0] v5 t23 h6 fun t24 h7 =>
  (qBlk 1 (qSeq (aw Try.prog O_q101 K_q101_3 Qv) Qv)) .normal (ul (E_q101_1 v0 v1 v5 v10 v11 v12 d) [(5, t24), (7, t15), (13, t13), (14, t14), (15, t15), (16, t15), (17, v1), (18, t18), (19, v5), (20, v0), (21, t15), (22, t22), (23, t23), (24, t24)]) h7)
  ((qBlk 1 (qSeq (aw Try.prog O_q101 K_q101_3 Qv) Qv)) .normal (ul (E_q101_1 v0 v1 v5 v10 v11 v12 d) [(7, t15), (13, t13), (14, t14), (15, t15), (16, t15), (17, v1), (18, t18)]) h4))
  ((qSeq (aw Try.prog O_q101 K_q101_4 Qv) Qv) (.exit 0) (ul (E_q101_1 v0 v1 v5 v10 v11 v12 d) [(13, t13)]) h1)
theorem ga_q101_1 (Qv : Post) (v0 v1 v5 v10 v11 v12 : Value) (d : Nat → Value) (h : Hp) : aw Try.prog O_q101 K_q101_2 Qv (E_q101_1 v0 v1 v5 v10 v11 v12 d) h = X_q101_1 Qv v0 v1 v5 v10 v11 v12 d h := by kernel_rfl
theorem gb_q101_1 (K : Kont) (s0 : Self) (v0 v1 v5 v10 v11 v12 : Value) (d : Nat → Value) (h : Hp) : X_q101_1 (Q_q101_2 K s0) v0 v1 v5 v10 v11 v12 d h = B_q101_1 K s0 v0 v1 v5 v10 v11 v12 d h := by kernel_rfl
theorem beq_q101_1 (K : Kont) (s0 : Self) (v0 v1 v5 v10 v11 v12 : Value) (d : Nat → Value) (h : Hp) : aw Try.prog O_q101 K_q101_2 (Q_q101_2 K s0) (E_q101_1 v0 v1 v5 v10 v11 v12 d) h = B_q101_1 K s0 v0 v1 v5 v10 v11 v12 d h := (ga_q101_1 _ v0 v1 v5 v10 v11 v12 d h).trans (gb_q101_1 K s0 v0 v1 v5 v10 v11 v12 d h)
theorem rule_q101_1 {K : Kont} {v0 v1 v10 v11 : Value} (Inv : Value → Value → Hp → Prop) (μ : Value → Value → Hp → Nat)
    (step : ∀ (s0 : Self) (v5 v12 : Value) (d : Nat → Value) (h : Hp), Inv v5 v12 h → (∀ (v5' : Value) (v12' : Value) (d' : Nat → Value) (h' : Hp), Inv v5' v12' h' → μ v5' v12' h' < μ v5 v12 h → s0 (E_q101_1 v0 v1 v5' v10 v11 v12' d') h') → B_q101_1 K s0 v0 v1 v5 v10 v11 v12 d h) (v5 v12 : Value) (d : Nat → Value) (h : Hp) (hi : Inv v5 v12 h) : G_q101_1 K v0 v1 v5 v10 v11 v12 d h :=
  oLoop_rule (α := Value × Value × (Nat → Value)) (fun x => E_q101_1 v0 v1 x.1 v10 v11 x.2.1 x.2.2) (fun x h => Inv x.1 x.2.1 h) (fun x h => μ x.1 x.2.1 h)
    (fun self x h hx hs => (beq_q101_1 K self v0 v1 x.1 v10 v11 x.2.1 x.2.2 h).mpr (step self x.1 x.2.1 x.2.2 h hx (fun v5' v12' d' h' h1 h2 => hs ⟨v5', v12', d'⟩ h' h1 h2))) ⟨v5, v12, d⟩ h hi
def R_q101_2 (K : Kont) (s0 : Self) (v0 v1 v5 v10 v11 v12 : Value) (d : Nat → Value) (h : Hp) : Prop :=
  oBin .add v12 (Value.int .i64 1) h fun t25 h1 =>
  s0 (E_q101_1 v0 v1 v5 v10 v11 t25 (ud [(25, t25)] d)) h1
def X_q101_2 (Qv : Post) (v0 v1 v5 v10 v11 v12 : Value) (d : Nat → Value) (h : Hp) : Prop :=
  oBin .add v12 (Value.int .i64 1) h fun t25 h1 =>
  Qv .normal (ul (E_q101_2 v0 v1 v5 v10 v11 v12 d) [(12, t25), (25, t25)]) h1
theorem ga_q101_2 (Qv : Post) (v0 v1 v5 v10 v11 v12 : Value) (d : Nat → Value) (h : Hp) : aw Try.prog O_q101 K_q101_3 Qv (E_q101_2 v0 v1 v5 v10 v11 v12 d) h = X_q101_2 Qv v0 v1 v5 v10 v11 v12 d h := by kernel_rfl
theorem gb_q101_2 (K : Kont) (s0 : Self) (v0 v1 v5 v10 v11 v12 : Value) (d : Nat → Value) (h : Hp) : X_q101_2 (Q_q101_2 K s0) v0 v1 v5 v10 v11 v12 d h = R_q101_2 K s0 v0 v1 v5 v10 v11 v12 d h := by kernel_rfl
theorem req_q101_2 (K : Kont) (s0 : Self) (v0 v1 v5 v10 v11 v12 : Value) (d : Nat → Value) (h : Hp) : G_q101_2 K s0 v0 v1 v5 v10 v11 v12 d h = R_q101_2 K s0 v0 v1 v5 v10 v11 v12 d h := (ga_q101_2 _ v0 v1 v5 v10 v11 v12 d h).trans (gb_q101_2 K s0 v0 v1 v5 v10 v11 v12 d h)
def O_q159 : Od := []
def G_q159 (a0 : Value) (h : Hp) (K : Kont) : Prop :=
  oBin .quo a0 (Value.int .u64 8) h fun t4 h1 =>
  oBin .geq t4 (Value.int .u64 1) h1 fun t5 h2 =>
  oGuard t5 true (fun K => K a0 h2) h2 fun t7 h3 =>
  oGuard t5 true (fun K => oBin .quo t7 (Value.int .u64 8) h3 K) h3 fun t8 h4 =>
  oGuard t5 true (fun K => oBin .lss t8 (Value.int .u64 1152921504606846976) h4 K) h4 fun t9 h5 =>
  oPick t5 t9 (Value.bool false) h5 fun t10 h6 =>
  oGuard t10 true (fun K => K a0 h6) h6 fun t12 h7 =>
  oGuard t10 true (fun K => oBin .rem t12 (Value.int .u64 8) h7 K) h7 fun t13 h8 =>
  oGuard t10 true (fun K => oConvInt .i64 t13 h8 K) h8 fun t14 h9 =>
  oGuard t10 true (fun K => C_q104 [t14] h9 K) h9 fun t15 h10 =>
  oPick t10 t15 (Value.bool false) h10 fun t16 h11 =>
  K t16 h11
def E0_q159 (a0 : Value) : List Value := [a0, undef, undef, undef, undef, undef, undef, undef, undef, undef, undef, undef, undef, undef, undef, undef, undef]
def X_q159 (Qv : Post) (a0 : Value) (h : Hp) : Prop :=
  oBin .quo a0 (Value.int .u64 8) h fun t4 h1 =>
  oBin .geq t4 (Value.int .u64 1) h1 fun t5 h2 =>
  oGuard t5 true (fun K => K a0 h2) h2 fun t7 h3 =>
  oGuard t5 true (fun K => oBin .quo t7 (Value.int .u64 8) h3 K) h3 fun t8 h4 =>
  oGuard t5 true (fun K => oBin .lss t8 (Value.int .u64 1152921504606846976) h4 K) h4 fun t9 h5 =>
  oPick t5 t9 (Value.bool false) h5 fun t10 h6 =>
  oGuard t10 true (fun K => K a0 h6) h6 fun t12 h7 =>
  oGuard t10 true (fun K => oBin .rem t12 (Value.int .u64 8) h7 K) h7 fun t13 h8 =>
  oGuard t10 true (fun K => oConvInt .i64 t13 h8 K) h8 fun t14 h9 =>
  oGuard t10 true (fun K => C_q104 [t14] h9 K) h9 fun t15 h10 =>
  oPick t10 t15 (Value.bool false) h10 fun t16 h11 =>
  Qv .ret (ul (E0_q159 a0) [(2, t16), (3, a0), (4, t4), (5, t5), (6, t5), (7, t7), (8, t8), (9, t9), (10, t10), (11, t10), (12, t12), (13, t13), (14, t14), (15, t15), (16, t16)]) h11
theorem ga_q159 (Qv : Post) (a0 : Value) (h : Hp) : aw Try.prog O_q159 (bodyC Try.f45) Qv (E0_q159 a0) h = X_q159 Qv a0 h := by kernel_rfl
theorem gb_q159 (a0 : Value) (h : Hp) (K : Kont) : X_q159 (qTop Try.prog Try.f45 K) a0 h = G_q159 a0 h K := by kernel_rfl
theorem gc_q159 (a0 : Value) (h : Hp) (K : Kont) : abody Try.prog O_q159 Try.f45 (bodyC Try.f45) [a0] h K = aw Try.prog O_q159 (bodyC Try.f45) (qTop Try.prog Try.f45 K) (E0_q159 a0) h := by kernel_rfl
theorem eq_q159 (a0 : Value) (h : Hp) (K : Kont) : abody Try.prog O_q159 Try.f45 (bodyC Try.f45) [a0] h K = G_q159 a0 h K := (gc_q159 a0 h K).trans ((ga_q159 _ a0 h).trans (gb_q159 a0 h K))
theorem ok_q159 {a0 : Value} {h : Hp} {K : Kont} (hk : G_q159 a0 h K) : C_q159 [a0] h K := ac_of_body prog_mixed (fn := Try.f45) Try.func45 (c := bodyC Try.f45) (by kernel_rfl) ((eq_q159 a0 h K).mpr hk)
end Go.Proofs.Ytdolepapmpcpiaa

namespace Go.Proofs.Ytdolepapmpcpiaa
open Go
set_option linter.unusedSectionVars false
variable [Base]
set_option linter.unusedVariables false
set_option maxRecDepth 100000
def O_q147 : Od := []
noncomputable def K_q147_0 : Code := (cB (cB (bodyC Try.f46)))
def G_q147 (a0 : Value) (h : Hp) (K : Kont) : Prop :=
  oBox a0 h fun t1 h1 =>
  oFieldAddr 0 t1 h1 fun t4 h2 =>
  oLd1 t4 h2 fun t5 h3 =>
  oBin .lss t5 (Value.int .i64 0) h3 fun t6 h4 =>
  oGuard t6 false (fun K => oFieldAddr 0 t1 h4 K) h4 fun t8 h5 =>
  oGuard t6 false (fun K => oLd1 t8 h5 K) h5 fun t9 h6 =>
  oGuard t6 false (fun K => oBin .geq t9 (Value.int .i64 5) h6 K) h6 fun t10 h7 =>
  oPick t6 (Value.bool true) t10 h7 fun t11 h8 =>
  oIf t11
  (K (Value.int .i64 1) h8)
  (oFieldAddr 0 t1 h8 fun t13 h9 =>
  oLd1 t13 h9 fun t14 h10 =>
  oBin .eql t14 (Value.int .i64 0) h10 fun t15 h11 =>
  oGuard t15 true (fun K => oLdN 4 t1 h11 K) h11 fun t17 h12 =>
  oGuard t15 true (fun K => oBuild #[.int .i64 0, .int .i64 0, .int .u64 0, .int .i64 0] [] h12 K) h12 fun t18 h13 =>
  oGuard t15 true (fun K => oEq 4 true (some [(0, (.int .i64)), (1, (.int .i64)), (2, (.int .u64)), (3, (.int .i64))]) t17 t18 h13 K) h13 fun t19 h14 =>
  oPick t15 t19 (Value.bool false) h14 fun t20 h15 =>
  oIf t20
  (K (Value.int .i64 4) h15)
  (oFieldAddr 0 t1 h15 fun t22 h16 =>
  oLd1 t22 h16 fun t23 h17 =>
  oBin .eql t23 (Value.int .i64 0) h17 fun t24 h18 =>
  oIf t24
  (K (Value.int .i64 0) h18)
  (oFieldAddr 1 t1 h18 fun t26 h19 =>
  oLd1 t26 h19 fun t27 h20 =>
  oBin .lss t27 (Value.int .i64 0) h20 fun t28 h21 =>
  oGuard t28 false (fun K => oFieldAddr 1 t1 h21 K) h21 fun t30 h22 =>
  oGuard t28 false (fun K => oLd1 t30 h22 K) h22 fun t31 h23 =>
  oGuard t28 false (fun K => oBin .geq t31 (Value.int .i64 4) h23 K) h23 fun t32 h24 =>
  oPick t28 (Value.bool true) t32 h24 fun t33 h25 =>
  oGuard t33 false (fun K => oFieldAddr 2 t1 h25 K) h25 fun t35 h26 =>
  oGuard t33 false (fun K => oLd1 t35 h26 K) h26 fun t36 h27 =>
  oGuard t33 false (fun K => oBin .lss t36 (Value.int .u64 1) h27 K) h27 fun t37 h28 =>
  oPick t33 (Value.bool true) t37 h28 fun t38 h29 =>
  oGuard t38 false (fun K => oFieldAddr 3 t1 h29 K) h29 fun t40 h30 =>
  oGuard t38 false (fun K => oLd1 t40 h30 K) h30 fun t41 h31 =>
  oGuard t38 false (fun K => oBin .lss t41 (Value.int .i64 1) h31 K) h31 fun t42 h32 =>
  oPick t38 (Value.bool true) t42 h32 fun t43 h33 =>
  oGuard t43 false (fun K => oFieldAddr 3 t1 h33 K) h33 fun t45 h34 =>
  oGuard t43 false (fun K => oLd1 t45 h34 K) h34 fun t46 h35 =>
  oGuard t43 false (fun K => oBin .gtr t46 (Value.int .i64 24) h35 K) h35 fun t47 h36 =>
  oPick t43 (Value.bool true) t47 h36 fun t48 h37 =>
  oIf t48
  (K (Value.int .i64 4) h37)
  (K (Value.int .i64 0) h37))))
def E0_q147 (a0 : Value) : List Value := [a0, undef, undef, undef, undef, undef, undef, undef, undef, undef, undef, undef, undef, undef, undef, undef, undef, undef, undef, undef, undef, undef, undef, undef, undef, undef, undef, undef, undef, undef, undef, undef, undef, undef, undef, undef, undef, undef, undef, undef, undef, undef, undef, undef, undef, undef, undef, undef, undef]
def X_q147 (Qv : Post) (a0 : Value) (h : Hp) : Prop :=
  oBox a0 h fun t1 h1 =>
  oFieldAddr 0 t1 h1 fun t4 h2 =>
  oLd1 t4 h2 fun t5 h3 =>
  oBin .lss t5 (Value.int .i64 0) h3 fun t6 h4 =>
  oGuard t6 false (fun K => oFieldAddr 0 t1 h4 K) h4 fun t8 h5 =>
  oGuard t6 false (fun K => oLd1 t8 h5 K) h5 fun t9 h6 =>
  oGuard t6 false (fun K => oBin .geq t9 (Value.int .i64 5) h6 K) h6 fun t10 h7 =>
  oPick t6 (Value.bool true) t10 h7 fun t11 h8 =>
  oIf t11
  ((qBlk 0 (qSeq (aw Try.prog O_q147 K_q147_0 Qv) Qv)) .ret (ul (E0_q147 a0) [(1, t1), (2, (Value.int .i64 1)), (3, t11), (4, t4), (5, t5), (6, t6), (7, t6), (8, t8), (9, t9), (10, t10), (11, t11)]) h8)
  (oFieldAddr 0 t1 h8 fun t13 h9 =>
  oLd1 t13 h9 fun t14 h10 =>
  oBin .eql t14 (Value.int .i64 0) h10 fun t15 h11 =>
  oGuard t15 true (fun K => oLdN 4 t1 h11 K) h11 fun t17 h12 =>
  oGuard t15 true (fun K => oBuild #[.int .i64 0, .int .i64 0, .int .u64 0, .int .i64 0] [] h12 K) h12 fun t18 h13 =>
  oGuard t15 true (fun K => oEq 4 true (some [(0, (.int .i64)), (1, (.int .i64)), (2, (.int .u64)), (3, (.int .i64))]) t17 t18 h13 K) h13 fun t19 h14 =>
  oPick t15 t19 (Value.bool false) h14 fun t20 h15 =>
  oIf t20
  ((qBlk 0 (qSeq (aw Try.prog O_q147 K_q147_0 Qv) Qv)) .ret (ul (E0_q147 a0) [(1, t1), (2, (Value.int .i64 4)), (3, t11), (4, t4), (5, t5), (6, t6), (7, t6), (8, t8), (9, t9), (10, t10), (11, t11), (12, t20), (13, t13), (14, t14), (15, t15), (16, t15), (17, t17), (18, t18), (19, t19), (20, t20)]) h15)
  (oFieldAddr 0 t1 h15 fun t22 h16 =>
  oLd1 t22 h16 fun t23 h17 =>
  oBin .eql t23 (Value.int .i64 0) h17 fun t24 h18 =>
  oIf t24
  ((qBlk 0 (qSeq (aw Try.prog O_q147 K_q147_0 Qv) Qv)) .ret (ul (E0_q147 a0) [(1, t1), (2, (Value.int .i64 0)), (3, t11), (4, t4), (5, t5), (6, t6), (7, t6), (8, t8), (9, t9), (10, t10), (11, t11), (12, t20), (13, t13), (14, t14), (15, t15), (16, t15), (17, t17), (18, t18), (19, t19), (20, t20), (21, t24), (22, t22), (23, t23), (24, t24)]) h18)
  (oFieldAddr 1 t1 h18 fun t26 h19 =>
  oLd1 t26 h19 fun t27 h20 =>
  oBin .lss t27 (Value.int .i64 0) h20 fun t28 h21 =>
  oGuard t28 false (fun K => oFieldAddr 1 t1 h21 K) h21 fun t30 h22 =>
  oGuard t28 false (fun K => oLd1 t30 h22 K) h22 fun t31 h23 =>
  oGuard t28 false (fun K => oBin .geq t31 (Value.int .i64 4) h23 K) h23 fun t32 h24 =>
  oPick t28 (Value.bool true) t32 h24 fun t33 h25 =>
  oGuard t33 false (fun K => oFieldAddr 2 t1 h25 K) h25 fun t35 h26 =>
  oGuard t33 false (fun K => oLd1 t35 h26 K) h26 fun t36 h27 =>
  oGuard t33 false (fun K => oBin .lss t36 (Value.int .u64 1) h27 K) h27 fun t37 h28 =>
  oPick t33 (Value.bool true) t37 h28 fun t38 h29 =>
  oGuard t38 false (fun K => oFieldAddr 3 t1 h29 K) h29 fun t40 h30 =>
  oGuard t38 false (fun K => oLd1 t40 h30 K) h30 fun t41 h31 =>
  oGuard t38 false (fun K => oBin .lss t41 (Value.int .i64 1) h31 K) h31 fun t42 h32 =>
  oPick t38 (Value.bool true) t42 h32 fun t43 h33 =>
  oGuard t43 false (fun K => oFieldAddr 3 t1 h33 K) h33 fun t45 h34 =>
  oGuard t43 false (fun K => oLd1 t45 h34 K) h34 fun t46 h35 =>
  oGuard t43 false (fun K => oBin .gtr t46 (Value.int .i64 24) h35 K) h35 fun t47 h36 =>
  oPick t43 (Value.bool true) t47 h36 fun t48 h37 =>
  oIf t48
  ((qBlk 0 (qSeq (aw Try.prog O_q147 K_q147_0 Qv) Qv)) .ret (ul (E0_q147 a0) [(1, t1), (2, (Value.int .i64 4)), (3, t11), (4, t4), (5, t5), (6, t6), (7, t6), (8, t8), (9, t9), (10, t10), (11, t11), (12, t20), (13, t13), (14, t14), (15, t15), (16, t15), (17, t17), (18, t18), (19, t19), (20, t20), (21, t24), (22, t22), (23, t23), (24, t24), (25, t48), (26, t26), (27, t27), (28, t28), (29, t28), (30, t30), (31, t31), (32, t32), (33, t33), (34, t33), (35, t35), (36, t36), (37, t37), (38, t38), (39, t38), (40, t40), (41, t41), (42, t42), (43, t43), (44, t43), (45, t45), (46, t46), (47, t47), (48, t48)]) h37)
  (Qv .ret (ul (E0_q147 a0) [(1, t1), (2, (Value.int .i64 0)), (3, t11), (4, t4), (5, t5), (6, t6), (7, t6), (8, t8), (9, t9), (10, t10), (11, t11), (12, t20), (13, t13), (14, t14), (15, t15), (16, t15), (17, t17), (18, t18), (19, t19), (20, t20), (21, t24), (22, t22), (23, t23), (24, t24), (25, t48), (26, t26), (27, t27), (28, t28), (29, t28), (30, t30), (31, t31), (32, t32), (33, t33), (34, t33), (35, t35), (36, t36), (37, t37), (38, t38), (39, t38), (40, t40), (41, t41), (42, t42), (43, t43), (44, t43), (45, t45), (46, t46), (47, t47), (48, t48)]) h37))))
theorem ga_q147 (Qv : Post) (a0 : Value) (h : Hp) : aw Try.prog O_q147 (bodyC Try.f46) Qv (E0_q147 a0) h = X_q147 Qv a0 h := by kernel_rfl
theorem gb_q147 (a0 : Value) (h : Hp) (K : Kont) : X_q147 (qTop Try.prog Try.f46 K) a0 h = G_q147 a0 h K := by kernel_rfl
theorem gc_q147 (a0 : Value) (h : Hp) (K : Kont) : abody Try.prog O_q147 Try.f46 (bodyC Try.f46) [a0] h K = aw Try.prog O_q147 (bodyC Try.f46) (qTop Try.prog Try.f46 K) (E0_q147 a0) h := by kernel_rfl
theorem eq_q147 (a0 : Value) (h : Hp) (K : Kont) : abody Try.prog O_q147 Try.f46 (bodyC Try.f46) [a0] h K = G_q147 a0 h K := (gc_q147 a0 h K).trans ((ga_q147 _ a0 h).trans (gb_q147 a0 h K))
theorem ok_q147 {a0 : Value} {h : Hp} {K : Kont} (hk : G_q147 a0 h K) : C_q147 [a0] h K := ac_of_body prog_mixed (fn := Try.f46) Try.func46 (c := bodyC Try.f46) (by kernel_rfl) ((eq_q147 a0 h K).mpr hk)
def O_q42 : Od := []
noncomputable def K_q42_0 : Code := (cB (cB (bodyC Try.f47)))
def E_q42_1 (v0 : Value) (d : Nat → Value) : List Value := [v0, d 1, d 2, d 3, d 4, d 5, d 6, d 7, d 8, d 9, d 10, d 11, d 12, d 13, d 14, d 15, d 16, d 17, d 18, d 19, d 20, d 21, d 22, d 23, d 24]
def G_q42_1 (K : Kont) (v0 : Value) (d : Nat → Value) (h : Hp) : Prop := aw Try.prog O_q42 K_q42_0 (qTop Try.prog Try.f47 K) (E_q42_1 v0 d) h
noncomputable def K_q42_1 : Code := (cI (cB (cA (cB (cB (cB (bodyC Try.f47)))))))
noncomputable def K_q42_2 : Code := (cB (cB (cB (cB (bodyC Try.f47)))))
def Q_q42_0 (K : Kont) : Post := qSeq (aw Try.prog O_q42 K_q42_2 (qTop Try.prog Try.f47 K)) (qTop Try.prog Try.f47 K)
def Q_q42_1 (K : Kont) : Post := qBlk 0 (Q_q42_0 K)
def E_q42_2 (v0 v3 v4 : Value) (d : Nat → Value) : List Value := [v0, d 1, d 2, v3, v4, d 5, d 6, d 7, d 8, d 9, d 10, d 11, d 12, d 13, d 14, d 15, d 16, d 17, d 18, d 19, d 20, d 21, d 22, d 23, d 24]
def G_q42_2 (K : Kont) (v0 v3 v4 : Value) (d : Nat → Value) (h : Hp) : Prop := aw Try.prog O_q42 K_q42_1 (Q_q42_1 K) (E_q42_2 v0 v3 v4 d) h
def Q_q42_2 (K : Kont) (s0 : Self) : Post := qSeq s0 (Q_q42_1 K)
noncomputable def K_q42_3 : Code := (cI (cI (cB (cA (cB (cB (cB (bodyC Try.f47))))))))
noncomputable def K_q42_4 : Code := (cB (cI (cI (cB (cA (cB (cB (cB (bodyC Try.f47)))))))))
def G_q42 (a0 : Value) (h : Hp) (K : Kont) : Prop :=
  oLen 0 a0 h fun t6 h1 =>
  oBin .lss t6 (Value.int .i64 1) h1 fun t7 h2 =>
  oIf t7
  (False)
  (G_q42_1 K a0 (ud [(2, (Value.int .i64 0)), (5, a0), (6, t6), (7, t7)] dz) h2)
def E0_q42 (a0 : Value) : List Value := [a0, undef, undef, undef, undef, undef, undef, undef, undef, undef, undef, undef, undef, undef, undef, undef, undef, undef, undef, undef, undef, undef, undef, undef, undef]
def X_q42 (Qv : Post) (a0 : Value) (h : Hp) : Prop :=
  oLen 0 a0 h fun t6 h1 =>
  oBin .lss t6 (Value.int .i64 1) h1 fun t7 h2 =>
  oIf t7
  (False)
  ((qSeq (aw Try.prog O_q42 K_q42_0 Qv) Qv) .normal (ul (E0_q42 a0) [(2, (Value.int .i64 0)), (5, a0), (6, t6), (7, t7)]) h2)
theorem ga_q42 (Qv : Post) (a0 : Value) (h : Hp) : aw Try.prog O_q42 (bodyC Try.f47) Qv (E0_q42 a0) h = X_q42 Qv a0 h := by kernel_rfl
theorem gb_q42 (a0 : Value) (h : Hp) (K : Kont) : X_q42 (qTop Try.prog Try.f47 K) a0 h = G_q42 a0 h K := by kernel_rfl
theorem gc_q42 (a0 : Value) (h : Hp) (K : Kont) : abody Try.prog O_q42 Try.f47 (bodyC Try.f47) [a0] h K = aw Try.prog O_q42 (bodyC Try.f47) (qTop Try.prog Try.f47 K) (E0_q42 a0) h := by kernel_rfl
theorem eq_q42 (a0 : Value) (h : Hp) (K : Kont) : abody Try.prog O_q42 Try.f47 (bodyC Try.f47) [a0] h K = G_q42 a0 h K := (gc_q42 a0 h K).trans ((ga_q42 _ a0 h).trans (gb_q42 a0 h K))
theorem ok_q42 {a0 : Value} {h : Hp} {K : Kont} (hk : G_q42 a0 h K) : C_q42 [a0] h K := ac_of_body prog_mixed (fn := Try.f47) Try.func47 (c := bodyC Try.f47) (by kernel_rfl) ((eq_q42 a0 h K).mpr hk)
def R_q42_1 (K : Kont) (v0 : Value) (d : Nat → Value) (h : Hp) : Prop :=
  oIdxS 1 v0 (Value.int .i64 0) h fun t10 h1 =>
  oLd1 t10 h1 fun t11 h2 =>
  G_q42_2 K v0 t11 (Value.int .i64 1) (ud [(9, v0), (10, t10), (11, t11)] d) h2
def X_q42_1 (Qv : Post) (v0 : Value) (d : Nat → Value) (h : Hp) : Prop :=
  oIdxS 1 v0 (Value.int .i64 0) h fun t10 h1 =>
  oLd1 t10 h1 fun t11 h2 =>
  aw Try.prog O_q42 K_q42_1 (qBlk 0 (qSeq (aw Try.prog O_q42 K_q42_2 Qv) Qv)) (ul (E_q42_1 v0 d) [(3, t11), (4, (Value.int .i64 1)), (9, v0), (10, t10), (11, t11)]) h2
theorem ga_q42_1 (Qv : Post) (v0 : Value) (d : Nat → Value) (h : Hp) : aw Try.prog O_q42 K_q42_0 Qv (E_q42_1 v0 d) h = X_q42_1 Qv v0 d h := by kernel_rfl
theorem gb_q42_1 (K : Kont) (v0 : Value) (d : Nat → Value) (h : Hp) : X_q42_1 (qTop Try.prog Try.f47 K) v0 d h = R_q42_1 K v0 d h := by kernel_rfl
theorem req_q42_1 (K : Kont) (v0 : Value) (d : Nat → Value) (h : Hp) : G_q42_1 K v0 d h = R_q42_1 K v0 d h := (ga_q42_1 _ v0 d h).trans (gb_q42_1 K v0 d h)
def B_q42_2 (K : Kont) (s0 : Self) (v0 v3 v4 : Value) (d : Nat → Value) (h : Hp) : Prop :=
  oLen 0 v0 h fun t14 h1 =>
  oBin .lss v4 t14 h1 fun t15 h2 =>
  oIf t15
  (oIdxS 1 v0 v4 h2 fun t21 h3 =>
  oLd1 t21 h3 fun t22 h4 =>
  oMinMax false [v3, t22] h4 fun t23 h5 =>
  oBin .add v4 (Value.int .i64 1) h5 fun t17 h6 =>
  s0 (E_q42_2 v0 t23 t17 (ud [(12, v4), (13, v0), (14, t14), (15, t15), (16, v4), (17, t17), (18, v3), (19, v0), (20, v4), (21, t21), (22, t22), (23, t23)] d)) h6)
  (K v3 h2)
def X_q42_2 (Qv : Post) (v0 v3 v4 : Value) (d : Nat → Value) (h : Hp) : Prop :=
  oLen 0 v0 h fun t14 h1 =>
  oBin .lss v4 t14 h1 fun t15 h2 =>
  oIf t15
  (oIdxS 1 v0 v4 h2 fun t21 h3 =>
  oLd1 t21 h3 fun t22 h4 =>
  oMinMax false [v3, t22] h4 fun t23 h5 =>
  oBin .add v4 (Value.int .i64 1) h5 fun t17 h6 =>
  Qv .normal (ul (E_q42_2 v0 v3 v4 d) [(3, t23), (4, t17), (12, v4), (13, v0), (14, t14), (15, t15), (16, v4), (17, t17), (18, v3), (19, v0), (20, v4), (21, t21), (22, t22), (23, t23)]) h6)
  ((qSeq (aw Try.prog O_q42 K_q42_4 Qv) Qv) (.exit 0) (ul (E_q42_2 v0 v3 v4 d) [(12, v4), (13, v0), (14, t14), (15, t15)]) h2)
theorem ga_q42_2 (Qv : Post) (v0 v3 v4 : Value) (d : Nat → Value) (h : Hp) : aw Try.prog O_q42 K_q42_3 Qv (E_q42_2 v0 v3 v4 d) h = X_q42_2 Qv v0 v3 v4 d h := by kernel_rfl
theorem gb_q42_2 (K : Kont) (s0 : Self) (v0 v3 v4 : Value) (d : Nat → Value) (h : Hp) : X_q42_2 (Q_q42_2 K s0) v0 v3 v4 d h = B_q42_2 K s0 v0 v3 v4 d h := by kernel_rfl
theorem beq_q42_2 (K : Kont) (s0 : Self) (v0 v3 v4 : Value) (d : Nat → Value) (h : Hp) : aw Try.prog O_q42 K_q42_3 (Q_q42_2 K s0) (E_q42_2 v0 v3 v4 d) h = B_q42_2 K s0 v0 v3 v4 d h := (ga_q42_2 _ v0 v3 v4 d h).trans (gb_q42_2 K s0 v0 v3 v4 d h)
theorem rule_q42_2 {K : Kont} {v0 : Value} (Inv : Value → Value → Hp → Prop) (μ : Value → Value → Hp → Nat)
    (step : ∀ (s0 : Self) (v3 v4 : Value) (d : Nat → Value) (h : Hp), Inv v3 v4 h → (∀ (v3' : Value) (v4' : Value) (d' : Nat → Value) (h' : Hp), Inv v3' v4' h' → μ v3' v4' h' < μ v3 v4 h → s0 (E_q42_2 v0 v3' v4' d') h') → B_q42_2 K s0 v0 v3 v4 d h) (v3 v4 : Value) (d : Nat → Value) (h : Hp) (hi : Inv v3 v4 h) : G_q42_2 K v0 v3 v4 d h :=
  oLoop_rule (α := Value × Value × (Nat → Value)) (fun x => E_q42_2 v0 x.1 x.2.1 x.2.2) (fun x h => Inv x.1 x.2.1 h) (fun x h => μ x.1 x.2.1 h)
    (fun self x h hx hs => (beq_q42_2 K self v0 x.1 x.2.1 x.2.2 h).mpr (step self x.1 x.2.1 x.2.2 h hx (fun v3' v4' d' h' h1 h2 => hs ⟨v3', v4', d'⟩ h' h1 h2))) ⟨v3, v4, d⟩ h hi
def O_q6 : Od := []
def G_q6 (a0 : Value) (h : Hp) (K : Kont) : Prop :=
  oBox a0 h fun t1 h1 =>
  K (.func (Go.Fn.func 76) #[] #[t1]) h1
def E0_q6 (a0 : Value) : List Value := [a0, undef, undef, undef]
def X_q6 (Qv : Post) (a0 : Value) (h : Hp) : Prop :=
  oBox a0 h fun t1 h1 =>
  Qv .ret (ul (E0_q6 a0) [(1, t1), (2, (.func (Go.Fn.func 76) #[] #[t1])), (3, (.func (Go.Fn.func 76) #[] #[t1]))]) h1
theorem ga_q6 (Qv : Post) (a0 : Value) (h : Hp) : aw Try.prog O_q6 (bodyC Try.f49) Qv (E0_q6 a0) h = X_q6 Qv a0 h := by kernel_rfl
theorem gb_q6 (a0 : Value) (h : Hp) (K : Kont) : X_q6 (qTop Try.prog Try.f49 K) a0 h = G_q6 a0 h K := by kernel_rfl
theorem gc_q6 (a0 : Value) (h : Hp) (K : Kont) : abody Try.prog O_q6 Try.f49 (bodyC Try.f49) [a0] h K = aw Try.prog O_q6 (bodyC Try.f49) (qTop Try.prog Try.f49 K) (E0_q6 a0) h := by kernel_rfl
theorem eq_q6 (a0 : Value) (h : Hp) (K : Kont) : abody Try.prog O_q6 Try.f49 (bodyC Try.f49) [a0] h K = G_q6 a0 h K := (gc_q6 a0 h K).trans ((ga_q6 _ a0 h).trans (gb_q6 a0 h K))
theorem ok_q6 {a0 : Value} {h : Hp} {K : Kont} (hk : G_q6 a0 h K) : C_q6 [a0] h K := ac_of_body prog_mixed (fn := Try.f49) Try.func49 (c := bodyC Try.f49) (by kernel_rfl) ((eq_q6 a0 h K).mpr hk)
def O_q132 : Od := []
noncomputable def K_q132_0 : Code := (cB (cB (cB (cB (bodyC Try.f51)))))
def E_q132_1 (v1 v6 : Value) (d : Nat → Value) : List Value := [d 0, v1, d 2, d 3, d 4, d 5, v6, d 7, d 8, d 9, d 10, d 11, d 12, d 13, d 14, d 15, d 16, d 17, d 18, d 19, d 20, d 21, d 22, d 23, d 24, d 25, d 26, d 27, d 28]
def G_q132_1 (K : Kont) (v1 v6 : Value) (d : Nat → Value) (h : Hp) : Prop := aw Try.prog O_q132 K_q132_0 (qTop Try.prog Try.f51 K) (E_q132_1 v1 v6 d) h
noncomputable def K_q132_1 : Code := (cB (cB (bodyC Try.f51)))
noncomputable def K_q132_2 : Code := (cB (cB (cB (cB (cB (bodyC Try.f51))))))
def G_q132 (a0 a1 : Value) (h : Hp) (K : Kont) : Prop :=
  C_q104 [a1] h fun t8 h1 =>
  oNot t8 h1 fun t9 h2 =>
  oIf t9
  (K (.tuple #[(Value.int .u64 0), (Value.int .i64 1)]) h2)
  (oBin .quo a0 (Value.int .u64 8) h2 fun t11 h3 =>
  oMinMax true [t11, (Value.int .u64 1)] h3 fun t12 h4 =>
  oBin .mul (Value.int .u64 8) t12 h4 fun t14 h5 =>
  oConvInt .u64 a1 h5 fun t16 h6 =>
  oBin .add t14 t16 h6 fun t17 h7 =>
  oBin .leq t17 a0 h7 fun t19 h8 =>
  oIf t19
  (oBin .add t12 (Value.int .u64 1) h8 fun t21 h9 =>
  G_q132_1 K a1 t21 (ud [(0, a0), (4, (Value.int .u64 0)), (5, (Value.int .i64 0)), (7, a1), (8, t8), (9, t9), (10, a0), (11, t11), (12, t12), (13, t12), (14, t14), (15, a1), (16, t16), (17, t17), (18, a0), (19, t19), (20, t12), (21, t21)] dz) h9)
  (G_q132_1 K a1 t12 (ud [(0, a0), (4, (Value.int .u64 0)), (5, (Value.int .i64 0)), (7, a1), (8, t8), (9, t9), (10, a0), (11, t11), (12, t12), (13, t12), (14, t14), (15, a1), (16, t16), (17, t17), (18, a0), (19, t19)] dz) h8))
def E0_q132 (a0 a1 : Value) : List Value := [a0, a1, undef, undef, undef, undef, undef, undef, undef, undef, undef, undef, undef, undef, undef, undef, undef, undef, undef, undef, undef, undef, undef, undef, undef, undef, undef, undef, undef]
def X_q132 (Qv : Post) (a0 a1 : Value) (h : Hp) : Prop :=
  C_q104 [a1] h fun t8 h1 =>
  oNot t8 h1 fun t9 h2 =>
  oIf t9
  ((qSeq (aw Try.prog O_q132 K_q132_1 Qv) Qv) .ret (ul (E0_q132 a0 a1) [(4, (Value.int .u64 0)), (5, (Value.int .i64 1)), (7, a1), (8, t8), (9, t9)]) h2)
  (oBin .quo a0 (Value.int .u64 8) h2 fun t11 h3 =>
  oMinMax true [t11, (Value.int .u64 1)] h3 fun t12 h4 =>
  oBin .mul (Value.int .u64 8) t12 h4 fun t14 h5 =>
  oConvInt .u64 a1 h5 fun t16 h6 =>
  oBin .add t14 t16 h6 fun t17 h7 =>
  oBin .leq t17 a0 h7 fun t19 h8 =>
  oIf t19
  (oBin .add t12 (Value.int .u64 1) h8 fun t21 h9 =>
  (qSeq (aw Try.prog O_q132 K_q132_0 Qv) Qv) .normal (ul (E0_q132 a0 a1) [(4, (Value.int .u64 0)), (5, (Value.int .i64 0)), (6, t21), (7, a1), (8, t8), (9, t9), (10, a0), (11, t11), (12, t12), (13, t12), (14, t14), (15, a1), (16, t16), (17, t17), (18, a0), (19, t19), (20, t12), (21, t21)]) h9)
  ((qSeq (aw Try.prog O_q132 K_q132_0 Qv) Qv) .normal (ul (E0_q132 a0 a1) [(4, (Value.int .u64 0)), (5, (Value.int .i64 0)), (6, t12), (7, a1), (8, t8), (9, t9), (10, a0), (11, t11), (12, t12), (13, t12), (14, t14), (15, a1), (16, t16), (17, t17), (18, a0), (19, t19)]) h8))
theorem ga_q132 (Qv : Post) (a0 a1 : Value) (h : Hp) : aw Try.prog O_q132 (bodyC Try.f51) Qv (E0_q132 a0 a1) h = X_q132 Qv a0 a1 h := by kernel_rfl
theorem gb_q132 (a0 a1 : Value) (h : Hp) (K : Kont) : X_q132 (qTop Try.prog Try.f51 K) a0 a1 h = G_q132 a0 a1 h K := by kernel_rfl
theorem gc_q132 (a0 a1 : Value) (h : Hp) (K : Kont) : abody Try.prog O_q132 Try.f51 (bodyC Try.f51) [a0, a1] h K = aw Try.prog O_q132 (bodyC Try.f51) (qTop Try.prog Try.f51 K) (E0_q132 a0 a1) h := by kernel_rfl
theorem eq_q132 (a0 a1 : Value) (h : Hp) (K : Kont) : abody Try.prog O_q132 Try.f51 (bodyC Try.f51) [a0, a1] h K = G_q132 a0 a1 h K := (gc_q132 a0 a1 h K).trans ((ga_q132 _ a0 a1 h).trans (gb_q132 a0 a1 h K))
theorem ok_q132 {a0 a1 : Value} {h : Hp} {K : Kont} (hk : G_q132 a0 a1 h K) : C_q132 [a0, a1] h K := ac_of_body prog_mixed (fn := Try.f51) Try.func51 (c := bodyC Try.f51) (by kernel_rfl) ((eq_q132 a0 a1 h K).mpr hk)
def R_q132_1 (K : Kont) (v1 v6 : Value) (d : Nat → Value) (h : Hp) : Prop :=
  oBin .geq v6 (Value.int .u64 1152921504606846976) h fun t23 h1 =>
  oIf t23
  (K (.tuple #[(Value.int .u64 0), (Value.int .i64 9)]) h1)
  (C_q160 [v6, v1] h1 fun t26 h2 =>
  oExtract t26 0 h2 fun t27 h3 =>
  oExtract t26 1 h3 fun t28 h4 =>
  K (.tuple #[t27, t28]) h4)
def X_q132_1 (Qv : Post) (v1 v6 : Value) (d : Nat → Value) (h : Hp) : Prop :=
  oBin .geq v6 (Value.int .u64 1152921504606846976) h fun t23 h1 =>
  oIf t23
  ((qSeq (aw Try.prog O_q132 K_q132_2 Qv) Qv) .ret (ul (E_q132_1 v1 v6 d) [(4, (Value.int .u64 0)), (5, (Value.int .i64 9)), (22, v6), (23, t23)]) h1)
  (C_q160 [v6, v1] h1 fun t26 h2 =>
  oExtract t26 0 h2 fun t27 h3 =>
  oExtract t26 1 h3 fun t28 h4 =>
  Qv .ret (ul (E_q132_1 v1 v6 d) [(4, t27), (5, t28), (22, v6), (23, t23), (24, v6), (25, v1), (26, t26), (27, t27), (28, t28)]) h4)
theorem ga_q132_1 (Qv : Post) (v1 v6 : Value) (d : Nat → Value) (h : Hp) : aw Try.prog O_q132 K_q132_0 Qv (E_q132_1 v1 v6 d) h = X_q132_1 Qv v1 v6 d h := by kernel_rfl
theorem gb_q132_1 (K : Kont) (v1 v6 : Value) (d : Nat → Value) (h : Hp) : X_q132_1 (qTop Try.prog Try.f51 K) v1 v6 d h = R_q132_1 K v1 v6 d h := by kernel_rfl
theorem req_q132_1 (K : Kont) (v1 v6 : Value) (d : Nat → Value) (h : Hp) : G_q132_1 K v1 v6 d h = R_q132_1 K v1 v6 d h := (ga_q132_1 _ v1 v6 d h).trans (gb_q132_1 K v1 v6 d h)
def O_q126 : Od := []
def G_q126 (a0 a1 a2 : Value) (h : Hp) (K : Kont) : Prop :=
  oEq 1 true none a0 (Value.pointer none) h fun t8 h1 =>
  oGuard t8 true (fun K => K a0 h1) h1 fun t10 h2 =>
  oGuard t8 true (fun K => oNilCheck t10 h2 K) h2 fun t11 h3 =>
  oGuard t8 true (fun K => oFieldAddr 2 t11 h3 K) h3 fun t12 h4 =>
  oGuard t8 true (fun K => oLd1 t12 h4 K) h4 fun t13 h5 =>
  oGuard t8 true (fun K => K a1 h5) h5 fun t14 h6 =>
  oGuard t8 true (fun K => oBin .eql t13 t14 h6 K) h6 fun t15 h7 =>
  oPick t8 t15 (Value.bool false) h7 fun t16 h8 =>
  oGuard t16 true (fun K => K a0 h8) h8 fun t18 h9 =>
  oGuard t16 true (fun K => oNilCheck t18 h9 K) h9 fun t19 h10 =>
  oGuard t16 true (fun K => oFieldAddr 3 t19 h10 K) h10 fun t20 h11 =>
  oGuard t16 true (fun K => oLd1 t20 h11 K) h11 fun t21 h12 =>
  oGuard t16 true (fun K => K a2 h12) h12 fun t22 h13 =>
  oGuard t16 true (fun K => oBin .eql t21 t22 h13 K) h13 fun t23 h14 =>
  oPick t16 t23 (Value.bool false) h14 fun t24 h15 =>
  K t24 h15
def E0_q126 (a0 a1 a2 : Value) : List Value := [a0, a1, a2, undef, undef, undef, undef, undef, undef, undef, undef, undef, undef, undef, undef, undef, undef, undef, undef, undef, undef, undef, undef, undef, undef]
def X_q126 (Qv : Post) (a0 a1 a2 : Value) (h : Hp) : Prop :=
  oEq 1 true none a0 (Value.pointer none) h fun t8 h1 =>
  oGuard t8 true (fun K => K a0 h1) h1 fun t10 h2 =>
  oGuard t8 true (fun K => oNilCheck t10 h2 K) h2 fun t11 h3 =>
  oGuard t8 true (fun K => oFieldAddr 2 t11 h3 K) h3 fun t12 h4 =>
  oGuard t8 true (fun K => oLd1 t12 h4 K) h4 fun t13 h5 =>
  oGuard t8 true (fun K => K a1 h5) h5 fun t14 h6 =>
  oGuard t8 true (fun K => oBin .eql t13 t14 h6 K) h6 fun t15 h7 =>
  oPick t8 t15 (Value.bool false) h7 fun t16 h8 =>
  oGuard t16 true (fun K => K a0 h8) h8 fun t18 h9 =>
  oGuard t16 true (fun K => oNilCheck t18 h9 K) h9 fun t19 h10 =>
  oGuard t16 true (fun K => oFieldAddr 3 t19 h10 K) h10 fun t20 h11 =>
  oGuard t16 true (fun K => oLd1 t20 h11 K) h11 fun t21 h12 =>
  oGuard t16 true (fun K => K a2 h12) h12 fun t22 h13 =>
  oGuard t16 true (fun K => oBin .eql t21 t22 h13 K) h13 fun t23 h14 =>
  oPick t16 t23 (Value.bool false) h14 fun t24 h15 =>
  Qv .ret (ul (E0_q126 a0 a1 a2) [(6, t24), (7, a0), (8, t8), (9, t8), (10, t10), (11, t11), (12, t12), (13, t13), (14, t14), (15, t15), (16, t16), (17, t16), (18, t18), (19, t19), (20, t20), (21, t21), (22, t22), (23, t23), (24, t24)]) h15
theorem ga_q126 (Qv : Post) (a0 a1 a2 : Value) (h : Hp) : aw Try.prog O_q126 (bodyC Try.f52) Qv (E0_q126 a0 a1 a2) h = X_q126 Qv a0 a1 a2 h := by kernel_rfl
theorem gb_q126 (a0 a1 a2 : Value) (h : Hp) (K : Kont) : X_q126 (qTop Try.prog Try.f52 K) a0 a1 a2 h = G_q126 a0 a1 a2 h K := by kernel_rfl
theorem gc_q126 (a0 a1 a2 : Value) (h : Hp) (K : Kont) : abody Try.prog O_q126 Try.f52 (bodyC Try.f52) [a0, a1, a2] h K = aw Try.prog O_q126 (bodyC Try.f52) (qTop Try.prog Try.f52 K) (E0_q126 a0 a1 a2) h := by kernel_rfl
theorem eq_q126 (a0 a1 a2 : Value) (h : Hp) (K : Kont) : abody Try.prog O_q126 Try.f52 (bodyC Try.f52) [a0, a1, a2] h K = G_q126 a0 a1 a2 h K := (gc_q126 a0 a1 a2 h K).trans ((ga_q126 _ a0 a1 a2 h).trans (gb_q126 a0 a1 a2 h K))
theorem ok_q126 {a0 a1 a2 : Value} {h : Hp} {K : Kont} (hk : G_q126 a0 a1 a2 h K) : C_q126 [a0, a1, a2] h K := ac_of_body prog_mixed (fn := Try.f52) Try.func52 (c := bodyC Try.f52) (by kernel_rfl) ((eq_q126 a0 a1 a2 h K).mpr hk)
def O_q74 : Od := []
def G_q74 (a0 a1 : Value) (h : Hp) (K : Kont) : Prop :=
  oBin .geq a1 (Value.int .i64 1) h fun t6 h1 =>
  oGuard t6 true (fun K => K a1 h1) h1 fun t8 h2 =>
  oGuard t6 true (fun K => K a0 h2) h2 fun t9 h3 =>
  oGuard t6 true (fun K => oNilCheck t9 h3 K) h3 fun t10 h4 =>
  oGuard t6 true (fun K => oFieldAddr 1 t10 h4 K) h4 fun t11 h5 =>
  oGuard t6 true (fun K => oLd1 t11 h5 K) h5 fun t12 h6 =>
  oGuard t6 true (fun K => oBin .leq t8 t12 h6 K) h6 fun t13 h7 =>
  oPick t6 t13 (Value.bool false) h7 fun t14 h8 =>
  K t14 h8
def E0_q74 (a0 a1 : Value) : List Value := [a0, a1, undef, undef, undef, undef, undef, undef, undef, undef, undef, undef, undef, undef, undef]
def X_q74 (Qv : Post) (a0 a1 : Value) (h : Hp) : Prop :=
  oBin .geq a1 (Value.int .i64 1) h fun t6 h1 =>
  oGuard t6 true (fun K => K a1 h1) h1 fun t8 h2 =>
  oGuard t6 true (fun K => K a0 h2) h2 fun t9 h3 =>
  oGuard t6 true (fun K => oNilCheck t9 h3 K) h3 fun t10 h4 =>
  oGuard t6 true (fun K => oFieldAddr 1 t10 h4 K) h4 fun t11 h5 =>
  oGuard t6 true (fun K => oLd1 t11 h5 K) h5 fun t12 h6 =>
  oGuard t6 true (fun K => oBin .leq t8 t12 h6 K) h6 fun t13 h7 =>
  oPick t6 t13 (Value.bool false) h7 fun t14 h8 =>
  Qv .ret (ul (E0_q74 a0 a1) [(4, t14), (5, a1), (6, t6), (7, t6), (8, t8), (9, t9), (10, t10), (11, t11), (12, t12), (13, t13), (14, t14)]) h8
theorem ga_q74 (Qv : Post) (a0 a1 : Value) (h : Hp) : aw Try.prog O_q74 (bodyC Try.f53) Qv (E0_q74 a0 a1) h = X_q74 Qv a0 a1 h := by kernel_rfl
theorem gb_q74 (a0 a1 : Value) (h : Hp) (K : Kont) : X_q74 (qTop Try.prog Try.f53 K) a0 a1 h = G_q74 a0 a1 h K := by kernel_rfl
theorem gc_q74 (a0 a1 : Value) (h : Hp) (K : Kont) : abody Try.prog O_q74 Try.f53 (bodyC Try.f53) [a0, a1] h K = aw Try.prog O_q74 (bodyC Try.f53) (qTop Try.prog Try.f53 K) (E0_q74 a0 a1) h := by kernel_rfl
theorem eq_q74 (a0 a1 : Value) (h : Hp) (K : Kont) : abody Try.prog O_q74 Try.f53 (bodyC Try.f53) [a0, a1] h K = G_q74 a0 a1 h K := (gc_q74 a0 a1 h K).trans ((ga_q74 _ a0 a1 h).trans (gb_q74 a0 a1 h K))
theorem ok_q74 {a0 a1 : Value} {h : Hp} {K : Kont} (hk : G_q74 a0 a1 h K) : C_q74 [a0, a1] h K := ac_of_body prog_mixed (fn := Try.f53) Try.func53 (c := bodyC Try.f53) (by kernel_rfl) ((eq_q74 a0 a1 h K).mpr hk)
def O_q10 : Od := []
noncomputable def K_q10_0 : Code := (cI (cB (cA (cB (cB (cB (bodyC Try.f54)))))))
noncomputable def K_q10_1 : Code := (cB (cB (cB (cB (bodyC Try.f54)))))
def Q_q10_0 (K : Kont) : Post := qSeq (aw Try.prog O_q10 K_q10_1 (qTop Try.prog Try.f54 K)) (qTop Try.prog Try.f54 K)
def Q_q10_1 (K : Kont) : Post := qBlk 0 (Q_q10_0 K)
def E_q10_1 (v0 v1 v5 v6 : Value) (d : Nat → Value) : List Value := [v0, v1, d 2, d 3, d 4, v5, v6, d 7, d 8, d 9, d 10, d 11, d 12, d 13, d 14, d 15, d 16, d 17, d 18, d 19, d 20, d 21, d 22, d 23, d 24, d 25, d 26, d 27, d 28, d 29, d 30, d 31, d 32, d 33, d 34, d 35, d 36, d 37, d 38, d 39, d 40, d 41]
def G_q10_1 (K : Kont) (v0 v1 v5 v6 : Value) (d : Nat → Value) (h : Hp) : Prop := aw Try.prog O_q10 K_q10_0 (Q_q10_1 K) (E_q10_1 v0 v1 v5 v6 d) h
noncomputable def K_q10_2 : Code := (cB (cB (cB (bodyC Try.f54))))
def Q_q10_2 (K : Kont) (s0 : Self) : Post := qSeq s0 (Q_q10_1 K)
noncomputable def K_q10_3 : Code := (cI (cI (cB (cA (cB (cB (cB (bodyC Try.f54))))))))
noncomputable def K_q10_4 : Code := (cB (cB (cI (cI (cB (cA (cB (cB (cB (bodyC Try.f54))))))))))
def E_q10_2 (v0 v1 v5 v6 : Value) (d : Nat → Value) : List Value := [v0, v1, d 2, d 3, d 4, v5, v6, d 7, d 8, d 9, d 10, d 11, d 12, d 13, d 14, d 15, d 16, d 17, d 18, d 19, d 20, d 21, d 22, d 23, d 24, d 25, d 26, d 27, d 28, d 29, d 30, d 31, d 32, d 33, d 34, d 35, d 36, d 37, d 38, d 39, d 40, d 41]
def G_q10_2 (K : Kont) (s0 : Self) (v0 v1 v5 v6 : Value) (d : Nat → Value) (h : Hp) : Prop := aw Try.prog O_q10 K_q10_4 (Q_q10_2 K s0) (E_q10_2 v0 v1 v5 v6 d) h
noncomputable def K_q10_5 : Code := (cB (cI (cI (cB (cA (cB (cB (cB (bodyC Try.f54)))))))))
def G_q10 (a0 a1 : Value) (h : Hp) (K : Kont) : Prop :=
  C_q11 [a0, a1] h fun t10 h1 =>
  oBin .eql t10 (Value.int .i64 (-1)) h1 fun t12 h2 =>
  oIf t12
  (K a0 h2)
  (oBin .add t10 (Value.int .i64 1) h2 fun t15 h3 =>
  G_q10_1 K a0 a1 t10 t15 (ud [(4, (Value.slice none 0 0)), (8, a0), (9, a1), (10, t10), (11, t10), (12, t12), (14, t10), (15, t15)] dz) h3)
def E0_q10 (a0 a1 : Value) : List Value := [a0, a1, undef, undef, undef, undef, undef, undef, undef, undef, undef, undef, undef, undef, undef, undef, undef, undef, undef, undef, undef, undef, undef, undef, undef, undef, undef, undef, undef, undef, undef, undef, undef, undef, undef, undef, undef, undef, undef, undef, undef, undef]
def X_q10 (Qv : Post) (a0 a1 : Value) (h : Hp) : Prop :=
  C_q11 [a0, a1] h fun t10 h1 =>
  oBin .eql t10 (Value.int .i64 (-1)) h1 fun t12 h2 =>
  oIf t12
  ((qSeq (aw Try.prog O_q10 K_q10_2 Qv) Qv) .ret (ul (E0_q10 a0 a1) [(4, a0), (5, t10), (8, a0), (9, a1), (10, t10), (11, t10), (12, t12), (13, a0)]) h2)
  (oBin .add t10 (Value.int .i64 1) h2 fun t15 h3 =>
  aw Try.prog O_q10 K_q10_0 (qBlk 0 (qSeq (aw Try.prog O_q10 K_q10_1 Qv) Qv)) (ul (E0_q10 a0 a1) [(4, (Value.slice none 0 0)), (5, t10), (6, t15), (8, a0), (9, a1), (10, t10), (11, t10), (12, t12), (14, t10), (15, t15)]) h3)
theorem ga_q10 (Qv : Post) (a0 a1 : Value) (h : Hp) : aw Try.prog O_q10 (bodyC Try.f54) Qv (E0_q10 a0 a1) h = X_q10 Qv a0 a1 h := by kernel_rfl
theorem gb_q10 (a0 a1 : Value) (h : Hp) (K : Kont) : X_q10 (qTop Try.prog Try.f54 K) a0 a1 h = G_q10 a0 a1 h K := by kernel_rfl
theorem gc_q10 (a0 a1 : Value) (h : Hp) (K : Kont) : abody Try.prog O_q10 Try.f54 (bodyC Try.f54) [a0, a1] h K = aw Try.prog O_q10 (bodyC Try.f54) (qTop Try.prog Try.f54 K) (E0_q10 a0 a1) h := by kernel_rfl
theorem eq_q10 (a0 a1 : Value) (h : Hp) (K : Kont) : abody Try.prog O_q10 Try.f54 (bodyC Try.f54) [a0, a1] h K = G_q10 a0 a1 h K := (gc_q10 a0 a1 h K).trans ((ga_q10 _ a0 a1 h).trans (gb_q10 a0 a1 h K))
theorem ok_q10 {a0 a1 : Value} {h : Hp} {K : Kont} (hk : G_q10 a0 a1 h K) : C_q10 [a0, a1] h K := ac_of_body prog_mixed (fn := Try.f54) Try.func54 (c := bodyC Try.f54) (by kernel_rfl) ((eq_q10 a0 a1 h K).mpr hk)
def B_q10_1 (K : Kont) (s0 : Self) (v0 v1 v5 v6 : Value) (d : Nat → Value) (h : Hp) : Prop :=
  oLen 0 v0 h fun t18 h1 =>
  oBin .lss v6 t18 h1 fun t19 h2 =>
  oIf t19
  (oIdxS 6 v0 v6 h2 fun t24 h3 =>
  oLdN 6 t24 h3 fun t25 h4 =>
  oAlloc #[.int .i64 0, .int .u64 0, .int .i64 0, .int .i64 0, .int .u64 0, .int .i64 0] h4 fun t7 h5 =>
  oSt 6 t7 t25 h5 fun _ h6 =>
  oLdN 6 t7 h6 fun t27 h7 =>
  oCallV Try.prog v1 [t27] h7 fun t28 h8 =>
  oNot t28 h8 fun t29 h9 =>
  oIf t29
  (oLdN 6 t7 h9 fun t32 h10 =>
  oIdxS 6 v0 v5 h10 fun t33 h11 =>
  oSt 6 t33 t32 h11 fun _ h12 =>
  oBin .add v5 (Value.int .i64 1) h12 fun t35 h13 =>
  G_q10_2 K s0 v0 v1 t35 v6 (ud [(7, t7), (16, v6), (17, v0), (18, t18), (19, t19), (22, v0), (23, v6), (24, t24), (25, t25), (26, v1), (27, t27), (28, t28), (29, t29), (30, v0), (31, v5), (32, t32), (33, t33), (34, v5), (35, t35)] d) h13)
  (G_q10_2 K s0 v0 v1 v5 v6 (ud [(7, t7), (16, v6), (17, v0), (18, t18), (19, t19), (22, v0), (23, v6), (24, t24), (25, t25), (26, v1), (27, t27), (28, t28), (29, t29)] d) h9))
  (oSlice 0 6 v0 (some v5) none none h2 fun t38 h14 =>
  oClearSlice 6 #[.int .i64 0, .int .u64 0, .int .i64 0, .int .i64 0, .int .u64 0, .int .i64 0] t38 h14 fun _ h15 =>
  oSlice 0 6 v0 none (some v5) none h15 fun t41 h16 =>
  K t41 h16)
def X_q10_1 (Qv : Post) (v0 v1 v5 v6 : Value) (d : Nat → Value) (h : Hp) : Prop :=
  oLen 0 v0 h fun t18 h1 =>
  oBin .lss v6 t18 h1 fun t19 h2 =>
  oIf t19
  (oIdxS 6 v0 v6 h2 fun t24 h3 =>
  oLdN 6 t24 h3 fun t25 h4 =>
  oAlloc #[.int .i64 0, .int .u64 0, .int .i64 0, .int .i64 0, .int .u64 0, .int .i64 0] h4 fun t7 h5 =>
  oSt 6 t7 t25 h5 fun _ h6 =>
  oLdN 6 t7 h6 fun t27 h7 =>
  oCallV Try.prog v1 [t27] h7 fun t28 h8 =>
  oNot t28 h8 fun t29 h9 =>
  oIf t29
  (oLdN 6 t7 h9 fun t32 h10 =>
  oIdxS 6 v0 v5 h10 fun t33 h11 =>
  oSt 6 t33 t32 h11 fun _ h12 =>
  oBin .add v5 (Value.int .i64 1) h12 fun t35 h13 =>
  (qBlk 1 (qSeq (aw Try.prog O_q10 K_q10_4 Qv) Qv)) .normal (ul (E_q10_1 v0 v1 v5 v6 d) [(5, t35), (7, t7), (16, v6), (17, v0), (18, t18), (19, t19), (22, v0), (23, v6), (24, t24), (25, t25), (26, v1), (27, t27), (28, t28), (29, t29), (30, v0), (31, v5), (32, t32), (33, t33), (34, v5), (35, t35)]) h13)
  ((qBlk 1 (qSeq (aw Try.prog O_q10 K_q10_4 Qv) Qv)) .normal (ul (E_q10_1 v0 v1 v5 v6 d) [(7, t7), (16, v6), (17, v0), (18, t18), (19, t19), (22, v0), (23, v6), (24, t24), (25, t25), (26, v1), (27, t27), (28, t28), (29, t29)]) h9))
  ((qSeq (aw Try.prog O_q10 K_q10_5 Qv) Qv) (.exit 0) (ul (E_q10_1 v0 v1 v5 v6 d) [(16, v6), (17, v0), (18, t18), (19, t19)]) h2)
theorem ga_q10_1 (Qv : Post) (v0 v1 v5 v6 : Value) (d : Nat → Value) (h : Hp) : aw Try.prog O_q10 K_q10_3 Qv (E_q10_1 v0 v1 v5 v6 d) h = X_q10_1 Qv v0 v1 v5 v6 d h := by kernel_rfl
theorem gb_q10_1 (K : Kont) (s0 : Self) (v0 v1 v5 v6 : Value) (d : Nat → Value) (h : Hp) : X_q10_1 (Q_q10_2 K s0) v0 v1 v5 v6 d h = B_q10_1 K s0 v0 v1 v5 v6 d h := by kernel_rfl
theorem beq_q10_1 (K : Kont) (s0 : Self) (v0 v1 v5 v6 : Value) (d : Nat → Value) (h : Hp) : aw Try.prog O_q10 K_q10_3 (Q_q10_2 K s0) (E_q10_1 v0 v1 v5 v6 d) h = B_q10_1 K s0 v0 v1 v5 v6 d h := (ga_q10_1 _ v0 v1 v5 v6 d h).trans (gb_q10_1 K s0 v0 v1 v5 v6 d h)
theorem rule_q10_1 {K : Kont} {v0 v1 : Value} (Inv : Value → Value → Hp → Prop) (μ : Value → Value → Hp → Nat)
    (step : ∀ (s0 : Self) (v5 v6 : Value) (d : Nat → Value) (h : Hp), Inv v5 v6 h → (∀ (v5' : Value) (v6' : Value) (d' : Nat → Value) (h' : Hp), Inv v5' v6' h' → μ v5' v6' h' < μ v5 v6 h → s0 (E_q10_1 v0 v1 v5' v6' d') h') → B_q10_1 K s0 v0 v1 v5 v6 d h) (v5 v6 : Value) (d : Nat → Value) (h : Hp) (hi : Inv v5 v6 h) : G_q10_1 K v0 v1 v5 v6 d h :=
  oLoop_rule (α := Value × Value × (Nat → Value)) (fun x => E_q10_1 v0 v1 x.1 x.2.1 x.2.2) (fun x h => Inv x.1 x.2.1 h) (fun x h => μ x.1 x.2.1 h)
    (fun self x h hx hs => (beq_q10_1 K self v0 v1 x.1 x.2.1 x.2.2 h).mpr (step self x.1 x.2.1 x.2.2 h hx (fun v5' v6' d' h' h1 h2 => hs ⟨v5', v6', d'⟩ h' h1 h2))) ⟨v5, v6, d⟩ h hi
def R_q10_2 (K : Kont) (s0 : Self) (v0 v1 v5 v6 : Value) (d : Nat → Value) (h : Hp) : Prop :=
  oBin .add v6 (Value.int .i64 1) h fun t21 h1 =>
  s0 (E_q10_1 v0 v1 v5 t21 (ud [(20, v6), (21, t21)] d)) h1
def X_q10_2 (Qv : Post) (v0 v1 v5 v6 : Value) (d : Nat → Value) (h : Hp) : Prop :=
  oBin .add v6 (Value.int .i64 1) h fun t21 h1 =>
  Qv .normal (ul (E_q10_2 v0 v1 v5 v6 d) [(6, t21), (20, v6), (21, t21)]) h1
theorem ga_q10_2 (Qv : Post) (v0 v1 v5 v6 : Value) (d : Nat → Value) (h : Hp) : aw Try.prog O_q10 K_q10_4 Qv (E_q10_2 v0 v1 v5 v6 d) h = X_q10_2 Qv v0 v1 v5 v6 d h := by kernel_rfl
theorem gb_q10_2 (K : Kont) (s0 : Self) (v0 v1 v5 v6 : Value) (d : Nat → Value) (h : Hp) : X_q10_2 (Q_q10_2 K s0) v0 v1 v5 v6 d h = R_q10_2 K s0 v0 v1 v5 v6 d h := by kernel_rfl
theorem req_q10_2 (K : Kont) (s0 : Self) (v0 v1 v5 v6 : Value) (d : Nat → Value) (h : Hp) : G_q10_2 K s0 v0 v1 v5 v6 d h = R_q10_2 K s0 v0 v1 v5 v6 d h := (ga_q10_2 _ v0 v1 v5 v6 d h).trans (gb_q10_2 K s0 v0 v1 v5 v6 d h)
def O_q13 : Od := []
noncomputable def K_q13_0 : Code := (cB (cB (bodyC Try.f55)))
def G_q13 (a0 : Value) (h : Hp) (K : Kont) : Prop :=
  oEq 2 false none a0 (Value.slice none 0 0) h fun t4 h1 =>
  oIf t4
  (K (Value.slice none 0 0) h1)
  (oBuildSlice #[] 0 [] h1 fun t5 h2 =>
  oAppend 6 48 #[.int .i64 0, .int .u64 0, .int .i64 0, .int .i64 0, .int .u64 0, .int .i64 0] t5 a0 h2 fun t7 h3 =>
  K t7 h3)
def E0_q13 (a0 : Value) : List Value := [a0, undef, undef, undef, undef, undef, undef, undef]
def X_q13 (Qv : Post) (a0 : Value) (h : Hp) : Prop :=
  oEq 2 false none a0 (Value.slice none 0 0) h fun t4 h1 =>
  oIf t4
  ((qSeq (aw Try.prog O_q13 K_q13_0 Qv) Qv) .ret (ul (E0_q13 a0) [(2, (Value.slice none 0 0)), (3, a0), (4, t4)]) h1)
  (oBuildSlice #[] 0 [] h1 fun t5 h2 =>
  oAppend 6 48 #[.int .i64 0, .int .u64 0, .int .i64 0, .int .i64 0, .int .u64 0, .int .i64 0] t5 a0 h2 fun t7 h3 =>
  Qv .ret (ul (E0_q13 a0) [(2, t7), (3, a0), (4, t4), (5, t5), (6, a0), (7, t7)]) h3)
theorem ga_q13 (Qv : Post) (a0 : Value) (h : Hp) : aw Try.prog O_q13 (bodyC Try.f55) Qv (E0_q13 a0) h = X_q13 Qv a0 h := by kernel_rfl
theorem gb_q13 (a0 : Value) (h : Hp) (K : Kont) : X_q13 (qTop Try.prog Try.f55 K) a0 h = G_q13 a0 h K := by kernel_rfl
theorem gc_q13 (a0 : Value) (h : Hp) (K : Kont) : abody Try.prog O_q13 Try.f55 (bodyC Try.f55) [a0] h K = aw Try.prog O_q13 (bodyC Try.f55) (qTop Try.prog Try.f55 K) (E0_q13 a0) h := by kernel_rfl
theorem eq_q13 (a0 : Value) (h : Hp) (K : Kont) : abody Try.prog O_q13 Try.f55 (bodyC Try.f55) [a0] h K = G_q13 a0 h K := (gc_q13 a0 h K).trans ((ga_q13 _ a0 h).trans (gb_q13 a0 h K))
theorem ok_q13 {a0 : Value} {h : Hp} {K : Kont} (hk : G_q13 a0 h K) : C_q13 [a0] h K := ac_of_body prog_mixed (fn := Try.f55) Try.func55 (c := bodyC Try.f55) (by kernel_rfl) ((eq_q13 a0 h K).mpr hk)
end Go.Proofs.Ytdolepapmpcpiaa

