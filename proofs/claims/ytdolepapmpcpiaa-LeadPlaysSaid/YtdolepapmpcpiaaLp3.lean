/- Lemmas for the theorem of the last text; no condition. -/
import Derived.Test.YtdolepapmpcpiaaLp0
import Derived.Test.YtdolepapmpcpiaaLp1
import Derived.Test.YtdolepapmpcpiaaLp2
import Derived.Test.YtdolepapmpcpiaaProg
namespace Go.Proofs.Ytdolepapmpcpiaa
open Go
set_option linter.unusedSectionVars false
variable [Base]
set_option linter.unusedVariables false
set_option maxRecDepth 100000
def O_q108 : Od := [(10, (.one 0 true (.one 1 true (.one 2 true (.one 3 true (.one 4 true (.one 5 true (.both 6 10 (.one 7 true (.one 8 true (.one 9 true (.one 10 false (.one 11 false (.one 12 true .nil)))))) (.one 6 false (.one 7 true (.one 8 true (.one 9 true (.one 11 false (.one 12 true .nil)))))))))))))), (12, (.one 0 true (.one 1 true (.one 2 true (.one 3 true (.one 5 true (.one 6 true (.one 4 false (.one 7 true (.one 8 true (.one 9 true (.one 10 true (.one 12 true (.one 13 true (.one 11 false (.one 14 true (.one 15 true (.one 16 true (.one 17 true (.one 19 true (.one 20 true (.one 18 false (.one 21 true (.one 22 true (.one 23 true (.one 24 true (.one 26 true (.one 27 true (.one 25 false (.one 28 true (.one 29 true (.one 30 true (.one 31 true (.one 33 true (.one 32 false (.one 34 false (.one 35 false (.one 36 true (.one 37 true .nil)))))))))))))))))))))))))))))))))))))))]
noncomputable def K_q108_0 : Code := (cI (cB (cA (cB (cB (cB (cB (bodyC Try.f8))))))))
noncomputable def K_q108_1 : Code := (cB (cB (cB (cB (cB (bodyC Try.f8))))))
def Q_q108_0 (K : Kont) : Post := qSeq (aw Try.prog O_q108 K_q108_1 (qTop Try.prog Try.f8 K)) (qTop Try.prog Try.f8 K)
def Q_q108_1 (K : Kont) : Post := qBlk 0 (Q_q108_0 K)
def E_q108_1 (v2 v7 v8 v9 v10 : Value) (d : Nat → Value) : List Value := [d 0, d 1, v2, d 3, d 4, d 5, d 6, v7, v8, v9, v10, d 11, d 12, d 13, d 14, d 15, d 16, d 17, d 18, d 19, d 20, d 21, d 22, d 23, d 24, d 25, d 26, d 27, d 28, d 29, d 30, d 31, d 32, d 33, d 34, d 35, d 36, d 37, d 38, d 39, d 40, d 41, d 42, d 43, d 44, d 45, d 46, d 47, d 48, d 49, d 50, d 51, d 52, d 53, d 54, d 55, d 56, d 57, d 58, d 59, d 60, d 61, d 62, d 63, d 64, d 65, d 66, d 67, d 68, d 69, d 70, d 71, d 72, d 73, d 74, d 75, d 76, d 77, d 78, d 79, d 80, d 81, d 82, d 83, d 84, d 85, d 86, d 87, d 88, d 89, d 90, d 91, d 92, d 93, d 94, d 95, d 96, d 97, d 98, d 99, d 100, d 101, d 102, d 103, d 104, d 105, d 106]
def G_q108_1 (K : Kont) (v2 v7 v8 v9 v10 : Value) (d : Nat → Value) (h : Hp) : Prop := aw Try.prog O_q108 K_q108_0 (Q_q108_1 K) (E_q108_1 v2 v7 v8 v9 v10 d) h
noncomputable def K_q108_2 : Code := (cB (cB (cB (bodyC Try.f8))))
def Q_q108_2 (K : Kont) (s0 : Self) : Post := qSeq s0 (Q_q108_1 K)
noncomputable def K_q108_3 : Code := (cI (cI (cB (cA (cB (cB (cB (cB (bodyC Try.f8)))))))))
noncomputable def K_q108_4 : Code := (cB (cI (cA (cB (cI (cI (cB (cA (cB (cB (cB (cB (bodyC Try.f8)))))))))))))
noncomputable def K_q108_5 : Code := (cB (cB (cI (cI (cB (cA (cB (cB (cB (cB (bodyC Try.f8)))))))))))
def Q_q108_3 (K : Kont) (s0 : Self) : Post := qSeq (aw Try.prog O_q108 K_q108_5 (Q_q108_2 K s0)) (Q_q108_2 K s0)
def Q_q108_4 (K : Kont) (s0 : Self) : Post := qBlk 1 (Q_q108_3 K s0)
def E_q108_2 (v2 v7 v8 v9 v10 : Value) (d : Nat → Value) : List Value := [d 0, d 1, v2, d 3, d 4, d 5, d 6, v7, v8, v9, v10, d 11, d 12, d 13, d 14, d 15, d 16, d 17, d 18, d 19, d 20, d 21, d 22, d 23, d 24, d 25, d 26, d 27, d 28, d 29, d 30, d 31, d 32, d 33, d 34, d 35, d 36, d 37, d 38, d 39, d 40, d 41, d 42, d 43, d 44, d 45, d 46, d 47, d 48, d 49, d 50, d 51, d 52, d 53, d 54, d 55, d 56, d 57, d 58, d 59, d 60, d 61, d 62, d 63, d 64, d 65, d 66, d 67, d 68, d 69, d 70, d 71, d 72, d 73, d 74, d 75, d 76, d 77, d 78, d 79, d 80, d 81, d 82, d 83, d 84, d 85, d 86, d 87, d 88, d 89, d 90, d 91, d 92, d 93, d 94, d 95, d 96, d 97, d 98, d 99, d 100, d 101, d 102, d 103, d 104, d 105, d 106]
def G_q108_2 (K : Kont) (s0 : Self) (v2 v7 v8 v9 v10 : Value) (d : Nat → Value) (h : Hp) : Prop := aw Try.prog O_q108 K_q108_4 (Q_q108_4 K s0) (E_q108_2 v2 v7 v8 v9 v10 d) h
noncomputable def K_q108_6 : Code := (cB (cI (cI (cB (cA (cB (cB (cB (cB (bodyC Try.f8))))))))))
noncomputable def K_q108_7 : Code := (cB (cB (cI (cA (cB (cI (cI (cB (cA (cB (cB (cB (cB (bodyC Try.f8))))))))))))))
def E_q108_3 (v2 v7 v8 v9 v10 v11 v12 : Value) (d : Nat → Value) : List Value := [d 0, d 1, v2, d 3, d 4, d 5, d 6, v7, v8, v9, v10, v11, v12, d 13, d 14, d 15, d 16, d 17, d 18, d 19, d 20, d 21, d 22, d 23, d 24, d 25, d 26, d 27, d 28, d 29, d 30, d 31, d 32, d 33, d 34, d 35, d 36, d 37, d 38, d 39, d 40, d 41, d 42, d 43, d 44, d 45, d 46, d 47, d 48, d 49, d 50, d 51, d 52, d 53, d 54, d 55, d 56, d 57, d 58, d 59, d 60, d 61, d 62, d 63, d 64, d 65, d 66, d 67, d 68, d 69, d 70, d 71, d 72, d 73, d 74, d 75, d 76, d 77, d 78, d 79, d 80, d 81, d 82, d 83, d 84, d 85, d 86, d 87, d 88, d 89, d 90, d 91, d 92, d 93, d 94, d 95, d 96, d 97, d 98, d 99, d 100, d 101, d 102, d 103, d 104, d 105, d 106]
def G_q108_3 (K : Kont) (s0 : Self) (v2 v7 v8 v9 v10 v11 v12 : Value) (d : Nat → Value) (h : Hp) : Prop := aw Try.prog O_q108 K_q108_7 (Q_q108_4 K s0) (E_q108_3 v2 v7 v8 v9 v10 v11 v12 d) h
def G_q108 (a0 a1 a2 : Value) (h : Hp) (K : Kont) : Prop :=
  C_q171 [a0, a1] h fun t16 h1 =>
  oExtract t16 0 h1 fun t17 h2 =>
  oExtract t16 1 h2 fun t18 h3 =>
  C_q167 [a0, a1] h3 fun t21 h4 =>
  oNot t21 h4 fun t22 h5 =>
  oIf t22
  (oEq 1 false none t17 (Value.pointer none) h5 fun t24 h6 =>
  oGuard t24 true (fun K => K t18 h6) h6 fun t26 h7 =>
  oGuard t24 true (fun K => oBin .eql t26 (Value.int .i64 1) h7 K) h7 fun t27 h8 =>
  oPick t24 t27 (Value.bool false) h8 fun t28 h9 =>
  oGuard t28 true (fun K => C_q162 [] h9 K) h9 fun t30 h10 =>
  oPick t28 t30 (Value.bool false) h10 fun t31 h11 =>
  K t31 h11)
  (oBuild #[.int .i64 0, .int .i64 0, .int .i64 0, .int .u64 0, .int .i64 0, .int .i64 0, .slice none 0 0, .slice none 0 0, .slice none 0 0] [(0, 1, a0), (1, 1, a1)] h5 fun t34 h12 =>
  oAlloc #[.int .i64 0, .int .i64 0, .int .i64 0, .int .u64 0, .int .i64 0, .int .i64 0, .slice none 0 0, .slice none 0 0, .slice none 0 0] h12 fun t9 h13 =>
  oSt 9 t9 t34 h13 fun _ h14 =>
  G_q108_1 K a2 t17 t18 t9 (Value.int .i64 0) (ud [(0, a0), (1, a1), (6, (Value.bool false)), (13, t16), (14, a0), (15, a1), (16, t16), (17, t17), (18, t18), (19, a0), (20, a1), (21, t21), (22, t22), (32, a0), (33, a1), (34, t34)] dz) h14)
def E0_q108 (a0 a1 a2 : Value) : List Value := [a0, a1, a2, undef, undef, undef, undef, undef, undef, undef, undef, undef, undef, undef, undef, undef, undef, undef, undef, undef, undef, undef, undef, undef, undef, undef, undef, undef, undef, undef, undef, undef, undef, undef, undef, undef, undef, undef, undef, undef, undef, undef, undef, undef, undef, undef, undef, undef, undef, undef, undef, undef, undef, undef, undef, undef, undef, undef, undef, undef, undef, undef, undef, undef, undef, undef, undef, undef, undef, undef, undef, undef, undef, undef, undef, undef, undef, undef, undef, undef, undef, undef, undef, undef, undef, undef, undef, undef, undef, undef, undef, undef, undef, undef, undef, undef, undef, undef, undef, undef, undef, undef, undef, undef, undef, undef, undef]
def X_q108 (Qv : Post) (a0 a1 a2 : Value) (h : Hp) : Prop :=
  C_q171 [a0, a1] h fun t16 h1 =>
  oExtract t16 0 h1 fun t17 h2 =>
  oExtract t16 1 h2 fun t18 h3 =>
  C_q167 [a0, a1] h3 fun t21 h4 =>
  oNot t21 h4 fun t22 h5 =>
  oIf t22
  (oEq 1 false none t17 (Value.pointer none) h5 fun t24 h6 =>
  oGuard t24 true (fun K => K t18 h6) h6 fun t26 h7 =>
  oGuard t24 true (fun K => oBin .eql t26 (Value.int .i64 1) h7 K) h7 fun t27 h8 =>
  oPick t24 t27 (Value.bool false) h8 fun t28 h9 =>
  oGuard t28 true (fun K => C_q162 [] h9 K) h9 fun t30 h10 =>
  oPick t28 t30 (Value.bool false) h10 fun t31 h11 =>
  (qSeq (aw Try.prog O_q108 K_q108_2 Qv) Qv) .ret (ul (E0_q108 a0 a1 a2) [(6, t31), (7, t17), (8, t18), (13, t16), (14, a0), (15, a1), (16, t16), (17, t17), (18, t18), (19, a0), (20, a1), (21, t21), (22, t22), (23, t17), (24, t24), (25, t24), (26, t26), (27, t27), (28, t28), (29, t28), (30, t30), (31, t31)]) h11)
  (oBuild #[.int .i64 0, .int .i64 0, .int .i64 0, .int .u64 0, .int .i64 0, .int .i64 0, .slice none 0 0, .slice none 0 0, .slice none 0 0] [(0, 1, a0), (1, 1, a1)] h5 fun t34 h12 =>
  oAlloc #[.int .i64 0, .int .i64 0, .int .i64 0, .int .u64 0, .int .i64 0, .int .i64 0, .slice none 0 0, .slice none 0 0, .slice none 0 0] h12 fun t9 h13 =>
  oSt 9 t9 t34 h13 fun _ h14 =>
  aw Try.prog O_q108 K_q108_0 (qBlk 0 (qSeq (aw Try.prog O_q108 K_q108_1 Qv) Qv)) (ul (E0_q108 a0 a1 a2) [(6, (Value.bool false)), (7, t17), (8, t18), (9, t9), (10, (Value.int .i64 0)), (13, t16), (14, a0), (15, a1), (16, t16), (17, t17), (18, t18), (19, a0), (20, a1), (21, t21), (22, t22), (32, a0), (33, a1), (34, t34)]) h14)
theorem ga_q108 (Qv : Post) (a0 a1 a2 : Value) (h : Hp) : aw Try.prog O_q108 (bodyC Try.f8) Qv (E0_q108 a0 a1 a2) h = X_q108 Qv a0 a1 a2 h := by kernel_rfl
theorem gb_q108 (a0 a1 a2 : Value) (h : Hp) (K : Kont) : X_q108 (qTop Try.prog Try.f8 K) a0 a1 a2 h = G_q108 a0 a1 a2 h K := by kernel_rfl
theorem gc_q108 (a0 a1 a2 : Value) (h : Hp) (K : Kont) : abody Try.prog O_q108 Try.f8 (bodyC Try.f8) [a0, a1, a2] h K = aw Try.prog O_q108 (bodyC Try.f8) (qTop Try.prog Try.f8 K) (E0_q108 a0 a1 a2) h := by kernel_rfl
theorem eq_q108 (a0 a1 a2 : Value) (h : Hp) (K : Kont) : abody Try.prog O_q108 Try.f8 (bodyC Try.f8) [a0, a1, a2] h K = G_q108 a0 a1 a2 h K := (gc_q108 a0 a1 a2 h K).trans ((ga_q108 _ a0 a1 a2 h).trans (gb_q108 a0 a1 a2 h K))
theorem ok_q108 {a0 a1 a2 : Value} {h : Hp} {K : Kont} (hk : G_q108 a0 a1 a2 h K) : C_q108 [a0, a1, a2] h K := ac_of_body prog_mixed (fn := Try.f8) Try.func8 (c := bodyC Try.f8) (by kernel_rfl) ((eq_q108 a0 a1 a2 h K).mpr hk)
def B_q108_1 (K : Kont) (s0 : Self) (v2 v7 v8 v9 v10 : Value) (d : Nat → Value) (h : Hp) : Prop :=
  oLen 0 v2 h fun t37 h1 =>
  oBin .lss v10 t37 h1 fun t38 h2 =>
  oGuard t38 true (fun K => K v10 h2) h2 fun t40 h3 =>
  oGuard t38 true (fun K => oBin .lss t40 (Value.int .i64 60) h3 K) h3 fun t41 h4 =>
  oPick t38 t41 (Value.bool false) h4 fun t42 h5 =>
  oIf t42
  (oIdxS 10 v2 v10 h5 fun t47 h6 =>
  oFieldAddr 5 t47 h6 fun t48 h7 =>
  oLd1 t48 h7 fun t49 h8 =>
  oLen 0 t49 h8 fun t50 h9 =>
  oBin .gtr t50 (Value.int .i64 40) h9 fun t51 h10 =>
  oIf t51
  (C_q162 [] h10 fun t52 h11 =>
  K t52 h11)
  (G_q108_2 K s0 v2 v7 v8 v9 v10 (ud [(35, v10), (36, v2), (37, t37), (38, t38), (39, t38), (40, t40), (41, t41), (42, t42), (45, v2), (46, v10), (47, t47), (48, t48), (49, t49), (50, t50), (51, t51)] d) h10))
  (oBin .eql v8 (Value.int .i64 0) h5 fun t103 h12 =>
  oGuard t103 true (fun K => C_q162 [] h12 K) h12 fun t105 h13 =>
  oPick t103 t105 (Value.bool false) h13 fun t106 h14 =>
  K t106 h14)
def X_q108_1 (Qv : Post) (v2 v7 v8 v9 v10 : Value) (d : Nat → Value) (h : Hp) : Prop :=
  oLen 0 v2 h fun t37 h1 =>
  oBin .lss v10 t37 h1 fun t38 h2 =>
  oGuard t38 true (fun K => K v10 h2) h2 fun t40 h3 =>
  oGuard t38 true (fun K => oBin .lss t40 (Value.int .i64 60) h3 K) h3 fun t41 h4 =>
  oPick t38 t41 (Value.bool false) h4 fun t42 h5 =>
  oIf t42
  (oIdxS 10 v2 v10 h5 fun t47 h6 =>
  oFieldAddr 5 t47 h6 fun t48 h7 =>
  oLd1 t48 h7 fun t49 h8 =>
  oLen 0 t49 h8 fun t50 h9 =>
  oBin .gtr t50 (Value.int .i64 40) h9 fun t51 h10 =>
  oIf t51
  (C_q162 [] h10 fun t52 h11 =>
  (qSeq (aw Try.prog O_q108 K_q108_4 (qBlk 1 (qSeq (aw Try.prog O_q108 K_q108_5 Qv) Qv))) (qBlk 1 (qSeq (aw Try.prog O_q108 K_q108_5 Qv) Qv))) .ret (ul (E_q108_1 v2 v7 v8 v9 v10 d) [(6, t52), (35, v10), (36, v2), (37, t37), (38, t38), (39, t38), (40, t40), (41, t41), (42, t42), (45, v2), (46, v10), (47, t47), (48, t48), (49, t49), (50, t50), (51, t51), (52, t52)]) h11)
  ((qSeq (aw Try.prog O_q108 K_q108_4 (qBlk 1 (qSeq (aw Try.prog O_q108 K_q108_5 Qv) Qv))) (qBlk 1 (qSeq (aw Try.prog O_q108 K_q108_5 Qv) Qv))) .normal (ul (E_q108_1 v2 v7 v8 v9 v10 d) [(35, v10), (36, v2), (37, t37), (38, t38), (39, t38), (40, t40), (41, t41), (42, t42), (45, v2), (46, v10), (47, t47), (48, t48), (49, t49), (50, t50), (51, t51)]) h10))
  ((qSeq (aw Try.prog O_q108 K_q108_6 Qv) Qv) (.exit 0) (ul (E_q108_1 v2 v7 v8 v9 v10 d) [(35, v10), (36, v2), (37, t37), (38, t38), (39, t38), (40, t40), (41, t41), (42, t42)]) h5)
theorem ga_q108_1 (Qv : Post) (v2 v7 v8 v9 v10 : Value) (d : Nat → Value) (h : Hp) : aw Try.prog O_q108 K_q108_3 Qv (E_q108_1 v2 v7 v8 v9 v10 d) h = X_q108_1 Qv v2 v7 v8 v9 v10 d h := by kernel_rfl
theorem gb_q108_1 (K : Kont) (s0 : Self) (v2 v7 v8 v9 v10 : Value) (d : Nat → Value) (h : Hp) : X_q108_1 (Q_q108_2 K s0) v2 v7 v8 v9 v10 d h = B_q108_1 K s0 v2 v7 v8 v9 v10 d h := by kernel_rfl
theorem beq_q108_1 (K : Kont) (s0 : Self) (v2 v7 v8 v9 v10 : Value) (d : Nat → Value) (h : Hp) : aw Try.prog O_q108 K_q108_3 (Q_q108_2 K s0) (E_q108_1 v2 v7 v8 v9 v10 d) h = B_q108_1 K s0 v2 v7 v8 v9 v10 d h := (ga_q108_1 _ v2 v7 v8 v9 v10 d h).trans (gb_q108_1 K s0 v2 v7 v8 v9 v10 d h)
theorem rule_q108_1 {K : Kont} {v2 v7 v8 v9 : Value} (Inv : Value → Hp → Prop) (μ : Value → Hp → Nat)
    (step : ∀ (s0 : Self) (v10 : Value) (d : Nat → Value) (h : Hp), Inv v10 h → (∀ (v10' : Value) (d' : Nat → Value) (h' : Hp), Inv v10' h' → μ v10' h' < μ v10 h → s0 (E_q108_1 v2 v7 v8 v9 v10' d') h') → B_q108_1 K s0 v2 v7 v8 v9 v10 d h) (v10 : Value) (d : Nat → Value) (h : Hp) (hi : Inv v10 h) : G_q108_1 K v2 v7 v8 v9 v10 d h :=
  oLoop_rule (α := Value × (Nat → Value)) (fun x => E_q108_1 v2 v7 v8 v9 x.1 x.2) (fun x h => Inv x.1 h) (fun x h => μ x.1 h)
    (fun self x h hx hs => (beq_q108_1 K self v2 v7 v8 v9 x.1 x.2 h).mpr (step self x.1 x.2 h hx (fun v10' d' h' h1 h2 => hs ⟨v10', d'⟩ h' h1 h2))) ⟨v10, d⟩ h hi
def R_q108_2 (K : Kont) (s0 : Self) (v2 v7 v8 v9 v10 : Value) (d : Nat → Value) (h : Hp) : Prop :=
  oLdN 9 v9 h fun t55 h1 =>
  oIdxS 10 v2 v10 h1 fun t58 h2 =>
  oLdN 10 t58 h2 fun t59 h3 =>
  (C_q170 [v7, t55, t59] h3 fun t60 h4 =>
  (True) ∧
  oExtract t60 0 h4 fun t61 h5 =>
  oExtract t60 1 h5 fun t62 h6 =>
  oAlloc #[.int .i64 0, .int .i64 0, .int .i64 0, .int .u64 0, .int .i64 0, .int .i64 0, .slice none 0 0, .slice none 0 0, .slice none 0 0] h6 fun t11 h7 =>
  ((oLdN 10 t58 h6 (fun v' _ => v' = t59) → oLdN 10 t58 h7 (fun v' _ => v' = t59)) ∧ (oLdN 9 v9 h6 (fun v' _ => v' = t55) → oLdN 9 v9 h7 (fun v' _ => v' = t55)) ∧ True) ∧
  oSt 9 t11 t61 h7 fun _ h8 =>
  (True) ∧
  G_q108_3 K s0 v2 v7 v8 v9 v10 t11 t62 (ud [(53, t60), (54, v7), (55, t55), (56, v2), (57, v10), (58, t58), (59, t59), (60, t60), (61, t61), (62, t62)] d) h8) ∧
  (oAlloc #[.int .i64 0, .int .i64 0, .int .i64 0, .int .u64 0, .int .i64 0, .int .i64 0, .slice none 0 0, .slice none 0 0, .slice none 0 0] h3 fun t11_1 h9 =>
  ((oLdN 10 t58 h3 (fun v' _ => v' = t59) → oLdN 10 t58 h9 (fun v' _ => v' = t59)) ∧ (oLdN 9 v9 h3 (fun v' _ => v' = t55) → oLdN 9 v9 h9 (fun v' _ => v' = t55)) ∧ True) ∧
  C_q170 [v7, t55, t59] h9 fun t60_2 h10 =>
  (True) ∧
  oExtract t60_2 0 h10 fun t61_3 h11 =>
  oExtract t60_2 1 h11 fun t62_4 h12 =>
  oSt 9 t11_1 t61_3 h12 fun _ h13 =>
  (True) ∧
  G_q108_3 K s0 v2 v7 v8 v9 v10 t11_1 t62_4 (ud [(53, t60_2), (54, v7), (55, t55), (56, v2), (57, v10), (58, t58), (59, t59), (60, t60_2), (61, t61_3), (62, t62_4)] d) h13)
def X_q108_2 (Qv : Post) (v2 v7 v8 v9 v10 : Value) (d : Nat → Value) (h : Hp) : Prop :=
  oLdN 9 v9 h fun t55 h1 =>
  oIdxS 10 v2 v10 h1 fun t58 h2 =>
  oLdN 10 t58 h2 fun t59 h3 =>
  (C_q170 [v7, t55, t59] h3 fun t60 h4 =>
  (True) ∧
  oExtract t60 0 h4 fun t61 h5 =>
  oExtract t60 1 h5 fun t62 h6 =>
  oAlloc #[.int .i64 0, .int .i64 0, .int .i64 0, .int .u64 0, .int .i64 0, .int .i64 0, .slice none 0 0, .slice none 0 0, .slice none 0 0] h6 fun t11 h7 =>
  ((oLdN 10 t58 h6 (fun v' _ => v' = t59) → oLdN 10 t58 h7 (fun v' _ => v' = t59)) ∧ (oLdN 9 v9 h6 (fun v' _ => v' = t55) → oLdN 9 v9 h7 (fun v' _ => v' = t55)) ∧ True) ∧
  oSt 9 t11 t61 h7 fun _ h8 =>
  (True) ∧
  (qSeq (aw Try.prog O_q108 K_q108_7 Qv) Qv) .normal (ul (E_q108_2 v2 v7 v8 v9 v10 d) [(11, t11), (12, t62), (53, t60), (54, v7), (55, t55), (56, v2), (57, v10), (58, t58), (59, t59), (60, t60), (61, t61), (62, t62)]) h8) ∧
  (oAlloc #[.int .i64 0, .int .i64 0, .int .i64 0, .int .u64 0, .int .i64 0, .int .i64 0, .slice none 0 0, .slice none 0 0, .slice none 0 0] h3 fun t11_5 h9 =>
  ((oLdN 10 t58 h3 (fun v' _ => v' = t59) → oLdN 10 t58 h9 (fun v' _ => v' = t59)) ∧ (oLdN 9 v9 h3 (fun v' _ => v' = t55) → oLdN 9 v9 h9 (fun v' _ => v' = t55)) ∧ True) ∧
  C_q170 [v7, t55, t59] h9 fun t60_6 h10 =>
  (True) ∧
  oExtract t60_6 0 h10 fun t61_7 h11 =>
  oExtract t60_6 1 h11 fun t62_8 h12 =>
  oSt 9 t11_5 t61_7 h12 fun _ h13 =>
  (True) ∧
  (qSeq (aw Try.prog O_q108 K_q108_7 Qv) Qv) .normal (ul (E_q108_2 v2 v7 v8 v9 v10 d) [(11, t11_5), (12, t62_8), (53, t60_6), (54, v7), (55, t55), (56, v2), (57, v10), (58, t58), (59, t59), (60, t60_6), (61, t61_7), (62, t62_8)]) h13)
theorem ga_q108_2 (Qv : Post) (v2 v7 v8 v9 v10 : Value) (d : Nat → Value) (h : Hp) : aw Try.prog O_q108 K_q108_4 Qv (E_q108_2 v2 v7 v8 v9 v10 d) h = X_q108_2 Qv v2 v7 v8 v9 v10 d h := by kernel_rfl
theorem gb_q108_2 (K : Kont) (s0 : Self) (v2 v7 v8 v9 v10 : Value) (d : Nat → Value) (h : Hp) : X_q108_2 (Q_q108_4 K s0) v2 v7 v8 v9 v10 d h = R_q108_2 K s0 v2 v7 v8 v9 v10 d h := by kernel_rfl
theorem req_q108_2 (K : Kont) (s0 : Self) (v2 v7 v8 v9 v10 : Value) (d : Nat → Value) (h : Hp) : G_q108_2 K s0 v2 v7 v8 v9 v10 d h = R_q108_2 K s0 v2 v7 v8 v9 v10 d h := (ga_q108_2 _ v2 v7 v8 v9 v10 d h).trans (gb_q108_2 K s0 v2 v7 v8 v9 v10 d h)
def R_q108_3 (K : Kont) (s0 : Self) (v2 v7 v8 v9 v10 v11 v12 : Value) (d : Nat → Value) (h : Hp) : Prop :=
  oLdN 9 v11 h fun t63 h1 =>
  oSt 9 v9 t63 h1 fun _ h2 =>
  oNot v12 h2 fun t65 h3 =>
  oGuard t65 false (fun K => K v7 h3) h3 fun t67 h4 =>
  oGuard t65 false (fun K => oFieldAddr 2 v9 h4 K) h4 fun t69 h5 =>
  oGuard t65 false (fun K => oLd1 t69 h5 K) h5 fun t70 h6 =>
  oGuard t65 false (fun K => C_q83 [t67] h6 K) h6 fun t68 h7 =>
  ((oGuardH t65 false (oLd1 t69 h6 (fun v' _ => v' = t70)) → oGuardH t65 false (oLd1 t69 h7 (fun v' _ => v' = t70))) ∧ True) ∧
  oGuard t65 false (fun K => oBin .neq t68 t70 h7 K) h7 fun t71 h8 =>
  oPick t65 (Value.bool true) t71 h8 fun t72 h9 =>
  oGuard t72 false (fun K => K v7 h9) h9 fun t74 h10 =>
  oGuard t72 false (fun K => oFieldAddr 3 v9 h10 K) h10 fun t76 h11 =>
  oGuard t72 false (fun K => oLd1 t76 h11 K) h11 fun t77 h12 =>
  oGuard t72 false (fun K => C_q70 [t74] h12 K) h12 fun t75 h13 =>
  ((oGuardH t72 false (oLd1 t76 h12 (fun v' _ => v' = t77)) → oGuardH t72 false (oLd1 t76 h13 (fun v' _ => v' = t77))) ∧ (oGuardH t65 false (oLd1 t69 h12 (fun v' _ => v' = t70)) → oGuardH t65 false (oLd1 t69 h13 (fun v' _ => v' = t70))) ∧ True) ∧
  oGuard t72 false (fun K => oBin .neq t75 t77 h13 K) h13 fun t78 h14 =>
  oPick t72 (Value.bool true) t78 h14 fun t79 h15 =>
  oGuard t79 false (fun K => K v7 h15) h15 fun t81 h16 =>
  oGuard t79 false (fun K => oFieldAddr 4 v9 h16 K) h16 fun t83 h17 =>
  oGuard t79 false (fun K => oLd1 t83 h17 K) h17 fun t84 h18 =>
  oGuard t79 false (fun K => C_q92 [t81] h18 K) h18 fun t82 h19 =>
  ((oGuardH t79 false (oLd1 t83 h18 (fun v' _ => v' = t84)) → oGuardH t79 false (oLd1 t83 h19 (fun v' _ => v' = t84))) ∧ (oGuardH t72 false (oLd1 t76 h18 (fun v' _ => v' = t77)) → oGuardH t72 false (oLd1 t76 h19 (fun v' _ => v' = t77))) ∧ (oGuardH t65 false (oLd1 t69 h18 (fun v' _ => v' = t70)) → oGuardH t65 false (oLd1 t69 h19 (fun v' _ => v' = t70))) ∧ True) ∧
  oGuard t79 false (fun K => oBin .neq t82 t84 h19 K) h19 fun t85 h20 =>
  oPick t79 (Value.bool true) t85 h20 fun t86 h21 =>
  oGuard t86 false (fun K => K v7 h21) h21 fun t88 h22 =>
  oGuard t86 false (fun K => oFieldAddr 5 v9 h22 K) h22 fun t90 h23 =>
  oGuard t86 false (fun K => oLd1 t90 h23 K) h23 fun t91 h24 =>
  oGuard t86 false (fun K => C_q93 [t88] h24 K) h24 fun t89 h25 =>
  ((oGuardH t86 false (oLd1 t90 h24 (fun v' _ => v' = t91)) → oGuardH t86 false (oLd1 t90 h25 (fun v' _ => v' = t91))) ∧ (oGuardH t79 false (oLd1 t83 h24 (fun v' _ => v' = t84)) → oGuardH t79 false (oLd1 t83 h25 (fun v' _ => v' = t84))) ∧ (oGuardH t72 false (oLd1 t76 h24 (fun v' _ => v' = t77)) → oGuardH t72 false (oLd1 t76 h25 (fun v' _ => v' = t77))) ∧ (oGuardH t65 false (oLd1 t69 h24 (fun v' _ => v' = t70)) → oGuardH t65 false (oLd1 t69 h25 (fun v' _ => v' = t70))) ∧ True) ∧
  oGuard t86 false (fun K => oBin .neq t89 t91 h25 K) h25 fun t92 h26 =>
  oPick t86 (Value.bool true) t92 h26 fun t93 h27 =>
  oGuard t93 false (fun K => K v7 h27) h27 fun t95 h28 =>
  oGuard t93 false (fun K => oLdN 9 v9 h28 K) h28 fun t97 h29 =>
  oGuard t93 false (fun K => C_q94 [t95] h29 K) h29 fun t96 h30 =>
  ((oGuardH t93 false (oLdN 9 v9 h29 (fun v' _ => v' = t97)) → oGuardH t93 false (oLdN 9 v9 h30 (fun v' _ => v' = t97))) ∧ (oGuardH t86 false (oLd1 t90 h29 (fun v' _ => v' = t91)) → oGuardH t86 false (oLd1 t90 h30 (fun v' _ => v' = t91))) ∧ (oGuardH t79 false (oLd1 t83 h29 (fun v' _ => v' = t84)) → oGuardH t79 false (oLd1 t83 h30 (fun v' _ => v' = t84))) ∧ (oGuardH t72 false (oLd1 t76 h29 (fun v' _ => v' = t77)) → oGuardH t72 false (oLd1 t76 h30 (fun v' _ => v' = t77))) ∧ (oGuardH t65 false (oLd1 t69 h29 (fun v' _ => v' = t70)) → oGuardH t65 false (oLd1 t69 h30 (fun v' _ => v' = t70))) ∧ True) ∧
  oGuard t93 false (fun K => C_q176 [t97] h30 K) h30 fun t98 h31 =>
  ((oGuardH t86 false (oLd1 t90 h30 (fun v' _ => v' = t91)) → oGuardH t86 false (oLd1 t90 h31 (fun v' _ => v' = t91))) ∧ (oGuardH t79 false (oLd1 t83 h30 (fun v' _ => v' = t84)) → oGuardH t79 false (oLd1 t83 h31 (fun v' _ => v' = t84))) ∧ (oGuardH t72 false (oLd1 t76 h30 (fun v' _ => v' = t77)) → oGuardH t72 false (oLd1 t76 h31 (fun v' _ => v' = t77))) ∧ (oGuardH t65 false (oLd1 t69 h30 (fun v' _ => v' = t70)) → oGuardH t65 false (oLd1 t69 h31 (fun v' _ => v' = t70))) ∧ True) ∧
  oGuard t93 false (fun K => C_q115 [t96, t98] h31 K) h31 fun t99 h32 =>
  ((oGuardH t93 false (oLdN 9 v9 h31 (fun v' _ => v' = t97)) → oGuardH t93 false (oLdN 9 v9 h32 (fun v' _ => v' = t97))) ∧ (oGuardH t86 false (oLd1 t90 h31 (fun v' _ => v' = t91)) → oGuardH t86 false (oLd1 t90 h32 (fun v' _ => v' = t91))) ∧ (oGuardH t79 false (oLd1 t83 h31 (fun v' _ => v' = t84)) → oGuardH t79 false (oLd1 t83 h32 (fun v' _ => v' = t84))) ∧ (oGuardH t72 false (oLd1 t76 h31 (fun v' _ => v' = t77)) → oGuardH t72 false (oLd1 t76 h32 (fun v' _ => v' = t77))) ∧ (oGuardH t65 false (oLd1 t69 h31 (fun v' _ => v' = t70)) → oGuardH t65 false (oLd1 t69 h32 (fun v' _ => v' = t70))) ∧ True) ∧
  oGuard t93 false (fun K => oNot t99 h32 K) h32 fun t100 h33 =>
  oPick t93 (Value.bool true) t100 h33 fun t101 h34 =>
  oIf t101
  (K (Value.bool false) h34)
  (oBin .add v10 (Value.int .i64 1) h34 fun t44 h35 =>
  s0 (E_q108_1 v2 v7 v8 v9 t44 (ud [(11, v11), (12, v12), (43, v10), (44, t44), (63, t63), (64, v12), (65, t65), (66, t65), (67, t67), (68, t68), (69, t69), (70, t70), (71, t71), (72, t72), (73, t72), (74, t74), (75, t75), (76, t76), (77, t77), (78, t78), (79, t79), (80, t79), (81, t81), (82, t82), (83, t83), (84, t84), (85, t85), (86, t86), (87, t86), (88, t88), (89, t89), (90, t90), (91, t91), (92, t92), (93, t93), (94, t93), (95, t95), (96, t96), (97, t97), (98, t98), (99, t99), (100, t100), (101, t101)] d)) h35)
def X_q108_3 (Qv : Post) (v2 v7 v8 v9 v10 v11 v12 : Value) (d : Nat → Value) (h : Hp) : Prop :=
  oLdN 9 v11 h fun t63 h1 =>
  oSt 9 v9 t63 h1 fun _ h2 =>
  oNot v12 h2 fun t65 h3 =>
  oGuard t65 false (fun K => K v7 h3) h3 fun t67 h4 =>
  oGuard t65 false (fun K => oFieldAddr 2 v9 h4 K) h4 fun t69 h5 =>
  oGuard t65 false (fun K => oLd1 t69 h5 K) h5 fun t70 h6 =>
  oGuard t65 false (fun K => C_q83 [t67] h6 K) h6 fun t68 h7 =>
  ((oGuardH t65 false (oLd1 t69 h6 (fun v' _ => v' = t70)) → oGuardH t65 false (oLd1 t69 h7 (fun v' _ => v' = t70))) ∧ True) ∧
  oGuard t65 false (fun K => oBin .neq t68 t70 h7 K) h7 fun t71 h8 =>
  oPick t65 (Value.bool true) t71 h8 fun t72 h9 =>
  oGuard t72 false (fun K => K v7 h9) h9 fun t74 h10 =>
  oGuard t72 false (fun K => oFieldAddr 3 v9 h10 K) h10 fun t76 h11 =>
  oGuard t72 false (fun K => oLd1 t76 h11 K) h11 fun t77 h12 =>
  oGuard t72 false (fun K => C_q70 [t74] h12 K) h12 fun t75 h13 =>
  ((oGuardH t72 false (oLd1 t76 h12 (fun v' _ => v' = t77)) → oGuardH t72 false (oLd1 t76 h13 (fun v' _ => v' = t77))) ∧ (oGuardH t65 false (oLd1 t69 h12 (fun v' _ => v' = t70)) → oGuardH t65 false (oLd1 t69 h13 (fun v' _ => v' = t70))) ∧ True) ∧
  oGuard t72 false (fun K => oBin .neq t75 t77 h13 K) h13 fun t78 h14 =>
  oPick t72 (Value.bool true) t78 h14 fun t79 h15 =>
  oGuard t79 false (fun K => K v7 h15) h15 fun t81 h16 =>
  oGuard t79 false (fun K => oFieldAddr 4 v9 h16 K) h16 fun t83 h17 =>
  oGuard t79 false (fun K => oLd1 t83 h17 K) h17 fun t84 h18 =>
  oGuard t79 false (fun K => C_q92 [t81] h18 K) h18 fun t82 h19 =>
  ((oGuardH t79 false (oLd1 t83 h18 (fun v' _ => v' = t84)) → oGuardH t79 false (oLd1 t83 h19 (fun v' _ => v' = t84))) ∧ (oGuardH t72 false (oLd1 t76 h18 (fun v' _ => v' = t77)) → oGuardH t72 false (oLd1 t76 h19 (fun v' _ => v' = t77))) ∧ (oGuardH t65 false (oLd1 t69 h18 (fun v' _ => v' = t70)) → oGuardH t65 false (oLd1 t69 h19 (fun v' _ => v' = t70))) ∧ True) ∧
  oGuard t79 false (fun K => oBin .neq t82 t84 h19 K) h19 fun t85 h20 =>
  oPick t79 (Value.bool true) t85 h20 fun t86 h21 =>
  oGuard t86 false (fun K => K v7 h21) h21 fun t88 h22 =>
  oGuard t86 false (fun K => oFieldAddr 5 v9 h22 K) h22 fun t90 h23 =>
  oGuard t86 false (fun K => oLd1 t90 h23 K) h23 fun t91 h24 =>
  oGuard t86 false (fun K => C_q93 [t88] h24 K) h24 fun t89 h25 =>
  ((oGuardH t86 false (oLd1 t90 h24 (fun v' _ => v' = t91)) → oGuardH t86 false (oLd1 t90 h25 (fun v' _ => v' = t91))) ∧ (oGuardH t79 false (oLd1 t83 h24 (fun v' _ => v' = t84)) → oGuardH t79 false (oLd1 t83 h25 (fun v' _ => v' = t84))) ∧ (oGuardH t72 false (oLd1 t76 h24 (fun v' _ => v' = t77)) → oGuardH t72 false (oLd1 t76 h25 (fun v' _ => v' = t77))) ∧ (oGuardH t65 false (oLd1 t69 h24 (fun v' _ => v' = t70)) → oGuardH t65 false (oLd1 t69 h25 (fun v' _ => v' = t70))) ∧ True) ∧
  oGuard t86 false (fun K => oBin .neq t89 t91 h25 K) h25 fun t92 h26 =>
  oPick t86 (Value.bool true) t92 h26 fun t93 h27 =>
  oGuard t93 false (fun K => K v7 h27) h27 fun t95 h28 =>
  oGuard t93 false (fun K => oLdN 9 v9 h28 K) h28 fun t97 h29 =>
  oGuard t93 false (fun K => C_q94 [t95] h29 K) h29 fun t96 h30 =>
  ((oGuardH t93 false (oLdN 9 v9 h29 (fun v' _ => v' = t97)) → oGuardH t93 false (oLdN 9 v9 h30 (fun v' _ => v' = t97))) ∧ (oGuardH t86 false (oLd1 t90 h29 (fun v' _ => v' = t91)) → oGuardH t86 false (oLd1 t90 h30 (fun v' _ => v' = t91))) ∧ (oGuardH t79 false (oLd1 t83 h29 (fun v' _ => v' = t84)) → oGuardH t79 false (oLd1 t83 h30 (fun v' _ => v' = t84))) ∧ (oGuardH t72 false (oLd1 t76 h29 (fun v' _ => v' = t77)) → oGuardH t72 false (oLd1 t76 h30 (fun v' _ => v' = t77))) ∧ (oGuardH t65 false (oLd1 t69 h29 (fun v' _ => v' = t70)) → oGuardH t65 false (oLd1 t69 h30 (fun v' _ => v' = t70))) ∧ True) ∧
  oGuard t93 false (fun K => C_q176 [t97] h30 K) h30 fun t98 h31 =>
  ((oGuardH t86 false (oLd1 t90 h30 (fun v' _ => v' = t91)) → oGuardH t86 false (oLd1 t90 h31 (fun v' _ => v' = t91))) ∧ (oGuardH t79 false (oLd1 t83 h30 (fun v' _ => v' = t84)) → oGuardH t79 false (oLd1 t83 h31 (fun v' _ => v' = t84))) ∧ (oGuardH t72 false (oLd1 t76 h30 (fun v' _ => v' = t77)) → oGuardH t72 false (oLd1 t76 h31 (fun v' _ => v' = t77))) ∧ (oGuardH t65 false (oLd1 t69 h30 (fun v' _ => v' = t70)) → oGuardH t65 false (oLd1 t69 h31 (fun v' _ => v' = t70))) ∧ True) ∧
  oGuard t93 false (fun K => C_q115 [t96, t98] h31 K) h31 fun t99 h32 =>
  ((oGuardH t93 false (oLdN 9 v9 h31 (fun v' _ => v' = t97)) → oGuardH t93 false (oLdN 9 v9 h32 (fun v' _ => v' = t97))) ∧ (oGuardH t86 false (oLd1 t90 h31 (fun v' _ => v' = t91)) → oGuardH t86 false (oLd1 t90 h32 (fun v' _ => v' = t91))) ∧ (oGuardH t79 false (oLd1 t83 h31 (fun v' _ => v' = t84)) → oGuardH t79 false (oLd1 t83 h32 (fun v' _ => v' = t84))) ∧ (oGuardH t72 false (oLd1 t76 h31 (fun v' _ => v' = t77)) → oGuardH t72 false (oLd1 t76 h32 (fun v' _ => v' = t77))) ∧ (oGuardH t65 false (oLd1 t69 h31 (fun v' _ => v' = t70)) → oGuardH t65 false (oLd1 t69 h32 (fun v' _ => v' = t70))) ∧ True) ∧
  oGuard t93 false (fun K => oNot t99 h32 K) h32 fun t100 h33 =>
  oPick t93 (Value.bool true) t100 h33 fun t101 h34 =>
  oIf t101
  (Qv .ret (ul (E_q108_3 v2 v7 v8 v9 v10 v11 v12 d) [(6, (Value.bool false)), (63, t63), (64, v12), (65, t65), (66, t65), (67, t67), (68, t68), (69, t69), (70, t70), (71, t71), (72, t72), (73, t72), (74, t74), (75, t75), (76, t76), (77, t77), (78, t78), (79, t79), (80, t79), (81, t81), (82, t82), (83, t83), (84, t84), (85, t85), (86, t86), (87, t86), (88, t88), (89, t89), (90, t90), (91, t91), (92, t92), (93, t93), (94, t93), (95, t95), (96, t96), (97, t97), (98, t98), (99, t99), (100, t100), (101, t101)]) h34)
  (Qv .normal (ul (E_q108_3 v2 v7 v8 v9 v10 v11 v12 d) [(63, t63), (64, v12), (65, t65), (66, t65), (67, t67), (68, t68), (69, t69), (70, t70), (71, t71), (72, t72), (73, t72), (74, t74), (75, t75), (76, t76), (77, t77), (78, t78), (79, t79), (80, t79), (81, t81), (82, t82), (83, t83), (84, t84), (85, t85), (86, t86), (87, t86), (88, t88), (89, t89), (90, t90), (91, t91), (92, t92), (93, t93), (94, t93), (95, t95), (96, t96), (97, t97), (98, t98), (99, t99), (100, t100), (101, t101)]) h34)
theorem ga_q108_3 (Qv : Post) (v2 v7 v8 v9 v10 v11 v12 : Value) (d : Nat → Value) (h : Hp) : aw Try.prog O_q108 K_q108_7 Qv (E_q108_3 v2 v7 v8 v9 v10 v11 v12 d) h = X_q108_3 Qv v2 v7 v8 v9 v10 v11 v12 d h := by kernel_rfl
theorem gb_q108_3 (K : Kont) (s0 : Self) (v2 v7 v8 v9 v10 v11 v12 : Value) (d : Nat → Value) (h : Hp) : X_q108_3 (Q_q108_4 K s0) v2 v7 v8 v9 v10 v11 v12 d h = R_q108_3 K s0 v2 v7 v8 v9 v10 v11 v12 d h := by kernel_rfl
theorem req_q108_3 (K : Kont) (s0 : Self) (v2 v7 v8 v9 v10 v11 v12 : Value) (d : Nat → Value) (h : Hp) : G_q108_3 K s0 v2 v7 v8 v9 v10 v11 v12 d h = R_q108_3 K s0 v2 v7 v8 v9 v10 v11 v12 d h := (ga_q108_3 _ v2 v7 v8 v9 v10 v11 v12 d h).trans (gb_q108_3 K s0 v2 v7 v8 v9 v10 v11 v12 d h)
def O_q135 : Od := []
def G_q135 (a0 : Value) (h : Hp) (K : Kont) : Prop :=
  oBox a0 h fun t1 h1 =>
  oFieldAddr 2 t1 h1 fun t14 h2 =>
  oLd1 t14 h2 fun t15 h3 =>
  oFieldAddr 3 t1 h3 fun t16 h4 =>
  oLd1 t16 h4 fun t17 h5 =>
  C_q82 [(Value.pointer none), t15, t17] h5 fun t18 h6 =>
  oExtract t18 0 h6 fun t19 h7 =>
  oExtract t18 1 h7 fun t20 h8 =>
  oFieldAddr 2 t1 h8 fun t23 h9 =>
  oLd1 t23 h9 fun t24 h10 =>
  oFieldAddr 4 t1 h10 fun t25 h11 =>
  oLd1 t25 h11 fun t26 h12 =>
  oFieldAddr 5 t1 h12 fun t27 h13 =>
  oLd1 t27 h13 fun t28 h14 =>
  C_q57 [(Value.pointer none), t24, t26, t28] h14 fun t29 h15 =>
  oExtract t29 0 h15 fun t30 h16 =>
  oExtract t29 1 h16 fun t31 h17 =>
  oFieldAddr 6 t1 h17 fun t34 h18 =>
  oLdN 4 t34 h18 fun t35 h19 =>
  C_q58 [(Value.pointer none), t35] h19 fun t36 h20 =>
  oExtract t36 0 h20 fun t37 h21 =>
  oExtract t36 1 h21 fun t38 h22 =>
  oAlloc #[.int .i64 0, .int .u64 0, .int .i64 0, .int .i64 0, .int .u64 0, .int .i64 0] h22 fun t8 h23 =>
  oSt 6 t8 t37 h23 fun _ h24 =>
  oFieldAddr 2 t1 h24 fun t41 h25 =>
  oLd1 t41 h25 fun t42 h26 =>
  oFieldAddr 3 t1 h26 fun t43 h27 =>
  oLd1 t43 h27 fun t44 h28 =>
  oFieldAddr 4 t1 h28 fun t45 h29 =>
  oLd1 t45 h29 fun t46 h30 =>
  C_q47 [(Value.pointer none), t42, t44, t46] h30 fun t47 h31 =>
  oExtract t47 0 h31 fun t48 h32 =>
  oExtract t47 1 h32 fun t49 h33 =>
  oAlloc #[.int .i64 0, .int .u64 0, .int .i64 0, .int .i64 0, .int .u64 0, .int .i64 0] h33 fun t10 h34 =>
  oSt 6 t10 t48 h34 fun _ h35 =>
  oBin .eql t19 (Value.int .u64 0) h35 fun t51 h36 =>
  oGuard t51 true (fun K => K t20 h36) h36 fun t53 h37 =>
  oGuard t51 true (fun K => oBin .eql t53 (Value.int .i64 2) h37 K) h37 fun t54 h38 =>
  oPick t51 t54 (Value.bool false) h38 fun t55 h39 =>
  oGuard t55 true (fun K => K t30 h39) h39 fun t57 h40 =>
  oGuard t55 true (fun K => oLen 0 t57 h40 K) h40 fun t58 h41 =>
  oGuard t55 true (fun K => oBin .eql t58 (Value.int .i64 0) h41 K) h41 fun t59 h42 =>
  oPick t55 t59 (Value.bool false) h42 fun t60 h43 =>
  oGuard t60 true (fun K => K t31 h43) h43 fun t62 h44 =>
  oGuard t60 true (fun K => oNot t62 h44 K) h44 fun t63 h45 =>
  oPick t60 t63 (Value.bool false) h45 fun t64 h46 =>
  oGuard t64 true (fun K => oLdN 6 t8 h46 K) h46 fun t66 h47 =>
  oGuard t64 true (fun K => oBuild #[.int .i64 0, .int .u64 0, .int .i64 0, .int .i64 0, .int .u64 0, .int .i64 0] [] h47 K) h47 fun t67 h48 =>
  oGuard t64 true (fun K => oEq 4 false (some [(0, (.int .i64)), (1, (.int .u64)), (2, (.int .i64)), (3, (.int .i64)), (4, (.int .u64)), (5, (.int .i64))]) t66 t67 h48 K) h48 fun t68 h49 =>
  oPick t64 t68 (Value.bool false) h49 fun t69 h50 =>
  oGuard t69 true (fun K => K t38 h50) h50 fun t71 h51 =>
  oGuard t69 true (fun K => oBin .eql t71 (Value.int .i64 2) h51 K) h51 fun t72 h52 =>
  oPick t69 t72 (Value.bool false) h52 fun t73 h53 =>
  oGuard t73 true (fun K => oLdN 6 t10 h53 K) h53 fun t75 h54 =>
  oGuard t73 true (fun K => oBuild #[.int .i64 0, .int .u64 0, .int .i64 0, .int .i64 0, .int .u64 0, .int .i64 0] [] h54 K) h54 fun t76 h55 =>
  oGuard t73 true (fun K => oEq 4 false (some [(0, (.int .i64)), (1, (.int .u64)), (2, (.int .i64)), (3, (.int .i64)), (4, (.int .u64)), (5, (.int .i64))]) t75 t76 h55 K) h55 fun t77 h56 =>
  oPick t73 t77 (Value.bool false) h56 fun t78 h57 =>
  oGuard t78 true (fun K => K t49 h57) h57 fun t80 h58 =>
  oGuard t78 true (fun K => oNot t80 h58 K) h58 fun t81 h59 =>
  oPick t78 t81 (Value.bool false) h59 fun t82 h60 =>
  oGuard t82 true (fun K => K (Value.pointer none) h60) h60 fun t84 h61 =>
  oGuard t82 true (fun K => oFieldAddr 2 t1 h61 K) h61 fun t85 h62 =>
  oGuard t82 true (fun K => oLd1 t85 h62 K) h62 fun t86 h63 =>
  oGuard t82 true (fun K => C_q71 [t84, t86] h63 K) h63 fun t87 h64 =>
  oGuard t82 true (fun K => oNot t87 h64 K) h64 fun t88 h65 =>
  oPick t82 t88 (Value.bool false) h65 fun t89 h66 =>
  oGuard t89 true (fun K => K (Value.pointer none) h66) h66 fun t91 h67 =>
  oGuard t89 true (fun K => C_q94 [t91] h67 K) h67 fun t92 h68 =>
  oGuard t89 true (fun K => oLen 0 t92 h68 K) h68 fun t93 h69 =>
  oGuard t89 true (fun K => oBin .eql t93 (Value.int .i64 0) h69 K) h69 fun t94 h70 =>
  oPick t89 t94 (Value.bool false) h70 fun t95 h71 =>
  oGuard t95 true (fun K => K (Value.pointer none) h71) h71 fun t97 h72 =>
  oGuard t95 true (fun K => C_q83 [t97] h72 K) h72 fun t98 h73 =>
  oGuard t95 true (fun K => oBin .eql t98 (Value.int .i64 0) h73 K) h73 fun t99 h74 =>
  oPick t95 t99 (Value.bool false) h74 fun t100 h75 =>
  oGuard t100 true (fun K => K (Value.pointer none) h75) h75 fun t102 h76 =>
  oGuard t100 true (fun K => C_q70 [t102] h76 K) h76 fun t103 h77 =>
  oGuard t100 true (fun K => oBin .eql t103 (Value.int .u64 0) h77 K) h77 fun t104 h78 =>
  oPick t100 t104 (Value.bool false) h78 fun t105 h79 =>
  oGuard t105 true (fun K => K (Value.pointer none) h79) h79 fun t107 h80 =>
  oGuard t105 true (fun K => C_q92 [t107] h80 K) h80 fun t108 h81 =>
  oGuard t105 true (fun K => oBin .eql t108 (Value.int .i64 0) h81 K) h81 fun t109 h82 =>
  oPick t105 t109 (Value.bool false) h82 fun t110 h83 =>
  oGuard t110 true (fun K => K (Value.pointer none) h83) h83 fun t112 h84 =>
  oGuard t110 true (fun K => C_q93 [t112] h84 K) h84 fun t113 h85 =>
  oGuard t110 true (fun K => oBin .eql t113 (Value.int .i64 0) h85 K) h85 fun t114 h86 =>
  oPick t110 t114 (Value.bool false) h86 fun t115 h87 =>
  oGuard t115 true (fun K => C_q162 [] h87 K) h87 fun t117 h88 =>
  oPick t115 t117 (Value.bool false) h88 fun t118 h89 =>
  K t118 h89
def E0_q135 (a0 : Value) : List Value := [a0, undef, undef, undef, undef, undef, undef, undef, undef, undef, undef, undef, undef, undef, undef, undef, undef, undef, undef, undef, undef, undef, undef, undef, undef, undef, undef, undef, undef, undef, undef, undef, undef, undef, undef, undef, undef, undef, undef, undef, undef, undef, undef, undef, undef, undef, undef, undef, undef, undef, undef, undef, undef, undef, undef, undef, undef, undef, undef, undef, undef, undef, undef, undef, undef, undef, undef, undef, undef, undef, undef, undef, undef, undef, undef, undef, undef, undef, undef, undef, undef, undef, undef, undef, undef, undef, undef, undef, undef, undef, undef, undef, undef, undef, undef, undef, undef, undef, undef, undef, undef, undef, undef, undef, undef, undef, undef, undef, undef, undef, undef, undef, undef, undef, undef, undef, undef, undef, undef]
def X_q135 (Qv : Post) (a0 : Value) (h : Hp) : Prop :=
  oBox a0 h fun t1 h1 =>
  oFieldAddr 2 t1 h1 fun t14 h2 =>
  oLd1 t14 h2 fun t15 h3 =>
  oFieldAddr 3 t1 h3 fun t16 h4 =>
  oLd1 t16 h4 fun t17 h5 =>
  C_q82 [(Value.pointer none), t15, t17] h5 fun t18 h6 =>
  oExtract t18 0 h6 fun t19 h7 =>
  oExtract t18 1 h7 fun t20 h8 =>
  oFieldAddr 2 t1 h8 fun t23 h9 =>
  oLd1 t23 h9 fun t24 h10 =>
  oFieldAddr 4 t1 h10 fun t25 h11 =>
  oLd1 t25 h11 fun t26 h12 =>
  oFieldAddr 5 t1 h12 fun t27 h13 =>
  oLd1 t27 h13 fun t28 h14 =>
  C_q57 [(Value.pointer none), t24, t26, t28] h14 fun t29 h15 =>
  oExtract t29 0 h15 fun t30 h16 =>
  oExtract t29 1 h16 fun t31 h17 =>
  oFieldAddr 6 t1 h17 fun t34 h18 =>
  oLdN 4 t34 h18 fun t35 h19 =>
  C_q58 [(Value.pointer none), t35] h19 fun t36 h20 =>
  oExtract t36 0 h20 fun t37 h21 =>
  oExtract t36 1 h21 fun t38 h22 =>
  oAlloc #[.int .i64 0, .int .u64 0, .int .i64 0, .int .i64 0, .int .u64 0, .int .i64 0] h22 fun t8 h23 =>
  oSt 6 t8 t37 h23 fun _ h24 =>
  oFieldAddr 2 t1 h24 fun t41 h25 =>
  oLd1 t41 h25 fun t42 h26 =>
  oFieldAddr 3 t1 h26 fun t43 h27 =>
  oLd1 t43 h27 fun t44 h28 =>
  oFieldAddr 4 t1 h28 fun t45 h29 =>
  oLd1 t45 h29 fun t46 h30 =>
  C_q47 [(Value.pointer none), t42, t44, t46] h30 fun t47 h31 =>
  oExtract t47 0 h31 fun t48 h32 =>
  oExtract t47 1 h32 fun t49 h33 =>
  oAlloc #[.int .i64 0, .int .u64 0, .int .i64 0, .int .i64 0, .int .u64 0, .int .i64 0] h33 fun t10 h34 =>
  oSt 6 t10 t48 h34 fun _ h35 =>
  oBin .eql t19 (Value.int .u64 0) h35 fun t51 h36 =>
  oGuard t51 true (fun K => K t20 h36) h36 fun t53 h37 =>
  oGuard t51 true (fun K => oBin .eql t53 (Value.int .i64 2) h37 K) h37 fun t54 h38 =>
  oPick t51 t54 (Value.bool false) h38 fun t55 h39 =>
  oGuard t55 true (fun K => K t30 h39) h39 fun t57 h40 =>
  oGuard t55 true (fun K => oLen 0 t57 h40 K) h40 fun t58 h41 =>
  oGuard t55 true (fun K => oBin .eql t58 (Value.int .i64 0) h41 K) h41 fun t59 h42 =>
  oPick t55 t59 (Value.bool false) h42 fun t60 h43 =>
  oGuard t60 true (fun K => K t31 h43) h43 fun t62 h44 =>
  oGuard t60 true (fun K => oNot t62 h44 K) h44 fun t63 h45 =>
  oPick t60 t63 (Value.bool false) h45 fun t64 h46 =>
  oGuard t64 true (fun K => oLdN 6 t8 h46 K) h46 fun t66 h47 =>
  oGuard t64 true (fun K => oBuild #[.int .i64 0, .int .u64 0, .int .i64 0, .int .i64 0, .int .u64 0, .int .i64 0] [] h47 K) h47 fun t67 h48 =>
  oGuard t64 true (fun K => oEq 4 false (some [(0, (.int .i64)), (1, (.int .u64)), (2, (.int .i64)), (3, (.int .i64)), (4, (.int .u64)), (5, (.int .i64))]) t66 t67 h48 K) h48 fun t68 h49 =>
  oPick t64 t68 (Value.bool false) h49 fun t69 h50 =>
  oGuard t69 true (fun K => K t38 h50) h50 fun t71 h51 =>
  oGuard t69 true (fun K => oBin .eql t71 (Value.int .i64 2) h51 K) h51 fun t72 h52 =>
  oPick t69 t72 (Value.bool false) h52 fun t73 h53 =>
  oGuard t73 true (fun K => oLdN 6 t10 h53 K) h53 fun t75 h54 =>
  oGuard t73 true (fun K => oBuild #[.int .i64 0, .int .u64 0, .int .i64 0, .int .i64 0, .int .u64 0, .int .i64 0] [] h54 K) h54 fun t76 h55 =>
  oGuard t73 true (fun K => oEq 4 false (some [(0, (.int .i64)), (1, (.int .u64)), (2, (.int .i64)), (3, (.int .i64)), (4, (.int .u64)), (5, (.int .i64))]) t75 t76 h55 K) h55 fun t77 h56 =>
  oPick t73 t77 (Value.bool false) h56 fun t78 h57 =>
  oGuard t78 true (fun K => K t49 h57) h57 fun t80 h58 =>
  oGuard t78 true (fun K => oNot t80 h58 K) h58 fun t81 h59 =>
  oPick t78 t81 (Value.bool false) h59 fun t82 h60 =>
  oGuard t82 true (fun K => K (Value.pointer none) h60) h60 fun t84 h61 =>
  oGuard t82 true (fun K => oFieldAddr 2 t1 h61 K) h61 fun t85 h62 =>
  oGuard t82 true (fun K => oLd1 t85 h62 K) h62 fun t86 h63 =>
  oGuard t82 true (fun K => C_q71 [t84, t86] h63 K) h63 fun t87 h64 =>
  oGuard t82 true (fun K => oNot t87 h64 K) h64 fun t88 h65 =>
  oPick t82 t88 (Value.bool false) h65 fun t89 h66 =>
  oGuard t89 true (fun K => K (Value.pointer none) h66) h66 fun t91 h67 =>
  oGuard t89 true (fun K => C_q94 [t91] h67 K) h67 fun t92 h68 =>
  oGuard t89 true (fun K => oLen 0 t92 h68 K) h68 fun t93 h69 =>
  oGuard t89 true (fun K => oBin .eql t93 (Value.int .i64 0) h69 K) h69 fun t94 h70 =>
  oPick t89 t94 (Value.bool false) h70 fun t95 h71 =>
  oGuard t95 true (fun K => K (Value.pointer none) h71) h71 fun t97 h72 =>
  oGuard t95 true (fun K => C_q83 [t97] h72 K) h72 fun t98 h73 =>
  oGuard t95 true (fun K => oBin .eql t98 (Value.int .i64 0) h73 K) h73 fun t99 h74 =>
  oPick t95 t99 (Value.bool false) h74 fun t100 h75 =>
  oGuard t100 true (fun K => K (Value.pointer none) h75) h75 fun t102 h76 =>
  oGuard t100 true (fun K => C_q70 [t102] h76 K) h76 fun t103 h77 =>
  oGuard t100 true (fun K => oBin .eql t103 (Value.int .u64 0) h77 K) h77 fun t104 h78 =>
  oPick t100 t104 (Value.bool false) h78 fun t105 h79 =>
  oGuard t105 true (fun K => K (Value.pointer none) h79) h79 fun t107 h80 =>
  oGuard t105 true (fun K => C_q92 [t107] h80 K) h80 fun t108 h81 =>
  oGuard t105 true (fun K => oBin .eql t108 (Value.int .i64 0) h81 K) h81 fun t109 h82 =>
  oPick t105 t109 (Value.bool false) h82 fun t110 h83 =>
  oGuard t110 true (fun K => K (Value.pointer none) h83) h83 fun t112 h84 =>
  oGuard t110 true (fun K => C_q93 [t112] h84 K) h84 fun t113 h85 =>
  oGuard t110 true (fun K => oBin .eql t113 (Value.int .i64 0) h85 K) h85 fun t114 h86 =>
  oPick t110 t114 (Value.bool false) h86 fun t115 h87 =>
  oGuard t115 true (fun K => C_q162 [] h87 K) h87 fun t117 h88 =>
  oPick t115 t117 (Value.bool false) h88 fun t118 h89 =>
  Qv .ret (ul (E0_q135 a0) [(1, t1), (2, t118), (3, (Value.pointer none)), (4, t19), (5, t20), (6, t30), (7, t31), (8, t8), (9, t38), (10, t10), (11, t49), (12, t18), (13, (Value.pointer none)), (14, t14), (15, t15), (16, t16), (17, t17), (18, t18), (19, t19), (20, t20), (21, t29), (22, (Value.pointer none)), (23, t23), (24, t24), (25, t25), (26, t26), (27, t27), (28, t28), (29, t29), (30, t30), (31, t31), (32, t36), (33, (Value.pointer none)), (34, t34), (35, t35), (36, t36), (37, t37), (38, t38), (39, t47), (40, (Value.pointer none)), (41, t41), (42, t42), (43, t43), (44, t44), (45, t45), (46, t46), (47, t47), (48, t48), (49, t49), (50, t19), (51, t51), (52, t51), (53, t53), (54, t54), (55, t55), (56, t55), (57, t57), (58, t58), (59, t59), (60, t60), (61, t60), (62, t62), (63, t63), (64, t64), (65, t64), (66, t66), (67, t67), (68, t68), (69, t69), (70, t69), (71, t71), (72, t72), (73, t73), (74, t73), (75, t75), (76, t76), (77, t77), (78, t78), (79, t78), (80, t80), (81, t81), (82, t82), (83, t82), (84, t84), (85, t85), (86, t86), (87, t87), (88, t88), (89, t89), (90, t89), (91, t91), (92, t92), (93, t93), (94, t94), (95, t95), (96, t95), (97, t97), (98, t98), (99, t99), (100, t100), (101, t100), (102, t102), (103, t103), (104, t104), (105, t105), (106, t105), (107, t107), (108, t108), (109, t109), (110, t110), (111, t110), (112, t112), (113, t113), (114, t114), (115, t115), (116, t115), (117, t117), (118, t118)]) h89
theorem ga_q135 (Qv : Post) (a0 : Value) (h : Hp) : aw Try.prog O_q135 (bodyC Try.f9) Qv (E0_q135 a0) h = X_q135 Qv a0 h := by kernel_rfl
theorem gb_q135 (a0 : Value) (h : Hp) (K : Kont) : X_q135 (qTop Try.prog Try.f9 K) a0 h = G_q135 a0 h K := by kernel_rfl
theorem gc_q135 (a0 : Value) (h : Hp) (K : Kont) : abody Try.prog O_q135 Try.f9 (bodyC Try.f9) [a0] h K = aw Try.prog O_q135 (bodyC Try.f9) (qTop Try.prog Try.f9 K) (E0_q135 a0) h := by kernel_rfl
theorem eq_q135 (a0 : Value) (h : Hp) (K : Kont) : abody Try.prog O_q135 Try.f9 (bodyC Try.f9) [a0] h K = G_q135 a0 h K := (gc_q135 a0 h K).trans ((ga_q135 _ a0 h).trans (gb_q135 a0 h K))
theorem ok_q135 {a0 : Value} {h : Hp} {K : Kont} (hk : G_q135 a0 h K) : C_q135 [a0] h K := ac_of_body prog_mixed (fn := Try.f9) Try.func9 (c := bodyC Try.f9) (by kernel_rfl) ((eq_q135 a0 h K).mpr hk)
end Go.Proofs.Ytdolepapmpcpiaa

namespace Go.Proofs.Ytdolepapmpcpiaa
open Go
set_option linter.unusedSectionVars false
variable [Base]
set_option linter.unusedVariables false
set_option maxRecDepth 100000
end Go.Proofs.Ytdolepapmpcpiaa

namespace Go.Proofs.Ytdolepapmpcpiaa
open Go
set_option linter.unusedSectionVars false
variable [Base]
set_option linter.unusedVariables false
set_option maxRecDepth 100000
def O_q183 : Od := []
noncomputable def K_q183_0 : Code := (cI (cB (cA (cB (bodyC Try.f14)))))
noncomputable def K_q183_1 : Code := (cB (cB (bodyC Try.f14)))
def Q_q183_0 (K : Kont) : Post := qSeq (aw Try.prog O_q183 K_q183_1 (qTop Try.prog Try.f14 K)) (qTop Try.prog Try.f14 K)
def Q_q183_1 (K : Kont) : Post := qBlk 0 (Q_q183_0 K)
def E_q183_1 (v0 v1 v4 v6 : Value) (d : Nat → Value) : List Value := [v0, v1, d 2, d 3, v4, d 5, v6, d 7, d 8, d 9, d 10, d 11, d 12, d 13, d 14, d 15, d 16, d 17, d 18, d 19, d 20, d 21, d 22, d 23, d 24]
def G_q183_1 (K : Kont) (v0 v1 v4 v6 : Value) (d : Nat → Value) (h : Hp) : Prop := aw Try.prog O_q183 K_q183_0 (Q_q183_1 K) (E_q183_1 v0 v1 v4 v6 d) h
def Q_q183_2 (K : Kont) (s0 : Self) : Post := qSeq s0 (Q_q183_1 K)
noncomputable def K_q183_2 : Code := (cI (cI (cB (cA (cB (bodyC Try.f14))))))
noncomputable def K_q183_3 : Code := (cB (cB (cI (cI (cB (cA (cB (bodyC Try.f14))))))))
noncomputable def K_q183_4 : Code := (cB (cI (cI (cB (cA (cB (bodyC Try.f14)))))))
def G_q183 (a0 a1 : Value) (h : Hp) (K : Kont) : Prop :=
  oAlloc #[.int .i64 0, .int .u64 0, .int .i64 0, .int .i64 0, .int .u64 0, .int .i64 0] h fun t4 h1 =>
  G_q183_1 K a0 a1 t4 (Value.int .i64 0) (ud [(5, (Value.bool false))] dz) h1
def E0_q183 (a0 a1 : Value) : List Value := [a0, a1, undef, undef, undef, undef, undef, undef, undef, undef, undef, undef, undef, undef, undef, undef, undef, undef, undef, undef, undef, undef, undef, undef, undef]
def X_q183 (Qv : Post) (a0 a1 : Value) (h : Hp) : Prop :=
  oAlloc #[.int .i64 0, .int .u64 0, .int .i64 0, .int .i64 0, .int .u64 0, .int .i64 0] h fun t4 h1 =>
  aw Try.prog O_q183 K_q183_0 (qBlk 0 (qSeq (aw Try.prog O_q183 K_q183_1 Qv) Qv)) (ul (E0_q183 a0 a1) [(4, t4), (5, (Value.bool false)), (6, (Value.int .i64 0))]) h1
theorem ga_q183 (Qv : Post) (a0 a1 : Value) (h : Hp) : aw Try.prog O_q183 (bodyC Try.f14) Qv (E0_q183 a0 a1) h = X_q183 Qv a0 a1 h := by kernel_rfl
theorem gb_q183 (a0 a1 : Value) (h : Hp) (K : Kont) : X_q183 (qTop Try.prog Try.f14 K) a0 a1 h = G_q183 a0 a1 h K := by kernel_rfl
theorem gc_q183 (a0 a1 : Value) (h : Hp) (K : Kont) : abody Try.prog O_q183 Try.f14 (bodyC Try.f14) [a0, a1] h K = aw Try.prog O_q183 (bodyC Try.f14) (qTop Try.prog Try.f14 K) (E0_q183 a0 a1) h := by kernel_rfl
theorem eq_q183 (a0 a1 : Value) (h : Hp) (K : Kont) : abody Try.prog O_q183 Try.f14 (bodyC Try.f14) [a0, a1] h K = G_q183 a0 a1 h K := (gc_q183 a0 a1 h K).trans ((ga_q183 _ a0 a1 h).trans (gb_q183 a0 a1 h K))
theorem ok_q183 {a0 a1 : Value} {h : Hp} {K : Kont} (hk : G_q183 a0 a1 h K) : C_q183 [a0, a1] h K := ac_of_body prog_mixed (fn := Try.f14) Try.func14 (c := bodyC Try.f14) (by kernel_rfl) ((eq_q183 a0 a1 h K).mpr hk)
def B_q183_1 (K : Kont) (s0 : Self) (v0 v1 v4 v6 : Value) (d : Nat → Value) (h : Hp) : Prop :=
  oLen 0 v0 h fun t9 h1 =>
  oBin .lss v6 t9 h1 fun t10 h2 =>
  oIf t10
  (oIdxS 6 v0 v6 h2 fun t15 h3 =>
  oFieldAddr 0 t15 h3 fun t16 h4 =>
  oLd1 t16 h4 fun t17 h5 =>
  oBin .eql t17 v1 h5 fun t19 h6 =>
  oIf t19
  (oIdxS 6 v0 v6 h6 fun t22 h7 =>
  oLdN 6 t22 h7 fun t23 h8 =>
  oSt 6 v4 t23 h8 fun _ h9 =>
  oLdN 6 v4 h9 fun r1 _ =>
  K (.tuple #[r1, (Value.bool true)]) h9)
  (oBin .add v6 (Value.int .i64 1) h6 fun t12 h10 =>
  s0 (E_q183_1 v0 v1 v4 t12 (ud [(7, v6), (8, v0), (9, t9), (10, t10), (11, v6), (12, t12), (13, v0), (14, v6), (15, t15), (16, t16), (17, t17), (18, v1), (19, t19)] d)) h10))
  (oBuild #[.int .i64 0, .int .u64 0, .int .i64 0, .int .i64 0, .int .u64 0, .int .i64 0] [] h2 fun t24 h11 =>
  oSt 6 v4 t24 h11 fun _ h12 =>
  oLdN 6 v4 h12 fun r2 _ =>
  K (.tuple #[r2, (Value.bool false)]) h12)
def X_q183_1 (Qv : Post) (v0 v1 v4 v6 : Value) (d : Nat → Value) (h : Hp) : Prop :=
  oLen 0 v0 h fun t9 h1 =>
  oBin .lss v6 t9 h1 fun t10 h2 =>
  oIf t10
  (oIdxS 6 v0 v6 h2 fun t15 h3 =>
  oFieldAddr 0 t15 h3 fun t16 h4 =>
  oLd1 t16 h4 fun t17 h5 =>
  oBin .eql t17 v1 h5 fun t19 h6 =>
  oIf t19
  (oIdxS 6 v0 v6 h6 fun t22 h7 =>
  oLdN 6 t22 h7 fun t23 h8 =>
  oSt 6 v4 t23 h8 fun _ h9 =>
  (qBlk 1 (qSeq (aw Try.prog O_q183 K_q183_3 Qv) Qv)) .ret (ul (E_q183_1 v0 v1 v4 v6 d) [(5, (Value.bool true)), (7, v6), (8, v0), (9, t9), (10, t10), (13, v0), (14, v6), (15, t15), (16, t16), (17, t17), (18, v1), (19, t19), (20, v0), (21, v6), (22, t22), (23, t23)]) h9)
  (oBin .add v6 (Value.int .i64 1) h6 fun t12 h10 =>
  Qv .normal (ul (E_q183_1 v0 v1 v4 v6 d) [(6, t12), (7, v6), (8, v0), (9, t9), (10, t10), (11, v6), (12, t12), (13, v0), (14, v6), (15, t15), (16, t16), (17, t17), (18, v1), (19, t19)]) h10))
  ((qSeq (aw Try.prog O_q183 K_q183_4 Qv) Qv) (.exit 0) (ul (E_q183_1 v0 v1 v4 v6 d) [(7, v6), (8, v0), (9, t9), (10, t10)]) h2)
theorem ga_q183_1 (Qv : Post) (v0 v1 v4 v6 : Value) (d : Nat → Value) (h : Hp) : aw Try.prog O_q183 K_q183_2 Qv (E_q183_1 v0 v1 v4 v6 d) h = X_q183_1 Qv v0 v1 v4 v6 d h := by kernel_rfl
theorem gb_q183_1 (K : Kont) (s0 : Self) (v0 v1 v4 v6 : Value) (d : Nat → Value) (h : Hp) : X_q183_1 (Q_q183_2 K s0) v0 v1 v4 v6 d h = B_q183_1 K s0 v0 v1 v4 v6 d h := by kernel_rfl
theorem beq_q183_1 (K : Kont) (s0 : Self) (v0 v1 v4 v6 : Value) (d : Nat → Value) (h : Hp) : aw Try.prog O_q183 K_q183_2 (Q_q183_2 K s0) (E_q183_1 v0 v1 v4 v6 d) h = B_q183_1 K s0 v0 v1 v4 v6 d h := (ga_q183_1 _ v0 v1 v4 v6 d h).trans (gb_q183_1 K s0 v0 v1 v4 v6 d h)
theorem rule_q183_1 {K : Kont} {v0 v1 v4 : Value} (Inv : Value → Hp → Prop) (μ : Value → Hp → Nat)
    (step : ∀ (s0 : Self) (v6 : Value) (d : Nat → Value) (h : Hp), Inv v6 h → (∀ (v6' : Value) (d' : Nat → Value) (h' : Hp), Inv v6' h' → μ v6' h' < μ v6 h → s0 (E_q183_1 v0 v1 v4 v6' d') h') → B_q183_1 K s0 v0 v1 v4 v6 d h) (v6 : Value) (d : Nat → Value) (h : Hp) (hi : Inv v6 h) : G_q183_1 K v0 v1 v4 v6 d h :=
  oLoop_rule (α := Value × (Nat → Value)) (fun x => E_q183_1 v0 v1 v4 x.1 x.2) (fun x h => Inv x.1 h) (fun x h => μ x.1 h)
    (fun self x h hx hs => (beq_q183_1 K self v0 v1 v4 x.1 x.2 h).mpr (step self x.1 x.2 h hx (fun v6' d' h' h1 h2 => hs ⟨v6', d'⟩ h' h1 h2))) ⟨v6, d⟩ h hi
def O_q115 : Od := [(6, (.one 0 true (.one 1 true (.one 2 true (.one 3 true (.one 4 true (.one 5 true (.one 6 true (.one 7 true (.one 8 true .nil))))))))))]
noncomputable def K_q115_0 : Code := (cI (cB (cA (cB (cB (bodyC Try.f17))))))
noncomputable def K_q115_1 : Code := (cB (cB (cB (bodyC Try.f17))))
def Q_q115_0 (K : Kont) : Post := qSeq (aw Try.prog O_q115 K_q115_1 (qTop Try.prog Try.f17 K)) (qTop Try.prog Try.f17 K)
def Q_q115_1 (K : Kont) : Post := qBlk 0 (Q_q115_0 K)
def E_q115_1 (v0 v1 v5 : Value) (d : Nat → Value) : List Value := [v0, v1, d 2, d 3, d 4, v5, d 6, d 7, d 8, d 9, d 10, d 11, d 12, d 13, d 14, d 15, d 16, d 17, d 18, d 19, d 20, d 21, d 22, d 23, d 24, d 25]
def G_q115_1 (K : Kont) (v0 v1 v5 : Value) (d : Nat → Value) (h : Hp) : Prop := aw Try.prog O_q115 K_q115_0 (Q_q115_1 K) (E_q115_1 v0 v1 v5 d) h
noncomputable def K_q115_2 : Code := (cB (cB (bodyC Try.f17)))
def Q_q115_2 (K : Kont) (s0 : Self) : Post := qSeq s0 (Q_q115_1 K)
noncomputable def K_q115_3 : Code := (cI (cI (cB (cA (cB (cB (bodyC Try.f17)))))))
noncomputable def K_q115_4 : Code := (cB (cB (cI (cI (cB (cA (cB (cB (bodyC Try.f17)))))))))
noncomputable def K_q115_5 : Code := (cB (cI (cI (cB (cA (cB (cB (bodyC Try.f17))))))))
def G_q115 (a0 a1 : Value) (h : Hp) (K : Kont) : Prop :=
  oLen 0 a0 h fun t7 h1 =>
  oLen 0 a1 h1 fun t9 h2 =>
  oBin .neq t7 t9 h2 fun t10 h3 =>
  oIf t10
  (K (Value.bool false) h3)
  (G_q115_1 K a0 a1 (Value.int .i64 0) (ud [(4, (Value.bool false)), (6, a0), (7, t7), (8, a1), (9, t9), (10, t10)] dz) h3)
def E0_q115 (a0 a1 : Value) : List Value := [a0, a1, undef, undef, undef, undef, undef, undef, undef, undef, undef, undef, undef, undef, undef, undef, undef, undef, undef, undef, undef, undef, undef, undef, undef, undef]
def X_q115 (Qv : Post) (a0 a1 : Value) (h : Hp) : Prop :=
  oLen 0 a0 h fun t7 h1 =>
  oLen 0 a1 h1 fun t9 h2 =>
  oBin .neq t7 t9 h2 fun t10 h3 =>
  oIf t10
  ((qSeq (aw Try.prog O_q115 K_q115_2 Qv) Qv) .ret (ul (E0_q115 a0 a1) [(4, (Value.bool false)), (6, a0), (7, t7), (8, a1), (9, t9), (10, t10)]) h3)
  (aw Try.prog O_q115 K_q115_0 (qBlk 0 (qSeq (aw Try.prog O_q115 K_q115_1 Qv) Qv)) (ul (E0_q115 a0 a1) [(4, (Value.bool false)), (5, (Value.int .i64 0)), (6, a0), (7, t7), (8, a1), (9, t9), (10, t10)]) h3)
theorem ga_q115 (Qv : Post) (a0 a1 : Value) (h : Hp) : aw Try.prog O_q115 (bodyC Try.f17) Qv (E0_q115 a0 a1) h = X_q115 Qv a0 a1 h := by kernel_rfl
theorem gb_q115 (a0 a1 : Value) (h : Hp) (K : Kont) : X_q115 (qTop Try.prog Try.f17 K) a0 a1 h = G_q115 a0 a1 h K := by kernel_rfl
theorem gc_q115 (a0 a1 : Value) (h : Hp) (K : Kont) : abody Try.prog O_q115 Try.f17 (bodyC Try.f17) [a0, a1] h K = aw Try.prog O_q115 (bodyC Try.f17) (qTop Try.prog Try.f17 K) (E0_q115 a0 a1) h := by kernel_rfl
theorem eq_q115 (a0 a1 : Value) (h : Hp) (K : Kont) : abody Try.prog O_q115 Try.f17 (bodyC Try.f17) [a0, a1] h K = G_q115 a0 a1 h K := (gc_q115 a0 a1 h K).trans ((ga_q115 _ a0 a1 h).trans (gb_q115 a0 a1 h K))
theorem ok_q115 {a0 a1 : Value} {h : Hp} {K : Kont} (hk : G_q115 a0 a1 h K) : C_q115 [a0, a1] h K := ac_of_body prog_mixed (fn := Try.f17) Try.func17 (c := bodyC Try.f17) (by kernel_rfl) ((eq_q115 a0 a1 h K).mpr hk)
def B_q115_1 (K : Kont) (s0 : Self) (v0 v1 v5 : Value) (d : Nat → Value) (h : Hp) : Prop :=
  oLen 0 v0 h fun t13 h1 =>
  oBin .lss v5 t13 h1 fun t14 h2 =>
  oIf t14
  (oIdxS 6 v0 v5 h2 fun t19 h3 =>
  oLdN 6 t19 h3 fun t20 h4 =>
  oIdxS 6 v1 v5 h4 fun t23 h5 =>
  oLdN 6 t23 h5 fun t24 h6 =>
  oEq 4 true (some [(0, (.int .i64)), (1, (.int .u64)), (2, (.int .i64)), (3, (.int .i64)), (4, (.int .u64)), (5, (.int .i64))]) t20 t24 h6 fun t25 h7 =>
  oIf t25
  (K (Value.bool false) h7)
  (oBin .add v5 (Value.int .i64 1) h7 fun t16 h8 =>
  s0 (E_q115_1 v0 v1 t16 (ud [(11, v5), (12, v0), (13, t13), (14, t14), (15, v5), (16, t16), (17, v0), (18, v5), (19, t19), (20, t20), (21, v1), (22, v5), (23, t23), (24, t24), (25, t25)] d)) h8))
  (K (Value.bool true) h2)
def X_q115_1 (Qv : Post) (v0 v1 v5 : Value) (d : Nat → Value) (h : Hp) : Prop :=
  oLen 0 v0 h fun t13 h1 =>
  oBin .lss v5 t13 h1 fun t14 h2 =>
  oIf t14
  (oIdxS 6 v0 v5 h2 fun t19 h3 =>
  oLdN 6 t19 h3 fun t20 h4 =>
  oIdxS 6 v1 v5 h4 fun t23 h5 =>
  oLdN 6 t23 h5 fun t24 h6 =>
  oEq 4 true (some [(0, (.int .i64)), (1, (.int .u64)), (2, (.int .i64)), (3, (.int .i64)), (4, (.int .u64)), (5, (.int .i64))]) t20 t24 h6 fun t25 h7 =>
  oIf t25
  ((qBlk 1 (qSeq (aw Try.prog O_q115 K_q115_4 Qv) Qv)) .ret (ul (E_q115_1 v0 v1 v5 d) [(4, (Value.bool false)), (11, v5), (12, v0), (13, t13), (14, t14), (17, v0), (18, v5), (19, t19), (20, t20), (21, v1), (22, v5), (23, t23), (24, t24), (25, t25)]) h7)
  (oBin .add v5 (Value.int .i64 1) h7 fun t16 h8 =>
  Qv .normal (ul (E_q115_1 v0 v1 v5 d) [(5, t16), (11, v5), (12, v0), (13, t13), (14, t14), (15, v5), (16, t16), (17, v0), (18, v5), (19, t19), (20, t20), (21, v1), (22, v5), (23, t23), (24, t24), (25, t25)]) h8))
  ((qSeq (aw Try.prog O_q115 K_q115_5 Qv) Qv) (.exit 0) (ul (E_q115_1 v0 v1 v5 d) [(11, v5), (12, v0), (13, t13), (14, t14)]) h2)
theorem ga_q115_1 (Qv : Post) (v0 v1 v5 : Value) (d : Nat → Value) (h : Hp) : aw Try.prog O_q115 K_q115_3 Qv (E_q115_1 v0 v1 v5 d) h = X_q115_1 Qv v0 v1 v5 d h := by kernel_rfl
theorem gb_q115_1 (K : Kont) (s0 : Self) (v0 v1 v5 : Value) (d : Nat → Value) (h : Hp) : X_q115_1 (Q_q115_2 K s0) v0 v1 v5 d h = B_q115_1 K s0 v0 v1 v5 d h := by kernel_rfl
theorem beq_q115_1 (K : Kont) (s0 : Self) (v0 v1 v5 : Value) (d : Nat → Value) (h : Hp) : aw Try.prog O_q115 K_q115_3 (Q_q115_2 K s0) (E_q115_1 v0 v1 v5 d) h = B_q115_1 K s0 v0 v1 v5 d h := (ga_q115_1 _ v0 v1 v5 d h).trans (gb_q115_1 K s0 v0 v1 v5 d h)
theorem rule_q115_1 {K : Kont} {v0 v1 : Value} (Inv : Value → Hp → Prop) (μ : Value → Hp → Nat)
    (step : ∀ (s0 : Self) (v5 : Value) (d : Nat → Value) (h : Hp), Inv v5 h → (∀ (v5' : Value) (d' : Nat → Value) (h' : Hp), Inv v5' h' → μ v5' h' < μ v5 h → s0 (E_q115_1 v0 v1 v5' d') h') → B_q115_1 K s0 v0 v1 v5 d h) (v5 : Value) (d : Nat → Value) (h : Hp) (hi : Inv v5 h) : G_q115_1 K v0 v1 v5 d h :=
  oLoop_rule (α := Value × (Nat → Value)) (fun x => E_q115_1 v0 v1 x.1 x.2) (fun x h => Inv x.1 h) (fun x h => μ x.1 h)
    (fun self x h hx hs => (beq_q115_1 K self v0 v1 x.1 x.2 h).mpr (step self x.1 x.2 h hx (fun v5' d' h' h1 h2 => hs ⟨v5', d'⟩ h' h1 h2))) ⟨v5, d⟩ h hi
end Go.Proofs.Ytdolepapmpcpiaa

namespace Go.Proofs.Ytdolepapmpcpiaa
open Go
set_option linter.unusedSectionVars false
variable [Base]
set_option linter.unusedVariables false
set_option maxRecDepth 100000
def O_q131 : Od := []
noncomputable def K_q131_0 : Code := (cI (cB (cA (cB (cB (bodyC Try.f23))))))
noncomputable def K_q131_1 : Code := (cB (cB (cB (bodyC Try.f23))))
def Q_q131_0 (K : Kont) : Post := qSeq (aw Try.prog O_q131 K_q131_1 (qTop Try.prog Try.f23 K)) (qTop Try.prog Try.f23 K)
def Q_q131_1 (K : Kont) : Post := qBlk 0 (Q_q131_0 K)
def E_q131_1 (v3 v11 v12 v13 : Value) (d : Nat → Value) : List Value := [d 0, d 1, d 2, v3, d 4, d 5, d 6, d 7, d 8, d 9, d 10, v11, v12, v13, d 14, d 15, d 16, d 17, d 18, d 19, d 20, d 21, d 22, d 23, d 24, d 25, d 26, d 27, d 28, d 29, d 30, d 31, d 32, d 33, d 34, d 35, d 36, d 37, d 38, d 39, d 40, d 41, d 42, d 43, d 44, d 45, d 46, d 47, d 48, d 49, d 50, d 51, d 52, d 53]
def G_q131_1 (K : Kont) (v3 v11 v12 v13 : Value) (d : Nat → Value) (h : Hp) : Prop := aw Try.prog O_q131 K_q131_0 (Q_q131_1 K) (E_q131_1 v3 v11 v12 v13 d) h
def Q_q131_2 (K : Kont) (s0 : Self) : Post := qSeq s0 (Q_q131_1 K)
noncomputable def K_q131_2 : Code := (cI (cI (cB (cA (cB (cB (bodyC Try.f23)))))))
noncomputable def K_q131_3 : Code := (cI (cB (cB (cI (cA (cB (cB (cI (cI (cB (cA (cB (cB (bodyC Try.f23))))))))))))))
noncomputable def K_q131_4 : Code := (cB (cB (cB (cI (cI (cB (cA (cB (cB (bodyC Try.f23))))))))))
def Q_q131_3 (K : Kont) (s0 : Self) : Post := qSeq (aw Try.prog O_q131 K_q131_4 (Q_q131_2 K s0)) (Q_q131_2 K s0)
def Q_q131_4 (K : Kont) (s0 : Self) : Post := qBlk 1 (Q_q131_3 K s0)
def Q_q131_5 (K : Kont) (s0 : Self) : Post := qBlk 2 (Q_q131_4 K s0)
def E_q131_2 (v3 v11 v12 v13 v17 v18 v19 : Value) (d : Nat → Value) : List Value := [d 0, d 1, d 2, v3, d 4, d 5, d 6, d 7, d 8, d 9, d 10, v11, v12, v13, d 14, d 15, d 16, v17, v18, v19, d 20, d 21, d 22, d 23, d 24, d 25, d 26, d 27, d 28, d 29, d 30, d 31, d 32, d 33, d 34, d 35, d 36, d 37, d 38, d 39, d 40, d 41, d 42, d 43, d 44, d 45, d 46, d 47, d 48, d 49, d 50, d 51, d 52, d 53]
def G_q131_2 (K : Kont) (s0 : Self) (v3 v11 v12 v13 v17 v18 v19 : Value) (d : Nat → Value) (h : Hp) : Prop := aw Try.prog O_q131 K_q131_3 (Q_q131_5 K s0) (E_q131_2 v3 v11 v12 v13 v17 v18 v19 d) h
noncomputable def K_q131_5 : Code := (cB (cB (cI (cI (cB (cA (cB (cB (bodyC Try.f23)))))))))
def Q_q131_6 (K : Kont) (s0 : Self) (s1 : Self) : Post := qSeq s1 (Q_q131_5 K s0)
noncomputable def K_q131_6 : Code := (cI (cI (cB (cB (cI (cA (cB (cB (cI (cI (cB (cA (cB (cB (bodyC Try.f23)))))))))))))))
noncomputable def K_q131_7 : Code := (cB (cB (cB (cI (cI (cB (cB (cI (cA (cB (cB (cI (cI (cB (cA (cB (cB (bodyC Try.f23))))))))))))))))))
def E_q131_3 (v3 v11 v12 v13 v17 v18 v19 : Value) (d : Nat → Value) : List Value := [d 0, d 1, d 2, v3, d 4, d 5, d 6, d 7, d 8, d 9, d 10, v11, v12, v13, d 14, d 15, d 16, v17, v18, v19, d 20, d 21, d 22, d 23, d 24, d 25, d 26, d 27, d 28, d 29, d 30, d 31, d 32, d 33, d 34, d 35, d 36, d 37, d 38, d 39, d 40, d 41, d 42, d 43, d 44, d 45, d 46, d 47, d 48, d 49, d 50, d 51, d 52, d 53]
def G_q131_3 (K : Kont) (s0 : Self) (s1 : Self) (v3 v11 v12 v13 v17 v18 v19 : Value) (d : Nat → Value) (h : Hp) : Prop := aw Try.prog O_q131 K_q131_7 (Q_q131_6 K s0 s1) (E_q131_3 v3 v11 v12 v13 v17 v18 v19 d) h
noncomputable def K_q131_8 : Code := (cB (cB (cI (cI (cB (cB (cI (cA (cB (cB (cI (cI (cB (cA (cB (cB (bodyC Try.f23)))))))))))))))))
def G_q131 (a0 : Value) (h : Hp) (K : Kont) : Prop :=
  oMakeMap h fun t10 h1 =>
  oLen 0 a0 h1 fun t12 h2 =>
  G_q131_1 K t10 a0 t12 (Value.int .i64 0) (ud [(0, a0), (2, (Value.slice none 0 0)), (10, t10)] dz) h2
def E0_q131 (a0 : Value) : List Value := [a0, undef, undef, undef, undef, undef, undef, undef, undef, undef, undef, undef, undef, undef, undef, undef, undef, undef, undef, undef, undef, undef, undef, undef, undef, undef, undef, undef, undef, undef, undef, undef, undef, undef, undef, undef, undef, undef, undef, undef, undef, undef, undef, undef, undef, undef, undef, undef, undef, undef, undef, undef, undef, undef]
def X_q131 (Qv : Post) (a0 : Value) (h : Hp) : Prop :=
  oMakeMap h fun t10 h1 =>
  oLen 0 a0 h1 fun t12 h2 =>
  aw Try.prog O_q131 K_q131_0 (qBlk 0 (qSeq (aw Try.prog O_q131 K_q131_1 Qv) Qv)) (ul (E0_q131 a0) [(2, (Value.slice none 0 0)), (3, t10), (10, t10), (11, a0), (12, t12), (13, (Value.int .i64 0))]) h2
theorem ga_q131 (Qv : Post) (a0 : Value) (h : Hp) : aw Try.prog O_q131 (bodyC Try.f23) Qv (E0_q131 a0) h = X_q131 Qv a0 h := by kernel_rfl
theorem gb_q131 (a0 : Value) (h : Hp) (K : Kont) : X_q131 (qTop Try.prog Try.f23 K) a0 h = G_q131 a0 h K := by kernel_rfl
theorem gc_q131 (a0 : Value) (h : Hp) (K : Kont) : abody Try.prog O_q131 Try.f23 (bodyC Try.f23) [a0] h K = aw Try.prog O_q131 (bodyC Try.f23) (qTop Try.prog Try.f23 K) (E0_q131 a0) h := by kernel_rfl
theorem eq_q131 (a0 : Value) (h : Hp) (K : Kont) : abody Try.prog O_q131 Try.f23 (bodyC Try.f23) [a0] h K = G_q131 a0 h K := (gc_q131 a0 h K).trans ((ga_q131 _ a0 h).trans (gb_q131 a0 h K))
theorem ok_q131 {a0 : Value} {h : Hp} {K : Kont} (hk : G_q131 a0 h K) : C_q131 [a0] h K := ac_of_body prog_mixed (fn := Try.f23) Try.func23 (c := bodyC Try.f23) (by kernel_rfl) ((eq_q131 a0 h K).mpr hk)
def B_q131_1 (K : Kont) (s0 : Self) (v3 v11 v12 v13 : Value) (d : Nat → Value) (h : Hp) : Prop :=
  oBin .lss v13 v12 h fun t14 h1 =>
  oIf t14
  (oIdxS 1 v11 v13 h1 fun t15 h2 =>
  oLd1 t15 h2 fun t16 h3 =>
  oLen 0 t16 h3 fun t18 h4 =>
  G_q131_2 K s0 v3 v11 v12 v13 t16 t18 (Value.int .i64 0) (ud [(5, t16), (14, t14), (15, t15), (16, t16)] d) h4)
  (oLen 2 v3 h1 fun t46 h5 =>
  oBin .eql t46 (Value.int .i64 0) h5 fun t47 h6 =>
  oIf t47
  (K (Value.slice none 0 0) h6)
  (C_q6 [v3] h6 fun t50 h7 =>
  C_q51 [t50] h7 fun t51 h8 =>
  C_q42 [t51] h8 fun t52 h9 =>
  C_q101 [v3, t52] h9 fun t53 h10 =>
  K t53 h10))
def X_q131_1 (Qv : Post) (v3 v11 v12 v13 : Value) (d : Nat → Value) (h : Hp) : Prop :=
  oBin .lss v13 v12 h fun t14 h1 =>
  oIf t14
  (oIdxS 1 v11 v13 h1 fun t15 h2 =>
  oLd1 t15 h2 fun t16 h3 =>
  oLen 0 t16 h3 fun t18 h4 =>
  aw Try.prog O_q131 K_q131_3 (qBlk 2 (qBlk 1 (qSeq (aw Try.prog O_q131 K_q131_4 Qv) Qv))) (ul (E_q131_1 v3 v11 v12 v13 d) [(5, t16), (14, t14), (15, t15), (16, t16), (17, t16), (18, t18), (19, (Value.int .i64 0))]) h4)
  ((qSeq (aw Try.prog O_q131 K_q131_5 Qv) Qv) (.exit 0) (ul (E_q131_1 v3 v11 v12 v13 d) [(14, t14)]) h1)
theorem ga_q131_1 (Qv : Post) (v3 v11 v12 v13 : Value) (d : Nat → Value) (h : Hp) : aw Try.prog O_q131 K_q131_2 Qv (E_q131_1 v3 v11 v12 v13 d) h = X_q131_1 Qv v3 v11 v12 v13 d h := by kernel_rfl
theorem gb_q131_1 (K : Kont) (s0 : Self) (v3 v11 v12 v13 : Value) (d : Nat → Value) (h : Hp) : X_q131_1 (Q_q131_2 K s0) v3 v11 v12 v13 d h = B_q131_1 K s0 v3 v11 v12 v13 d h := by kernel_rfl
theorem beq_q131_1 (K : Kont) (s0 : Self) (v3 v11 v12 v13 : Value) (d : Nat → Value) (h : Hp) : aw Try.prog O_q131 K_q131_2 (Q_q131_2 K s0) (E_q131_1 v3 v11 v12 v13 d) h = B_q131_1 K s0 v3 v11 v12 v13 d h := (ga_q131_1 _ v3 v11 v12 v13 d h).trans (gb_q131_1 K s0 v3 v11 v12 v13 d h)
theorem rule_q131_1 {K : Kont} {v3 v11 v12 : Value} (Inv : Value → Hp → Prop) (μ : Value → Hp → Nat)
    (step : ∀ (s0 : Self) (v13 : Value) (d : Nat → Value) (h : Hp), Inv v13 h → (∀ (v13' : Value) (d' : Nat → Value) (h' : Hp), Inv v13' h' → μ v13' h' < μ v13 h → s0 (E_q131_1 v3 v11 v12 v13' d') h') → B_q131_1 K s0 v3 v11 v12 v13 d h) (v13 : Value) (d : Nat → Value) (h : Hp) (hi : Inv v13 h) : G_q131_1 K v3 v11 v12 v13 d h :=
  oLoop_rule (α := Value × (Nat → Value)) (fun x => E_q131_1 v3 v11 v12 x.1 x.2) (fun x h => Inv x.1 h) (fun x h => μ x.1 h)
    (fun self x h hx hs => (beq_q131_1 K self v3 v11 v12 x.1 x.2 h).mpr (step self x.1 x.2 h hx (fun v13' d' h' h1 h2 => hs ⟨v13', d'⟩ h' h1 h2))) ⟨v13, d⟩ h hi
def B_q131_2 (K : Kont) (s0 : Self) (s1 : Self) (v3 v11 v12 v13 v17 v18 v19 : Value) (d : Nat → Value) (h : Hp) : Prop :=
  oBin .lss v19 v18 h fun t20 h1 =>
  oIf t20
  (oIdxS 6 v17 v19 h1 fun t21 h2 =>
  oLdN 6 t21 h2 fun t22 h3 =>
  oAlloc #[.int .i64 0, .int .u64 0, .int .i64 0, .int .i64 0, .int .u64 0, .int .i64 0] h3 fun t7 h4 =>
  oSt 6 t7 t22 h4 fun _ h5 =>
  oFieldAddr 0 t7 h5 fun t25 h6 =>
  oLd1 t25 h6 fun t26 h7 =>
  oLookup (.int .i64) (.agg #[.int .i64 0, .int .u64 0, .int .i64 0, .int .i64 0, .int .u64 0, .int .i64 0]) v3 t26 true h7 fun t27 h8 =>
  oExtract t27 0 h8 fun t28 h9 =>
  oExtract t27 1 h9 fun t29 h10 =>
  oAlloc #[.int .i64 0, .int .u64 0, .int .i64 0, .int .i64 0, .int .u64 0, .int .i64 0] h10 fun t8 h11 =>
  oSt 6 t8 t28 h11 fun _ h12 =>
  oNot t29 h12 fun t31 h13 =>
  oGuard t31 false (fun K => oFieldAddr 1 t7 h13 K) h13 fun t33 h14 =>
  oGuard t31 false (fun K => oLd1 t33 h14 K) h14 fun t34 h15 =>
  oGuard t31 false (fun K => oFieldAddr 1 t8 h15 K) h15 fun t35 h16 =>
  oGuard t31 false (fun K => oLd1 t35 h16 K) h16 fun t36 h17 =>
  oGuard t31 false (fun K => oBin .gtr t34 t36 h17 K) h17 fun t37 h18 =>
  oPick t31 (Value.bool true) t37 h18 fun t38 h19 =>
  oIf t38
  (oFieldAddr 0 t7 h19 fun t40 h20 =>
  oLd1 t40 h20 fun t41 h21 =>
  oLdN 6 t7 h21 fun t42 h22 =>
  oMapUpdate (.int .i64) v3 t41 t42 h22 fun _ h23 =>
  G_q131_3 K s0 s1 v3 v11 v12 v13 v17 v18 v19 (ud [(7, t7), (8, t8), (9, t29), (20, t20), (21, t21), (22, t22), (23, t27), (24, v3), (25, t25), (26, t26), (27, t27), (28, t28), (29, t29), (30, t29), (31, t31), (32, t31), (33, t33), (34, t34), (35, t35), (36, t36), (37, t37), (38, t38), (39, v3), (40, t40), (41, t41), (42, t42)] d) h23)
  (G_q131_3 K s0 s1 v3 v11 v12 v13 v17 v18 v19 (ud [(7, t7), (8, t8), (9, t29), (20, t20), (21, t21), (22, t22), (23, t27), (24, v3), (25, t25), (26, t26), (27, t27), (28, t28), (29, t29), (30, t29), (31, t31), (32, t31), (33, t33), (34, t34), (35, t35), (36, t36), (37, t37), (38, t38)] d) h19))
  (oBin .add v13 (Value.int .i64 1) h1 fun t44 h24 =>
  s0 (E_q131_1 v3 v11 v12 t44 (ud [(17, v17), (18, v18), (19, v19), (20, t20), (44, t44)] d)) h24)
def X_q131_2 (Qv : Post) (v3 v11 v12 v13 v17 v18 v19 : Value) (d : Nat → Value) (h : Hp) : Prop :=
  oBin .lss v19 v18 h fun t20 h1 =>
  oIf t20
  (oIdxS 6 v17 v19 h1 fun t21 h2 =>
  oLdN 6 t21 h2 fun t22 h3 =>
  oAlloc #[.int .i64 0, .int .u64 0, .int .i64 0, .int .i64 0, .int .u64 0, .int .i64 0] h3 fun t7 h4 =>
  oSt 6 t7 t22 h4 fun _ h5 =>
  oFieldAddr 0 t7 h5 fun t25 h6 =>
  oLd1 t25 h6 fun t26 h7 =>
  oLookup (.int .i64) (.agg #[.int .i64 0, .int .u64 0, .int .i64 0, .int .i64 0, .int .u64 0, .int .i64 0]) v3 t26 true h7 fun t27 h8 =>
  oExtract t27 0 h8 fun t28 h9 =>
  oExtract t27 1 h9 fun t29 h10 =>
  oAlloc #[.int .i64 0, .int .u64 0, .int .i64 0, .int .i64 0, .int .u64 0, .int .i64 0] h10 fun t8 h11 =>
  oSt 6 t8 t28 h11 fun _ h12 =>
  oNot t29 h12 fun t31 h13 =>
  oGuard t31 false (fun K => oFieldAddr 1 t7 h13 K) h13 fun t33 h14 =>
  oGuard t31 false (fun K => oLd1 t33 h14 K) h14 fun t34 h15 =>
  oGuard t31 false (fun K => oFieldAddr 1 t8 h15 K) h15 fun t35 h16 =>
  oGuard t31 false (fun K => oLd1 t35 h16 K) h16 fun t36 h17 =>
  oGuard t31 false (fun K => oBin .gtr t34 t36 h17 K) h17 fun t37 h18 =>
  oPick t31 (Value.bool true) t37 h18 fun t38 h19 =>
  oIf t38
  (oFieldAddr 0 t7 h19 fun t40 h20 =>
  oLd1 t40 h20 fun t41 h21 =>
  oLdN 6 t7 h21 fun t42 h22 =>
  oMapUpdate (.int .i64) v3 t41 t42 h22 fun _ h23 =>
  (qBlk 3 (qSeq (aw Try.prog O_q131 K_q131_7 Qv) Qv)) .normal (ul (E_q131_2 v3 v11 v12 v13 v17 v18 v19 d) [(7, t7), (8, t8), (9, t29), (20, t20), (21, t21), (22, t22), (23, t27), (24, v3), (25, t25), (26, t26), (27, t27), (28, t28), (29, t29), (30, t29), (31, t31), (32, t31), (33, t33), (34, t34), (35, t35), (36, t36), (37, t37), (38, t38), (39, v3), (40, t40), (41, t41), (42, t42)]) h23)
  ((qBlk 3 (qSeq (aw Try.prog O_q131 K_q131_7 Qv) Qv)) .normal (ul (E_q131_2 v3 v11 v12 v13 v17 v18 v19 d) [(7, t7), (8, t8), (9, t29), (20, t20), (21, t21), (22, t22), (23, t27), (24, v3), (25, t25), (26, t26), (27, t27), (28, t28), (29, t29), (30, t29), (31, t31), (32, t31), (33, t33), (34, t34), (35, t35), (36, t36), (37, t37), (38, t38)]) h19))
  ((qSeq (aw Try.prog O_q131 K_q131_8 Qv) Qv) (.exit 2) (ul (E_q131_2 v3 v11 v12 v13 v17 v18 v19 d) [(20, t20)]) h1)
theorem ga_q131_2 (Qv : Post) (v3 v11 v12 v13 v17 v18 v19 : Value) (d : Nat → Value) (h : Hp) : aw Try.prog O_q131 K_q131_6 Qv (E_q131_2 v3 v11 v12 v13 v17 v18 v19 d) h = X_q131_2 Qv v3 v11 v12 v13 v17 v18 v19 d h := by kernel_rfl
theorem gb_q131_2 (K : Kont) (s0 : Self) (s1 : Self) (v3 v11 v12 v13 v17 v18 v19 : Value) (d : Nat → Value) (h : Hp) : X_q131_2 (Q_q131_6 K s0 s1) v3 v11 v12 v13 v17 v18 v19 d h = B_q131_2 K s0 s1 v3 v11 v12 v13 v17 v18 v19 d h := by kernel_rfl
theorem beq_q131_2 (K : Kont) (s0 : Self) (s1 : Self) (v3 v11 v12 v13 v17 v18 v19 : Value) (d : Nat → Value) (h : Hp) : aw Try.prog O_q131 K_q131_6 (Q_q131_6 K s0 s1) (E_q131_2 v3 v11 v12 v13 v17 v18 v19 d) h = B_q131_2 K s0 s1 v3 v11 v12 v13 v17 v18 v19 d h := (ga_q131_2 _ v3 v11 v12 v13 v17 v18 v19 d h).trans (gb_q131_2 K s0 s1 v3 v11 v12 v13 v17 v18 v19 d h)
theorem rule_q131_2 {K : Kont} {s0 : Self} {v3 v11 v12 v13 v17 v18 : Value} (Inv : Value → Hp → Prop) (μ : Value → Hp → Nat)
    (step : ∀ (s1 : Self) (v19 : Value) (d : Nat → Value) (h : Hp), Inv v19 h → (∀ (v19' : Value) (d' : Nat → Value) (h' : Hp), Inv v19' h' → μ v19' h' < μ v19 h → s1 (E_q131_2 v3 v11 v12 v13 v17 v18 v19' d') h') → B_q131_2 K s0 s1 v3 v11 v12 v13 v17 v18 v19 d h) (v19 : Value) (d : Nat → Value) (h : Hp) (hi : Inv v19 h) : G_q131_2 K s0 v3 v11 v12 v13 v17 v18 v19 d h :=
  oLoop_rule (α := Value × (Nat → Value)) (fun x => E_q131_2 v3 v11 v12 v13 v17 v18 x.1 x.2) (fun x h => Inv x.1 h) (fun x h => μ x.1 h)
    (fun self x h hx hs => (beq_q131_2 K s0 self v3 v11 v12 v13 v17 v18 x.1 x.2 h).mpr (step self x.1 x.2 h hx (fun v19' d' h' h1 h2 => hs ⟨v19', d'⟩ h' h1 h2))) ⟨v19, d⟩ h hi
def R_q131_3 (K : Kont) (s0 : Self) (s1 : Self) (v3 v11 v12 v13 v17 v18 v19 : Value) (d : Nat → Value) (h : Hp) : Prop :=
  oBin .add v19 (Value.int .i64 1) h fun t43 h1 =>
  s1 (E_q131_2 v3 v11 v12 v13 v17 v18 t43 (ud [(43, t43)] d)) h1
def X_q131_3 (Qv : Post) (v3 v11 v12 v13 v17 v18 v19 : Value) (d : Nat → Value) (h : Hp) : Prop :=
  oBin .add v19 (Value.int .i64 1) h fun t43 h1 =>
  Qv .normal (ul (E_q131_3 v3 v11 v12 v13 v17 v18 v19 d) [(19, t43), (43, t43)]) h1
theorem ga_q131_3 (Qv : Post) (v3 v11 v12 v13 v17 v18 v19 : Value) (d : Nat → Value) (h : Hp) : aw Try.prog O_q131 K_q131_7 Qv (E_q131_3 v3 v11 v12 v13 v17 v18 v19 d) h = X_q131_3 Qv v3 v11 v12 v13 v17 v18 v19 d h := by kernel_rfl
theorem gb_q131_3 (K : Kont) (s0 : Self) (s1 : Self) (v3 v11 v12 v13 v17 v18 v19 : Value) (d : Nat → Value) (h : Hp) : X_q131_3 (Q_q131_6 K s0 s1) v3 v11 v12 v13 v17 v18 v19 d h = R_q131_3 K s0 s1 v3 v11 v12 v13 v17 v18 v19 d h := by kernel_rfl
theorem req_q131_3 (K : Kont) (s0 : Self) (s1 : Self) (v3 v11 v12 v13 v17 v18 v19 : Value) (d : Nat → Value) (h : Hp) : G_q131_3 K s0 s1 v3 v11 v12 v13 v17 v18 v19 d h = R_q131_3 K s0 s1 v3 v11 v12 v13 v17 v18 v19 d h := (ga_q131_3 _ v3 v11 v12 v13 v17 v18 v19 d h).trans (gb_q131_3 K s0 s1 v3 v11 v12 v13 v17 v18 v19 d h)
def O_q174 : Od := [(9, (.one 0 true (.one 1 true (.one 2 true (.one 3 true (.one 4 true (.one 5 true (.one 6 true (.one 7 true (.one 8 true (.one 9 true (.one 10 true (.one 11 true (.one 12 true (.one 13 true (.one 14 true .nil))))))))))))))))]
noncomputable def K_q174_0 : Code := (cI (cB (cA (cB (cB (bodyC Try.f24))))))
noncomputable def K_q174_1 : Code := (cB (cB (cB (bodyC Try.f24))))
def Q_q174_0 (K : Kont) : Post := qSeq (aw Try.prog O_q174 K_q174_1 (qTop Try.prog Try.f24 K)) (qTop Try.prog Try.f24 K)
def Q_q174_1 (K : Kont) : Post := qBlk 0 (Q_q174_0 K)
def E_q174_1 (v0 v3 v4 : Value) (d : Nat → Value) : List Value := [v0, d 1, d 2, v3, v4, d 5, d 6, d 7, d 8, d 9, d 10, d 11, d 12, d 13, d 14, d 15, d 16, d 17, d 18, d 19, d 20, d 21, d 22, d 23, d 24, d 25, d 26, d 27, d 28, d 29, d 30, d 31, d 32, d 33, d 34, d 35, d 36, d 37, d 38, d 39, d 40, d 41, d 42, d 43, d 44, d 45, d 46, d 47, d 48, d 49, d 50, d 51, d 52, d 53, d 54, d 55, d 56, d 57, d 58, d 59, d 60]
def G_q174_1 (K : Kont) (v0 v3 v4 : Value) (d : Nat → Value) (h : Hp) : Prop := aw Try.prog O_q174 K_q174_0 (Q_q174_1 K) (E_q174_1 v0 v3 v4 d) h
def Q_q174_2 (K : Kont) (s0 : Self) : Post := qSeq s0 (Q_q174_1 K)
noncomputable def K_q174_2 : Code := (cI (cI (cB (cA (cB (cB (bodyC Try.f24)))))))
noncomputable def K_q174_3 : Code := (cI (cB (cI (cA (cB (cI (cI (cB (cA (cB (cB (bodyC Try.f24))))))))))))
noncomputable def K_q174_4 : Code := (cB (cB (cI (cI (cB (cA (cB (cB (bodyC Try.f24)))))))))
def Q_q174_3 (K : Kont) (s0 : Self) : Post := qSeq (aw Try.prog O_q174 K_q174_4 (Q_q174_2 K s0)) (Q_q174_2 K s0)
def Q_q174_4 (K : Kont) (s0 : Self) : Post := qBlk 1 (Q_q174_3 K s0)
def Q_q174_5 (K : Kont) (s0 : Self) : Post := qBlk 2 (Q_q174_4 K s0)
def E_q174_2 (v0 v3 v4 v5 : Value) (d : Nat → Value) : List Value := [v0, d 1, d 2, v3, v4, v5, d 6, d 7, d 8, d 9, d 10, d 11, d 12, d 13, d 14, d 15, d 16, d 17, d 18, d 19, d 20, d 21, d 22, d 23, d 24, d 25, d 26, d 27, d 28, d 29, d 30, d 31, d 32, d 33, d 34, d 35, d 36, d 37, d 38, d 39, d 40, d 41, d 42, d 43, d 44, d 45, d 46, d 47, d 48, d 49, d 50, d 51, d 52, d 53, d 54, d 55, d 56, d 57, d 58, d 59, d 60]
def G_q174_2 (K : Kont) (s0 : Self) (v0 v3 v4 v5 : Value) (d : Nat → Value) (h : Hp) : Prop := aw Try.prog O_q174 K_q174_3 (Q_q174_5 K s0) (E_q174_2 v0 v3 v4 v5 d) h
noncomputable def K_q174_5 : Code := (cB (cI (cI (cB (cA (cB (cB (bodyC Try.f24))))))))
def Q_q174_6 (K : Kont) (s0 : Self) (s1 : Self) : Post := qSeq s1 (Q_q174_5 K s0)
noncomputable def K_q174_6 : Code := (cI (cI (cB (cI (cA (cB (cI (cI (cB (cA (cB (cB (bodyC Try.f24)))))))))))))
noncomputable def K_q174_7 : Code := (cB (cB (cI (cI (cB (cI (cA (cB (cI (cI (cB (cA (cB (cB (bodyC Try.f24)))))))))))))))
def E_q174_3 (v0 v3 v4 v5 : Value) (d : Nat → Value) : List Value := [v0, d 1, d 2, v3, v4, v5, d 6, d 7, d 8, d 9, d 10, d 11, d 12, d 13, d 14, d 15, d 16, d 17, d 18, d 19, d 20, d 21, d 22, d 23, d 24, d 25, d 26, d 27, d 28, d 29, d 30, d 31, d 32, d 33, d 34, d 35, d 36, d 37, d 38, d 39, d 40, d 41, d 42, d 43, d 44, d 45, d 46, d 47, d 48, d 49, d 50, d 51, d 52, d 53, d 54, d 55, d 56, d 57, d 58, d 59, d 60]
def G_q174_3 (K : Kont) (s0 : Self) (s1 : Self) (v0 v3 v4 v5 : Value) (d : Nat → Value) (h : Hp) : Prop := aw Try.prog O_q174 K_q174_7 (Q_q174_6 K s0 s1) (E_q174_3 v0 v3 v4 v5 d) h
noncomputable def K_q174_8 : Code := (cB (cI (cI (cB (cI (cA (cB (cI (cI (cB (cA (cB (cB (bodyC Try.f24))))))))))))))
def G_q174 (a0 : Value) (h : Hp) (K : Kont) : Prop :=
  G_q174_1 K a0 (Value.slice none 0 0) (Value.int .i64 0) (ud [(2, (Value.slice none 0 0))] dz) h
def E0_q174 (a0 : Value) : List Value := [a0, undef, undef, undef, undef, undef, undef, undef, undef, undef, undef, undef, undef, undef, undef, undef, undef, undef, undef, undef, undef, undef, undef, undef, undef, undef, undef, undef, undef, undef, undef, undef, undef, undef, undef, undef, undef, undef, undef, undef, undef, undef, undef, undef, undef, undef, undef, undef, undef, undef, undef, undef, undef, undef, undef, undef, undef, undef, undef, undef, undef]
def X_q174 (Qv : Post) (a0 : Value) (h : Hp) : Prop :=
  aw Try.prog O_q174 K_q174_0 (qBlk 0 (qSeq (aw Try.prog O_q174 K_q174_1 Qv) Qv)) (ul (E0_q174 a0) [(2, (Value.slice none 0 0)), (3, (Value.slice none 0 0)), (4, (Value.int .i64 0))]) h
theorem ga_q174 (Qv : Post) (a0 : Value) (h : Hp) : aw Try.prog O_q174 (bodyC Try.f24) Qv (E0_q174 a0) h = X_q174 Qv a0 h := by kernel_rfl
theorem gb_q174 (a0 : Value) (h : Hp) (K : Kont) : X_q174 (qTop Try.prog Try.f24 K) a0 h = G_q174 a0 h K := by kernel_rfl
theorem gc_q174 (a0 : Value) (h : Hp) (K : Kont) : abody Try.prog O_q174 Try.f24 (bodyC Try.f24) [a0] h K = aw Try.prog O_q174 (bodyC Try.f24) (qTop Try.prog Try.f24 K) (E0_q174 a0) h := by kernel_rfl
theorem eq_q174 (a0 : Value) (h : Hp) (K : Kont) : abody Try.prog O_q174 Try.f24 (bodyC Try.f24) [a0] h K = G_q174 a0 h K := (gc_q174 a0 h K).trans ((ga_q174 _ a0 h).trans (gb_q174 a0 h K))
theorem ok_q174 {a0 : Value} {h : Hp} {K : Kont} (hk : G_q174 a0 h K) : C_q174 [a0] h K := ac_of_body prog_mixed (fn := Try.f24) Try.func24 (c := bodyC Try.f24) (by kernel_rfl) ((eq_q174 a0 h K).mpr hk)
def B_q174_1 (K : Kont) (s0 : Self) (v0 v3 v4 : Value) (d : Nat → Value) (h : Hp) : Prop :=
  oLen 0 v0 h fun t10 h1 =>
  oBin .lss v4 t10 h1 fun t11 h2 =>
  oIf t11
  (G_q174_2 K s0 v0 v3 v4 (Value.int .i64 0) (ud [(8, v4), (9, v0), (10, t10), (11, t11)] d) h2)
  (K v3 h2)
def X_q174_1 (Qv : Post) (v0 v3 v4 : Value) (d : Nat → Value) (h : Hp) : Prop :=
  oLen 0 v0 h fun t10 h1 =>
  oBin .lss v4 t10 h1 fun t11 h2 =>
  oIf t11
  (aw Try.prog O_q174 K_q174_3 (qBlk 2 (qBlk 1 (qSeq (aw Try.prog O_q174 K_q174_4 Qv) Qv))) (ul (E_q174_1 v0 v3 v4 d) [(5, (Value.int .i64 0)), (8, v4), (9, v0), (10, t10), (11, t11)]) h2)
  ((qSeq (aw Try.prog O_q174 K_q174_5 Qv) Qv) (.exit 0) (ul (E_q174_1 v0 v3 v4 d) [(8, v4), (9, v0), (10, t10), (11, t11)]) h2)
theorem ga_q174_1 (Qv : Post) (v0 v3 v4 : Value) (d : Nat → Value) (h : Hp) : aw Try.prog O_q174 K_q174_2 Qv (E_q174_1 v0 v3 v4 d) h = X_q174_1 Qv v0 v3 v4 d h := by kernel_rfl
theorem gb_q174_1 (K : Kont) (s0 : Self) (v0 v3 v4 : Value) (d : Nat → Value) (h : Hp) : X_q174_1 (Q_q174_2 K s0) v0 v3 v4 d h = B_q174_1 K s0 v0 v3 v4 d h := by kernel_rfl
theorem beq_q174_1 (K : Kont) (s0 : Self) (v0 v3 v4 : Value) (d : Nat → Value) (h : Hp) : aw Try.prog O_q174 K_q174_2 (Q_q174_2 K s0) (E_q174_1 v0 v3 v4 d) h = B_q174_1 K s0 v0 v3 v4 d h := (ga_q174_1 _ v0 v3 v4 d h).trans (gb_q174_1 K s0 v0 v3 v4 d h)
theorem rule_q174_1 {K : Kont} {v0 : Value} (Inv : Value → Value → Hp → Prop) (μ : Value → Value → Hp → Nat)
    (step : ∀ (s0 : Self) (v3 v4 : Value) (d : Nat → Value) (h : Hp), Inv v3 v4 h → (∀ (v3' : Value) (v4' : Value) (d' : Nat → Value) (h' : Hp), Inv v3' v4' h' → μ v3' v4' h' < μ v3 v4 h → s0 (E_q174_1 v0 v3' v4' d') h') → B_q174_1 K s0 v0 v3 v4 d h) (v3 v4 : Value) (d : Nat → Value) (h : Hp) (hi : Inv v3 v4 h) : G_q174_1 K v0 v3 v4 d h :=
  oLoop_rule (α := Value × Value × (Nat → Value)) (fun x => E_q174_1 v0 x.1 x.2.1 x.2.2) (fun x h => Inv x.1 x.2.1 h) (fun x h => μ x.1 x.2.1 h)
    (fun self x h hx hs => (beq_q174_1 K self v0 x.1 x.2.1 x.2.2 h).mpr (step self x.1 x.2.1 x.2.2 h hx (fun v3' v4' d' h' h1 h2 => hs ⟨v3', v4', d'⟩ h' h1 h2))) ⟨v3, v4, d⟩ h hi
def B_q174_2 (K : Kont) (s0 : Self) (s1 : Self) (v0 v3 v4 v5 : Value) (d : Nat → Value) (h : Hp) : Prop :=
  oIdxS 1 v0 v4 h fun t17 h1 =>
  oLd1 t17 h1 fun t18 h2 =>
  oLen 0 t18 h2 fun t19 h3 =>
  oBin .lss v5 t19 h3 fun t20 h4 =>
  oIf t20
  (oIdxS 1 v0 v4 h4 fun t27 h5 =>
  oLd1 t27 h5 fun t28 h6 =>
  oIdxS 6 t28 v5 h6 fun t30 h7 =>
  oFieldAddr 0 t30 h7 fun t31 h8 =>
  oLd1 t31 h8 fun t32 h9 =>
  C_q183 [v3, t32] h9 fun t33 h10 =>
  oExtract t33 0 h10 fun t34 h11 =>
  oExtract t33 1 h11 fun t35 h12 =>
  oAlloc #[.int .i64 0, .int .u64 0, .int .i64 0, .int .i64 0, .int .u64 0, .int .i64 0] h12 fun t6 h13 =>
  oSt 6 t6 t34 h13 fun _ h14 =>
  oNot t35 h14 fun t37 h15 =>
  oGuard t37 false (fun K => K v0 h15) h15 fun t39 h16 =>
  oGuard t37 false (fun K => K v4 h16) h16 fun t40 h17 =>
  oGuard t37 false (fun K => oIdxS 1 t39 t40 h17 K) h17 fun t41 h18 =>
  oGuard t37 false (fun K => oLd1 t41 h18 K) h18 fun t42 h19 =>
  oGuard t37 false (fun K => K v5 h19) h19 fun t43 h20 =>
  oGuard t37 false (fun K => oIdxS 6 t42 t43 h20 K) h20 fun t44 h21 =>
  oGuard t37 false (fun K => oFieldAddr 1 t44 h21 K) h21 fun t45 h22 =>
  oGuard t37 false (fun K => oLd1 t45 h22 K) h22 fun t46 h23 =>
  oGuard t37 false (fun K => oFieldAddr 1 t6 h23 K) h23 fun t47 h24 =>
  oGuard t37 false (fun K => oLd1 t47 h24 K) h24 fun t48 h25 =>
  oGuard t37 false (fun K => oBin .gtr t46 t48 h25 K) h25 fun t49 h26 =>
  oPick t37 (Value.bool true) t49 h26 fun t50 h27 =>
  oIf t50
  (oIdxS 1 v0 v4 h27 fun t54 h28 =>
  oLd1 t54 h28 fun t55 h29 =>
  oIdxS 6 t55 v5 h29 fun t57 h30 =>
  oLdN 6 t57 h30 fun t58 h31 =>
  C_q180 [v3, t58] h31 fun t59 h32 =>
  G_q174_3 K s0 s1 v0 t59 v4 v5 (ud [(6, t6), (7, t35), (14, v5), (15, v0), (16, v4), (17, t17), (18, t18), (19, t19), (20, t20), (23, t33), (24, v3), (25, v0), (26, v4), (27, t27), (28, t28), (29, v5), (30, t30), (31, t31), (32, t32), (33, t33), (34, t34), (35, t35), (36, t35), (37, t37), (38, t37), (39, t39), (40, t40), (41, t41), (42, t42), (43, t43), (44, t44), (45, t45), (46, t46), (47, t47), (48, t48), (49, t49), (50, t50), (51, v3), (52, v0), (53, v4), (54, t54), (55, t55), (56, v5), (57, t57), (58, t58), (59, t59)] d) h32)
  (G_q174_3 K s0 s1 v0 v3 v4 v5 (ud [(6, t6), (7, t35), (14, v5), (15, v0), (16, v4), (17, t17), (18, t18), (19, t19), (20, t20), (23, t33), (24, v3), (25, v0), (26, v4), (27, t27), (28, t28), (29, v5), (30, t30), (31, t31), (32, t32), (33, t33), (34, t34), (35, t35), (36, t35), (37, t37), (38, t37), (39, t39), (40, t40), (41, t41), (42, t42), (43, t43), (44, t44), (45, t45), (46, t46), (47, t47), (48, t48), (49, t49), (50, t50)] d) h27))
  (oBin .add v4 (Value.int .i64 1) h4 fun t13 h33 =>
  s0 (E_q174_1 v0 v3 t13 (ud [(5, v5), (12, v4), (13, t13), (14, v5), (15, v0), (16, v4), (17, t17), (18, t18), (19, t19), (20, t20)] d)) h33)
def X_q174_2 (Qv : Post) (v0 v3 v4 v5 : Value) (d : Nat → Value) (h : Hp) : Prop :=
  oIdxS 1 v0 v4 h fun t17 h1 =>
  oLd1 t17 h1 fun t18 h2 =>
  oLen 0 t18 h2 fun t19 h3 =>
  oBin .lss v5 t19 h3 fun t20 h4 =>
  oIf t20
  (oIdxS 1 v0 v4 h4 fun t27 h5 =>
  oLd1 t27 h5 fun t28 h6 =>
  oIdxS 6 t28 v5 h6 fun t30 h7 =>
  oFieldAddr 0 t30 h7 fun t31 h8 =>
  oLd1 t31 h8 fun t32 h9 =>
  C_q183 [v3, t32] h9 fun t33 h10 =>
  oExtract t33 0 h10 fun t34 h11 =>
  oExtract t33 1 h11 fun t35 h12 =>
  oAlloc #[.int .i64 0, .int .u64 0, .int .i64 0, .int .i64 0, .int .u64 0, .int .i64 0] h12 fun t6 h13 =>
  oSt 6 t6 t34 h13 fun _ h14 =>
  oNot t35 h14 fun t37 h15 =>
  oGuard t37 false (fun K => K v0 h15) h15 fun t39 h16 =>
  oGuard t37 false (fun K => K v4 h16) h16 fun t40 h17 =>
  oGuard t37 false (fun K => oIdxS 1 t39 t40 h17 K) h17 fun t41 h18 =>
  oGuard t37 false (fun K => oLd1 t41 h18 K) h18 fun t42 h19 =>
  oGuard t37 false (fun K => K v5 h19) h19 fun t43 h20 =>
  oGuard t37 false (fun K => oIdxS 6 t42 t43 h20 K) h20 fun t44 h21 =>
  oGuard t37 false (fun K => oFieldAddr 1 t44 h21 K) h21 fun t45 h22 =>
  oGuard t37 false (fun K => oLd1 t45 h22 K) h22 fun t46 h23 =>
  oGuard t37 false (fun K => oFieldAddr 1 t6 h23 K) h23 fun t47 h24 =>
  oGuard t37 false (fun K => oLd1 t47 h24 K) h24 fun t48 h25 =>
  oGuard t37 false (fun K => oBin .gtr t46 t48 h25 K) h25 fun t49 h26 =>
  oPick t37 (Value.bool true) t49 h26 fun t50 h27 =>
  oIf t50
  (oIdxS 1 v0 v4 h27 fun t54 h28 =>
  oLd1 t54 h28 fun t55 h29 =>
  oIdxS 6 t55 v5 h29 fun t57 h30 =>
  oLdN 6 t57 h30 fun t58 h31 =>
  C_q180 [v3, t58] h31 fun t59 h32 =>
  (qBlk 3 (qSeq (aw Try.prog O_q174 K_q174_7 Qv) Qv)) .normal (ul (E_q174_2 v0 v3 v4 v5 d) [(3, t59), (6, t6), (7, t35), (14, v5), (15, v0), (16, v4), (17, t17), (18, t18), (19, t19), (20, t20), (23, t33), (24, v3), (25, v0), (26, v4), (27, t27), (28, t28), (29, v5), (30, t30), (31, t31), (32, t32), (33, t33), (34, t34), (35, t35), (36, t35), (37, t37), (38, t37), (39, t39), (40, t40), (41, t41), (42, t42), (43, t43), (44, t44), (45, t45), (46, t46), (47, t47), (48, t48), (49, t49), (50, t50), (51, v3), (52, v0), (53, v4), (54, t54), (55, t55), (56, v5), (57, t57), (58, t58), (59, t59)]) h32)
  ((qBlk 3 (qSeq (aw Try.prog O_q174 K_q174_7 Qv) Qv)) .normal (ul (E_q174_2 v0 v3 v4 v5 d) [(6, t6), (7, t35), (14, v5), (15, v0), (16, v4), (17, t17), (18, t18), (19, t19), (20, t20), (23, t33), (24, v3), (25, v0), (26, v4), (27, t27), (28, t28), (29, v5), (30, t30), (31, t31), (32, t32), (33, t33), (34, t34), (35, t35), (36, t35), (37, t37), (38, t37), (39, t39), (40, t40), (41, t41), (42, t42), (43, t43), (44, t44), (45, t45), (46, t46), (47, t47), (48, t48), (49, t49), (50, t50)]) h27))
  ((qSeq (aw Try.prog O_q174 K_q174_8 Qv) Qv) (.exit 2) (ul (E_q174_2 v0 v3 v4 v5 d) [(14, v5), (15, v0), (16, v4), (17, t17), (18, t18), (19, t19), (20, t20)]) h4)
theorem ga_q174_2 (Qv : Post) (v0 v3 v4 v5 : Value) (d : Nat → Value) (h : Hp) : aw Try.prog O_q174 K_q174_6 Qv (E_q174_2 v0 v3 v4 v5 d) h = X_q174_2 Qv v0 v3 v4 v5 d h := by kernel_rfl
theorem gb_q174_2 (K : Kont) (s0 : Self) (s1 : Self) (v0 v3 v4 v5 : Value) (d : Nat → Value) (h : Hp) : X_q174_2 (Q_q174_6 K s0 s1) v0 v3 v4 v5 d h = B_q174_2 K s0 s1 v0 v3 v4 v5 d h := by kernel_rfl
theorem beq_q174_2 (K : Kont) (s0 : Self) (s1 : Self) (v0 v3 v4 v5 : Value) (d : Nat → Value) (h : Hp) : aw Try.prog O_q174 K_q174_6 (Q_q174_6 K s0 s1) (E_q174_2 v0 v3 v4 v5 d) h = B_q174_2 K s0 s1 v0 v3 v4 v5 d h := (ga_q174_2 _ v0 v3 v4 v5 d h).trans (gb_q174_2 K s0 s1 v0 v3 v4 v5 d h)
theorem rule_q174_2 {K : Kont} {s0 : Self} {v0 v4 : Value} (Inv : Value → Value → Hp → Prop) (μ : Value → Value → Hp → Nat)
    (step : ∀ (s1 : Self) (v3 v5 : Value) (d : Nat → Value) (h : Hp), Inv v3 v5 h → (∀ (v3' : Value) (v5' : Value) (d' : Nat → Value) (h' : Hp), Inv v3' v5' h' → μ v3' v5' h' < μ v3 v5 h → s1 (E_q174_2 v0 v3' v4 v5' d') h') → B_q174_2 K s0 s1 v0 v3 v4 v5 d h) (v3 v5 : Value) (d : Nat → Value) (h : Hp) (hi : Inv v3 v5 h) : G_q174_2 K s0 v0 v3 v4 v5 d h :=
  oLoop_rule (α := Value × Value × (Nat → Value)) (fun x => E_q174_2 v0 x.1 v4 x.2.1 x.2.2) (fun x h => Inv x.1 x.2.1 h) (fun x h => μ x.1 x.2.1 h)
    (fun self x h hx hs => (beq_q174_2 K s0 self v0 x.1 v4 x.2.1 x.2.2 h).mpr (step self x.1 x.2.1 x.2.2 h hx (fun v3' v5' d' h' h1 h2 => hs ⟨v3', v5', d'⟩ h' h1 h2))) ⟨v3, v5, d⟩ h hi
def R_q174_3 (K : Kont) (s0 : Self) (s1 : Self) (v0 v3 v4 v5 : Value) (d : Nat → Value) (h : Hp) : Prop :=
  oBin .add v5 (Value.int .i64 1) h fun t22 h1 =>
  s1 (E_q174_2 v0 v3 v4 t22 (ud [(21, v5), (22, t22)] d)) h1
def X_q174_3 (Qv : Post) (v0 v3 v4 v5 : Value) (d : Nat → Value) (h : Hp) : Prop :=
  oBin .add v5 (Value.int .i64 1) h fun t22 h1 =>
  Qv .normal (ul (E_q174_3 v0 v3 v4 v5 d) [(5, t22), (21, v5), (22, t22)]) h1
theorem ga_q174_3 (Qv : Post) (v0 v3 v4 v5 : Value) (d : Nat → Value) (h : Hp) : aw Try.prog O_q174 K_q174_7 Qv (E_q174_3 v0 v3 v4 v5 d) h = X_q174_3 Qv v0 v3 v4 v5 d h := by kernel_rfl
theorem gb_q174_3 (K : Kont) (s0 : Self) (s1 : Self) (v0 v3 v4 v5 : Value) (d : Nat → Value) (h : Hp) : X_q174_3 (Q_q174_6 K s0 s1) v0 v3 v4 v5 d h = R_q174_3 K s0 s1 v0 v3 v4 v5 d h := by kernel_rfl
theorem req_q174_3 (K : Kont) (s0 : Self) (s1 : Self) (v0 v3 v4 v5 : Value) (d : Nat → Value) (h : Hp) : G_q174_3 K s0 s1 v0 v3 v4 v5 d h = R_q174_3 K s0 s1 v0 v3 v4 v5 d h := (ga_q174_3 _ v0 v3 v4 v5 d h).trans (gb_q174_3 K s0 s1 v0 v3 v4 v5 d h)
def O_q167 : Od := []
def G_q167 (a0 a1 : Value) (h : Hp) (K : Kont) : Prop :=
  oBin .geq a1 (Value.int .i64 1) h fun t6 h1 =>
  oGuard t6 true (fun K => K a1 h1) h1 fun t8 h2 =>
  oGuard t6 true (fun K => oBin .leq t8 (Value.int .i64 5) h2 K) h2 fun t9 h3 =>
  oPick t6 t9 (Value.bool false) h3 fun t10 h4 =>
  oGuard t10 true (fun K => K a0 h4) h4 fun t12 h5 =>
  oGuard t10 true (fun K => oBin .geq t12 (Value.int .i64 1) h5 K) h5 fun t13 h6 =>
  oPick t10 t13 (Value.bool false) h6 fun t14 h7 =>
  oGuard t14 true (fun K => K a0 h7) h7 fun t16 h8 =>
  oGuard t14 true (fun K => K a1 h8) h8 fun t17 h9 =>
  oGuard t14 true (fun K => oBin .leq t16 t17 h9 K) h9 fun t18 h10 =>
  oPick t14 t18 (Value.bool false) h10 fun t19 h11 =>
  K t19 h11
def E0_q167 (a0 a1 : Value) : List Value := [a0, a1, undef, undef, undef, undef, undef, undef, undef, undef, undef, undef, undef, undef, undef, undef, undef, undef, undef, undef]
def X_q167 (Qv : Post) (a0 a1 : Value) (h : Hp) : Prop :=
  oBin .geq a1 (Value.int .i64 1) h fun t6 h1 =>
  oGuard t6 true (fun K => K a1 h1) h1 fun t8 h2 =>
  oGuard t6 true (fun K => oBin .leq t8 (Value.int .i64 5) h2 K) h2 fun t9 h3 =>
  oPick t6 t9 (Value.bool false) h3 fun t10 h4 =>
  oGuard t10 true (fun K => K a0 h4) h4 fun t12 h5 =>
  oGuard t10 true (fun K => oBin .geq t12 (Value.int .i64 1) h5 K) h5 fun t13 h6 =>
  oPick t10 t13 (Value.bool false) h6 fun t14 h7 =>
  oGuard t14 true (fun K => K a0 h7) h7 fun t16 h8 =>
  oGuard t14 true (fun K => K a1 h8) h8 fun t17 h9 =>
  oGuard t14 true (fun K => oBin .leq t16 t17 h9 K) h9 fun t18 h10 =>
  oPick t14 t18 (Value.bool false) h10 fun t19 h11 =>
  Qv .ret (ul (E0_q167 a0 a1) [(4, t19), (5, a1), (6, t6), (7, t6), (8, t8), (9, t9), (10, t10), (11, t10), (12, t12), (13, t13), (14, t14), (15, t14), (16, t16), (17, t17), (18, t18), (19, t19)]) h11
theorem ga_q167 (Qv : Post) (a0 a1 : Value) (h : Hp) : aw Try.prog O_q167 (bodyC Try.f25) Qv (E0_q167 a0 a1) h = X_q167 Qv a0 a1 h := by kernel_rfl
theorem gb_q167 (a0 a1 : Value) (h : Hp) (K : Kont) : X_q167 (qTop Try.prog Try.f25 K) a0 a1 h = G_q167 a0 a1 h K := by kernel_rfl
theorem gc_q167 (a0 a1 : Value) (h : Hp) (K : Kont) : abody Try.prog O_q167 Try.f25 (bodyC Try.f25) [a0, a1] h K = aw Try.prog O_q167 (bodyC Try.f25) (qTop Try.prog Try.f25 K) (E0_q167 a0 a1) h := by kernel_rfl
theorem eq_q167 (a0 a1 : Value) (h : Hp) (K : Kont) : abody Try.prog O_q167 Try.f25 (bodyC Try.f25) [a0, a1] h K = G_q167 a0 a1 h K := (gc_q167 a0 a1 h K).trans ((ga_q167 _ a0 a1 h).trans (gb_q167 a0 a1 h K))
theorem ok_q167 {a0 a1 : Value} {h : Hp} {K : Kont} (hk : G_q167 a0 a1 h K) : C_q167 [a0, a1] h K := ac_of_body prog_mixed (fn := Try.f25) Try.func25 (c := bodyC Try.f25) (by kernel_rfl) ((eq_q167 a0 a1 h K).mpr hk)
def O_q162 : Od := []
def G_q162 (h : Hp) (K : Kont) : Prop :=
  C_q171 [(Value.int .i64 2), (Value.int .i64 3)] h fun t10 h1 =>
  oExtract t10 0 h1 fun t11 h2 =>
  oExtract t10 1 h2 fun t12 h3 =>
  C_q82 [t11, (Value.int .u64 0), (Value.int .i64 0)] h3 fun t15 h4 =>
  oExtract t15 0 h4 fun t16 h5 =>
  oExtract t15 1 h5 fun t17 h6 =>
  C_q57 [t11, t16, (Value.int .i64 2), (Value.slice none 0 0)] h6 fun t21 h7 =>
  oExtract t21 0 h7 fun t22 h8 =>
  oExtract t21 1 h8 fun t23 h9 =>
  C_q57 [t11, t16, (Value.int .i64 3), (Value.slice none 0 0)] h9 fun t27 h10 =>
  oExtract t27 0 h10 fun t28 h11 =>
  oExtract t27 1 h11 fun t29 h12 =>
  oBin .eql t12 (Value.int .i64 0) h12 fun t31 h13 =>
  oGuard t31 true (fun K => K t17 h13) h13 fun t33 h14 =>
  oGuard t31 true (fun K => oBin .eql t33 (Value.int .i64 0) h14 K) h14 fun t34 h15 =>
  oPick t31 t34 (Value.bool false) h15 fun t35 h16 =>
  oGuard t35 true (fun K => K t16 h16) h16 fun t37 h17 =>
  oGuard t35 true (fun K => oBin .eql t37 (Value.int .u64 10) h17 K) h17 fun t38 h18 =>
  oPick t35 t38 (Value.bool false) h18 fun t39 h19 =>
  oGuard t39 true (fun K => K t23 h19) h19 fun t41 h20 =>
  oGuard t39 true (fun K => oNot t41 h20 K) h20 fun t42 h21 =>
  oPick t39 t42 (Value.bool false) h21 fun t43 h22 =>
  oGuard t43 true (fun K => K t29 h22) h22 fun t45 h23 =>
  oPick t43 t45 (Value.bool false) h23 fun t46 h24 =>
  oGuard t46 true (fun K => K t11 h24) h24 fun t48 h25 =>
  oGuard t46 true (fun K => C_q83 [t48] h25 K) h25 fun t49 h26 =>
  oGuard t46 true (fun K => oBin .eql t49 (Value.int .i64 2) h26 K) h26 fun t50 h27 =>
  oPick t46 t50 (Value.bool false) h27 fun t51 h28 =>
  K t51 h28
def E0_q162 : List Value := [undef, undef, undef, undef, undef, undef, undef, undef, undef, undef, undef, undef, undef, undef, undef, undef, undef, undef, undef, undef, undef, undef, undef, undef, undef, undef, undef, undef, undef, undef, undef, undef, undef, undef, undef, undef, undef, undef, undef, undef, undef, undef, undef, undef, undef, undef, undef, undef, undef, undef, undef, undef]
def X_q162 (Qv : Post) (h : Hp) : Prop :=
  C_q171 [(Value.int .i64 2), (Value.int .i64 3)] h fun t10 h1 =>
  oExtract t10 0 h1 fun t11 h2 =>
  oExtract t10 1 h2 fun t12 h3 =>
  C_q82 [t11, (Value.int .u64 0), (Value.int .i64 0)] h3 fun t15 h4 =>
  oExtract t15 0 h4 fun t16 h5 =>
  oExtract t15 1 h5 fun t17 h6 =>
  C_q57 [t11, t16, (Value.int .i64 2), (Value.slice none 0 0)] h6 fun t21 h7 =>
  oExtract t21 0 h7 fun t22 h8 =>
  oExtract t21 1 h8 fun t23 h9 =>
  C_q57 [t11, t16, (Value.int .i64 3), (Value.slice none 0 0)] h9 fun t27 h10 =>
  oExtract t27 0 h10 fun t28 h11 =>
  oExtract t27 1 h11 fun t29 h12 =>
  oBin .eql t12 (Value.int .i64 0) h12 fun t31 h13 =>
  oGuard t31 true (fun K => K t17 h13) h13 fun t33 h14 =>
  oGuard t31 true (fun K => oBin .eql t33 (Value.int .i64 0) h14 K) h14 fun t34 h15 =>
  oPick t31 t34 (Value.bool false) h15 fun t35 h16 =>
  oGuard t35 true (fun K => K t16 h16) h16 fun t37 h17 =>
  oGuard t35 true (fun K => oBin .eql t37 (Value.int .u64 10) h17 K) h17 fun t38 h18 =>
  oPick t35 t38 (Value.bool false) h18 fun t39 h19 =>
  oGuard t39 true (fun K => K t23 h19) h19 fun t41 h20 =>
  oGuard t39 true (fun K => oNot t41 h20 K) h20 fun t42 h21 =>
  oPick t39 t42 (Value.bool false) h21 fun t43 h22 =>
  oGuard t43 true (fun K => K t29 h22) h22 fun t45 h23 =>
  oPick t43 t45 (Value.bool false) h23 fun t46 h24 =>
  oGuard t46 true (fun K => K t11 h24) h24 fun t48 h25 =>
  oGuard t46 true (fun K => C_q83 [t48] h25 K) h25 fun t49 h26 =>
  oGuard t46 true (fun K => oBin .eql t49 (Value.int .i64 2) h26 K) h26 fun t50 h27 =>
  oPick t46 t50 (Value.bool false) h27 fun t51 h28 =>
  Qv .ret (ul (E0_q162) [(0, t51), (1, t11), (2, t12), (3, t16), (4, t17), (5, t22), (6, t23), (7, t28), (8, t29), (9, t10), (10, t10), (11, t11), (12, t12), (13, t15), (14, t11), (15, t15), (16, t16), (17, t17), (18, t21), (19, t11), (20, t16), (21, t21), (22, t22), (23, t23), (24, t27), (25, t11), (26, t16), (27, t27), (28, t28), (29, t29), (30, t12), (31, t31), (32, t31), (33, t33), (34, t34), (35, t35), (36, t35), (37, t37), (38, t38), (39, t39), (40, t39), (41, t41), (42, t42), (43, t43), (44, t43), (45, t45), (46, t46), (47, t46), (48, t48), (49, t49), (50, t50), (51, t51)]) h28
theorem ga_q162 (Qv : Post) (h : Hp) : aw Try.prog O_q162 (bodyC Try.f26) Qv (E0_q162) h = X_q162 Qv  h := by kernel_rfl
theorem gb_q162 (h : Hp) (K : Kont) : X_q162 (qTop Try.prog Try.f26 K)  h = G_q162  h K := by kernel_rfl
theorem gc_q162 (h : Hp) (K : Kont) : abody Try.prog O_q162 Try.f26 (bodyC Try.f26) [] h K = aw Try.prog O_q162 (bodyC Try.f26) (qTop Try.prog Try.f26 K) (E0_q162) h := by kernel_rfl
theorem eq_q162 (h : Hp) (K : Kont) : abody Try.prog O_q162 Try.f26 (bodyC Try.f26) [] h K = G_q162  h K := (gc_q162  h K).trans ((ga_q162 _  h).trans (gb_q162  h K))
theorem ok_q162 {h : Hp} {K : Kont} (hk : G_q162  h K) : C_q162 [] h K := ac_of_body prog_mixed (fn := Try.f26) Try.func26 (c := bodyC Try.f26) (by kernel_rfl) ((eq_q162  h K).mpr hk)
def O_q171 : Od := []
noncomputable def K_q171_0 : Code := (cB (cB (bodyC Try.f27)))
def G_q171 (a0 a1 : Value) (h : Hp) (K : Kont) : Prop :=
  oBin .lss a1 (Value.int .i64 1) h fun t7 h1 =>
  oGuard t7 false (fun K => K a1 h1) h1 fun t9 h2 =>
  oGuard t7 false (fun K => oBin .gtr t9 (Value.int .i64 5) h2 K) h2 fun t10 h3 =>
  oPick t7 (Value.bool true) t10 h3 fun t11 h4 =>
  oGuard t11 false (fun K => K a0 h4) h4 fun t13 h5 =>
  oGuard t11 false (fun K => oBin .lss t13 (Value.int .i64 1) h5 K) h5 fun t14 h6 =>
  oPick t11 (Value.bool true) t14 h6 fun t15 h7 =>
  oGuard t15 false (fun K => K a0 h7) h7 fun t17 h8 =>
  oGuard t15 false (fun K => K a1 h8) h8 fun t18 h9 =>
  oGuard t15 false (fun K => oBin .gtr t17 t18 h9 K) h9 fun t19 h10 =>
  oPick t15 (Value.bool true) t19 h10 fun t20 h11 =>
  oIf t20
  (K (.tuple #[(Value.pointer none), (Value.int .i64 1)]) h11)
  (oBuild #[.int .i64 0, .int .i64 0, .int .i64 0, .int .u64 0, .int .i64 0, .int .i64 0, .map none, .map none] [(0, 1, a0), (1, 1, a1)] h11 fun t23 h12 =>
  oBox t23 h12 fun t24 h13 =>
  K (.tuple #[t24, (Value.int .i64 0)]) h13)
def E0_q171 (a0 a1 : Value) : List Value := [a0, a1, undef, undef, undef, undef, undef, undef, undef, undef, undef, undef, undef, undef, undef, undef, undef, undef, undef, undef, undef, undef, undef, undef, undef]
def X_q171 (Qv : Post) (a0 a1 : Value) (h : Hp) : Prop :=
  oBin .lss a1 (Value.int .i64 1) h fun t7 h1 =>
  oGuard t7 false (fun K => K a1 h1) h1 fun t9 h2 =>
  oGuard t7 false (fun K => oBin .gtr t9 (Value.int .i64 5) h2 K) h2 fun t10 h3 =>
  oPick t7 (Value.bool true) t10 h3 fun t11 h4 =>
  oGuard t11 false (fun K => K a0 h4) h4 fun t13 h5 =>
  oGuard t11 false (fun K => oBin .lss t13 (Value.int .i64 1) h5 K) h5 fun t14 h6 =>
  oPick t11 (Value.bool true) t14 h6 fun t15 h7 =>
  oGuard t15 false (fun K => K a0 h7) h7 fun t17 h8 =>
  oGuard t15 false (fun K => K a1 h8) h8 fun t18 h9 =>
  oGuard t15 false (fun K => oBin .gtr t17 t18 h9 K) h9 fun t19 h10 =>
  oPick t15 (Value.bool true) t19 h10 fun t20 h11 =>
  oIf t20
  ((qSeq (aw Try.prog O_q171 K_q171_0 Qv) Qv) .ret (ul (E0_q171 a0 a1) [(4, (Value.pointer none)), (5, (Value.int .i64 1)), (6, a1), (7, t7), (8, t7), (9, t9), (10, t10), (11, t11), (12, t11), (13, t13), (14, t14), (15, t15), (16, t15), (17, t17), (18, t18), (19, t19), (20, t20)]) h11)
  (oBuild #[.int .i64 0, .int .i64 0, .int .i64 0, .int .u64 0, .int .i64 0, .int .i64 0, .map none, .map none] [(0, 1, a0), (1, 1, a1)] h11 fun t23 h12 =>
  oBox t23 h12 fun t24 h13 =>
  Qv .ret (ul (E0_q171 a0 a1) [(4, t24), (5, (Value.int .i64 0)), (6, a1), (7, t7), (8, t7), (9, t9), (10, t10), (11, t11), (12, t11), (13, t13), (14, t14), (15, t15), (16, t15), (17, t17), (18, t18), (19, t19), (20, t20), (21, a0), (22, a1), (23, t23), (24, t24)]) h13)
theorem ga_q171 (Qv : Post) (a0 a1 : Value) (h : Hp) : aw Try.prog O_q171 (bodyC Try.f27) Qv (E0_q171 a0 a1) h = X_q171 Qv a0 a1 h := by kernel_rfl
theorem gb_q171 (a0 a1 : Value) (h : Hp) (K : Kont) : X_q171 (qTop Try.prog Try.f27 K) a0 a1 h = G_q171 a0 a1 h K := by kernel_rfl
theorem gc_q171 (a0 a1 : Value) (h : Hp) (K : Kont) : abody Try.prog O_q171 Try.f27 (bodyC Try.f27) [a0, a1] h K = aw Try.prog O_q171 (bodyC Try.f27) (qTop Try.prog Try.f27 K) (E0_q171 a0 a1) h := by kernel_rfl
theorem eq_q171 (a0 a1 : Value) (h : Hp) (K : Kont) : abody Try.prog O_q171 Try.f27 (bodyC Try.f27) [a0, a1] h K = G_q171 a0 a1 h K := (gc_q171 a0 a1 h K).trans ((ga_q171 _ a0 a1 h).trans (gb_q171 a0 a1 h K))
theorem ok_q171 {a0 a1 : Value} {h : Hp} {K : Kont} (hk : G_q171 a0 a1 h K) : C_q171 [a0, a1] h K := ac_of_body prog_mixed (fn := Try.f27) Try.func27 (c := bodyC Try.f27) (by kernel_rfl) ((eq_q171 a0 a1 h K).mpr hk)
end Go.Proofs.Ytdolepapmpcpiaa

