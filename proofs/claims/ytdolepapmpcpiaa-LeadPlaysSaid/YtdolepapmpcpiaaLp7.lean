/- Lemmas for the theorem of the last text; no condition. -/
import Derived.Test.YtdolepapmpcpiaaLp0
import Derived.Test.YtdolepapmpcpiaaLp1
import Derived.Test.YtdolepapmpcpiaaLp2
import Derived.Test.YtdolepapmpcpiaaLp3
import Derived.Test.YtdolepapmpcpiaaLp4
import Derived.Test.YtdolepapmpcpiaaLp5
import Derived.Test.YtdolepapmpcpiaaLp6
import Derived.Test.YtdolepapmpcpiaaProg
namespace Go.Proofs.Ytdolepapmpcpiaa
open Go
set_option linter.unusedSectionVars false
variable [Base]
set_option linter.unusedVariables false
set_option maxRecDepth 100000
def O_q11 : Od := []
noncomputable def K_q11_0 : Code := (cI (cB (cA (cB (bodyC Try.f78)))))
noncomputable def K_q11_1 : Code := (cB (cB (bodyC Try.f78)))
def Q_q11_0 (K : Kont) : Post := qSeq (aw Try.prog O_q11 K_q11_1 (qTop Try.prog Try.f78 K)) (qTop Try.prog Try.f78 K)
def Q_q11_1 (K : Kont) : Post := qBlk 0 (Q_q11_0 K)
def E_q11_1 (v0 v1 v7 v8 : Value) (d : Nat → Value) : List Value := [v0, v1, d 2, d 3, d 4, d 5, d 6, v7, v8, d 9, d 10, d 11, d 12, d 13, d 14, d 15, d 16, d 17, d 18]
def G_q11_1 (K : Kont) (v0 v1 v7 v8 : Value) (d : Nat → Value) (h : Hp) : Prop := aw Try.prog O_q11 K_q11_0 (Q_q11_1 K) (E_q11_1 v0 v1 v7 v8 d) h
def Q_q11_2 (K : Kont) (s0 : Self) : Post := qSeq s0 (Q_q11_1 K)
noncomputable def K_q11_2 : Code := (cI (cI (cB (cA (cB (bodyC Try.f78))))))
noncomputable def K_q11_3 : Code := (cB (cB (cB (cI (cI (cB (cA (cB (bodyC Try.f78)))))))))
noncomputable def K_q11_4 : Code := (cB (cB (cI (cI (cB (cA (cB (bodyC Try.f78))))))))
def G_q11 (a0 a1 : Value) (h : Hp) (K : Kont) : Prop :=
  oLen 0 a0 h fun t7 h1 =>
  G_q11_1 K a0 a1 t7 (Value.int .i64 0) (ud [(4, (Value.int .i64 0)), (6, a0)] dz) h1
def E0_q11 (a0 a1 : Value) : List Value := [a0, a1, undef, undef, undef, undef, undef, undef, undef, undef, undef, undef, undef, undef, undef, undef, undef, undef, undef]
def X_q11 (Qv : Post) (a0 a1 : Value) (h : Hp) : Prop :=
  oLen 0 a0 h fun t7 h1 =>
  aw Try.prog O_q11 K_q11_0 (qBlk 0 (qSeq (aw Try.prog O_q11 K_q11_1 Qv) Qv)) (ul (E0_q11 a0 a1) [(4, (Value.int .i64 0)), (6, a0), (7, t7), (8, (Value.int .i64 0))]) h1
theorem ga_q11 (Qv : Post) (a0 a1 : Value) (h : Hp) : aw Try.prog O_q11 (bodyC Try.f78) Qv (E0_q11 a0 a1) h = X_q11 Qv a0 a1 h := by kernel_rfl
theorem gb_q11 (a0 a1 : Value) (h : Hp) (K : Kont) : X_q11 (qTop Try.prog Try.f78 K) a0 a1 h = G_q11 a0 a1 h K := by kernel_rfl
theorem gc_q11 (a0 a1 : Value) (h : Hp) (K : Kont) : abody Try.prog O_q11 Try.f78 (bodyC Try.f78) [a0, a1] h K = aw Try.prog O_q11 (bodyC Try.f78) (qTop Try.prog Try.f78 K) (E0_q11 a0 a1) h := by kernel_rfl
theorem eq_q11 (a0 a1 : Value) (h : Hp) (K : Kont) : abody Try.prog O_q11 Try.f78 (bodyC Try.f78) [a0, a1] h K = G_q11 a0 a1 h K := (gc_q11 a0 a1 h K).trans ((ga_q11 _ a0 a1 h).trans (gb_q11 a0 a1 h K))
theorem ok_q11 {a0 a1 : Value} {h : Hp} {K : Kont} (hk : G_q11 a0 a1 h K) : C_q11 [a0, a1] h K := ac_of_body prog_mixed (fn := Try.f78) Try.func78 (c := bodyC Try.f78) (by kernel_rfl) ((eq_q11 a0 a1 h K).mpr hk)
def B_q11_1 (K : Kont) (s0 : Self) (v0 v1 v7 v8 : Value) (d : Nat → Value) (h : Hp) : Prop :=
  oBin .lss v8 v7 h fun t9 h1 =>
  oIf t9
  (oIdxS 6 v0 v8 h1 fun t14 h2 =>
  oLdN 6 t14 h2 fun t15 h3 =>
  oCallV Try.prog v1 [t15] h3 fun t16 h4 =>
  oIf t16
  (K v8 h4)
  (oBin .add v8 (Value.int .i64 1) h4 fun t18 h5 =>
  s0 (E_q11_1 v0 v1 v7 t18 (ud [(5, v8), (9, t9), (10, v8), (11, v1), (12, v0), (13, v8), (14, t14), (15, t15), (16, t16), (18, t18)] d)) h5))
  (K (Value.int .i64 (-1)) h1)
def X_q11_1 (Qv : Post) (v0 v1 v7 v8 : Value) (d : Nat → Value) (h : Hp) : Prop :=
  oBin .lss v8 v7 h fun t9 h1 =>
  oIf t9
  (oIdxS 6 v0 v8 h1 fun t14 h2 =>
  oLdN 6 t14 h2 fun t15 h3 =>
  oCallV Try.prog v1 [t15] h3 fun t16 h4 =>
  oIf t16
  ((qBlk 1 (qSeq (aw Try.prog O_q11 K_q11_3 Qv) Qv)) .ret (ul (E_q11_1 v0 v1 v7 v8 d) [(4, v8), (5, v8), (9, t9), (10, v8), (11, v1), (12, v0), (13, v8), (14, t14), (15, t15), (16, t16), (17, v8)]) h4)
  (oBin .add v8 (Value.int .i64 1) h4 fun t18 h5 =>
  Qv .normal (ul (E_q11_1 v0 v1 v7 v8 d) [(5, v8), (8, t18), (9, t9), (10, v8), (11, v1), (12, v0), (13, v8), (14, t14), (15, t15), (16, t16), (18, t18)]) h5))
  ((qSeq (aw Try.prog O_q11 K_q11_4 Qv) Qv) (.exit 0) (ul (E_q11_1 v0 v1 v7 v8 d) [(9, t9)]) h1)
theorem ga_q11_1 (Qv : Post) (v0 v1 v7 v8 : Value) (d : Nat → Value) (h : Hp) : aw Try.prog O_q11 K_q11_2 Qv (E_q11_1 v0 v1 v7 v8 d) h = X_q11_1 Qv v0 v1 v7 v8 d h := by kernel_rfl
theorem gb_q11_1 (K : Kont) (s0 : Self) (v0 v1 v7 v8 : Value) (d : Nat → Value) (h : Hp) : X_q11_1 (Q_q11_2 K s0) v0 v1 v7 v8 d h = B_q11_1 K s0 v0 v1 v7 v8 d h := by kernel_rfl
theorem beq_q11_1 (K : Kont) (s0 : Self) (v0 v1 v7 v8 : Value) (d : Nat → Value) (h : Hp) : aw Try.prog O_q11 K_q11_2 (Q_q11_2 K s0) (E_q11_1 v0 v1 v7 v8 d) h = B_q11_1 K s0 v0 v1 v7 v8 d h := (ga_q11_1 _ v0 v1 v7 v8 d h).trans (gb_q11_1 K s0 v0 v1 v7 v8 d h)
theorem rule_q11_1 {K : Kont} {v0 v1 v7 : Value} (Inv : Value → Hp → Prop) (μ : Value → Hp → Nat)
    (step : ∀ (s0 : Self) (v8 : Value) (d : Nat → Value) (h : Hp), Inv v8 h → (∀ (v8' : Value) (d' : Nat → Value) (h' : Hp), Inv v8' h' → μ v8' h' < μ v8 h → s0 (E_q11_1 v0 v1 v7 v8' d') h') → B_q11_1 K s0 v0 v1 v7 v8 d h) (v8 : Value) (d : Nat → Value) (h : Hp) (hi : Inv v8 h) : G_q11_1 K v0 v1 v7 v8 d h :=
  oLoop_rule (α := Value × (Nat → Value)) (fun x => E_q11_1 v0 v1 v7 x.1 x.2) (fun x h => Inv x.1 h) (fun x h => μ x.1 h)
    (fun self x h hx hs => (beq_q11_1 K self v0 v1 v7 x.1 x.2 h).mpr (step self x.1 x.2 h hx (fun v8' d' h' h1 h2 => hs ⟨v8', d'⟩ h' h1 h2))) ⟨v8, d⟩ h hi
def O_q105 : Od := []
def G_q105 (a0 : Value) (h : Hp) (K : Kont) : Prop :=
  oBin .geq a0 (Value.int .i64 1) h fun t4 h1 =>
  oGuard t4 true (fun K => K a0 h1) h1 fun t6 h2 =>
  oGuard t4 true (fun K => oBin .leq t6 (Value.int .i64 63) h2 K) h2 fun t7 h3 =>
  oPick t4 t7 (Value.bool false) h3 fun t8 h4 =>
  K t8 h4
def E0_q105 (a0 : Value) : List Value := [a0, undef, undef, undef, undef, undef, undef, undef, undef]
def X_q105 (Qv : Post) (a0 : Value) (h : Hp) : Prop :=
  oBin .geq a0 (Value.int .i64 1) h fun t4 h1 =>
  oGuard t4 true (fun K => K a0 h1) h1 fun t6 h2 =>
  oGuard t4 true (fun K => oBin .leq t6 (Value.int .i64 63) h2 K) h2 fun t7 h3 =>
  oPick t4 t7 (Value.bool false) h3 fun t8 h4 =>
  Qv .ret (ul (E0_q105 a0) [(2, t8), (3, a0), (4, t4), (5, t4), (6, t6), (7, t7), (8, t8)]) h4
theorem ga_q105 (Qv : Post) (a0 : Value) (h : Hp) : aw Try.prog O_q105 (bodyC Try.f79) Qv (E0_q105 a0) h = X_q105 Qv a0 h := by kernel_rfl
theorem gb_q105 (a0 : Value) (h : Hp) (K : Kont) : X_q105 (qTop Try.prog Try.f79 K) a0 h = G_q105 a0 h K := by kernel_rfl
theorem gc_q105 (a0 : Value) (h : Hp) (K : Kont) : abody Try.prog O_q105 Try.f79 (bodyC Try.f79) [a0] h K = aw Try.prog O_q105 (bodyC Try.f79) (qTop Try.prog Try.f79 K) (E0_q105 a0) h := by kernel_rfl
theorem eq_q105 (a0 : Value) (h : Hp) (K : Kont) : abody Try.prog O_q105 Try.f79 (bodyC Try.f79) [a0] h K = G_q105 a0 h K := (gc_q105 a0 h K).trans ((ga_q105 _ a0 h).trans (gb_q105 a0 h K))
theorem ok_q105 {a0 : Value} {h : Hp} {K : Kont} (hk : G_q105 a0 h K) : C_q105 [a0] h K := ac_of_body prog_mixed (fn := Try.f79) Try.func79 (c := bodyC Try.f79) (by kernel_rfl) ((eq_q105 a0 h K).mpr hk)
def O_q120 : Od := []
def G_q120 (a0 : Value) (h : Hp) (K : Kont) : Prop :=
  oBin .andNot a0 (Value.int .u64 1) h fun t4 h1 =>
  C_q31 [t4] h1 fun t5 h2 =>
  K t5 h2
def E0_q120 (a0 : Value) : List Value := [a0, undef, undef, undef, undef, undef]
def X_q120 (Qv : Post) (a0 : Value) (h : Hp) : Prop :=
  oBin .andNot a0 (Value.int .u64 1) h fun t4 h1 =>
  C_q31 [t4] h1 fun t5 h2 =>
  Qv .ret (ul (E0_q120 a0) [(2, t5), (3, a0), (4, t4), (5, t5)]) h2
theorem ga_q120 (Qv : Post) (a0 : Value) (h : Hp) : aw Try.prog O_q120 (bodyC Try.f81) Qv (E0_q120 a0) h = X_q120 Qv a0 h := by kernel_rfl
theorem gb_q120 (a0 : Value) (h : Hp) (K : Kont) : X_q120 (qTop Try.prog Try.f81 K) a0 h = G_q120 a0 h K := by kernel_rfl
theorem gc_q120 (a0 : Value) (h : Hp) (K : Kont) : abody Try.prog O_q120 Try.f81 (bodyC Try.f81) [a0] h K = aw Try.prog O_q120 (bodyC Try.f81) (qTop Try.prog Try.f81 K) (E0_q120 a0) h := by kernel_rfl
theorem eq_q120 (a0 : Value) (h : Hp) (K : Kont) : abody Try.prog O_q120 Try.f81 (bodyC Try.f81) [a0] h K = G_q120 a0 h K := (gc_q120 a0 h K).trans ((ga_q120 _ a0 h).trans (gb_q120 a0 h K))
theorem ok_q120 {a0 : Value} {h : Hp} {K : Kont} (hk : G_q120 a0 h K) : C_q120 [a0] h K := ac_of_body prog_mixed (fn := Try.f81) Try.func81 (c := bodyC Try.f81) (by kernel_rfl) ((eq_q120 a0 h K).mpr hk)
def O_q103 : Od := []
noncomputable def K_q103_0 : Code := (cB (cB (bodyC Try.f82)))
def G_q103 (a0 : Value) (h : Hp) (K : Kont) : Prop :=
  oBin .lss a0 (Value.int .i64 1) h fun t4 h1 =>
  oIf t4
  (K (Value.int .i64 0) h1)
  (oBin .quo a0 (Value.int .i64 2) h1 fun t6 h2 =>
  oBin .add t6 (Value.int .i64 1) h2 fun t7 h3 =>
  K t7 h3)
def E0_q103 (a0 : Value) : List Value := [a0, undef, undef, undef, undef, undef, undef, undef]
def X_q103 (Qv : Post) (a0 : Value) (h : Hp) : Prop :=
  oBin .lss a0 (Value.int .i64 1) h fun t4 h1 =>
  oIf t4
  ((qSeq (aw Try.prog O_q103 K_q103_0 Qv) Qv) .ret (ul (E0_q103 a0) [(2, (Value.int .i64 0)), (3, a0), (4, t4)]) h1)
  (oBin .quo a0 (Value.int .i64 2) h1 fun t6 h2 =>
  oBin .add t6 (Value.int .i64 1) h2 fun t7 h3 =>
  Qv .ret (ul (E0_q103 a0) [(2, t7), (3, a0), (4, t4), (5, a0), (6, t6), (7, t7)]) h3)
theorem ga_q103 (Qv : Post) (a0 : Value) (h : Hp) : aw Try.prog O_q103 (bodyC Try.f82) Qv (E0_q103 a0) h = X_q103 Qv a0 h := by kernel_rfl
theorem gb_q103 (a0 : Value) (h : Hp) (K : Kont) : X_q103 (qTop Try.prog Try.f82 K) a0 h = G_q103 a0 h K := by kernel_rfl
theorem gc_q103 (a0 : Value) (h : Hp) (K : Kont) : abody Try.prog O_q103 Try.f82 (bodyC Try.f82) [a0] h K = aw Try.prog O_q103 (bodyC Try.f82) (qTop Try.prog Try.f82 K) (E0_q103 a0) h := by kernel_rfl
theorem eq_q103 (a0 : Value) (h : Hp) (K : Kont) : abody Try.prog O_q103 Try.f82 (bodyC Try.f82) [a0] h K = G_q103 a0 h K := (gc_q103 a0 h K).trans ((ga_q103 _ a0 h).trans (gb_q103 a0 h K))
theorem ok_q103 {a0 : Value} {h : Hp} {K : Kont} (hk : G_q103 a0 h K) : C_q103 [a0] h K := ac_of_body prog_mixed (fn := Try.f82) Try.func82 (c := bodyC Try.f82) (by kernel_rfl) ((eq_q103 a0 h K).mpr hk)
def O_q110 : Od := []
noncomputable def K_q110_0 : Code := (cI (cB (cA (cB (cB (bodyC Try.f83))))))
noncomputable def K_q110_1 : Code := (cB (cB (cB (bodyC Try.f83))))
def Q_q110_0 (K : Kont) : Post := qSeq (aw Try.prog O_q110 K_q110_1 (qTop Try.prog Try.f83 K)) (qTop Try.prog Try.f83 K)
def Q_q110_1 (K : Kont) : Post := qBlk 0 (Q_q110_0 K)
def E_q110_1 (v0 v3 v11 v12 v13 : Value) (d : Nat → Value) : List Value := [v0, d 1, d 2, v3, d 4, d 5, d 6, d 7, d 8, d 9, d 10, v11, v12, v13, d 14, d 15, d 16, d 17, d 18, d 19, d 20, d 21, d 22, d 23, d 24, d 25, d 26, d 27]
def G_q110_1 (K : Kont) (v0 v3 v11 v12 v13 : Value) (d : Nat → Value) (h : Hp) : Prop := aw Try.prog O_q110 K_q110_0 (Q_q110_1 K) (E_q110_1 v0 v3 v11 v12 v13 d) h
def Q_q110_2 (K : Kont) (s0 : Self) : Post := qSeq s0 (Q_q110_1 K)
noncomputable def K_q110_2 : Code := (cI (cI (cB (cA (cB (cB (bodyC Try.f83)))))))
noncomputable def K_q110_3 : Code := (cB (cB (cI (cI (cB (cA (cB (cB (bodyC Try.f83)))))))))
def G_q110 (a0 : Value) (h : Hp) (K : Kont) : Prop :=
  oNilCheck a0 h fun t7 h1 =>
  oFieldAddr 6 t7 h1 fun t8 h2 =>
  oLd1 t8 h2 fun t9 h3 =>
  C_q4 [t9] h3 fun t10 h4 =>
  C_q61 [t10] h4 fun t11 h5 =>
  oLen 0 t11 h5 fun t12 h6 =>
  G_q110_1 K a0 (Value.slice none 0 0) t11 t12 (Value.int .i64 0) (ud [(2, (Value.slice none 0 0)), (6, a0), (7, t7), (8, t8), (9, t9), (10, t10)] dz) h6
def E0_q110 (a0 : Value) : List Value := [a0, undef, undef, undef, undef, undef, undef, undef, undef, undef, undef, undef, undef, undef, undef, undef, undef, undef, undef, undef, undef, undef, undef, undef, undef, undef, undef, undef]
def X_q110 (Qv : Post) (a0 : Value) (h : Hp) : Prop :=
  oNilCheck a0 h fun t7 h1 =>
  oFieldAddr 6 t7 h1 fun t8 h2 =>
  oLd1 t8 h2 fun t9 h3 =>
  C_q4 [t9] h3 fun t10 h4 =>
  C_q61 [t10] h4 fun t11 h5 =>
  oLen 0 t11 h5 fun t12 h6 =>
  aw Try.prog O_q110 K_q110_0 (qBlk 0 (qSeq (aw Try.prog O_q110 K_q110_1 Qv) Qv)) (ul (E0_q110 a0) [(2, (Value.slice none 0 0)), (3, (Value.slice none 0 0)), (6, a0), (7, t7), (8, t8), (9, t9), (10, t10), (11, t11), (12, t12), (13, (Value.int .i64 0))]) h6
theorem ga_q110 (Qv : Post) (a0 : Value) (h : Hp) : aw Try.prog O_q110 (bodyC Try.f83) Qv (E0_q110 a0) h = X_q110 Qv a0 h := by kernel_rfl
theorem gb_q110 (a0 : Value) (h : Hp) (K : Kont) : X_q110 (qTop Try.prog Try.f83 K) a0 h = G_q110 a0 h K := by kernel_rfl
theorem gc_q110 (a0 : Value) (h : Hp) (K : Kont) : abody Try.prog O_q110 Try.f83 (bodyC Try.f83) [a0] h K = aw Try.prog O_q110 (bodyC Try.f83) (qTop Try.prog Try.f83 K) (E0_q110 a0) h := by kernel_rfl
theorem eq_q110 (a0 : Value) (h : Hp) (K : Kont) : abody Try.prog O_q110 Try.f83 (bodyC Try.f83) [a0] h K = G_q110 a0 h K := (gc_q110 a0 h K).trans ((ga_q110 _ a0 h).trans (gb_q110 a0 h K))
theorem ok_q110 {a0 : Value} {h : Hp} {K : Kont} (hk : G_q110 a0 h K) : C_q110 [a0] h K := ac_of_body prog_mixed (fn := Try.f83) Try.func83 (c := bodyC Try.f83) (by kernel_rfl) ((eq_q110 a0 h K).mpr hk)
def B_q110_1 (K : Kont) (s0 : Self) (v0 v3 v11 v12 v13 : Value) (d : Nat → Value) (h : Hp) : Prop :=
  oBin .lss v13 v12 h fun t14 h1 =>
  oIf t14
  (oIdxS 1 v11 v13 h1 fun t15 h2 =>
  oLd1 t15 h2 fun t16 h3 =>
  oNilCheck v0 h3 fun t19 h4 =>
  oFieldAddr 6 t19 h4 fun t20 h5 =>
  oLd1 t20 h5 fun t21 h6 =>
  oLookup (.int .i64) (.slice none 0 0) t21 t16 false h6 fun t23 h7 =>
  oBuildSlice #[.slice none 0 0] 1 [(0 * 1, 1, t23)] h7 fun t24 h8 =>
  oAppend 1 24 #[.slice none 0 0] v3 t24 h8 fun t25 h9 =>
  oBin .add v13 (Value.int .i64 1) h9 fun t26 h10 =>
  s0 (E_q110_1 v0 t25 v11 v12 t26 (ud [(5, t16), (14, t14), (15, t15), (16, t16), (17, v3), (18, v0), (19, t19), (20, t20), (21, t21), (22, t16), (23, t23), (24, t24), (25, t25), (26, t26)] d)) h10)
  (K v3 h1)
def X_q110_1 (Qv : Post) (v0 v3 v11 v12 v13 : Value) (d : Nat → Value) (h : Hp) : Prop :=
  oBin .lss v13 v12 h fun t14 h1 =>
  oIf t14
  (oIdxS 1 v11 v13 h1 fun t15 h2 =>
  oLd1 t15 h2 fun t16 h3 =>
  oNilCheck v0 h3 fun t19 h4 =>
  oFieldAddr 6 t19 h4 fun t20 h5 =>
  oLd1 t20 h5 fun t21 h6 =>
  oLookup (.int .i64) (.slice none 0 0) t21 t16 false h6 fun t23 h7 =>
  oBuildSlice #[.slice none 0 0] 1 [(0 * 1, 1, t23)] h7 fun t24 h8 =>
  oAppend 1 24 #[.slice none 0 0] v3 t24 h8 fun t25 h9 =>
  oBin .add v13 (Value.int .i64 1) h9 fun t26 h10 =>
  Qv .normal (ul (E_q110_1 v0 v3 v11 v12 v13 d) [(3, t25), (5, t16), (13, t26), (14, t14), (15, t15), (16, t16), (17, v3), (18, v0), (19, t19), (20, t20), (21, t21), (22, t16), (23, t23), (24, t24), (25, t25), (26, t26)]) h10)
  ((qSeq (aw Try.prog O_q110 K_q110_3 Qv) Qv) (.exit 0) (ul (E_q110_1 v0 v3 v11 v12 v13 d) [(14, t14)]) h1)
theorem ga_q110_1 (Qv : Post) (v0 v3 v11 v12 v13 : Value) (d : Nat → Value) (h : Hp) : aw Try.prog O_q110 K_q110_2 Qv (E_q110_1 v0 v3 v11 v12 v13 d) h = X_q110_1 Qv v0 v3 v11 v12 v13 d h := by kernel_rfl
theorem gb_q110_1 (K : Kont) (s0 : Self) (v0 v3 v11 v12 v13 : Value) (d : Nat → Value) (h : Hp) : X_q110_1 (Q_q110_2 K s0) v0 v3 v11 v12 v13 d h = B_q110_1 K s0 v0 v3 v11 v12 v13 d h := by kernel_rfl
theorem beq_q110_1 (K : Kont) (s0 : Self) (v0 v3 v11 v12 v13 : Value) (d : Nat → Value) (h : Hp) : aw Try.prog O_q110 K_q110_2 (Q_q110_2 K s0) (E_q110_1 v0 v3 v11 v12 v13 d) h = B_q110_1 K s0 v0 v3 v11 v12 v13 d h := (ga_q110_1 _ v0 v3 v11 v12 v13 d h).trans (gb_q110_1 K s0 v0 v3 v11 v12 v13 d h)
theorem rule_q110_1 {K : Kont} {v0 v11 v12 : Value} (Inv : Value → Value → Hp → Prop) (μ : Value → Value → Hp → Nat)
    (step : ∀ (s0 : Self) (v3 v13 : Value) (d : Nat → Value) (h : Hp), Inv v3 v13 h → (∀ (v3' : Value) (v13' : Value) (d' : Nat → Value) (h' : Hp), Inv v3' v13' h' → μ v3' v13' h' < μ v3 v13 h → s0 (E_q110_1 v0 v3' v11 v12 v13' d') h') → B_q110_1 K s0 v0 v3 v11 v12 v13 d h) (v3 v13 : Value) (d : Nat → Value) (h : Hp) (hi : Inv v3 v13 h) : G_q110_1 K v0 v3 v11 v12 v13 d h :=
  oLoop_rule (α := Value × Value × (Nat → Value)) (fun x => E_q110_1 v0 x.1 v11 v12 x.2.1 x.2.2) (fun x h => Inv x.1 x.2.1 h) (fun x h => μ x.1 x.2.1 h)
    (fun self x h hx hs => (beq_q110_1 K self v0 x.1 v11 v12 x.2.1 x.2.2 h).mpr (step self x.1 x.2.1 x.2.2 h hx (fun v3' v13' d' h' h1 h2 => hs ⟨v3', v13', d'⟩ h' h1 h2))) ⟨v3, v13, d⟩ h hi
def O_q8 : Od := []
def G_q8 (a0 a1 : Value) (h : Hp) (K : Kont) : Prop :=
  C_q11 [a0, a1] h fun t7 h1 =>
  oBin .geq t7 (Value.int .i64 0) h1 fun t8 h2 =>
  K t8 h2
def E0_q8 (a0 a1 : Value) : List Value := [a0, a1, undef, undef, undef, undef, undef, undef, undef]
def X_q8 (Qv : Post) (a0 a1 : Value) (h : Hp) : Prop :=
  C_q11 [a0, a1] h fun t7 h1 =>
  oBin .geq t7 (Value.int .i64 0) h1 fun t8 h2 =>
  Qv .ret (ul (E0_q8 a0 a1) [(4, t8), (5, a0), (6, a1), (7, t7), (8, t8)]) h2
theorem ga_q8 (Qv : Post) (a0 a1 : Value) (h : Hp) : aw Try.prog O_q8 (bodyC Try.f84) Qv (E0_q8 a0 a1) h = X_q8 Qv a0 a1 h := by kernel_rfl
theorem gb_q8 (a0 a1 : Value) (h : Hp) (K : Kont) : X_q8 (qTop Try.prog Try.f84 K) a0 a1 h = G_q8 a0 a1 h K := by kernel_rfl
theorem gc_q8 (a0 a1 : Value) (h : Hp) (K : Kont) : abody Try.prog O_q8 Try.f84 (bodyC Try.f84) [a0, a1] h K = aw Try.prog O_q8 (bodyC Try.f84) (qTop Try.prog Try.f84 K) (E0_q8 a0 a1) h := by kernel_rfl
theorem eq_q8 (a0 a1 : Value) (h : Hp) (K : Kont) : abody Try.prog O_q8 Try.f84 (bodyC Try.f84) [a0, a1] h K = G_q8 a0 a1 h K := (gc_q8 a0 a1 h K).trans ((ga_q8 _ a0 a1 h).trans (gb_q8 a0 a1 h K))
theorem ok_q8 {a0 a1 : Value} {h : Hp} {K : Kont} (hk : G_q8 a0 a1 h K) : C_q8 [a0, a1] h K := ac_of_body prog_mixed (fn := Try.f84) Try.func84 (c := bodyC Try.f84) (by kernel_rfl) ((eq_q8 a0 a1 h K).mpr hk)
def O_q29 : Od := []
def G_q29 (a0 a1 : Value) (h : Hp) (K : Kont) : Prop :=
  oBox a0 h fun t2 h1 =>
  oFieldAddr 2 t2 h1 fun t4 h2 =>
  oLdN 4 t4 h2 fun t5 h3 =>
  oLdN 4 a1 h3 fun t6 h4 =>
  oEq 4 false (some [(0, (.int .i64)), (1, (.int .i64)), (2, (.int .u64)), (3, (.int .i64))]) t5 t6 h4 fun t7 h5 =>
  K t7 h5
def E0_q29 (a0 a1 : Value) : List Value := [a0, a1, undef, undef, undef, undef, undef, undef]
def X_q29 (Qv : Post) (a0 a1 : Value) (h : Hp) : Prop :=
  oBox a0 h fun t2 h1 =>
  oFieldAddr 2 t2 h1 fun t4 h2 =>
  oLdN 4 t4 h2 fun t5 h3 =>
  oLdN 4 a1 h3 fun t6 h4 =>
  oEq 4 false (some [(0, (.int .i64)), (1, (.int .i64)), (2, (.int .u64)), (3, (.int .i64))]) t5 t6 h4 fun t7 h5 =>
  Qv .ret (ul (E0_q29 a0 a1) [(2, t2), (3, t7), (4, t4), (5, t5), (6, t6), (7, t7)]) h5
theorem ga_q29 (Qv : Post) (a0 a1 : Value) (h : Hp) : aw Try.prog O_q29 (bodyC Try.f85) Qv (E0_q29 a0 a1) h = X_q29 Qv a0 a1 h := by kernel_rfl
theorem gb_q29 (a0 a1 : Value) (h : Hp) (K : Kont) : X_q29 (qTop Try.prog Try.f85 K) a0 a1 h = G_q29 a0 a1 h K := by kernel_rfl
theorem gc_q29 (a0 a1 : Value) (h : Hp) (K : Kont) : abody Try.prog O_q29 Try.f85 (bodyC Try.f85) [a0, a1] h K = aw Try.prog O_q29 (bodyC Try.f85) (qTop Try.prog Try.f85 K) (E0_q29 a0 a1) h := by kernel_rfl
theorem eq_q29 (a0 a1 : Value) (h : Hp) (K : Kont) : abody Try.prog O_q29 Try.f85 (bodyC Try.f85) [a0, a1] h K = G_q29 a0 a1 h K := (gc_q29 a0 a1 h K).trans ((ga_q29 _ a0 a1 h).trans (gb_q29 a0 a1 h K))
theorem ok_q29 {a0 a1 : Value} {h : Hp} {K : Kont} (hk : G_q29 a0 a1 h K) : C_q29 [a0, a1] h K := ac_of_body prog_mixed (fn := Try.f85) Try.func85 (c := bodyC Try.f85) (by kernel_rfl) ((eq_q29 a0 a1 h K).mpr hk)
def O_q173 : Od := []
noncomputable def K_q173_0 : Code := (cI (cB (cA (cB (cB (bodyC Try.f88))))))
noncomputable def K_q173_1 : Code := (cB (cB (cB (bodyC Try.f88))))
def Q_q173_0 (K : Kont) : Post := qSeq (aw Try.prog O_q173 K_q173_1 (qTop Try.prog Try.f88 K)) (qTop Try.prog Try.f88 K)
def Q_q173_1 (K : Kont) : Post := qBlk 0 (Q_q173_0 K)
def E_q173_1 (v0 v1 v6 : Value) (d : Nat → Value) : List Value := [v0, v1, d 2, d 3, d 4, d 5, v6, d 7, d 8, d 9, d 10, d 11, d 12, d 13, d 14, d 15, d 16, d 17, d 18, d 19, d 20, d 21, d 22, d 23, d 24, d 25, d 26, d 27, d 28, d 29, d 30, d 31, d 32]
def G_q173_1 (K : Kont) (v0 v1 v6 : Value) (d : Nat → Value) (h : Hp) : Prop := aw Try.prog O_q173 K_q173_0 (Q_q173_1 K) (E_q173_1 v0 v1 v6 d) h
noncomputable def K_q173_2 : Code := (cB (cB (bodyC Try.f88)))
def Q_q173_2 (K : Kont) (s0 : Self) : Post := qSeq s0 (Q_q173_1 K)
noncomputable def K_q173_3 : Code := (cI (cI (cB (cA (cB (cB (bodyC Try.f88)))))))
noncomputable def K_q173_4 : Code := (cB (cB (cI (cI (cB (cA (cB (cB (bodyC Try.f88)))))))))
noncomputable def K_q173_5 : Code := (cB (cI (cI (cB (cA (cB (cB (bodyC Try.f88))))))))
def G_q173 (a0 a1 : Value) (h : Hp) (K : Kont) : Prop :=
  C_q151 [a1] h fun t10 h1 =>
  oNot t10 h1 fun t11 h2 =>
  oIf t11
  (K (.tuple #[(Value.int .u64 0), (Value.int .i64 1)]) h2)
  (G_q173_1 K a0 a1 (Value.int .u64 0) (ud [(4, (Value.int .u64 0)), (5, (Value.int .i64 0)), (9, a1), (10, t10), (11, t11)] dz) h2)
def E0_q173 (a0 a1 : Value) : List Value := [a0, a1, undef, undef, undef, undef, undef, undef, undef, undef, undef, undef, undef, undef, undef, undef, undef, undef, undef, undef, undef, undef, undef, undef, undef, undef, undef, undef, undef, undef, undef, undef, undef]
def X_q173 (Qv : Post) (a0 a1 : Value) (h : Hp) : Prop :=
  C_q151 [a1] h fun t10 h1 =>
  oNot t10 h1 fun t11 h2 =>
  oIf t11
  ((qSeq (aw Try.prog O_q173 K_q173_2 Qv) Qv) .ret (ul (E0_q173 a0 a1) [(4, (Value.int .u64 0)), (5, (Value.int .i64 1)), (9, a1), (10, t10), (11, t11)]) h2)
  (aw Try.prog O_q173 K_q173_0 (qBlk 0 (qSeq (aw Try.prog O_q173 K_q173_1 Qv) Qv)) (ul (E0_q173 a0 a1) [(4, (Value.int .u64 0)), (5, (Value.int .i64 0)), (6, (Value.int .u64 0)), (9, a1), (10, t10), (11, t11)]) h2)
theorem ga_q173 (Qv : Post) (a0 a1 : Value) (h : Hp) : aw Try.prog O_q173 (bodyC Try.f88) Qv (E0_q173 a0 a1) h = X_q173 Qv a0 a1 h := by kernel_rfl
theorem gb_q173 (a0 a1 : Value) (h : Hp) (K : Kont) : X_q173 (qTop Try.prog Try.f88 K) a0 a1 h = G_q173 a0 a1 h K := by kernel_rfl
theorem gc_q173 (a0 a1 : Value) (h : Hp) (K : Kont) : abody Try.prog O_q173 Try.f88 (bodyC Try.f88) [a0, a1] h K = aw Try.prog O_q173 (bodyC Try.f88) (qTop Try.prog Try.f88 K) (E0_q173 a0 a1) h := by kernel_rfl
theorem eq_q173 (a0 a1 : Value) (h : Hp) (K : Kont) : abody Try.prog O_q173 Try.f88 (bodyC Try.f88) [a0, a1] h K = G_q173 a0 a1 h K := (gc_q173 a0 a1 h K).trans ((ga_q173 _ a0 a1 h).trans (gb_q173 a0 a1 h K))
theorem ok_q173 {a0 a1 : Value} {h : Hp} {K : Kont} (hk : G_q173 a0 a1 h K) : C_q173 [a0, a1] h K := ac_of_body prog_mixed (fn := Try.f88) Try.func88 (c := bodyC Try.f88) (by kernel_rfl) ((eq_q173 a0 a1 h K).mpr hk)
def B_q173_1 (K : Kont) (s0 : Self) (v0 v1 v6 : Value) (d : Nat → Value) (h : Hp) : Prop :=
  oBin .lss v6 (Value.int .u64 3) h fun t13 h1 =>
  oIf t13
  (oBin .quo v0 (Value.int .u64 8) h1 fun t18 h2 =>
  oBin .add t18 v6 h2 fun t20 h3 =>
  C_q182 [t20, v1] h3 fun t22 h4 =>
  oExtract t22 0 h4 fun t23 h5 =>
  oExtract t22 1 h5 fun t24 h6 =>
  oBin .eql t24 (Value.int .i64 0) h6 fun t26 h7 =>
  oGuard t26 true (fun K => K t23 h7) h7 fun t28 h8 =>
  oGuard t26 true (fun K => K v0 h8) h8 fun t29 h9 =>
  oGuard t26 true (fun K => oBin .gtr t28 t29 h9 K) h9 fun t30 h10 =>
  oPick t26 t30 (Value.bool false) h10 fun t31 h11 =>
  oIf t31
  (K (.tuple #[t23, (Value.int .i64 0)]) h11)
  (oBin .add v6 (Value.int .u64 1) h11 fun t15 h12 =>
  s0 (E_q173_1 v0 v1 t15 (ud [(7, t23), (8, t24), (12, v6), (13, t13), (14, v6), (15, t15), (16, t22), (17, v0), (18, t18), (19, v6), (20, t20), (21, v1), (22, t22), (23, t23), (24, t24), (25, t24), (26, t26), (27, t26), (28, t28), (29, t29), (30, t30), (31, t31)] d)) h12))
  (K (.tuple #[(Value.int .u64 0), (Value.int .i64 9)]) h1)
def X_q173_1 (Qv : Post) (v0 v1 v6 : Value) (d : Nat → Value) (h : Hp) : Prop :=
  oBin .lss v6 (Value.int .u64 3) h fun t13 h1 =>
  oIf t13
  (oBin .quo v0 (Value.int .u64 8) h1 fun t18 h2 =>
  oBin .add t18 v6 h2 fun t20 h3 =>
  C_q182 [t20, v1] h3 fun t22 h4 =>
  oExtract t22 0 h4 fun t23 h5 =>
  oExtract t22 1 h5 fun t24 h6 =>
  oBin .eql t24 (Value.int .i64 0) h6 fun t26 h7 =>
  oGuard t26 true (fun K => K t23 h7) h7 fun t28 h8 =>
  oGuard t26 true (fun K => K v0 h8) h8 fun t29 h9 =>
  oGuard t26 true (fun K => oBin .gtr t28 t29 h9 K) h9 fun t30 h10 =>
  oPick t26 t30 (Value.bool false) h10 fun t31 h11 =>
  oIf t31
  ((qBlk 1 (qSeq (aw Try.prog O_q173 K_q173_4 Qv) Qv)) .ret (ul (E_q173_1 v0 v1 v6 d) [(4, t23), (5, (Value.int .i64 0)), (7, t23), (8, t24), (12, v6), (13, t13), (16, t22), (17, v0), (18, t18), (19, v6), (20, t20), (21, v1), (22, t22), (23, t23), (24, t24), (25, t24), (26, t26), (27, t26), (28, t28), (29, t29), (30, t30), (31, t31), (32, t23)]) h11)
  (oBin .add v6 (Value.int .u64 1) h11 fun t15 h12 =>
  Qv .normal (ul (E_q173_1 v0 v1 v6 d) [(6, t15), (7, t23), (8, t24), (12, v6), (13, t13), (14, v6), (15, t15), (16, t22), (17, v0), (18, t18), (19, v6), (20, t20), (21, v1), (22, t22), (23, t23), (24, t24), (25, t24), (26, t26), (27, t26), (28, t28), (29, t29), (30, t30), (31, t31)]) h12))
  ((qSeq (aw Try.prog O_q173 K_q173_5 Qv) Qv) (.exit 0) (ul (E_q173_1 v0 v1 v6 d) [(12, v6), (13, t13)]) h1)
theorem ga_q173_1 (Qv : Post) (v0 v1 v6 : Value) (d : Nat → Value) (h : Hp) : aw Try.prog O_q173 K_q173_3 Qv (E_q173_1 v0 v1 v6 d) h = X_q173_1 Qv v0 v1 v6 d h := by kernel_rfl
theorem gb_q173_1 (K : Kont) (s0 : Self) (v0 v1 v6 : Value) (d : Nat → Value) (h : Hp) : X_q173_1 (Q_q173_2 K s0) v0 v1 v6 d h = B_q173_1 K s0 v0 v1 v6 d h := by kernel_rfl
theorem beq_q173_1 (K : Kont) (s0 : Self) (v0 v1 v6 : Value) (d : Nat → Value) (h : Hp) : aw Try.prog O_q173 K_q173_3 (Q_q173_2 K s0) (E_q173_1 v0 v1 v6 d) h = B_q173_1 K s0 v0 v1 v6 d h := (ga_q173_1 _ v0 v1 v6 d h).trans (gb_q173_1 K s0 v0 v1 v6 d h)
theorem rule_q173_1 {K : Kont} {v0 v1 : Value} (Inv : Value → Hp → Prop) (μ : Value → Hp → Nat)
    (step : ∀ (s0 : Self) (v6 : Value) (d : Nat → Value) (h : Hp), Inv v6 h → (∀ (v6' : Value) (d' : Nat → Value) (h' : Hp), Inv v6' h' → μ v6' h' < μ v6 h → s0 (E_q173_1 v0 v1 v6' d') h') → B_q173_1 K s0 v0 v1 v6 d h) (v6 : Value) (d : Nat → Value) (h : Hp) (hi : Inv v6 h) : G_q173_1 K v0 v1 v6 d h :=
  oLoop_rule (α := Value × (Nat → Value)) (fun x => E_q173_1 v0 v1 x.1 x.2) (fun x h => Inv x.1 h) (fun x h => μ x.1 h)
    (fun self x h hx hs => (beq_q173_1 K self v0 v1 x.1 x.2 h).mpr (step self x.1 x.2 h hx (fun v6' d' h' h1 h2 => hs ⟨v6', d'⟩ h' h1 h2))) ⟨v6, d⟩ h hi
def O_q177 : Od := []
noncomputable def K_q177_0 : Code := (cI (cB (cA (cB (bodyC Try.f89)))))
noncomputable def K_q177_1 : Code := (cB (cB (bodyC Try.f89)))
def Q_q177_0 (K : Kont) : Post := qSeq (aw Try.prog O_q177 K_q177_1 (qTop Try.prog Try.f89 K)) (qTop Try.prog Try.f89 K)
def Q_q177_1 (K : Kont) : Post := qBlk 0 (Q_q177_0 K)
def E_q177_1 (v0 v1 v5 : Value) (d : Nat → Value) : List Value := [v0, v1, d 2, d 3, d 4, v5, d 6, d 7, d 8, d 9, d 10, d 11, d 12, d 13, d 14, d 15, d 16, d 17]
def G_q177_1 (K : Kont) (v0 v1 v5 : Value) (d : Nat → Value) (h : Hp) : Prop := aw Try.prog O_q177 K_q177_0 (Q_q177_1 K) (E_q177_1 v0 v1 v5 d) h
def Q_q177_2 (K : Kont) (s0 : Self) : Post := qSeq s0 (Q_q177_1 K)
noncomputable def K_q177_2 : Code := (cI (cI (cB (cA (cB (bodyC Try.f89))))))
noncomputable def K_q177_3 : Code := (cB (cB (cI (cI (cB (cA (cB (bodyC Try.f89))))))))
noncomputable def K_q177_4 : Code := (cB (cI (cI (cB (cA (cB (bodyC Try.f89)))))))
def G_q177 (a0 a1 : Value) (h : Hp) (K : Kont) : Prop :=
  G_q177_1 K a0 a1 (Value.int .i64 0) (ud [(4, (Value.bool false))] dz) h
def E0_q177 (a0 a1 : Value) : List Value := [a0, a1, undef, undef, undef, undef, undef, undef, undef, undef, undef, undef, undef, undef, undef, undef, undef, undef]
def X_q177 (Qv : Post) (a0 a1 : Value) (h : Hp) : Prop :=
  aw Try.prog O_q177 K_q177_0 (qBlk 0 (qSeq (aw Try.prog O_q177 K_q177_1 Qv) Qv)) (ul (E0_q177 a0 a1) [(4, (Value.bool false)), (5, (Value.int .i64 0))]) h
theorem ga_q177 (Qv : Post) (a0 a1 : Value) (h : Hp) : aw Try.prog O_q177 (bodyC Try.f89) Qv (E0_q177 a0 a1) h = X_q177 Qv a0 a1 h := by kernel_rfl
theorem gb_q177 (a0 a1 : Value) (h : Hp) (K : Kont) : X_q177 (qTop Try.prog Try.f89 K) a0 a1 h = G_q177 a0 a1 h K := by kernel_rfl
theorem gc_q177 (a0 a1 : Value) (h : Hp) (K : Kont) : abody Try.prog O_q177 Try.f89 (bodyC Try.f89) [a0, a1] h K = aw Try.prog O_q177 (bodyC Try.f89) (qTop Try.prog Try.f89 K) (E0_q177 a0 a1) h := by kernel_rfl
theorem eq_q177 (a0 a1 : Value) (h : Hp) (K : Kont) : abody Try.prog O_q177 Try.f89 (bodyC Try.f89) [a0, a1] h K = G_q177 a0 a1 h K := (gc_q177 a0 a1 h K).trans ((ga_q177 _ a0 a1 h).trans (gb_q177 a0 a1 h K))
theorem ok_q177 {a0 a1 : Value} {h : Hp} {K : Kont} (hk : G_q177 a0 a1 h K) : C_q177 [a0, a1] h K := ac_of_body prog_mixed (fn := Try.f89) Try.func89 (c := bodyC Try.f89) (by kernel_rfl) ((eq_q177 a0 a1 h K).mpr hk)
def B_q177_1 (K : Kont) (s0 : Self) (v0 v1 v5 : Value) (d : Nat → Value) (h : Hp) : Prop :=
  oLen 0 v0 h fun t8 h1 =>
  oBin .lss v5 t8 h1 fun t9 h2 =>
  oIf t9
  (oIdxS 1 v0 v5 h2 fun t14 h3 =>
  oLd1 t14 h3 fun t15 h4 =>
  oBin .eql t15 v1 h4 fun t17 h5 =>
  oIf t17
  (K (Value.bool true) h5)
  (oBin .add v5 (Value.int .i64 1) h5 fun t11 h6 =>
  s0 (E_q177_1 v0 v1 t11 (ud [(6, v5), (7, v0), (8, t8), (9, t9), (10, v5), (11, t11), (12, v0), (13, v5), (14, t14), (15, t15), (16, v1), (17, t17)] d)) h6))
  (K (Value.bool false) h2)
def X_q177_1 (Qv : Post) (v0 v1 v5 : Value) (d : Nat → Value) (h : Hp) : Prop :=
  oLen 0 v0 h fun t8 h1 =>
  oBin .lss v5 t8 h1 fun t9 h2 =>
  oIf t9
  (oIdxS 1 v0 v5 h2 fun t14 h3 =>
  oLd1 t14 h3 fun t15 h4 =>
  oBin .eql t15 v1 h4 fun t17 h5 =>
  oIf t17
  ((qBlk 1 (qSeq (aw Try.prog O_q177 K_q177_3 Qv) Qv)) .ret (ul (E_q177_1 v0 v1 v5 d) [(4, (Value.bool true)), (6, v5), (7, v0), (8, t8), (9, t9), (12, v0), (13, v5), (14, t14), (15, t15), (16, v1), (17, t17)]) h5)
  (oBin .add v5 (Value.int .i64 1) h5 fun t11 h6 =>
  Qv .normal (ul (E_q177_1 v0 v1 v5 d) [(5, t11), (6, v5), (7, v0), (8, t8), (9, t9), (10, v5), (11, t11), (12, v0), (13, v5), (14, t14), (15, t15), (16, v1), (17, t17)]) h6))
  ((qSeq (aw Try.prog O_q177 K_q177_4 Qv) Qv) (.exit 0) (ul (E_q177_1 v0 v1 v5 d) [(6, v5), (7, v0), (8, t8), (9, t9)]) h2)
theorem ga_q177_1 (Qv : Post) (v0 v1 v5 : Value) (d : Nat → Value) (h : Hp) : aw Try.prog O_q177 K_q177_2 Qv (E_q177_1 v0 v1 v5 d) h = X_q177_1 Qv v0 v1 v5 d h := by kernel_rfl
theorem gb_q177_1 (K : Kont) (s0 : Self) (v0 v1 v5 : Value) (d : Nat → Value) (h : Hp) : X_q177_1 (Q_q177_2 K s0) v0 v1 v5 d h = B_q177_1 K s0 v0 v1 v5 d h := by kernel_rfl
theorem beq_q177_1 (K : Kont) (s0 : Self) (v0 v1 v5 : Value) (d : Nat → Value) (h : Hp) : aw Try.prog O_q177 K_q177_2 (Q_q177_2 K s0) (E_q177_1 v0 v1 v5 d) h = B_q177_1 K s0 v0 v1 v5 d h := (ga_q177_1 _ v0 v1 v5 d h).trans (gb_q177_1 K s0 v0 v1 v5 d h)
theorem rule_q177_1 {K : Kont} {v0 v1 : Value} (Inv : Value → Hp → Prop) (μ : Value → Hp → Nat)
    (step : ∀ (s0 : Self) (v5 : Value) (d : Nat → Value) (h : Hp), Inv v5 h → (∀ (v5' : Value) (d' : Nat → Value) (h' : Hp), Inv v5' h' → μ v5' h' < μ v5 h → s0 (E_q177_1 v0 v1 v5' d') h') → B_q177_1 K s0 v0 v1 v5 d h) (v5 : Value) (d : Nat → Value) (h : Hp) (hi : Inv v5 h) : G_q177_1 K v0 v1 v5 d h :=
  oLoop_rule (α := Value × (Nat → Value)) (fun x => E_q177_1 v0 v1 x.1 x.2) (fun x h => Inv x.1 h) (fun x h => μ x.1 h)
    (fun self x h hx hs => (beq_q177_1 K self v0 v1 x.1 x.2 h).mpr (step self x.1 x.2 h hx (fun v5' d' h' h1 h2 => hs ⟨v5', d'⟩ h' h1 h2))) ⟨v5, d⟩ h hi
def O_q157 : Od := []
def G_q157 (a0 a1 : Value) (h : Hp) (K : Kont) : Prop :=
  C_q179 [a0] h fun t6 h1 =>
  C_q149 [t6, a1] h1 fun t8 h2 =>
  K t8 h2
def E0_q157 (a0 a1 : Value) : List Value := [a0, a1, undef, undef, undef, undef, undef, undef, undef]
def X_q157 (Qv : Post) (a0 a1 : Value) (h : Hp) : Prop :=
  C_q179 [a0] h fun t6 h1 =>
  C_q149 [t6, a1] h1 fun t8 h2 =>
  Qv .ret (ul (E0_q157 a0 a1) [(4, t8), (5, a0), (6, t6), (7, a1), (8, t8)]) h2
theorem ga_q157 (Qv : Post) (a0 a1 : Value) (h : Hp) : aw Try.prog O_q157 (bodyC Try.f90) Qv (E0_q157 a0 a1) h = X_q157 Qv a0 a1 h := by kernel_rfl
theorem gb_q157 (a0 a1 : Value) (h : Hp) (K : Kont) : X_q157 (qTop Try.prog Try.f90 K) a0 a1 h = G_q157 a0 a1 h K := by kernel_rfl
theorem gc_q157 (a0 a1 : Value) (h : Hp) (K : Kont) : abody Try.prog O_q157 Try.f90 (bodyC Try.f90) [a0, a1] h K = aw Try.prog O_q157 (bodyC Try.f90) (qTop Try.prog Try.f90 K) (E0_q157 a0 a1) h := by kernel_rfl
theorem eq_q157 (a0 a1 : Value) (h : Hp) (K : Kont) : abody Try.prog O_q157 Try.f90 (bodyC Try.f90) [a0, a1] h K = G_q157 a0 a1 h K := (gc_q157 a0 a1 h K).trans ((ga_q157 _ a0 a1 h).trans (gb_q157 a0 a1 h K))
theorem ok_q157 {a0 a1 : Value} {h : Hp} {K : Kont} (hk : G_q157 a0 a1 h K) : C_q157 [a0, a1] h K := ac_of_body prog_mixed (fn := Try.f90) Try.func90 (c := bodyC Try.f90) (by kernel_rfl) ((eq_q157 a0 a1 h K).mpr hk)
def O_q158 : Od := []
noncomputable def K_q158_0 : Code := (cI (cB (cA (cB (cB (bodyC Try.f91))))))
noncomputable def K_q158_1 : Code := (cB (cB (cB (bodyC Try.f91))))
def Q_q158_0 (K : Kont) : Post := qSeq (aw Try.prog O_q158 K_q158_1 (qTop Try.prog Try.f91 K)) (qTop Try.prog Try.f91 K)
def Q_q158_1 (K : Kont) : Post := qBlk 0 (Q_q158_0 K)
def E_q158_1 (v1 v3 v4 : Value) (d : Nat → Value) : List Value := [d 0, v1, d 2, v3, v4, d 5, d 6, d 7, d 8, d 9, d 10, d 11, d 12, d 13, d 14, d 15, d 16, d 17, d 18, d 19, d 20, d 21, d 22, d 23, d 24, d 25, d 26, d 27, d 28, d 29, d 30, d 31, d 32, d 33, d 34]
def G_q158_1 (K : Kont) (v1 v3 v4 : Value) (d : Nat → Value) (h : Hp) : Prop := aw Try.prog O_q158 K_q158_0 (Q_q158_1 K) (E_q158_1 v1 v3 v4 d) h
def Q_q158_2 (K : Kont) (s0 : Self) : Post := qSeq s0 (Q_q158_1 K)
noncomputable def K_q158_2 : Code := (cI (cI (cB (cA (cB (cB (bodyC Try.f91)))))))
noncomputable def K_q158_3 : Code := (cI (cB (cI (cA (cB (cI (cI (cB (cA (cB (cB (bodyC Try.f91))))))))))))
noncomputable def K_q158_4 : Code := (cB (cB (cI (cI (cB (cA (cB (cB (bodyC Try.f91)))))))))
def Q_q158_3 (K : Kont) (s0 : Self) : Post := qSeq (aw Try.prog O_q158 K_q158_4 (Q_q158_2 K s0)) (Q_q158_2 K s0)
def Q_q158_4 (K : Kont) (s0 : Self) : Post := qBlk 1 (Q_q158_3 K s0)
def Q_q158_5 (K : Kont) (s0 : Self) : Post := qBlk 2 (Q_q158_4 K s0)
def E_q158_2 (v1 v3 v4 v5 : Value) (d : Nat → Value) : List Value := [d 0, v1, d 2, v3, v4, v5, d 6, d 7, d 8, d 9, d 10, d 11, d 12, d 13, d 14, d 15, d 16, d 17, d 18, d 19, d 20, d 21, d 22, d 23, d 24, d 25, d 26, d 27, d 28, d 29, d 30, d 31, d 32, d 33, d 34]
def G_q158_2 (K : Kont) (s0 : Self) (v1 v3 v4 v5 : Value) (d : Nat → Value) (h : Hp) : Prop := aw Try.prog O_q158 K_q158_3 (Q_q158_5 K s0) (E_q158_2 v1 v3 v4 v5 d) h
noncomputable def K_q158_5 : Code := (cB (cI (cI (cB (cA (cB (cB (bodyC Try.f91))))))))
def Q_q158_6 (K : Kont) (s0 : Self) (s1 : Self) : Post := qSeq s1 (Q_q158_5 K s0)
noncomputable def K_q158_6 : Code := (cI (cI (cB (cI (cA (cB (cI (cI (cB (cA (cB (cB (bodyC Try.f91)))))))))))))
noncomputable def K_q158_7 : Code := (cB (cB (cI (cI (cB (cI (cA (cB (cI (cI (cB (cA (cB (cB (bodyC Try.f91)))))))))))))))
def E_q158_3 (v1 v3 v4 v5 : Value) (d : Nat → Value) : List Value := [d 0, v1, d 2, v3, v4, v5, d 6, d 7, d 8, d 9, d 10, d 11, d 12, d 13, d 14, d 15, d 16, d 17, d 18, d 19, d 20, d 21, d 22, d 23, d 24, d 25, d 26, d 27, d 28, d 29, d 30, d 31, d 32, d 33, d 34]
def G_q158_3 (K : Kont) (s0 : Self) (s1 : Self) (v1 v3 v4 v5 : Value) (d : Nat → Value) (h : Hp) : Prop := aw Try.prog O_q158 K_q158_7 (Q_q158_6 K s0 s1) (E_q158_3 v1 v3 v4 v5 d) h
noncomputable def K_q158_8 : Code := (cB (cI (cI (cB (cI (cA (cB (cI (cI (cB (cA (cB (cB (bodyC Try.f91))))))))))))))
def G_q158 (a0 : Value) (h : Hp) (K : Kont) : Prop :=
  oBox a0 h fun t1 h1 =>
  G_q158_1 K t1 (Value.slice none 0 0) (Value.int .i64 1) (ud [(0, a0), (2, (Value.slice none 0 0))] dz) h1
def E0_q158 (a0 : Value) : List Value := [a0, undef, undef, undef, undef, undef, undef, undef, undef, undef, undef, undef, undef, undef, undef, undef, undef, undef, undef, undef, undef, undef, undef, undef, undef, undef, undef, undef, undef, undef, undef, undef, undef, undef, undef]
def X_q158 (Qv : Post) (a0 : Value) (h : Hp) : Prop :=
  oBox a0 h fun t1 h1 =>
  aw Try.prog O_q158 K_q158_0 (qBlk 0 (qSeq (aw Try.prog O_q158 K_q158_1 Qv) Qv)) (ul (E0_q158 a0) [(1, t1), (2, (Value.slice none 0 0)), (3, (Value.slice none 0 0)), (4, (Value.int .i64 1))]) h1
theorem ga_q158 (Qv : Post) (a0 : Value) (h : Hp) : aw Try.prog O_q158 (bodyC Try.f91) Qv (E0_q158 a0) h = X_q158 Qv a0 h := by kernel_rfl
theorem gb_q158 (a0 : Value) (h : Hp) (K : Kont) : X_q158 (qTop Try.prog Try.f91 K) a0 h = G_q158 a0 h K := by kernel_rfl
theorem gc_q158 (a0 : Value) (h : Hp) (K : Kont) : abody Try.prog O_q158 Try.f91 (bodyC Try.f91) [a0] h K = aw Try.prog O_q158 (bodyC Try.f91) (qTop Try.prog Try.f91 K) (E0_q158 a0) h := by kernel_rfl
theorem eq_q158 (a0 : Value) (h : Hp) (K : Kont) : abody Try.prog O_q158 Try.f91 (bodyC Try.f91) [a0] h K = G_q158 a0 h K := (gc_q158 a0 h K).trans ((ga_q158 _ a0 h).trans (gb_q158 a0 h K))
theorem ok_q158 {a0 : Value} {h : Hp} {K : Kont} (hk : G_q158 a0 h K) : C_q158 [a0] h K := ac_of_body prog_mixed (fn := Try.f91) Try.func91 (c := bodyC Try.f91) (by kernel_rfl) ((eq_q158 a0 h K).mpr hk)
def B_q158_1 (K : Kont) (s0 : Self) (v1 v3 v4 : Value) (d : Nat → Value) (h : Hp) : Prop :=
  oFieldAddr 1 v1 h fun t7 h1 =>
  oLd1 t7 h1 fun t8 h2 =>
  oBin .leq v4 t8 h2 fun t9 h3 =>
  oIf t9
  (G_q158_2 K s0 v1 v3 v4 (Value.int .i64 0) (ud [(6, v4), (7, t7), (8, t8), (9, t9)] d) h3)
  (K v3 h3)
def X_q158_1 (Qv : Post) (v1 v3 v4 : Value) (d : Nat → Value) (h : Hp) : Prop :=
  oFieldAddr 1 v1 h fun t7 h1 =>
  oLd1 t7 h1 fun t8 h2 =>
  oBin .leq v4 t8 h2 fun t9 h3 =>
  oIf t9
  (aw Try.prog O_q158 K_q158_3 (qBlk 2 (qBlk 1 (qSeq (aw Try.prog O_q158 K_q158_4 Qv) Qv))) (ul (E_q158_1 v1 v3 v4 d) [(5, (Value.int .i64 0)), (6, v4), (7, t7), (8, t8), (9, t9)]) h3)
  ((qSeq (aw Try.prog O_q158 K_q158_5 Qv) Qv) (.exit 0) (ul (E_q158_1 v1 v3 v4 d) [(6, v4), (7, t7), (8, t8), (9, t9)]) h3)
theorem ga_q158_1 (Qv : Post) (v1 v3 v4 : Value) (d : Nat → Value) (h : Hp) : aw Try.prog O_q158 K_q158_2 Qv (E_q158_1 v1 v3 v4 d) h = X_q158_1 Qv v1 v3 v4 d h := by kernel_rfl
theorem gb_q158_1 (K : Kont) (s0 : Self) (v1 v3 v4 : Value) (d : Nat → Value) (h : Hp) : X_q158_1 (Q_q158_2 K s0) v1 v3 v4 d h = B_q158_1 K s0 v1 v3 v4 d h := by kernel_rfl
theorem beq_q158_1 (K : Kont) (s0 : Self) (v1 v3 v4 : Value) (d : Nat → Value) (h : Hp) : aw Try.prog O_q158 K_q158_2 (Q_q158_2 K s0) (E_q158_1 v1 v3 v4 d) h = B_q158_1 K s0 v1 v3 v4 d h := (ga_q158_1 _ v1 v3 v4 d h).trans (gb_q158_1 K s0 v1 v3 v4 d h)
theorem rule_q158_1 {K : Kont} {v1 : Value} (Inv : Value → Value → Hp → Prop) (μ : Value → Value → Hp → Nat)
    (step : ∀ (s0 : Self) (v3 v4 : Value) (d : Nat → Value) (h : Hp), Inv v3 v4 h → (∀ (v3' : Value) (v4' : Value) (d' : Nat → Value) (h' : Hp), Inv v3' v4' h' → μ v3' v4' h' < μ v3 v4 h → s0 (E_q158_1 v1 v3' v4' d') h') → B_q158_1 K s0 v1 v3 v4 d h) (v3 v4 : Value) (d : Nat → Value) (h : Hp) (hi : Inv v3 v4 h) : G_q158_1 K v1 v3 v4 d h :=
  oLoop_rule (α := Value × Value × (Nat → Value)) (fun x => E_q158_1 v1 x.1 x.2.1 x.2.2) (fun x h => Inv x.1 x.2.1 h) (fun x h => μ x.1 x.2.1 h)
    (fun self x h hx hs => (beq_q158_1 K self v1 x.1 x.2.1 x.2.2 h).mpr (step self x.1 x.2.1 x.2.2 h hx (fun v3' v4' d' h' h1 h2 => hs ⟨v3', v4', d'⟩ h' h1 h2))) ⟨v3, v4, d⟩ h hi
def B_q158_2 (K : Kont) (s0 : Self) (s1 : Self) (v1 v3 v4 v5 : Value) (d : Nat → Value) (h : Hp) : Prop :=
  oFieldAddr 6 v1 h fun t13 h1 =>
  oLd1 t13 h1 fun t14 h2 =>
  oLen 0 t14 h2 fun t15 h3 =>
  oBin .lss v5 t15 h3 fun t16 h4 =>
  oIf t16
  (oFieldAddr 6 v1 h4 fun t19 h5 =>
  oLd1 t19 h5 fun t20 h6 =>
  oIdxS 1 t20 v5 h6 fun t22 h7 =>
  oLd1 t22 h7 fun t23 h8 =>
  oBin .eql t23 v4 h8 fun t25 h9 =>
  oIf t25
  (oFieldAddr 7 v1 h9 fun t27 h10 =>
  oLd1 t27 h10 fun t28 h11 =>
  oIdxS 1 t28 v5 h11 fun t30 h12 =>
  oLd1 t30 h12 fun t31 h13 =>
  oBuildSlice #[.slice none 0 0] 1 [(0 * 1, 1, t31)] h13 fun t32 h14 =>
  oAppend 1 24 #[.slice none 0 0] v3 t32 h14 fun t33 h15 =>
  G_q158_3 K s0 s1 v1 t33 v4 v5 (ud [(12, v5), (13, t13), (14, t14), (15, t15), (16, t16), (19, t19), (20, t20), (21, v5), (22, t22), (23, t23), (24, v4), (25, t25), (26, v3), (27, t27), (28, t28), (29, v5), (30, t30), (31, t31), (32, t32), (33, t33)] d) h15)
  (G_q158_3 K s0 s1 v1 v3 v4 v5 (ud [(12, v5), (13, t13), (14, t14), (15, t15), (16, t16), (19, t19), (20, t20), (21, v5), (22, t22), (23, t23), (24, v4), (25, t25)] d) h9))
  (oBin .add v4 (Value.int .i64 1) h4 fun t11 h16 =>
  s0 (E_q158_1 v1 v3 t11 (ud [(5, v5), (10, v4), (11, t11), (12, v5), (13, t13), (14, t14), (15, t15), (16, t16)] d)) h16)
def X_q158_2 (Qv : Post) (v1 v3 v4 v5 : Value) (d : Nat → Value) (h : Hp) : Prop :=
  oFieldAddr 6 v1 h fun t13 h1 =>
  oLd1 t13 h1 fun t14 h2 =>
  oLen 0 t14 h2 fun t15 h3 =>
  oBin .lss v5 t15 h3 fun t16 h4 =>
  oIf t16
  (oFieldAddr 6 v1 h4 fun t19 h5 =>
  oLd1 t19 h5 fun t20 h6 =>
  oIdxS 1 t20 v5 h6 fun t22 h7 =>
  oLd1 t22 h7 fun t23 h8 =>
  oBin .eql t23 v4 h8 fun t25 h9 =>
  oIf t25
  (oFieldAddr 7 v1 h9 fun t27 h10 =>
  oLd1 t27 h10 fun t28 h11 =>
  oIdxS 1 t28 v5 h11 fun t30 h12 =>
  oLd1 t30 h12 fun t31 h13 =>
  oBuildSlice #[.slice none 0 0] 1 [(0 * 1, 1, t31)] h13 fun t32 h14 =>
  oAppend 1 24 #[.slice none 0 0] v3 t32 h14 fun t33 h15 =>
  (qBlk 3 (qSeq (aw Try.prog O_q158 K_q158_7 Qv) Qv)) .normal (ul (E_q158_2 v1 v3 v4 v5 d) [(3, t33), (12, v5), (13, t13), (14, t14), (15, t15), (16, t16), (19, t19), (20, t20), (21, v5), (22, t22), (23, t23), (24, v4), (25, t25), (26, v3), (27, t27), (28, t28), (29, v5), (30, t30), (31, t31), (32, t32), (33, t33)]) h15)
  ((qBlk 3 (qSeq (aw Try.prog O_q158 K_q158_7 Qv) Qv)) .normal (ul (E_q158_2 v1 v3 v4 v5 d) [(12, v5), (13, t13), (14, t14), (15, t15), (16, t16), (19, t19), (20, t20), (21, v5), (22, t22), (23, t23), (24, v4), (25, t25)]) h9))
  ((qSeq (aw Try.prog O_q158 K_q158_8 Qv) Qv) (.exit 2) (ul (E_q158_2 v1 v3 v4 v5 d) [(12, v5), (13, t13), (14, t14), (15, t15), (16, t16)]) h4)
theorem ga_q158_2 (Qv : Post) (v1 v3 v4 v5 : Value) (d : Nat → Value) (h : Hp) : aw Try.prog O_q158 K_q158_6 Qv (E_q158_2 v1 v3 v4 v5 d) h = X_q158_2 Qv v1 v3 v4 v5 d h := by kernel_rfl
theorem gb_q158_2 (K : Kont) (s0 : Self) (s1 : Self) (v1 v3 v4 v5 : Value) (d : Nat → Value) (h : Hp) : X_q158_2 (Q_q158_6 K s0 s1) v1 v3 v4 v5 d h = B_q158_2 K s0 s1 v1 v3 v4 v5 d h := by kernel_rfl
theorem beq_q158_2 (K : Kont) (s0 : Self) (s1 : Self) (v1 v3 v4 v5 : Value) (d : Nat → Value) (h : Hp) : aw Try.prog O_q158 K_q158_6 (Q_q158_6 K s0 s1) (E_q158_2 v1 v3 v4 v5 d) h = B_q158_2 K s0 s1 v1 v3 v4 v5 d h := (ga_q158_2 _ v1 v3 v4 v5 d h).trans (gb_q158_2 K s0 s1 v1 v3 v4 v5 d h)
theorem rule_q158_2 {K : Kont} {s0 : Self} {v1 v4 : Value} (Inv : Value → Value → Hp → Prop) (μ : Value → Value → Hp → Nat)
    (step : ∀ (s1 : Self) (v3 v5 : Value) (d : Nat → Value) (h : Hp), Inv v3 v5 h → (∀ (v3' : Value) (v5' : Value) (d' : Nat → Value) (h' : Hp), Inv v3' v5' h' → μ v3' v5' h' < μ v3 v5 h → s1 (E_q158_2 v1 v3' v4 v5' d') h') → B_q158_2 K s0 s1 v1 v3 v4 v5 d h) (v3 v5 : Value) (d : Nat → Value) (h : Hp) (hi : Inv v3 v5 h) : G_q158_2 K s0 v1 v3 v4 v5 d h :=
  oLoop_rule (α := Value × Value × (Nat → Value)) (fun x => E_q158_2 v1 x.1 v4 x.2.1 x.2.2) (fun x h => Inv x.1 x.2.1 h) (fun x h => μ x.1 x.2.1 h)
    (fun self x h hx hs => (beq_q158_2 K s0 self v1 x.1 v4 x.2.1 x.2.2 h).mpr (step self x.1 x.2.1 x.2.2 h hx (fun v3' v5' d' h' h1 h2 => hs ⟨v3', v5', d'⟩ h' h1 h2))) ⟨v3, v5, d⟩ h hi
def R_q158_3 (K : Kont) (s0 : Self) (s1 : Self) (v1 v3 v4 v5 : Value) (d : Nat → Value) (h : Hp) : Prop :=
  oBin .add v5 (Value.int .i64 1) h fun t18 h1 =>
  s1 (E_q158_2 v1 v3 v4 t18 (ud [(17, v5), (18, t18)] d)) h1
def X_q158_3 (Qv : Post) (v1 v3 v4 v5 : Value) (d : Nat → Value) (h : Hp) : Prop :=
  oBin .add v5 (Value.int .i64 1) h fun t18 h1 =>
  Qv .normal (ul (E_q158_3 v1 v3 v4 v5 d) [(5, t18), (17, v5), (18, t18)]) h1
theorem ga_q158_3 (Qv : Post) (v1 v3 v4 v5 : Value) (d : Nat → Value) (h : Hp) : aw Try.prog O_q158 K_q158_7 Qv (E_q158_3 v1 v3 v4 v5 d) h = X_q158_3 Qv v1 v3 v4 v5 d h := by kernel_rfl
theorem gb_q158_3 (K : Kont) (s0 : Self) (s1 : Self) (v1 v3 v4 v5 : Value) (d : Nat → Value) (h : Hp) : X_q158_3 (Q_q158_6 K s0 s1) v1 v3 v4 v5 d h = R_q158_3 K s0 s1 v1 v3 v4 v5 d h := by kernel_rfl
theorem req_q158_3 (K : Kont) (s0 : Self) (s1 : Self) (v1 v3 v4 v5 : Value) (d : Nat → Value) (h : Hp) : G_q158_3 K s0 s1 v1 v3 v4 v5 d h = R_q158_3 K s0 s1 v1 v3 v4 v5 d h := (ga_q158_3 _ v1 v3 v4 v5 d h).trans (gb_q158_3 K s0 s1 v1 v3 v4 v5 d h)
end Go.Proofs.Ytdolepapmpcpiaa

namespace Go.Proofs.Ytdolepapmpcpiaa
open Go
set_option linter.unusedSectionVars false
variable [Base]
set_option linter.unusedVariables false
set_option maxRecDepth 100000
def O_q172 : Od := [(7, (.one 0 true (.one 1 true (.one 4 true (.one 5 true (.one 6 true (.one 2 false (.one 3 false (.one 7 false (.one 8 true .nil))))))))))]
noncomputable def K_q172_0 : Code := (cI (cA (cB (cB (cB (bodyC Try.f92))))))
noncomputable def K_q172_1 : Code := (cB (cB (cB (cB (bodyC Try.f92)))))
def Q_q172_0 (K : Kont) : Post := qSeq (aw Try.prog O_q172 K_q172_1 (qTop Try.prog Try.f92 K)) (qTop Try.prog Try.f92 K)
def Q_q172_1 (K : Kont) : Post := qBlk 0 (Q_q172_0 K)
def E_q172_1 (v0 v1 v5 : Value) (d : Nat → Value) : List Value := [v0, v1, d 2, d 3, d 4, v5, d 6, d 7, d 8, d 9, d 10, d 11, d 12, d 13, d 14, d 15, d 16, d 17, d 18, d 19, d 20, d 21, d 22, d 23, d 24, d 25, d 26, d 27, d 28, d 29, d 30, d 31, d 32, d 33, d 34, d 35, d 36]
def G_q172_1 (K : Kont) (v0 v1 v5 : Value) (d : Nat → Value) (h : Hp) : Prop := aw Try.prog O_q172 K_q172_0 (Q_q172_1 K) (E_q172_1 v0 v1 v5 d) h
noncomputable def K_q172_2 : Code := (cB (cB (bodyC Try.f92)))
def Q_q172_2 (K : Kont) (s0 : Self) : Post := qSeq s0 (Q_q172_1 K)
noncomputable def K_q172_3 : Code := (cI (cI (cA (cB (cB (cB (bodyC Try.f92)))))))
noncomputable def K_q172_4 : Code := (cB (cI (cI (cA (cB (cB (cB (bodyC Try.f92))))))))
def G_q172 (a0 a1 : Value) (h : Hp) (K : Kont) : Prop :=
  C_q177 [a0, a1] h fun t9 h1 =>
  oIf t9
  (K a0 h1)
  (G_q172_1 K a0 a1 (Value.int .i64 0) (ud [(4, (Value.slice none 0 0)), (7, a0), (8, a1), (9, t9)] dz) h1)
def E0_q172 (a0 a1 : Value) : List Value := [a0, a1, undef, undef, undef, undef, undef, undef, undef, undef, undef, undef, undef, undef, undef, undef, undef, undef, undef, undef, undef, undef, undef, undef, undef, undef, undef, undef, undef, undef, undef, undef, undef, undef, undef, undef, undef]
def X_q172 (Qv : Post) (a0 a1 : Value) (h : Hp) : Prop :=
  C_q177 [a0, a1] h fun t9 h1 =>
  oIf t9
  ((qSeq (aw Try.prog O_q172 K_q172_2 Qv) Qv) .ret (ul (E0_q172 a0 a1) [(4, a0), (7, a0), (8, a1), (9, t9), (10, a0)]) h1)
  (aw Try.prog O_q172 K_q172_0 (qBlk 0 (qSeq (aw Try.prog O_q172 K_q172_1 Qv) Qv)) (ul (E0_q172 a0 a1) [(4, (Value.slice none 0 0)), (5, (Value.int .i64 0)), (7, a0), (8, a1), (9, t9)]) h1)
theorem ga_q172 (Qv : Post) (a0 a1 : Value) (h : Hp) : aw Try.prog O_q172 (bodyC Try.f92) Qv (E0_q172 a0 a1) h = X_q172 Qv a0 a1 h := by kernel_rfl
theorem gb_q172 (a0 a1 : Value) (h : Hp) (K : Kont) : X_q172 (qTop Try.prog Try.f92 K) a0 a1 h = G_q172 a0 a1 h K := by kernel_rfl
theorem gc_q172 (a0 a1 : Value) (h : Hp) (K : Kont) : abody Try.prog O_q172 Try.f92 (bodyC Try.f92) [a0, a1] h K = aw Try.prog O_q172 (bodyC Try.f92) (qTop Try.prog Try.f92 K) (E0_q172 a0 a1) h := by kernel_rfl
theorem eq_q172 (a0 a1 : Value) (h : Hp) (K : Kont) : abody Try.prog O_q172 Try.f92 (bodyC Try.f92) [a0, a1] h K = G_q172 a0 a1 h K := (gc_q172 a0 a1 h K).trans ((ga_q172 _ a0 a1 h).trans (gb_q172 a0 a1 h K))
theorem ok_q172 {a0 a1 : Value} {h : Hp} {K : Kont} (hk : G_q172 a0 a1 h K) : C_q172 [a0, a1] h K := ac_of_body prog_mixed (fn := Try.f92) Try.func92 (c := bodyC Try.f92) (by kernel_rfl) ((eq_q172 a0 a1 h K).mpr hk)
def B_q172_1 (K : Kont) (s0 : Self) (v0 v1 v5 : Value) (d : Nat → Value) (h : Hp) : Prop :=
  oLen 0 v0 h fun t13 h1 =>
  oBin .lss v5 t13 h1 fun t14 h2 =>
  oGuard t14 true (fun K => K v0 h2) h2 fun t16 h3 =>
  oGuard t14 true (fun K => K v5 h3) h3 fun t17 h4 =>
  oGuard t14 true (fun K => oIdxS 1 t16 t17 h4 K) h4 fun t18 h5 =>
  oGuard t14 true (fun K => oLd1 t18 h5 K) h5 fun t19 h6 =>
  oGuard t14 true (fun K => K v1 h6) h6 fun t20 h7 =>
  oGuard t14 true (fun K => oBin .lss t19 t20 h7 K) h7 fun t21 h8 =>
  oPick t14 t21 (Value.bool false) h8 fun t22 h9 =>
  oIf t22
  (oBin .add v5 (Value.int .i64 1) h9 fun t24 h10 =>
  s0 (E_q172_1 v0 v1 t24 (ud [(11, v5), (12, v0), (13, t13), (14, t14), (15, t14), (16, t16), (17, t17), (18, t18), (19, t19), (20, t20), (21, t21), (22, t22), (23, v5), (24, t24)] d)) h10)
  (oSlice 0 1 v0 none (some v5) none h9 fun t27 h11 =>
  oAppend 1 8 #[.int .i64 0] (Value.slice none 0 0) t27 h11 fun t28 h12 =>
  oSlice 0 1 v0 (some v5) none none h12 fun t35 h13 =>
  oBuildSlice #[.int .i64 0] 1 [(0 * 1, 1, v1)] h13 fun t31 h14 =>
  (True) ∧
  oAppend 1 8 #[.int .i64 0] t28 t31 h14 fun t32 h15 =>
  (True) ∧
  oAppend 1 8 #[.int .i64 0] t32 t35 h15 fun t36 h16 =>
  (True) ∧
  K t36 h16)
def X_q172_1 (Qv : Post) (v0 v1 v5 : Value) (d : Nat → Value) (h : Hp) : Prop :=
  oLen 0 v0 h fun t13 h1 =>
  oBin .lss v5 t13 h1 fun t14 h2 =>
  oGuard t14 true (fun K => K v0 h2) h2 fun t16 h3 =>
  oGuard t14 true (fun K => K v5 h3) h3 fun t17 h4 =>
  oGuard t14 true (fun K => oIdxS 1 t16 t17 h4 K) h4 fun t18 h5 =>
  oGuard t14 true (fun K => oLd1 t18 h5 K) h5 fun t19 h6 =>
  oGuard t14 true (fun K => K v1 h6) h6 fun t20 h7 =>
  oGuard t14 true (fun K => oBin .lss t19 t20 h7 K) h7 fun t21 h8 =>
  oPick t14 t21 (Value.bool false) h8 fun t22 h9 =>
  oIf t22
  (oBin .add v5 (Value.int .i64 1) h9 fun t24 h10 =>
  (qBlk 1 Qv) .normal (ul (E_q172_1 v0 v1 v5 d) [(5, t24), (11, v5), (12, v0), (13, t13), (14, t14), (15, t14), (16, t16), (17, t17), (18, t18), (19, t19), (20, t20), (21, t21), (22, t22), (23, v5), (24, t24)]) h10)
  ((qSeq (aw Try.prog O_q172 K_q172_4 Qv) Qv) (.exit 0) (ul (E_q172_1 v0 v1 v5 d) [(11, v5), (12, v0), (13, t13), (14, t14), (15, t14), (16, t16), (17, t17), (18, t18), (19, t19), (20, t20), (21, t21), (22, t22)]) h9)
theorem ga_q172_1 (Qv : Post) (v0 v1 v5 : Value) (d : Nat → Value) (h : Hp) : aw Try.prog O_q172 K_q172_3 Qv (E_q172_1 v0 v1 v5 d) h = X_q172_1 Qv v0 v1 v5 d h := by kernel_rfl
theorem gb_q172_1 (K : Kont) (s0 : Self) (v0 v1 v5 : Value) (d : Nat → Value) (h : Hp) : X_q172_1 (Q_q172_2 K s0) v0 v1 v5 d h = B_q172_1 K s0 v0 v1 v5 d h := by kernel_rfl
theorem beq_q172_1 (K : Kont) (s0 : Self) (v0 v1 v5 : Value) (d : Nat → Value) (h : Hp) : aw Try.prog O_q172 K_q172_3 (Q_q172_2 K s0) (E_q172_1 v0 v1 v5 d) h = B_q172_1 K s0 v0 v1 v5 d h := (ga_q172_1 _ v0 v1 v5 d h).trans (gb_q172_1 K s0 v0 v1 v5 d h)
theorem rule_q172_1 {K : Kont} {v0 v1 : Value} (Inv : Value → Hp → Prop) (μ : Value → Hp → Nat)
    (step : ∀ (s0 : Self) (v5 : Value) (d : Nat → Value) (h : Hp), Inv v5 h → (∀ (v5' : Value) (d' : Nat → Value) (h' : Hp), Inv v5' h' → μ v5' h' < μ v5 h → s0 (E_q172_1 v0 v1 v5' d') h') → B_q172_1 K s0 v0 v1 v5 d h) (v5 : Value) (d : Nat → Value) (h : Hp) (hi : Inv v5 h) : G_q172_1 K v0 v1 v5 d h :=
  oLoop_rule (α := Value × (Nat → Value)) (fun x => E_q172_1 v0 v1 x.1 x.2) (fun x h => Inv x.1 h) (fun x h => μ x.1 h)
    (fun self x h hx hs => (beq_q172_1 K self v0 v1 x.1 x.2 h).mpr (step self x.1 x.2 h hx (fun v5' d' h' h1 h2 => hs ⟨v5', d'⟩ h' h1 h2))) ⟨v5, d⟩ h hi
def O_q182 : Od := []
noncomputable def K_q182_0 : Code := (cB (cB (bodyC Try.f93)))
def G_q182 (a0 a1 : Value) (h : Hp) (K : Kont) : Prop :=
  oBin .lss a0 (Value.int .u64 1) h fun t7 h1 =>
  oGuard t7 false (fun K => K a0 h1) h1 fun t9 h2 =>
  oGuard t7 false (fun K => oBin .gtr t9 (Value.int .u64 1152921504606846975) h2 K) h2 fun t10 h3 =>
  oPick t7 (Value.bool true) t10 h3 fun t11 h4 =>
  oGuard t11 false (fun K => K a1 h4) h4 fun t13 h5 =>
  oGuard t11 false (fun K => C_q151 [t13] h5 K) h5 fun t14 h6 =>
  oGuard t11 false (fun K => oNot t14 h6 K) h6 fun t15 h7 =>
  oPick t11 (Value.bool true) t15 h7 fun t16 h8 =>
  oIf t16
  (K (.tuple #[(Value.int .u64 0), (Value.int .i64 1)]) h8)
  (oBin .mul a0 (Value.int .u64 8) h8 fun t18 h9 =>
  oConvInt .u64 a1 h9 fun t20 h10 =>
  oBin .add t18 t20 h10 fun t21 h11 =>
  K (.tuple #[t21, (Value.int .i64 0)]) h11)
def E0_q182 (a0 a1 : Value) : List Value := [a0, a1, undef, undef, undef, undef, undef, undef, undef, undef, undef, undef, undef, undef, undef, undef, undef, undef, undef, undef, undef, undef]
def X_q182 (Qv : Post) (a0 a1 : Value) (h : Hp) : Prop :=
  oBin .lss a0 (Value.int .u64 1) h fun t7 h1 =>
  oGuard t7 false (fun K => K a0 h1) h1 fun t9 h2 =>
  oGuard t7 false (fun K => oBin .gtr t9 (Value.int .u64 1152921504606846975) h2 K) h2 fun t10 h3 =>
  oPick t7 (Value.bool true) t10 h3 fun t11 h4 =>
  oGuard t11 false (fun K => K a1 h4) h4 fun t13 h5 =>
  oGuard t11 false (fun K => C_q151 [t13] h5 K) h5 fun t14 h6 =>
  oGuard t11 false (fun K => oNot t14 h6 K) h6 fun t15 h7 =>
  oPick t11 (Value.bool true) t15 h7 fun t16 h8 =>
  oIf t16
  ((qSeq (aw Try.prog O_q182 K_q182_0 Qv) Qv) .ret (ul (E0_q182 a0 a1) [(4, (Value.int .u64 0)), (5, (Value.int .i64 1)), (6, a0), (7, t7), (8, t7), (9, t9), (10, t10), (11, t11), (12, t11), (13, t13), (14, t14), (15, t15), (16, t16)]) h8)
  (oBin .mul a0 (Value.int .u64 8) h8 fun t18 h9 =>
  oConvInt .u64 a1 h9 fun t20 h10 =>
  oBin .add t18 t20 h10 fun t21 h11 =>
  Qv .ret (ul (E0_q182 a0 a1) [(4, t21), (5, (Value.int .i64 0)), (6, a0), (7, t7), (8, t7), (9, t9), (10, t10), (11, t11), (12, t11), (13, t13), (14, t14), (15, t15), (16, t16), (17, a0), (18, t18), (19, a1), (20, t20), (21, t21)]) h11)
theorem ga_q182 (Qv : Post) (a0 a1 : Value) (h : Hp) : aw Try.prog O_q182 (bodyC Try.f93) Qv (E0_q182 a0 a1) h = X_q182 Qv a0 a1 h := by kernel_rfl
theorem gb_q182 (a0 a1 : Value) (h : Hp) (K : Kont) : X_q182 (qTop Try.prog Try.f93 K) a0 a1 h = G_q182 a0 a1 h K := by kernel_rfl
theorem gc_q182 (a0 a1 : Value) (h : Hp) (K : Kont) : abody Try.prog O_q182 Try.f93 (bodyC Try.f93) [a0, a1] h K = aw Try.prog O_q182 (bodyC Try.f93) (qTop Try.prog Try.f93 K) (E0_q182 a0 a1) h := by kernel_rfl
theorem eq_q182 (a0 a1 : Value) (h : Hp) (K : Kont) : abody Try.prog O_q182 Try.f93 (bodyC Try.f93) [a0, a1] h K = G_q182 a0 a1 h K := (gc_q182 a0 a1 h K).trans ((ga_q182 _ a0 a1 h).trans (gb_q182 a0 a1 h K))
theorem ok_q182 {a0 a1 : Value} {h : Hp} {K : Kont} (hk : G_q182 a0 a1 h K) : C_q182 [a0, a1] h K := ac_of_body prog_mixed (fn := Try.f93) Try.func93 (c := bodyC Try.f93) (by kernel_rfl) ((eq_q182 a0 a1 h K).mpr hk)
def O_q31 : Od := []
def G_q31 (a0 : Value) (h : Hp) (K : Kont) : Prop :=
  oBin .shr a0 (Value.int .u64 1) h fun t4 h1 =>
  oBin .and t4 (Value.int .u64 6148914691236517205) h1 fun t5 h2 =>
  oBin .and a0 (Value.int .u64 6148914691236517205) h2 fun t7 h3 =>
  oBin .add t5 t7 h3 fun t8 h4 =>
  oBin .shr t8 (Value.int .u64 2) h4 fun t10 h5 =>
  oBin .and t10 (Value.int .u64 3689348814741910323) h5 fun t11 h6 =>
  oBin .and t8 (Value.int .u64 3689348814741910323) h6 fun t13 h7 =>
  oBin .add t11 t13 h7 fun t14 h8 =>
  oBin .shr t14 (Value.int .u64 4) h8 fun t16 h9 =>
  oBin .add t16 t14 h9 fun t18 h10 =>
  oBin .and t18 (Value.int .u64 1085102592571150095) h10 fun t19 h11 =>
  oBin .shr t19 (Value.int .u64 8) h11 fun t22 h12 =>
  oBin .add t19 t22 h12 fun t23 h13 =>
  oBin .shr t23 (Value.int .u64 16) h13 fun t26 h14 =>
  oBin .add t23 t26 h14 fun t27 h15 =>
  oBin .shr t27 (Value.int .u64 32) h15 fun t30 h16 =>
  oBin .add t27 t30 h16 fun t31 h17 =>
  oConvInt .i64 t31 h17 fun t33 h18 =>
  oBin .and t33 (Value.int .i64 127) h18 fun t34 h19 =>
  K t34 h19
def E0_q31 (a0 : Value) : List Value := [a0, undef, undef, undef, undef, undef, undef, undef, undef, undef, undef, undef, undef, undef, undef, undef, undef, undef, undef, undef, undef, undef, undef, undef, undef, undef, undef, undef, undef, undef, undef, undef, undef, undef, undef]
def X_q31 (Qv : Post) (a0 : Value) (h : Hp) : Prop :=
  oBin .shr a0 (Value.int .u64 1) h fun t4 h1 =>
  oBin .and t4 (Value.int .u64 6148914691236517205) h1 fun t5 h2 =>
  oBin .and a0 (Value.int .u64 6148914691236517205) h2 fun t7 h3 =>
  oBin .add t5 t7 h3 fun t8 h4 =>
  oBin .shr t8 (Value.int .u64 2) h4 fun t10 h5 =>
  oBin .and t10 (Value.int .u64 3689348814741910323) h5 fun t11 h6 =>
  oBin .and t8 (Value.int .u64 3689348814741910323) h6 fun t13 h7 =>
  oBin .add t11 t13 h7 fun t14 h8 =>
  oBin .shr t14 (Value.int .u64 4) h8 fun t16 h9 =>
  oBin .add t16 t14 h9 fun t18 h10 =>
  oBin .and t18 (Value.int .u64 1085102592571150095) h10 fun t19 h11 =>
  oBin .shr t19 (Value.int .u64 8) h11 fun t22 h12 =>
  oBin .add t19 t22 h12 fun t23 h13 =>
  oBin .shr t23 (Value.int .u64 16) h13 fun t26 h14 =>
  oBin .add t23 t26 h14 fun t27 h15 =>
  oBin .shr t27 (Value.int .u64 32) h15 fun t30 h16 =>
  oBin .add t27 t30 h16 fun t31 h17 =>
  oConvInt .i64 t31 h17 fun t33 h18 =>
  oBin .and t33 (Value.int .i64 127) h18 fun t34 h19 =>
  Qv .ret (ul (E0_q31 a0) [(0, t31), (2, t34), (3, a0), (4, t4), (5, t5), (6, a0), (7, t7), (8, t8), (9, t8), (10, t10), (11, t11), (12, t8), (13, t13), (14, t14), (15, t14), (16, t16), (17, t14), (18, t18), (19, t19), (20, t19), (21, t19), (22, t22), (23, t23), (24, t23), (25, t23), (26, t26), (27, t27), (28, t27), (29, t27), (30, t30), (31, t31), (32, t31), (33, t33), (34, t34)]) h19
theorem ga_q31 (Qv : Post) (a0 : Value) (h : Hp) : aw Try.prog O_q31 (bodyC Try.f94) Qv (E0_q31 a0) h = X_q31 Qv a0 h := by kernel_rfl
theorem gb_q31 (a0 : Value) (h : Hp) (K : Kont) : X_q31 (qTop Try.prog Try.f94 K) a0 h = G_q31 a0 h K := by kernel_rfl
theorem gc_q31 (a0 : Value) (h : Hp) (K : Kont) : abody Try.prog O_q31 Try.f94 (bodyC Try.f94) [a0] h K = aw Try.prog O_q31 (bodyC Try.f94) (qTop Try.prog Try.f94 K) (E0_q31 a0) h := by kernel_rfl
theorem eq_q31 (a0 : Value) (h : Hp) (K : Kont) : abody Try.prog O_q31 Try.f94 (bodyC Try.f94) [a0] h K = G_q31 a0 h K := (gc_q31 a0 h K).trans ((ga_q31 _ a0 h).trans (gb_q31 a0 h K))
theorem ok_q31 {a0 : Value} {h : Hp} {K : Kont} (hk : G_q31 a0 h K) : C_q31 [a0] h K := ac_of_body prog_mixed (fn := Try.f94) Try.func94 (c := bodyC Try.f94) (by kernel_rfl) ((eq_q31 a0 h K).mpr hk)
def O_q151 : Od := []
def G_q151 (a0 : Value) (h : Hp) (K : Kont) : Prop :=
  oBin .geq a0 (Value.int .i64 1) h fun t4 h1 =>
  oGuard t4 true (fun K => K a0 h1) h1 fun t6 h2 =>
  oGuard t4 true (fun K => oBin .leq t6 (Value.int .i64 5) h2 K) h2 fun t7 h3 =>
  oPick t4 t7 (Value.bool false) h3 fun t8 h4 =>
  K t8 h4
def E0_q151 (a0 : Value) : List Value := [a0, undef, undef, undef, undef, undef, undef, undef, undef]
def X_q151 (Qv : Post) (a0 : Value) (h : Hp) : Prop :=
  oBin .geq a0 (Value.int .i64 1) h fun t4 h1 =>
  oGuard t4 true (fun K => K a0 h1) h1 fun t6 h2 =>
  oGuard t4 true (fun K => oBin .leq t6 (Value.int .i64 5) h2 K) h2 fun t7 h3 =>
  oPick t4 t7 (Value.bool false) h3 fun t8 h4 =>
  Qv .ret (ul (E0_q151 a0) [(2, t8), (3, a0), (4, t4), (5, t4), (6, t6), (7, t7), (8, t8)]) h4
theorem ga_q151 (Qv : Post) (a0 : Value) (h : Hp) : aw Try.prog O_q151 (bodyC Try.f97) Qv (E0_q151 a0) h = X_q151 Qv a0 h := by kernel_rfl
theorem gb_q151 (a0 : Value) (h : Hp) (K : Kont) : X_q151 (qTop Try.prog Try.f97 K) a0 h = G_q151 a0 h K := by kernel_rfl
theorem gc_q151 (a0 : Value) (h : Hp) (K : Kont) : abody Try.prog O_q151 Try.f97 (bodyC Try.f97) [a0] h K = aw Try.prog O_q151 (bodyC Try.f97) (qTop Try.prog Try.f97 K) (E0_q151 a0) h := by kernel_rfl
theorem eq_q151 (a0 : Value) (h : Hp) (K : Kont) : abody Try.prog O_q151 Try.f97 (bodyC Try.f97) [a0] h K = G_q151 a0 h K := (gc_q151 a0 h K).trans ((ga_q151 _ a0 h).trans (gb_q151 a0 h K))
theorem ok_q151 {a0 : Value} {h : Hp} {K : Kont} (hk : G_q151 a0 h K) : C_q151 [a0] h K := ac_of_body prog_mixed (fn := Try.f97) Try.func97 (c := bodyC Try.f97) (by kernel_rfl) ((eq_q151 a0 h K).mpr hk)
def O_q149 : Od := []
noncomputable def K_q149_0 : Code := (cI (cB (cA (cB (cB (bodyC Try.f98))))))
noncomputable def K_q149_1 : Code := (cB (cB (cB (bodyC Try.f98))))
def Q_q149_0 (K : Kont) : Post := qSeq (aw Try.prog O_q149 K_q149_1 (qTop Try.prog Try.f98 K)) (qTop Try.prog Try.f98 K)
def Q_q149_1 (K : Kont) : Post := qBlk 0 (Q_q149_0 K)
def E_q149_1 (v0 v1 v5 v6 : Value) (d : Nat → Value) : List Value := [v0, v1, d 2, d 3, d 4, v5, v6, d 7, d 8, d 9, d 10, d 11, d 12, d 13, d 14, d 15, d 16, d 17, d 18, d 19, d 20, d 21, d 22, d 23, d 24, d 25, d 26, d 27, d 28]
def G_q149_1 (K : Kont) (v0 v1 v5 v6 : Value) (d : Nat → Value) (h : Hp) : Prop := aw Try.prog O_q149 K_q149_0 (Q_q149_1 K) (E_q149_1 v0 v1 v5 v6 d) h
def Q_q149_2 (K : Kont) (s0 : Self) : Post := qSeq s0 (Q_q149_1 K)
noncomputable def K_q149_2 : Code := (cI (cI (cB (cA (cB (cB (bodyC Try.f98)))))))
noncomputable def K_q149_3 : Code := (cB (cB (cI (cI (cB (cA (cB (cB (bodyC Try.f98)))))))))
def E_q149_2 (v0 v1 v5 v6 : Value) (d : Nat → Value) : List Value := [v0, v1, d 2, d 3, d 4, v5, v6, d 7, d 8, d 9, d 10, d 11, d 12, d 13, d 14, d 15, d 16, d 17, d 18, d 19, d 20, d 21, d 22, d 23, d 24, d 25, d 26, d 27, d 28]
def G_q149_2 (K : Kont) (s0 : Self) (v0 v1 v5 v6 : Value) (d : Nat → Value) (h : Hp) : Prop := aw Try.prog O_q149 K_q149_3 (Q_q149_2 K s0) (E_q149_2 v0 v1 v5 v6 d) h
noncomputable def K_q149_4 : Code := (cB (cI (cI (cB (cA (cB (cB (bodyC Try.f98))))))))
def G_q149 (a0 a1 : Value) (h : Hp) (K : Kont) : Prop :=
  G_q149_1 K a0 a1 (Value.int .i64 0) (Value.int .i64 1) (ud [(4, (Value.bool false))] dz) h
def E0_q149 (a0 a1 : Value) : List Value := [a0, a1, undef, undef, undef, undef, undef, undef, undef, undef, undef, undef, undef, undef, undef, undef, undef, undef, undef, undef, undef, undef, undef, undef, undef, undef, undef, undef, undef]
def X_q149 (Qv : Post) (a0 a1 : Value) (h : Hp) : Prop :=
  aw Try.prog O_q149 K_q149_0 (qBlk 0 (qSeq (aw Try.prog O_q149 K_q149_1 Qv) Qv)) (ul (E0_q149 a0 a1) [(4, (Value.bool false)), (5, (Value.int .i64 0)), (6, (Value.int .i64 1))]) h
theorem ga_q149 (Qv : Post) (a0 a1 : Value) (h : Hp) : aw Try.prog O_q149 (bodyC Try.f98) Qv (E0_q149 a0 a1) h = X_q149 Qv a0 a1 h := by kernel_rfl
theorem gb_q149 (a0 a1 : Value) (h : Hp) (K : Kont) : X_q149 (qTop Try.prog Try.f98 K) a0 a1 h = G_q149 a0 a1 h K := by kernel_rfl
theorem gc_q149 (a0 a1 : Value) (h : Hp) (K : Kont) : abody Try.prog O_q149 Try.f98 (bodyC Try.f98) [a0, a1] h K = aw Try.prog O_q149 (bodyC Try.f98) (qTop Try.prog Try.f98 K) (E0_q149 a0 a1) h := by kernel_rfl
theorem eq_q149 (a0 a1 : Value) (h : Hp) (K : Kont) : abody Try.prog O_q149 Try.f98 (bodyC Try.f98) [a0, a1] h K = G_q149 a0 a1 h K := (gc_q149 a0 a1 h K).trans ((ga_q149 _ a0 a1 h).trans (gb_q149 a0 a1 h K))
theorem ok_q149 {a0 a1 : Value} {h : Hp} {K : Kont} (hk : G_q149 a0 a1 h K) : C_q149 [a0, a1] h K := ac_of_body prog_mixed (fn := Try.f98) Try.func98 (c := bodyC Try.f98) (by kernel_rfl) ((eq_q149 a0 a1 h K).mpr hk)
def B_q149_1 (K : Kont) (s0 : Self) (v0 v1 v5 v6 : Value) (d : Nat → Value) (h : Hp) : Prop :=
  oBin .leq v6 (Value.int .i64 63) h fun t8 h1 =>
  oGuard t8 true (fun K => K v6 h1) h1 fun t10 h2 =>
  oGuard t8 true (fun K => K v1 h2) h2 fun t11 h3 =>
  oGuard t8 true (fun K => oBin .leq t10 t11 h3 K) h3 fun t12 h4 =>
  oPick t8 t12 (Value.bool false) h4 fun t13 h5 =>
  oIf t13
  (C_q178 [v0, v6] h5 fun t18 h6 =>
  oIf t18
  (oBin .add v5 (Value.int .i64 1) h6 fun t20 h7 =>
  G_q149_2 K s0 v0 v1 t20 v6 (ud [(7, v6), (8, t8), (9, t8), (10, t10), (11, t11), (12, t12), (13, t13), (16, v0), (17, v6), (18, t18), (19, v5), (20, t20)] d) h7)
  (G_q149_2 K s0 v0 v1 v5 v6 (ud [(7, v6), (8, t8), (9, t8), (10, t10), (11, t11), (12, t12), (13, t13), (16, v0), (17, v6), (18, t18)] d) h6))
  (oBin .geq v1 (Value.int .i64 1) h5 fun t22 h8 =>
  oGuard t22 true (fun K => K v5 h8) h8 fun t24 h9 =>
  oGuard t22 true (fun K => K v1 h9) h9 fun t25 h10 =>
  oGuard t22 true (fun K => C_q152 [t25] h10 K) h10 fun t26 h11 =>
  oGuard t22 true (fun K => oBin .geq t24 t26 h11 K) h11 fun t27 h12 =>
  oPick t22 t27 (Value.bool false) h12 fun t28 h13 =>
  K t28 h13)
def X_q149_1 (Qv : Post) (v0 v1 v5 v6 : Value) (d : Nat → Value) (h : Hp) : Prop :=
  oBin .leq v6 (Value.int .i64 63) h fun t8 h1 =>
  oGuard t8 true (fun K => K v6 h1) h1 fun t10 h2 =>
  oGuard t8 true (fun K => K v1 h2) h2 fun t11 h3 =>
  oGuard t8 true (fun K => oBin .leq t10 t11 h3 K) h3 fun t12 h4 =>
  oPick t8 t12 (Value.bool false) h4 fun t13 h5 =>
  oIf t13
  (C_q178 [v0, v6] h5 fun t18 h6 =>
  oIf t18
  (oBin .add v5 (Value.int .i64 1) h6 fun t20 h7 =>
  (qBlk 1 (qSeq (aw Try.prog O_q149 K_q149_3 Qv) Qv)) .normal (ul (E_q149_1 v0 v1 v5 v6 d) [(5, t20), (7, v6), (8, t8), (9, t8), (10, t10), (11, t11), (12, t12), (13, t13), (16, v0), (17, v6), (18, t18), (19, v5), (20, t20)]) h7)
  ((qBlk 1 (qSeq (aw Try.prog O_q149 K_q149_3 Qv) Qv)) .normal (ul (E_q149_1 v0 v1 v5 v6 d) [(7, v6), (8, t8), (9, t8), (10, t10), (11, t11), (12, t12), (13, t13), (16, v0), (17, v6), (18, t18)]) h6))
  ((qSeq (aw Try.prog O_q149 K_q149_4 Qv) Qv) (.exit 0) (ul (E_q149_1 v0 v1 v5 v6 d) [(7, v6), (8, t8), (9, t8), (10, t10), (11, t11), (12, t12), (13, t13)]) h5)
theorem ga_q149_1 (Qv : Post) (v0 v1 v5 v6 : Value) (d : Nat → Value) (h : Hp) : aw Try.prog O_q149 K_q149_2 Qv (E_q149_1 v0 v1 v5 v6 d) h = X_q149_1 Qv v0 v1 v5 v6 d h := by kernel_rfl
theorem gb_q149_1 (K : Kont) (s0 : Self) (v0 v1 v5 v6 : Value) (d : Nat → Value) (h : Hp) : X_q149_1 (Q_q149_2 K s0) v0 v1 v5 v6 d h = B_q149_1 K s0 v0 v1 v5 v6 d h := by kernel_rfl
theorem beq_q149_1 (K : Kont) (s0 : Self) (v0 v1 v5 v6 : Value) (d : Nat → Value) (h : Hp) : aw Try.prog O_q149 K_q149_2 (Q_q149_2 K s0) (E_q149_1 v0 v1 v5 v6 d) h = B_q149_1 K s0 v0 v1 v5 v6 d h := (ga_q149_1 _ v0 v1 v5 v6 d h).trans (gb_q149_1 K s0 v0 v1 v5 v6 d h)
theorem rule_q149_1 {K : Kont} {v0 v1 : Value} (Inv : Value → Value → Hp → Prop) (μ : Value → Value → Hp → Nat)
    (step : ∀ (s0 : Self) (v5 v6 : Value) (d : Nat → Value) (h : Hp), Inv v5 v6 h → (∀ (v5' : Value) (v6' : Value) (d' : Nat → Value) (h' : Hp), Inv v5' v6' h' → μ v5' v6' h' < μ v5 v6 h → s0 (E_q149_1 v0 v1 v5' v6' d') h') → B_q149_1 K s0 v0 v1 v5 v6 d h) (v5 v6 : Value) (d : Nat → Value) (h : Hp) (hi : Inv v5 v6 h) : G_q149_1 K v0 v1 v5 v6 d h :=
  oLoop_rule (α := Value × Value × (Nat → Value)) (fun x => E_q149_1 v0 v1 x.1 x.2.1 x.2.2) (fun x h => Inv x.1 x.2.1 h) (fun x h => μ x.1 x.2.1 h)
    (fun self x h hx hs => (beq_q149_1 K self v0 v1 x.1 x.2.1 x.2.2 h).mpr (step self x.1 x.2.1 x.2.2 h hx (fun v5' v6' d' h' h1 h2 => hs ⟨v5', v6', d'⟩ h' h1 h2))) ⟨v5, v6, d⟩ h hi
def R_q149_2 (K : Kont) (s0 : Self) (v0 v1 v5 v6 : Value) (d : Nat → Value) (h : Hp) : Prop :=
  oBin .add v6 (Value.int .i64 1) h fun t15 h1 =>
  s0 (E_q149_1 v0 v1 v5 t15 (ud [(14, v6), (15, t15)] d)) h1
def X_q149_2 (Qv : Post) (v0 v1 v5 v6 : Value) (d : Nat → Value) (h : Hp) : Prop :=
  oBin .add v6 (Value.int .i64 1) h fun t15 h1 =>
  Qv .normal (ul (E_q149_2 v0 v1 v5 v6 d) [(6, t15), (14, v6), (15, t15)]) h1
theorem ga_q149_2 (Qv : Post) (v0 v1 v5 v6 : Value) (d : Nat → Value) (h : Hp) : aw Try.prog O_q149 K_q149_3 Qv (E_q149_2 v0 v1 v5 v6 d) h = X_q149_2 Qv v0 v1 v5 v6 d h := by kernel_rfl
theorem gb_q149_2 (K : Kont) (s0 : Self) (v0 v1 v5 v6 : Value) (d : Nat → Value) (h : Hp) : X_q149_2 (Q_q149_2 K s0) v0 v1 v5 v6 d h = R_q149_2 K s0 v0 v1 v5 v6 d h := by kernel_rfl
theorem req_q149_2 (K : Kont) (s0 : Self) (v0 v1 v5 v6 : Value) (d : Nat → Value) (h : Hp) : G_q149_2 K s0 v0 v1 v5 v6 d h = R_q149_2 K s0 v0 v1 v5 v6 d h := (ga_q149_2 _ v0 v1 v5 v6 d h).trans (gb_q149_2 K s0 v0 v1 v5 v6 d h)
def O_q179 : Od := []
noncomputable def K_q179_0 : Code := (cI (cB (cA (cB (cB (bodyC Try.f99))))))
noncomputable def K_q179_1 : Code := (cB (cB (cB (bodyC Try.f99))))
def Q_q179_0 (K : Kont) : Post := qSeq (aw Try.prog O_q179 K_q179_1 (qTop Try.prog Try.f99 K)) (qTop Try.prog Try.f99 K)
def Q_q179_1 (K : Kont) : Post := qBlk 0 (Q_q179_0 K)
def E_q179_1 (v0 v3 v4 : Value) (d : Nat → Value) : List Value := [v0, d 1, d 2, v3, v4, d 5, d 6, d 7, d 8, d 9, d 10, d 11, d 12, d 13, d 14, d 15, d 16, d 17, d 18, d 19, d 20, d 21, d 22, d 23, d 24, d 25, d 26, d 27, d 28, d 29, d 30, d 31, d 32]
def G_q179_1 (K : Kont) (v0 v3 v4 : Value) (d : Nat → Value) (h : Hp) : Prop := aw Try.prog O_q179 K_q179_0 (Q_q179_1 K) (E_q179_1 v0 v3 v4 d) h
def Q_q179_2 (K : Kont) (s0 : Self) : Post := qSeq s0 (Q_q179_1 K)
noncomputable def K_q179_2 : Code := (cI (cI (cB (cA (cB (cB (bodyC Try.f99)))))))
noncomputable def K_q179_3 : Code := (cI (cB (cI (cA (cB (cI (cI (cB (cA (cB (cB (bodyC Try.f99))))))))))))
noncomputable def K_q179_4 : Code := (cB (cB (cI (cI (cB (cA (cB (cB (bodyC Try.f99)))))))))
def Q_q179_3 (K : Kont) (s0 : Self) : Post := qSeq (aw Try.prog O_q179 K_q179_4 (Q_q179_2 K s0)) (Q_q179_2 K s0)
def Q_q179_4 (K : Kont) (s0 : Self) : Post := qBlk 1 (Q_q179_3 K s0)
def Q_q179_5 (K : Kont) (s0 : Self) : Post := qBlk 2 (Q_q179_4 K s0)
def E_q179_2 (v0 v3 v4 v5 : Value) (d : Nat → Value) : List Value := [v0, d 1, d 2, v3, v4, v5, d 6, d 7, d 8, d 9, d 10, d 11, d 12, d 13, d 14, d 15, d 16, d 17, d 18, d 19, d 20, d 21, d 22, d 23, d 24, d 25, d 26, d 27, d 28, d 29, d 30, d 31, d 32]
def G_q179_2 (K : Kont) (s0 : Self) (v0 v3 v4 v5 : Value) (d : Nat → Value) (h : Hp) : Prop := aw Try.prog O_q179 K_q179_3 (Q_q179_5 K s0) (E_q179_2 v0 v3 v4 v5 d) h
noncomputable def K_q179_5 : Code := (cB (cI (cI (cB (cA (cB (cB (bodyC Try.f99))))))))
def Q_q179_6 (K : Kont) (s0 : Self) (s1 : Self) : Post := qSeq s1 (Q_q179_5 K s0)
noncomputable def K_q179_6 : Code := (cI (cI (cB (cI (cA (cB (cI (cI (cB (cA (cB (cB (bodyC Try.f99)))))))))))))
noncomputable def K_q179_7 : Code := (cB (cB (cI (cI (cB (cI (cA (cB (cI (cI (cB (cA (cB (cB (bodyC Try.f99)))))))))))))))
def E_q179_3 (v0 v3 v4 v5 : Value) (d : Nat → Value) : List Value := [v0, d 1, d 2, v3, v4, v5, d 6, d 7, d 8, d 9, d 10, d 11, d 12, d 13, d 14, d 15, d 16, d 17, d 18, d 19, d 20, d 21, d 22, d 23, d 24, d 25, d 26, d 27, d 28, d 29, d 30, d 31, d 32]
def G_q179_3 (K : Kont) (s0 : Self) (s1 : Self) (v0 v3 v4 v5 : Value) (d : Nat → Value) (h : Hp) : Prop := aw Try.prog O_q179 K_q179_7 (Q_q179_6 K s0 s1) (E_q179_3 v0 v3 v4 v5 d) h
noncomputable def K_q179_8 : Code := (cB (cI (cI (cB (cI (cA (cB (cI (cI (cB (cA (cB (cB (bodyC Try.f99))))))))))))))
def G_q179 (a0 : Value) (h : Hp) (K : Kont) : Prop :=
  G_q179_1 K a0 (Value.int .u64 0) (Value.int .i64 1) (ud [(2, (Value.int .u64 0))] dz) h
def E0_q179 (a0 : Value) : List Value := [a0, undef, undef, undef, undef, undef, undef, undef, undef, undef, undef, undef, undef, undef, undef, undef, undef, undef, undef, undef, undef, undef, undef, undef, undef, undef, undef, undef, undef, undef, undef, undef, undef]
def X_q179 (Qv : Post) (a0 : Value) (h : Hp) : Prop :=
  aw Try.prog O_q179 K_q179_0 (qBlk 0 (qSeq (aw Try.prog O_q179 K_q179_1 Qv) Qv)) (ul (E0_q179 a0) [(2, (Value.int .u64 0)), (3, (Value.int .u64 0)), (4, (Value.int .i64 1))]) h
theorem ga_q179 (Qv : Post) (a0 : Value) (h : Hp) : aw Try.prog O_q179 (bodyC Try.f99) Qv (E0_q179 a0) h = X_q179 Qv a0 h := by kernel_rfl
theorem gb_q179 (a0 : Value) (h : Hp) (K : Kont) : X_q179 (qTop Try.prog Try.f99 K) a0 h = G_q179 a0 h K := by kernel_rfl
theorem gc_q179 (a0 : Value) (h : Hp) (K : Kont) : abody Try.prog O_q179 Try.f99 (bodyC Try.f99) [a0] h K = aw Try.prog O_q179 (bodyC Try.f99) (qTop Try.prog Try.f99 K) (E0_q179 a0) h := by kernel_rfl
theorem eq_q179 (a0 : Value) (h : Hp) (K : Kont) : abody Try.prog O_q179 Try.f99 (bodyC Try.f99) [a0] h K = G_q179 a0 h K := (gc_q179 a0 h K).trans ((ga_q179 _ a0 h).trans (gb_q179 a0 h K))
theorem ok_q179 {a0 : Value} {h : Hp} {K : Kont} (hk : G_q179 a0 h K) : C_q179 [a0] h K := ac_of_body prog_mixed (fn := Try.f99) Try.func99 (c := bodyC Try.f99) (by kernel_rfl) ((eq_q179 a0 h K).mpr hk)
def B_q179_1 (K : Kont) (s0 : Self) (v0 v3 v4 : Value) (d : Nat → Value) (h : Hp) : Prop :=
  oBin .leq v4 (Value.int .i64 63) h fun t7 h1 =>
  oIf t7
  (G_q179_2 K s0 v0 v3 v4 (Value.int .i64 0) (ud [(6, v4), (7, t7)] d) h1)
  (K v3 h1)
def X_q179_1 (Qv : Post) (v0 v3 v4 : Value) (d : Nat → Value) (h : Hp) : Prop :=
  oBin .leq v4 (Value.int .i64 63) h fun t7 h1 =>
  oIf t7
  (aw Try.prog O_q179 K_q179_3 (qBlk 2 (qBlk 1 (qSeq (aw Try.prog O_q179 K_q179_4 Qv) Qv))) (ul (E_q179_1 v0 v3 v4 d) [(5, (Value.int .i64 0)), (6, v4), (7, t7)]) h1)
  ((qSeq (aw Try.prog O_q179 K_q179_5 Qv) Qv) (.exit 0) (ul (E_q179_1 v0 v3 v4 d) [(6, v4), (7, t7)]) h1)
theorem ga_q179_1 (Qv : Post) (v0 v3 v4 : Value) (d : Nat → Value) (h : Hp) : aw Try.prog O_q179 K_q179_2 Qv (E_q179_1 v0 v3 v4 d) h = X_q179_1 Qv v0 v3 v4 d h := by kernel_rfl
theorem gb_q179_1 (K : Kont) (s0 : Self) (v0 v3 v4 : Value) (d : Nat → Value) (h : Hp) : X_q179_1 (Q_q179_2 K s0) v0 v3 v4 d h = B_q179_1 K s0 v0 v3 v4 d h := by kernel_rfl
theorem beq_q179_1 (K : Kont) (s0 : Self) (v0 v3 v4 : Value) (d : Nat → Value) (h : Hp) : aw Try.prog O_q179 K_q179_2 (Q_q179_2 K s0) (E_q179_1 v0 v3 v4 d) h = B_q179_1 K s0 v0 v3 v4 d h := (ga_q179_1 _ v0 v3 v4 d h).trans (gb_q179_1 K s0 v0 v3 v4 d h)
theorem rule_q179_1 {K : Kont} {v0 : Value} (Inv : Value → Value → Hp → Prop) (μ : Value → Value → Hp → Nat)
    (step : ∀ (s0 : Self) (v3 v4 : Value) (d : Nat → Value) (h : Hp), Inv v3 v4 h → (∀ (v3' : Value) (v4' : Value) (d' : Nat → Value) (h' : Hp), Inv v3' v4' h' → μ v3' v4' h' < μ v3 v4 h → s0 (E_q179_1 v0 v3' v4' d') h') → B_q179_1 K s0 v0 v3 v4 d h) (v3 v4 : Value) (d : Nat → Value) (h : Hp) (hi : Inv v3 v4 h) : G_q179_1 K v0 v3 v4 d h :=
  oLoop_rule (α := Value × Value × (Nat → Value)) (fun x => E_q179_1 v0 x.1 x.2.1 x.2.2) (fun x h => Inv x.1 x.2.1 h) (fun x h => μ x.1 x.2.1 h)
    (fun self x h hx hs => (beq_q179_1 K self v0 x.1 x.2.1 x.2.2 h).mpr (step self x.1 x.2.1 x.2.2 h hx (fun v3' v4' d' h' h1 h2 => hs ⟨v3', v4', d'⟩ h' h1 h2))) ⟨v3, v4, d⟩ h hi
def B_q179_2 (K : Kont) (s0 : Self) (s1 : Self) (v0 v3 v4 v5 : Value) (d : Nat → Value) (h : Hp) : Prop :=
  oLen 0 v0 h fun t12 h1 =>
  oBin .lss v5 t12 h1 fun t13 h2 =>
  oIf t13
  (oIdxS 1 v0 v5 h2 fun t18 h3 =>
  oLd1 t18 h3 fun t19 h4 =>
  oBin .eql t19 v4 h4 fun t21 h5 =>
  oGuard t21 true (fun K => K v3 h5) h5 fun t23 h6 =>
  oGuard t21 true (fun K => K v4 h6) h6 fun t24 h7 =>
  oGuard t21 true (fun K => C_q178 [t23, t24] h7 K) h7 fun t25 h8 =>
  oGuard t21 true (fun K => oNot t25 h8 K) h8 fun t26 h9 =>
  oPick t21 t26 (Value.bool false) h9 fun t27 h10 =>
  oIf t27
  (oBin .shl (Value.int .u64 1) v4 h10 fun t30 h11 =>
  oBin .add v3 t30 h11 fun t31 h12 =>
  G_q179_3 K s0 s1 v0 t31 v4 v5 (ud [(10, v5), (11, v0), (12, t12), (13, t13), (16, v0), (17, v5), (18, t18), (19, t19), (20, v4), (21, t21), (22, t21), (23, t23), (24, t24), (25, t25), (26, t26), (27, t27), (28, v3), (29, v4), (30, t30), (31, t31)] d) h12)
  (G_q179_3 K s0 s1 v0 v3 v4 v5 (ud [(10, v5), (11, v0), (12, t12), (13, t13), (16, v0), (17, v5), (18, t18), (19, t19), (20, v4), (21, t21), (22, t21), (23, t23), (24, t24), (25, t25), (26, t26), (27, t27)] d) h10))
  (oBin .add v4 (Value.int .i64 1) h2 fun t9 h13 =>
  s0 (E_q179_1 v0 v3 t9 (ud [(5, v5), (8, v4), (9, t9), (10, v5), (11, v0), (12, t12), (13, t13)] d)) h13)
def X_q179_2 (Qv : Post) (v0 v3 v4 v5 : Value) (d : Nat → Value) (h : Hp) : Prop :=
  oLen 0 v0 h fun t12 h1 =>
  oBin .lss v5 t12 h1 fun t13 h2 =>
  oIf t13
  (oIdxS 1 v0 v5 h2 fun t18 h3 =>
  oLd1 t18 h3 fun t19 h4 =>
  oBin .eql t19 v4 h4 fun t21 h5 =>
  oGuard t21 true (fun K => K v3 h5) h5 fun t23 h6 =>
  oGuard t21 true (fun K => K v4 h6) h6 fun t24 h7 =>
  oGuard t21 true (fun K => C_q178 [t23, t24] h7 K) h7 fun t25 h8 =>
  oGuard t21 true (fun K => oNot t25 h8 K) h8 fun t26 h9 =>
  oPick t21 t26 (Value.bool false) h9 fun t27 h10 =>
  oIf t27
  (oBin .shl (Value.int .u64 1) v4 h10 fun t30 h11 =>
  oBin .add v3 t30 h11 fun t31 h12 =>
  (qBlk 3 (qSeq (aw Try.prog O_q179 K_q179_7 Qv) Qv)) .normal (ul (E_q179_2 v0 v3 v4 v5 d) [(3, t31), (10, v5), (11, v0), (12, t12), (13, t13), (16, v0), (17, v5), (18, t18), (19, t19), (20, v4), (21, t21), (22, t21), (23, t23), (24, t24), (25, t25), (26, t26), (27, t27), (28, v3), (29, v4), (30, t30), (31, t31)]) h12)
  ((qBlk 3 (qSeq (aw Try.prog O_q179 K_q179_7 Qv) Qv)) .normal (ul (E_q179_2 v0 v3 v4 v5 d) [(10, v5), (11, v0), (12, t12), (13, t13), (16, v0), (17, v5), (18, t18), (19, t19), (20, v4), (21, t21), (22, t21), (23, t23), (24, t24), (25, t25), (26, t26), (27, t27)]) h10))
  ((qSeq (aw Try.prog O_q179 K_q179_8 Qv) Qv) (.exit 2) (ul (E_q179_2 v0 v3 v4 v5 d) [(10, v5), (11, v0), (12, t12), (13, t13)]) h2)
theorem ga_q179_2 (Qv : Post) (v0 v3 v4 v5 : Value) (d : Nat → Value) (h : Hp) : aw Try.prog O_q179 K_q179_6 Qv (E_q179_2 v0 v3 v4 v5 d) h = X_q179_2 Qv v0 v3 v4 v5 d h := by kernel_rfl
theorem gb_q179_2 (K : Kont) (s0 : Self) (s1 : Self) (v0 v3 v4 v5 : Value) (d : Nat → Value) (h : Hp) : X_q179_2 (Q_q179_6 K s0 s1) v0 v3 v4 v5 d h = B_q179_2 K s0 s1 v0 v3 v4 v5 d h := by kernel_rfl
theorem beq_q179_2 (K : Kont) (s0 : Self) (s1 : Self) (v0 v3 v4 v5 : Value) (d : Nat → Value) (h : Hp) : aw Try.prog O_q179 K_q179_6 (Q_q179_6 K s0 s1) (E_q179_2 v0 v3 v4 v5 d) h = B_q179_2 K s0 s1 v0 v3 v4 v5 d h := (ga_q179_2 _ v0 v3 v4 v5 d h).trans (gb_q179_2 K s0 s1 v0 v3 v4 v5 d h)
theorem rule_q179_2 {K : Kont} {s0 : Self} {v0 v4 : Value} (Inv : Value → Value → Hp → Prop) (μ : Value → Value → Hp → Nat)
    (step : ∀ (s1 : Self) (v3 v5 : Value) (d : Nat → Value) (h : Hp), Inv v3 v5 h → (∀ (v3' : Value) (v5' : Value) (d' : Nat → Value) (h' : Hp), Inv v3' v5' h' → μ v3' v5' h' < μ v3 v5 h → s1 (E_q179_2 v0 v3' v4 v5' d') h') → B_q179_2 K s0 s1 v0 v3 v4 v5 d h) (v3 v5 : Value) (d : Nat → Value) (h : Hp) (hi : Inv v3 v5 h) : G_q179_2 K s0 v0 v3 v4 v5 d h :=
  oLoop_rule (α := Value × Value × (Nat → Value)) (fun x => E_q179_2 v0 x.1 v4 x.2.1 x.2.2) (fun x h => Inv x.1 x.2.1 h) (fun x h => μ x.1 x.2.1 h)
    (fun self x h hx hs => (beq_q179_2 K s0 self v0 x.1 v4 x.2.1 x.2.2 h).mpr (step self x.1 x.2.1 x.2.2 h hx (fun v3' v5' d' h' h1 h2 => hs ⟨v3', v5', d'⟩ h' h1 h2))) ⟨v3, v5, d⟩ h hi
def R_q179_3 (K : Kont) (s0 : Self) (s1 : Self) (v0 v3 v4 v5 : Value) (d : Nat → Value) (h : Hp) : Prop :=
  oBin .add v5 (Value.int .i64 1) h fun t15 h1 =>
  s1 (E_q179_2 v0 v3 v4 t15 (ud [(14, v5), (15, t15)] d)) h1
def X_q179_3 (Qv : Post) (v0 v3 v4 v5 : Value) (d : Nat → Value) (h : Hp) : Prop :=
  oBin .add v5 (Value.int .i64 1) h fun t15 h1 =>
  Qv .normal (ul (E_q179_3 v0 v3 v4 v5 d) [(5, t15), (14, v5), (15, t15)]) h1
theorem ga_q179_3 (Qv : Post) (v0 v3 v4 v5 : Value) (d : Nat → Value) (h : Hp) : aw Try.prog O_q179 K_q179_7 Qv (E_q179_3 v0 v3 v4 v5 d) h = X_q179_3 Qv v0 v3 v4 v5 d h := by kernel_rfl
theorem gb_q179_3 (K : Kont) (s0 : Self) (s1 : Self) (v0 v3 v4 v5 : Value) (d : Nat → Value) (h : Hp) : X_q179_3 (Q_q179_6 K s0 s1) v0 v3 v4 v5 d h = R_q179_3 K s0 s1 v0 v3 v4 v5 d h := by kernel_rfl
theorem req_q179_3 (K : Kont) (s0 : Self) (s1 : Self) (v0 v3 v4 v5 : Value) (d : Nat → Value) (h : Hp) : G_q179_3 K s0 s1 v0 v3 v4 v5 d h = R_q179_3 K s0 s1 v0 v3 v4 v5 d h := (ga_q179_3 _ v0 v3 v4 v5 d h).trans (gb_q179_3 K s0 s1 v0 v3 v4 v5 d h)
def O_q178 : Od := []
noncomputable def K_q178_0 : Code := (cI (cB (cA (cB (cB (bodyC Try.f111))))))
noncomputable def K_q178_1 : Code := (cB (cB (cB (bodyC Try.f111))))
def Q_q178_0 (K : Kont) : Post := qSeq (aw Try.prog O_q178 K_q178_1 (qTop Try.prog Try.f111 K)) (qTop Try.prog Try.f111 K)
def Q_q178_1 (K : Kont) : Post := qBlk 0 (Q_q178_0 K)
def E_q178_1 (v0 v1 v5 : Value) (d : Nat → Value) : List Value := [v0, v1, d 2, d 3, d 4, v5, d 6, d 7, d 8, d 9, d 10, d 11, d 12, d 13, d 14, d 15, d 16, d 17, d 18, d 19, d 20, d 21]
def G_q178_1 (K : Kont) (v0 v1 v5 : Value) (d : Nat → Value) (h : Hp) : Prop := aw Try.prog O_q178 K_q178_0 (Q_q178_1 K) (E_q178_1 v0 v1 v5 d) h
noncomputable def K_q178_2 : Code := (cB (cB (bodyC Try.f111)))
def Q_q178_2 (K : Kont) (s0 : Self) : Post := qSeq s0 (Q_q178_1 K)
noncomputable def K_q178_3 : Code := (cI (cI (cB (cA (cB (cB (bodyC Try.f111)))))))
noncomputable def K_q178_4 : Code := (cB (cI (cI (cB (cA (cB (cB (bodyC Try.f111))))))))
def G_q178 (a0 a1 : Value) (h : Hp) (K : Kont) : Prop :=
  oBin .lss a1 (Value.int .i64 1) h fun t7 h1 =>
  oGuard t7 false (fun K => K a1 h1) h1 fun t9 h2 =>
  oGuard t7 false (fun K => oBin .gtr t9 (Value.int .i64 63) h2 K) h2 fun t10 h3 =>
  oPick t7 (Value.bool true) t10 h3 fun t11 h4 =>
  oIf t11
  (K (Value.bool false) h4)
  (G_q178_1 K a0 a1 (Value.int .i64 0) (ud [(4, (Value.bool false)), (6, a1), (7, t7), (8, t7), (9, t9), (10, t10), (11, t11)] dz) h4)
def E0_q178 (a0 a1 : Value) : List Value := [a0, a1, undef, undef, undef, undef, undef, undef, undef, undef, undef, undef, undef, undef, undef, undef, undef, undef, undef, undef, undef, undef]
def X_q178 (Qv : Post) (a0 a1 : Value) (h : Hp) : Prop :=
  oBin .lss a1 (Value.int .i64 1) h fun t7 h1 =>
  oGuard t7 false (fun K => K a1 h1) h1 fun t9 h2 =>
  oGuard t7 false (fun K => oBin .gtr t9 (Value.int .i64 63) h2 K) h2 fun t10 h3 =>
  oPick t7 (Value.bool true) t10 h3 fun t11 h4 =>
  oIf t11
  ((qSeq (aw Try.prog O_q178 K_q178_2 Qv) Qv) .ret (ul (E0_q178 a0 a1) [(4, (Value.bool false)), (6, a1), (7, t7), (8, t7), (9, t9), (10, t10), (11, t11)]) h4)
  (aw Try.prog O_q178 K_q178_0 (qBlk 0 (qSeq (aw Try.prog O_q178 K_q178_1 Qv) Qv)) (ul (E0_q178 a0 a1) [(4, (Value.bool false)), (5, (Value.int .i64 0)), (6, a1), (7, t7), (8, t7), (9, t9), (10, t10), (11, t11)]) h4)
theorem ga_q178 (Qv : Post) (a0 a1 : Value) (h : Hp) : aw Try.prog O_q178 (bodyC Try.f111) Qv (E0_q178 a0 a1) h = X_q178 Qv a0 a1 h := by kernel_rfl
theorem gb_q178 (a0 a1 : Value) (h : Hp) (K : Kont) : X_q178 (qTop Try.prog Try.f111 K) a0 a1 h = G_q178 a0 a1 h K := by kernel_rfl
theorem gc_q178 (a0 a1 : Value) (h : Hp) (K : Kont) : abody Try.prog O_q178 Try.f111 (bodyC Try.f111) [a0, a1] h K = aw Try.prog O_q178 (bodyC Try.f111) (qTop Try.prog Try.f111 K) (E0_q178 a0 a1) h := by kernel_rfl
theorem eq_q178 (a0 a1 : Value) (h : Hp) (K : Kont) : abody Try.prog O_q178 Try.f111 (bodyC Try.f111) [a0, a1] h K = G_q178 a0 a1 h K := (gc_q178 a0 a1 h K).trans ((ga_q178 _ a0 a1 h).trans (gb_q178 a0 a1 h K))
theorem ok_q178 {a0 a1 : Value} {h : Hp} {K : Kont} (hk : G_q178 a0 a1 h K) : C_q178 [a0, a1] h K := ac_of_body prog_mixed (fn := Try.f111) Try.func111 (c := bodyC Try.f111) (by kernel_rfl) ((eq_q178 a0 a1 h K).mpr hk)
def B_q178_1 (K : Kont) (s0 : Self) (v0 v1 v5 : Value) (d : Nat → Value) (h : Hp) : Prop :=
  oBin .lss v5 v1 h fun t14 h1 =>
  oIf t14
  (oBin .quo v0 (Value.int .u64 2) h1 fun t18 h2 =>
  oBin .add v5 (Value.int .i64 1) h2 fun t16 h3 =>
  s0 (E_q178_1 t18 v1 t16 (ud [(12, v5), (13, v1), (14, t14), (15, v5), (16, t16), (17, v0), (18, t18)] d)) h3)
  (oBin .rem v0 (Value.int .u64 2) h1 fun t20 h4 =>
  oBin .eql t20 (Value.int .u64 1) h4 fun t21 h5 =>
  K t21 h5)
def X_q178_1 (Qv : Post) (v0 v1 v5 : Value) (d : Nat → Value) (h : Hp) : Prop :=
  oBin .lss v5 v1 h fun t14 h1 =>
  oIf t14
  (oBin .quo v0 (Value.int .u64 2) h1 fun t18 h2 =>
  oBin .add v5 (Value.int .i64 1) h2 fun t16 h3 =>
  Qv .normal (ul (E_q178_1 v0 v1 v5 d) [(0, t18), (5, t16), (12, v5), (13, v1), (14, t14), (15, v5), (16, t16), (17, v0), (18, t18)]) h3)
  ((qSeq (aw Try.prog O_q178 K_q178_4 Qv) Qv) (.exit 0) (ul (E_q178_1 v0 v1 v5 d) [(12, v5), (13, v1), (14, t14)]) h1)
theorem ga_q178_1 (Qv : Post) (v0 v1 v5 : Value) (d : Nat → Value) (h : Hp) : aw Try.prog O_q178 K_q178_3 Qv (E_q178_1 v0 v1 v5 d) h = X_q178_1 Qv v0 v1 v5 d h := by kernel_rfl
theorem gb_q178_1 (K : Kont) (s0 : Self) (v0 v1 v5 : Value) (d : Nat → Value) (h : Hp) : X_q178_1 (Q_q178_2 K s0) v0 v1 v5 d h = B_q178_1 K s0 v0 v1 v5 d h := by kernel_rfl
theorem beq_q178_1 (K : Kont) (s0 : Self) (v0 v1 v5 : Value) (d : Nat → Value) (h : Hp) : aw Try.prog O_q178 K_q178_3 (Q_q178_2 K s0) (E_q178_1 v0 v1 v5 d) h = B_q178_1 K s0 v0 v1 v5 d h := (ga_q178_1 _ v0 v1 v5 d h).trans (gb_q178_1 K s0 v0 v1 v5 d h)
theorem rule_q178_1 {K : Kont} {v1 : Value} (Inv : Value → Value → Hp → Prop) (μ : Value → Value → Hp → Nat)
    (step : ∀ (s0 : Self) (v0 v5 : Value) (d : Nat → Value) (h : Hp), Inv v0 v5 h → (∀ (v0' : Value) (v5' : Value) (d' : Nat → Value) (h' : Hp), Inv v0' v5' h' → μ v0' v5' h' < μ v0 v5 h → s0 (E_q178_1 v0' v1 v5' d') h') → B_q178_1 K s0 v0 v1 v5 d h) (v0 v5 : Value) (d : Nat → Value) (h : Hp) (hi : Inv v0 v5 h) : G_q178_1 K v0 v1 v5 d h :=
  oLoop_rule (α := Value × Value × (Nat → Value)) (fun x => E_q178_1 x.1 v1 x.2.1 x.2.2) (fun x h => Inv x.1 x.2.1 h) (fun x h => μ x.1 x.2.1 h)
    (fun self x h hx hs => (beq_q178_1 K self x.1 v1 x.2.1 x.2.2 h).mpr (step self x.1 x.2.1 x.2.2 h hx (fun v0' v5' d' h' h1 h2 => hs ⟨v0', v5', d'⟩ h' h1 h2))) ⟨v0, v5, d⟩ h hi
def O_q152 : Od := []
noncomputable def K_q152_0 : Code := (cB (cB (bodyC Try.f112)))
def G_q152 (a0 : Value) (h : Hp) (K : Kont) : Prop :=
  oBin .lss a0 (Value.int .i64 1) h fun t4 h1 =>
  oIf t4
  (K (Value.int .i64 0) h1)
  (oBin .quo a0 (Value.int .i64 2) h1 fun t6 h2 =>
  oBin .add t6 (Value.int .i64 1) h2 fun t7 h3 =>
  K t7 h3)
def E0_q152 (a0 : Value) : List Value := [a0, undef, undef, undef, undef, undef, undef, undef]
def X_q152 (Qv : Post) (a0 : Value) (h : Hp) : Prop :=
  oBin .lss a0 (Value.int .i64 1) h fun t4 h1 =>
  oIf t4
  ((qSeq (aw Try.prog O_q152 K_q152_0 Qv) Qv) .ret (ul (E0_q152 a0) [(2, (Value.int .i64 0)), (3, a0), (4, t4)]) h1)
  (oBin .quo a0 (Value.int .i64 2) h1 fun t6 h2 =>
  oBin .add t6 (Value.int .i64 1) h2 fun t7 h3 =>
  Qv .ret (ul (E0_q152 a0) [(2, t7), (3, a0), (4, t4), (5, a0), (6, t6), (7, t7)]) h3)
theorem ga_q152 (Qv : Post) (a0 : Value) (h : Hp) : aw Try.prog O_q152 (bodyC Try.f112) Qv (E0_q152 a0) h = X_q152 Qv a0 h := by kernel_rfl
theorem gb_q152 (a0 : Value) (h : Hp) (K : Kont) : X_q152 (qTop Try.prog Try.f112 K) a0 h = G_q152 a0 h K := by kernel_rfl
theorem gc_q152 (a0 : Value) (h : Hp) (K : Kont) : abody Try.prog O_q152 Try.f112 (bodyC Try.f112) [a0] h K = aw Try.prog O_q152 (bodyC Try.f112) (qTop Try.prog Try.f112 K) (E0_q152 a0) h := by kernel_rfl
theorem eq_q152 (a0 : Value) (h : Hp) (K : Kont) : abody Try.prog O_q152 Try.f112 (bodyC Try.f112) [a0] h K = G_q152 a0 h K := (gc_q152 a0 h K).trans ((ga_q152 _ a0 h).trans (gb_q152 a0 h K))
theorem ok_q152 {a0 : Value} {h : Hp} {K : Kont} (hk : G_q152 a0 h K) : C_q152 [a0] h K := ac_of_body prog_mixed (fn := Try.f112) Try.func112 (c := bodyC Try.f112) (by kernel_rfl) ((eq_q152 a0 h K).mpr hk)
end Go.Proofs.Ytdolepapmpcpiaa



namespace Go.Proofs.Ytdolepapmpcpiaa
open Go
set_option linter.unusedSectionVars false
variable [Base]
set_option linter.unusedVariables false
set_option linter.unusedSimpArgs false
structure Cmd where
  kind : Int
  chain : Int
  epoch : Int
  node : Int
  deriving DecidableEq
structure Vote where
  slot : Int
  ballot : Int
  cmd : Cmd
  deriving DecidableEq
def cmd0 : Cmd := ⟨0, 0, 0, 0⟩
def vote0 : Vote := ⟨0, 0, cmd0⟩
def voteV (v : Vote) : Value := .agg #[.int .i64 v.slot, .int .u64 v.ballot, .int .i64 v.cmd.kind, .int .i64 v.cmd.chain, .int .u64 v.cmd.epoch, .int .i64 v.cmd.node]
end Go.Proofs.Ytdolepapmpcpiaa

