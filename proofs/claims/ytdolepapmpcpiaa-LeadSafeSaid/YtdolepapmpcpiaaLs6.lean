/- Lemmas for the theorem of the last text; no condition. -/
import Derived.Test.YtdolepapmpcpiaaLs0
import Derived.Test.YtdolepapmpcpiaaLs1
import Derived.Test.YtdolepapmpcpiaaLs2
import Derived.Test.YtdolepapmpcpiaaLs3
import Derived.Test.YtdolepapmpcpiaaLs4
import Derived.Test.YtdolepapmpcpiaaLs5
import Derived.Test.YtdolepapmpcpiaaProg
namespace Go.Proofs.Ytdolepapmpcpiaa
open Go
set_option linter.unusedSectionVars false
variable [Base]
set_option linter.unusedVariables false
set_option maxRecDepth 100000
def O_q34 : Od := [(1, (.one 0 true (.one 1 true (.one 2 true (.one 3 true (.one 4 true (.one 5 true (.one 6 true (.one 7 true (.one 8 true (.one 9 true (.one 10 true (.one 11 true (.one 12 true .nil))))))))))))))]
def G_q34 (a0 a1 : Value) (h : Hp) (K : Kont) : Prop :=
  oBox a0 h fun t2 h1 =>
  oFieldAddr 0 t2 h1 fun t4 h2 =>
  oLd1 t4 h2 fun t5 h3 =>
  oLd1 a1 h3 fun t6 h4 =>
  oNilCheck t6 h4 fun t7 h5 =>
  oFieldAddr 4 t7 h5 fun t8 h6 =>
  oLd1 t8 h6 fun t9 h7 =>
  oBin .lss t5 t9 h7 fun t10 h8 =>
  oGuard t10 false (fun K => oFieldAddr 0 t2 h8 K) h8 fun t12 h9 =>
  oGuard t10 false (fun K => oLd1 t12 h9 K) h9 fun t13 h10 =>
  oGuard t10 false (fun K => oBin .geq t13 (Value.int .i64 512) h10 K) h10 fun t14 h11 =>
  oPick t10 (Value.bool true) t14 h11 fun t15 h12 =>
  K t15 h12
def E0_q34 (a0 a1 : Value) : List Value := [a0, a1, undef, undef, undef, undef, undef, undef, undef, undef, undef, undef, undef, undef, undef, undef]
def X_q34 (Qv : Post) (a0 a1 : Value) (h : Hp) : Prop :=
  oBox a0 h fun t2 h1 =>
  oFieldAddr 0 t2 h1 fun t4 h2 =>
  oLd1 t4 h2 fun t5 h3 =>
  oLd1 a1 h3 fun t6 h4 =>
  oNilCheck t6 h4 fun t7 h5 =>
  oFieldAddr 4 t7 h5 fun t8 h6 =>
  oLd1 t8 h6 fun t9 h7 =>
  oBin .lss t5 t9 h7 fun t10 h8 =>
  oGuard t10 false (fun K => oFieldAddr 0 t2 h8 K) h8 fun t12 h9 =>
  oGuard t10 false (fun K => oLd1 t12 h9 K) h9 fun t13 h10 =>
  oGuard t10 false (fun K => oBin .geq t13 (Value.int .i64 512) h10 K) h10 fun t14 h11 =>
  oPick t10 (Value.bool true) t14 h11 fun t15 h12 =>
  Qv .ret (ul (E0_q34 a0 a1) [(2, t2), (3, t15), (4, t4), (5, t5), (6, t6), (7, t7), (8, t8), (9, t9), (10, t10), (11, t10), (12, t12), (13, t13), (14, t14), (15, t15)]) h12
theorem ga_q34 (Qv : Post) (a0 a1 : Value) (h : Hp) : aw Try.prog O_q34 (bodyC Try.f56) Qv (E0_q34 a0 a1) h = X_q34 Qv a0 a1 h := by kernel_rfl
theorem gb_q34 (a0 a1 : Value) (h : Hp) (K : Kont) : X_q34 (qTop Try.prog Try.f56 K) a0 a1 h = G_q34 a0 a1 h K := by kernel_rfl
theorem gc_q34 (a0 a1 : Value) (h : Hp) (K : Kont) : abody Try.prog O_q34 Try.f56 (bodyC Try.f56) [a0, a1] h K = aw Try.prog O_q34 (bodyC Try.f56) (qTop Try.prog Try.f56 K) (E0_q34 a0 a1) h := by kernel_rfl
theorem eq_q34 (a0 a1 : Value) (h : Hp) (K : Kont) : abody Try.prog O_q34 Try.f56 (bodyC Try.f56) [a0, a1] h K = G_q34 a0 a1 h K := (gc_q34 a0 a1 h K).trans ((ga_q34 _ a0 a1 h).trans (gb_q34 a0 a1 h K))
theorem ok_q34 {a0 a1 : Value} {h : Hp} {K : Kont} (hk : G_q34 a0 a1 h K) : C_q34 [a0, a1] h K := ac_of_body prog_mixed (fn := Try.f56) Try.func56 (c := bodyC Try.f56) (by kernel_rfl) ((eq_q34 a0 a1 h K).mpr hk)
def O_q133 : Od := []
noncomputable def K_q133_0 : Code := (cI (cB (cA (cB (cB (bodyC Try.f57))))))
noncomputable def K_q133_1 : Code := (cB (cB (cB (bodyC Try.f57))))
def Q_q133_0 (K : Kont) : Post := qSeq (aw Try.prog O_q133 K_q133_1 (qTop Try.prog Try.f57 K)) (qTop Try.prog Try.f57 K)
def Q_q133_1 (K : Kont) : Post := qBlk 0 (Q_q133_0 K)
def E_q133_1 (v0 v9 v10 v11 : Value) (d : Nat → Value) : List Value := [v0, d 1, d 2, d 3, d 4, d 5, d 6, d 7, d 8, v9, v10, v11, d 12, d 13, d 14, d 15, d 16, d 17, d 18, d 19, d 20, d 21, d 22]
def G_q133_1 (K : Kont) (v0 v9 v10 v11 : Value) (d : Nat → Value) (h : Hp) : Prop := aw Try.prog O_q133 K_q133_0 (Q_q133_1 K) (E_q133_1 v0 v9 v10 v11 d) h
def Q_q133_2 (K : Kont) (s0 : Self) : Post := qSeq s0 (Q_q133_1 K)
noncomputable def K_q133_2 : Code := (cI (cI (cB (cA (cB (cB (bodyC Try.f57)))))))
noncomputable def K_q133_3 : Code := (cB (cB (cB (cI (cI (cB (cA (cB (cB (bodyC Try.f57))))))))))
def E_q133_2 (v0 v9 v10 v11 : Value) (d : Nat → Value) : List Value := [v0, d 1, d 2, d 3, d 4, d 5, d 6, d 7, d 8, v9, v10, v11, d 12, d 13, d 14, d 15, d 16, d 17, d 18, d 19, d 20, d 21, d 22]
def G_q133_2 (K : Kont) (s0 : Self) (v0 v9 v10 v11 : Value) (d : Nat → Value) (h : Hp) : Prop := aw Try.prog O_q133 K_q133_3 (Q_q133_2 K s0) (E_q133_2 v0 v9 v10 v11 d) h
noncomputable def K_q133_4 : Code := (cB (cB (cI (cI (cB (cA (cB (cB (bodyC Try.f57)))))))))
def G_q133 (a0 a1 : Value) (h : Hp) (K : Kont) : Prop :=
  oBin .andNot a0 (Value.int .u64 1) h fun t8 h1 =>
  oLen 0 a1 h1 fun t10 h2 =>
  G_q133_1 K t8 a1 t10 (Value.int .i64 0) (ud [(1, a1), (4, (Value.int .u64 0)), (7, a0), (8, t8)] dz) h2
def E0_q133 (a0 a1 : Value) : List Value := [a0, a1, undef, undef, undef, undef, undef, undef, undef, undef, undef, undef, undef, undef, undef, undef, undef, undef, undef, undef, undef, undef, undef]
def X_q133 (Qv : Post) (a0 a1 : Value) (h : Hp) : Prop :=
  oBin .andNot a0 (Value.int .u64 1) h fun t8 h1 =>
  oLen 0 a1 h1 fun t10 h2 =>
  aw Try.prog O_q133 K_q133_0 (qBlk 0 (qSeq (aw Try.prog O_q133 K_q133_1 Qv) Qv)) (ul (E0_q133 a0 a1) [(0, t8), (4, (Value.int .u64 0)), (7, a0), (8, t8), (9, a1), (10, t10), (11, (Value.int .i64 0))]) h2
theorem ga_q133 (Qv : Post) (a0 a1 : Value) (h : Hp) : aw Try.prog O_q133 (bodyC Try.f57) Qv (E0_q133 a0 a1) h = X_q133 Qv a0 a1 h := by kernel_rfl
theorem gb_q133 (a0 a1 : Value) (h : Hp) (K : Kont) : X_q133 (qTop Try.prog Try.f57 K) a0 a1 h = G_q133 a0 a1 h K := by kernel_rfl
theorem gc_q133 (a0 a1 : Value) (h : Hp) (K : Kont) : abody Try.prog O_q133 Try.f57 (bodyC Try.f57) [a0, a1] h K = aw Try.prog O_q133 (bodyC Try.f57) (qTop Try.prog Try.f57 K) (E0_q133 a0 a1) h := by kernel_rfl
theorem eq_q133 (a0 a1 : Value) (h : Hp) (K : Kont) : abody Try.prog O_q133 Try.f57 (bodyC Try.f57) [a0, a1] h K = G_q133 a0 a1 h K := (gc_q133 a0 a1 h K).trans ((ga_q133 _ a0 a1 h).trans (gb_q133 a0 a1 h K))
theorem ok_q133 {a0 a1 : Value} {h : Hp} {K : Kont} (hk : G_q133 a0 a1 h K) : C_q133 [a0, a1] h K := ac_of_body prog_mixed (fn := Try.f57) Try.func57 (c := bodyC Try.f57) (by kernel_rfl) ((eq_q133 a0 a1 h K).mpr hk)
def B_q133_1 (K : Kont) (s0 : Self) (v0 v9 v10 v11 : Value) (d : Nat → Value) (h : Hp) : Prop :=
  oBin .lss v11 v10 h fun t12 h1 =>
  oIf t12
  (oIdxS 1 v9 v11 h1 fun t13 h2 =>
  oLd1 t13 h2 fun t14 h3 =>
  C_q105 [t14] h3 fun t16 h4 =>
  oIf t16
  (oBin .shl (Value.int .u64 1) t14 h4 fun t19 h5 =>
  oBin .or v0 t19 h5 fun t20 h6 =>
  G_q133_2 K s0 t20 v9 v10 v11 (ud [(6, t14), (12, t12), (13, t13), (14, t14), (15, t14), (16, t16), (17, v0), (18, t14), (19, t19), (20, t20)] d) h6)
  (G_q133_2 K s0 v0 v9 v10 v11 (ud [(6, t14), (12, t12), (13, t13), (14, t14), (15, t14), (16, t16)] d) h4))
  (K v0 h1)
def X_q133_1 (Qv : Post) (v0 v9 v10 v11 : Value) (d : Nat → Value) (h : Hp) : Prop :=
  oBin .lss v11 v10 h fun t12 h1 =>
  oIf t12
  (oIdxS 1 v9 v11 h1 fun t13 h2 =>
  oLd1 t13 h2 fun t14 h3 =>
  C_q105 [t14] h3 fun t16 h4 =>
  oIf t16
  (oBin .shl (Value.int .u64 1) t14 h4 fun t19 h5 =>
  oBin .or v0 t19 h5 fun t20 h6 =>
  (qBlk 1 (qSeq (aw Try.prog O_q133 K_q133_3 Qv) Qv)) .normal (ul (E_q133_1 v0 v9 v10 v11 d) [(0, t20), (6, t14), (12, t12), (13, t13), (14, t14), (15, t14), (16, t16), (17, v0), (18, t14), (19, t19), (20, t20)]) h6)
  ((qBlk 1 (qSeq (aw Try.prog O_q133 K_q133_3 Qv) Qv)) .normal (ul (E_q133_1 v0 v9 v10 v11 d) [(6, t14), (12, t12), (13, t13), (14, t14), (15, t14), (16, t16)]) h4))
  ((qSeq (aw Try.prog O_q133 K_q133_4 Qv) Qv) (.exit 0) (ul (E_q133_1 v0 v9 v10 v11 d) [(12, t12)]) h1)
theorem ga_q133_1 (Qv : Post) (v0 v9 v10 v11 : Value) (d : Nat → Value) (h : Hp) : aw Try.prog O_q133 K_q133_2 Qv (E_q133_1 v0 v9 v10 v11 d) h = X_q133_1 Qv v0 v9 v10 v11 d h := by kernel_rfl
theorem gb_q133_1 (K : Kont) (s0 : Self) (v0 v9 v10 v11 : Value) (d : Nat → Value) (h : Hp) : X_q133_1 (Q_q133_2 K s0) v0 v9 v10 v11 d h = B_q133_1 K s0 v0 v9 v10 v11 d h := by kernel_rfl
theorem beq_q133_1 (K : Kont) (s0 : Self) (v0 v9 v10 v11 : Value) (d : Nat → Value) (h : Hp) : aw Try.prog O_q133 K_q133_2 (Q_q133_2 K s0) (E_q133_1 v0 v9 v10 v11 d) h = B_q133_1 K s0 v0 v9 v10 v11 d h := (ga_q133_1 _ v0 v9 v10 v11 d h).trans (gb_q133_1 K s0 v0 v9 v10 v11 d h)
theorem rule_q133_1 {K : Kont} {v9 v10 : Value} (Inv : Value → Value → Hp → Prop) (μ : Value → Value → Hp → Nat)
    (step : ∀ (s0 : Self) (v0 v11 : Value) (d : Nat → Value) (h : Hp), Inv v0 v11 h → (∀ (v0' : Value) (v11' : Value) (d' : Nat → Value) (h' : Hp), Inv v0' v11' h' → μ v0' v11' h' < μ v0 v11 h → s0 (E_q133_1 v0' v9 v10 v11' d') h') → B_q133_1 K s0 v0 v9 v10 v11 d h) (v0 v11 : Value) (d : Nat → Value) (h : Hp) (hi : Inv v0 v11 h) : G_q133_1 K v0 v9 v10 v11 d h :=
  oLoop_rule (α := Value × Value × (Nat → Value)) (fun x => E_q133_1 x.1 v9 v10 x.2.1 x.2.2) (fun x h => Inv x.1 x.2.1 h) (fun x h => μ x.1 x.2.1 h)
    (fun self x h hx hs => (beq_q133_1 K self x.1 v9 v10 x.2.1 x.2.2 h).mpr (step self x.1 x.2.1 x.2.2 h hx (fun v0' v11' d' h' h1 h2 => hs ⟨v0', v11', d'⟩ h' h1 h2))) ⟨v0, v11, d⟩ h hi
def R_q133_2 (K : Kont) (s0 : Self) (v0 v9 v10 v11 : Value) (d : Nat → Value) (h : Hp) : Prop :=
  oBin .add v11 (Value.int .i64 1) h fun t21 h1 =>
  s0 (E_q133_1 v0 v9 v10 t21 (ud [(21, t21)] d)) h1
def X_q133_2 (Qv : Post) (v0 v9 v10 v11 : Value) (d : Nat → Value) (h : Hp) : Prop :=
  oBin .add v11 (Value.int .i64 1) h fun t21 h1 =>
  Qv .normal (ul (E_q133_2 v0 v9 v10 v11 d) [(11, t21), (21, t21)]) h1
theorem ga_q133_2 (Qv : Post) (v0 v9 v10 v11 : Value) (d : Nat → Value) (h : Hp) : aw Try.prog O_q133 K_q133_3 Qv (E_q133_2 v0 v9 v10 v11 d) h = X_q133_2 Qv v0 v9 v10 v11 d h := by kernel_rfl
theorem gb_q133_2 (K : Kont) (s0 : Self) (v0 v9 v10 v11 : Value) (d : Nat → Value) (h : Hp) : X_q133_2 (Q_q133_2 K s0) v0 v9 v10 v11 d h = R_q133_2 K s0 v0 v9 v10 v11 d h := by kernel_rfl
theorem req_q133_2 (K : Kont) (s0 : Self) (v0 v9 v10 v11 : Value) (d : Nat → Value) (h : Hp) : G_q133_2 K s0 v0 v9 v10 v11 d h = R_q133_2 K s0 v0 v9 v10 v11 d h := (ga_q133_2 _ v0 v9 v10 v11 d h).trans (gb_q133_2 K s0 v0 v9 v10 v11 d h)
def O_q4 : Od := []
def G_q4 (a0 : Value) (h : Hp) (K : Kont) : Prop :=
  oBox a0 h fun t1 h1 =>
  K (.func (Go.Fn.func 80) #[] #[t1]) h1
def E0_q4 (a0 : Value) : List Value := [a0, undef, undef, undef]
def X_q4 (Qv : Post) (a0 : Value) (h : Hp) : Prop :=
  oBox a0 h fun t1 h1 =>
  Qv .ret (ul (E0_q4 a0) [(1, t1), (2, (.func (Go.Fn.func 80) #[] #[t1])), (3, (.func (Go.Fn.func 80) #[] #[t1]))]) h1
theorem ga_q4 (Qv : Post) (a0 : Value) (h : Hp) : aw Try.prog O_q4 (bodyC Try.f58) Qv (E0_q4 a0) h = X_q4 Qv a0 h := by kernel_rfl
theorem gb_q4 (a0 : Value) (h : Hp) (K : Kont) : X_q4 (qTop Try.prog Try.f58 K) a0 h = G_q4 a0 h K := by kernel_rfl
theorem gc_q4 (a0 : Value) (h : Hp) (K : Kont) : abody Try.prog O_q4 Try.f58 (bodyC Try.f58) [a0] h K = aw Try.prog O_q4 (bodyC Try.f58) (qTop Try.prog Try.f58 K) (E0_q4 a0) h := by kernel_rfl
theorem eq_q4 (a0 : Value) (h : Hp) (K : Kont) : abody Try.prog O_q4 Try.f58 (bodyC Try.f58) [a0] h K = G_q4 a0 h K := (gc_q4 a0 h K).trans ((ga_q4 _ a0 h).trans (gb_q4 a0 h K))
theorem ok_q4 {a0 : Value} {h : Hp} {K : Kont} (hk : G_q4 a0 h K) : C_q4 [a0] h K := ac_of_body prog_mixed (fn := Try.f58) Try.func58 (c := bodyC Try.f58) (by kernel_rfl) ((eq_q4 a0 h K).mpr hk)
def O_q102 : Od := []
noncomputable def K_q102_0 : Code := (cB (cB (cB (bodyC Try.f59))))
def E_q102_1 (v0 v1 : Value) (d : Nat → Value) : List Value := [v0, v1, d 2, d 3, d 4, d 5, d 6, d 7, d 8, d 9, d 10, d 11, d 12, d 13, d 14, d 15, d 16, d 17, d 18, d 19]
def G_q102_1 (K : Kont) (v0 v1 : Value) (d : Nat → Value) (h : Hp) : Prop := aw Try.prog O_q102 K_q102_0 (qTop Try.prog Try.f59 K) (E_q102_1 v0 v1 d) h
noncomputable def K_q102_1 : Code := (cB (cB (bodyC Try.f59)))
def G_q102 (a0 a1 : Value) (h : Hp) (K : Kont) : Prop :=
  oBin .lss a1 (Value.int .i64 1) h fun t6 h1 =>
  oIf t6
  (K (Value.bool false) h1)
  (oBin .lss a1 (Value.int .i64 63) h1 fun t8 h2 =>
  oIf t8
  (oBin .add a1 (Value.int .i64 1) h2 fun t11 h3 =>
  oBin .shl (Value.int .u64 1) t11 h3 fun t12 h4 =>
  oBin .sub t12 (Value.int .u64 1) h4 fun t13 h5 =>
  oBin .and a0 t13 h5 fun t14 h6 =>
  G_q102_1 K t14 a1 (ud [(4, (Value.bool false)), (5, a1), (6, t6), (7, a1), (8, t8), (9, a0), (10, a1), (11, t11), (12, t12), (13, t13), (14, t14)] dz) h6)
  (G_q102_1 K a0 a1 (ud [(4, (Value.bool false)), (5, a1), (6, t6), (7, a1), (8, t8)] dz) h2))
def E0_q102 (a0 a1 : Value) : List Value := [a0, a1, undef, undef, undef, undef, undef, undef, undef, undef, undef, undef, undef, undef, undef, undef, undef, undef, undef, undef]
def X_q102 (Qv : Post) (a0 a1 : Value) (h : Hp) : Prop :=
  oBin .lss a1 (Value.int .i64 1) h fun t6 h1 =>
  oIf t6
  ((qSeq (aw Try.prog O_q102 K_q102_1 Qv) Qv) .ret (ul (E0_q102 a0 a1) [(4, (Value.bool false)), (5, a1), (6, t6)]) h1)
  (oBin .lss a1 (Value.int .i64 63) h1 fun t8 h2 =>
  oIf t8
  (oBin .add a1 (Value.int .i64 1) h2 fun t11 h3 =>
  oBin .shl (Value.int .u64 1) t11 h3 fun t12 h4 =>
  oBin .sub t12 (Value.int .u64 1) h4 fun t13 h5 =>
  oBin .and a0 t13 h5 fun t14 h6 =>
  (qSeq (aw Try.prog O_q102 K_q102_0 Qv) Qv) .normal (ul (E0_q102 a0 a1) [(0, t14), (4, (Value.bool false)), (5, a1), (6, t6), (7, a1), (8, t8), (9, a0), (10, a1), (11, t11), (12, t12), (13, t13), (14, t14)]) h6)
  ((qSeq (aw Try.prog O_q102 K_q102_0 Qv) Qv) .normal (ul (E0_q102 a0 a1) [(4, (Value.bool false)), (5, a1), (6, t6), (7, a1), (8, t8)]) h2))
theorem ga_q102 (Qv : Post) (a0 a1 : Value) (h : Hp) : aw Try.prog O_q102 (bodyC Try.f59) Qv (E0_q102 a0 a1) h = X_q102 Qv a0 a1 h := by kernel_rfl
theorem gb_q102 (a0 a1 : Value) (h : Hp) (K : Kont) : X_q102 (qTop Try.prog Try.f59 K) a0 a1 h = G_q102 a0 a1 h K := by kernel_rfl
theorem gc_q102 (a0 a1 : Value) (h : Hp) (K : Kont) : abody Try.prog O_q102 Try.f59 (bodyC Try.f59) [a0, a1] h K = aw Try.prog O_q102 (bodyC Try.f59) (qTop Try.prog Try.f59 K) (E0_q102 a0 a1) h := by kernel_rfl
theorem eq_q102 (a0 a1 : Value) (h : Hp) (K : Kont) : abody Try.prog O_q102 Try.f59 (bodyC Try.f59) [a0, a1] h K = G_q102 a0 a1 h K := (gc_q102 a0 a1 h K).trans ((ga_q102 _ a0 a1 h).trans (gb_q102 a0 a1 h K))
theorem ok_q102 {a0 a1 : Value} {h : Hp} {K : Kont} (hk : G_q102 a0 a1 h K) : C_q102 [a0, a1] h K := ac_of_body prog_mixed (fn := Try.f59) Try.func59 (c := bodyC Try.f59) (by kernel_rfl) ((eq_q102 a0 a1 h K).mpr hk)
def R_q102_1 (K : Kont) (v0 v1 : Value) (d : Nat → Value) (h : Hp) : Prop :=
  C_q120 [v0] h fun t16 h1 =>
  C_q103 [v1] h1 fun t18 h2 =>
  oBin .geq t16 t18 h2 fun t19 h3 =>
  K t19 h3
def X_q102_1 (Qv : Post) (v0 v1 : Value) (d : Nat → Value) (h : Hp) : Prop :=
  C_q120 [v0] h fun t16 h1 =>
  C_q103 [v1] h1 fun t18 h2 =>
  oBin .geq t16 t18 h2 fun t19 h3 =>
  Qv .ret (ul (E_q102_1 v0 v1 d) [(4, t19), (15, v0), (16, t16), (17, v1), (18, t18), (19, t19)]) h3
theorem ga_q102_1 (Qv : Post) (v0 v1 : Value) (d : Nat → Value) (h : Hp) : aw Try.prog O_q102 K_q102_0 Qv (E_q102_1 v0 v1 d) h = X_q102_1 Qv v0 v1 d h := by kernel_rfl
theorem gb_q102_1 (K : Kont) (v0 v1 : Value) (d : Nat → Value) (h : Hp) : X_q102_1 (qTop Try.prog Try.f59 K) v0 v1 d h = R_q102_1 K v0 v1 d h := by kernel_rfl
theorem req_q102_1 (K : Kont) (v0 v1 : Value) (d : Nat → Value) (h : Hp) : G_q102_1 K v0 v1 d h = R_q102_1 K v0 v1 d h := (ga_q102_1 _ v0 v1 d h).trans (gb_q102_1 K v0 v1 d h)
def O_q95 : Od := [(3, (.one 0 true (.one 1 true (.one 2 true (.one 3 true (.one 4 true (.one 5 true (.one 6 true .nil))))))))]
noncomputable def K_q95_0 : Code := (cI (cB (bodyC Try.f60)))
def Q_q95_0 (K : Kont) : Post := qBlk 0 (qTop Try.prog Try.f60 K)
def E_q95_1 (v0 v6 v7 v8 : Value) (d : Nat → Value) : List Value := [v0, d 1, d 2, d 3, d 4, d 5, v6, v7, v8, d 9, d 10, d 11, d 12, d 13, d 14, d 15, d 16, d 17, d 18, d 19, d 20, d 21, d 22, d 23, d 24, d 25, d 26]
def G_q95_1 (K : Kont) (v0 v6 v7 v8 : Value) (d : Nat → Value) (h : Hp) : Prop := aw Try.prog O_q95 K_q95_0 (Q_q95_0 K) (E_q95_1 v0 v6 v7 v8 d) h
def Q_q95_1 (K : Kont) (s0 : Self) : Post := qSeq s0 (Q_q95_0 K)
noncomputable def K_q95_1 : Code := (cI (cI (cB (bodyC Try.f60))))
noncomputable def K_q95_2 : Code := (cI (cA (cB (cI (cA (cB (cB (cI (cI (cB (bodyC Try.f60)))))))))))
noncomputable def K_q95_3 : Code := (cB (cB (cB (cI (cI (cB (bodyC Try.f60)))))))
def Q_q95_2 (K : Kont) (s0 : Self) : Post := qSeq (aw Try.prog O_q95 K_q95_3 (Q_q95_1 K s0)) (Q_q95_1 K s0)
def Q_q95_3 (K : Kont) (s0 : Self) : Post := qBlk 1 (Q_q95_2 K s0)
noncomputable def K_q95_4 : Code := (cB (cB (cI (cA (cB (cB (cI (cI (cB (bodyC Try.f60))))))))))
def Q_q95_4 (K : Kont) (s0 : Self) : Post := qSeq (aw Try.prog O_q95 K_q95_4 (Q_q95_3 K s0)) (Q_q95_3 K s0)
def Q_q95_5 (K : Kont) (s0 : Self) : Post := qBlk 2 (Q_q95_4 K s0)
def E_q95_2 (v0 v3 v6 v7 v8 : Value) (d : Nat → Value) : List Value := [v0, d 1, d 2, v3, d 4, d 5, v6, v7, v8, d 9, d 10, d 11, d 12, d 13, d 14, d 15, d 16, d 17, d 18, d 19, d 20, d 21, d 22, d 23, d 24, d 25, d 26]
def G_q95_2 (K : Kont) (s0 : Self) (v0 v3 v6 v7 v8 : Value) (d : Nat → Value) (h : Hp) : Prop := aw Try.prog O_q95 K_q95_2 (Q_q95_5 K s0) (E_q95_2 v0 v3 v6 v7 v8 d) h
noncomputable def K_q95_5 : Code := (cB (cB (cI (cI (cB (bodyC Try.f60))))))
def Q_q95_6 (K : Kont) (s0 : Self) (s1 : Self) : Post := qSeq s1 (Q_q95_5 K s0)
noncomputable def K_q95_6 : Code := (cI (cI (cA (cB (cI (cA (cB (cB (cI (cI (cB (bodyC Try.f60))))))))))))
noncomputable def K_q95_7 : Code := (cB (cI (cI (cA (cB (cI (cA (cB (cB (cI (cI (cB (bodyC Try.f60)))))))))))))
def G_q95 (a0 : Value) (h : Hp) (K : Kont) : Prop :=
  C_q110 [a0] h fun t5 h1 =>
  C_q131 [t5] h1 fun t6 h2 =>
  oLen 0 t6 h2 fun t7 h3 =>
  G_q95_1 K a0 t6 t7 (Value.int .i64 0) (ud [(4, a0), (5, t5)] dz) h3
def E0_q95 (a0 : Value) : List Value := [a0, undef, undef, undef, undef, undef, undef, undef, undef, undef, undef, undef, undef, undef, undef, undef, undef, undef, undef, undef, undef, undef, undef, undef, undef, undef, undef]
def X_q95 (Qv : Post) (a0 : Value) (h : Hp) : Prop :=
  C_q110 [a0] h fun t5 h1 =>
  C_q131 [t5] h1 fun t6 h2 =>
  oLen 0 t6 h2 fun t7 h3 =>
  aw Try.prog O_q95 K_q95_0 (qBlk 0 Qv) (ul (E0_q95 a0) [(4, a0), (5, t5), (6, t6), (7, t7), (8, (Value.int .i64 0))]) h3
theorem ga_q95 (Qv : Post) (a0 : Value) (h : Hp) : aw Try.prog O_q95 (bodyC Try.f60) Qv (E0_q95 a0) h = X_q95 Qv a0 h := by kernel_rfl
theorem gb_q95 (a0 : Value) (h : Hp) (K : Kont) : X_q95 (qTop Try.prog Try.f60 K) a0 h = G_q95 a0 h K := by kernel_rfl
theorem gc_q95 (a0 : Value) (h : Hp) (K : Kont) : abody Try.prog O_q95 Try.f60 (bodyC Try.f60) [a0] h K = aw Try.prog O_q95 (bodyC Try.f60) (qTop Try.prog Try.f60 K) (E0_q95 a0) h := by kernel_rfl
theorem eq_q95 (a0 : Value) (h : Hp) (K : Kont) : abody Try.prog O_q95 Try.f60 (bodyC Try.f60) [a0] h K = G_q95 a0 h K := (gc_q95 a0 h K).trans ((ga_q95 _ a0 h).trans (gb_q95 a0 h K))
theorem ok_q95 {a0 : Value} {h : Hp} {K : Kont} (hk : G_q95 a0 h K) : C_q95 [a0] h K := ac_of_body prog_mixed (fn := Try.f60) Try.func60 (c := bodyC Try.f60) (by kernel_rfl) ((eq_q95 a0 h K).mpr hk)
def B_q95_1 (K : Kont) (s0 : Self) (v0 v6 v7 v8 : Value) (d : Nat → Value) (h : Hp) : Prop :=
  oBin .lss v8 v7 h fun t9 h1 =>
  oIf t9
  (oIdxS 6 v6 v8 h1 fun t10 h2 =>
  oLdN 6 t10 h2 fun t11 h3 =>
  oAlloc #[.int .i64 0, .int .u64 0, .int .i64 0, .int .i64 0, .int .u64 0, .int .i64 0] h3 fun t3 h4 =>
  oSt 6 t3 t11 h4 fun _ h5 =>
  G_q95_2 K s0 v0 t3 v6 v7 v8 (ud [(9, t9), (10, t10), (11, t11)] d) h5)
  (K (.tuple #[]) h1)
def X_q95_1 (Qv : Post) (v0 v6 v7 v8 : Value) (d : Nat → Value) (h : Hp) : Prop :=
  oBin .lss v8 v7 h fun t9 h1 =>
  oIf t9
  (oIdxS 6 v6 v8 h1 fun t10 h2 =>
  oLdN 6 t10 h2 fun t11 h3 =>
  oAlloc #[.int .i64 0, .int .u64 0, .int .i64 0, .int .i64 0, .int .u64 0, .int .i64 0] h3 fun t3 h4 =>
  oSt 6 t3 t11 h4 fun _ h5 =>
  aw Try.prog O_q95 K_q95_2 (qBlk 2 (qSeq (aw Try.prog O_q95 K_q95_4 (qBlk 1 (qSeq (aw Try.prog O_q95 K_q95_3 Qv) Qv))) (qBlk 1 (qSeq (aw Try.prog O_q95 K_q95_3 Qv) Qv)))) (ul (E_q95_1 v0 v6 v7 v8 d) [(3, t3), (9, t9), (10, t10), (11, t11)]) h5)
  ((qSeq (aw Try.prog O_q95 K_q95_5 Qv) Qv) (.exit 0) (ul (E_q95_1 v0 v6 v7 v8 d) [(9, t9)]) h1)
theorem ga_q95_1 (Qv : Post) (v0 v6 v7 v8 : Value) (d : Nat → Value) (h : Hp) : aw Try.prog O_q95 K_q95_1 Qv (E_q95_1 v0 v6 v7 v8 d) h = X_q95_1 Qv v0 v6 v7 v8 d h := by kernel_rfl
theorem gb_q95_1 (K : Kont) (s0 : Self) (v0 v6 v7 v8 : Value) (d : Nat → Value) (h : Hp) : X_q95_1 (Q_q95_1 K s0) v0 v6 v7 v8 d h = B_q95_1 K s0 v0 v6 v7 v8 d h := by kernel_rfl
theorem beq_q95_1 (K : Kont) (s0 : Self) (v0 v6 v7 v8 : Value) (d : Nat → Value) (h : Hp) : aw Try.prog O_q95 K_q95_1 (Q_q95_1 K s0) (E_q95_1 v0 v6 v7 v8 d) h = B_q95_1 K s0 v0 v6 v7 v8 d h := (ga_q95_1 _ v0 v6 v7 v8 d h).trans (gb_q95_1 K s0 v0 v6 v7 v8 d h)
theorem rule_q95_1 {K : Kont} {v0 v6 v7 : Value} (Inv : Value → Hp → Prop) (μ : Value → Hp → Nat)
    (step : ∀ (s0 : Self) (v8 : Value) (d : Nat → Value) (h : Hp), Inv v8 h → (∀ (v8' : Value) (d' : Nat → Value) (h' : Hp), Inv v8' h' → μ v8' h' < μ v8 h → s0 (E_q95_1 v0 v6 v7 v8' d') h') → B_q95_1 K s0 v0 v6 v7 v8 d h) (v8 : Value) (d : Nat → Value) (h : Hp) (hi : Inv v8 h) : G_q95_1 K v0 v6 v7 v8 d h :=
  oLoop_rule (α := Value × (Nat → Value)) (fun x => E_q95_1 v0 v6 v7 x.1 x.2) (fun x h => Inv x.1 h) (fun x h => μ x.1 h)
    (fun self x h hx hs => (beq_q95_1 K self v0 v6 v7 x.1 x.2 h).mpr (step self x.1 x.2 h hx (fun v8' d' h' h1 h2 => hs ⟨v8', d'⟩ h' h1 h2))) ⟨v8, d⟩ h hi
def B_q95_2 (K : Kont) (s0 : Self) (s1 : Self) (v0 v3 v6 v7 v8 : Value) (d : Nat → Value) (h : Hp) : Prop :=
  oNilCheck v0 h fun t13 h1 =>
  oFieldAddr 5 t13 h1 fun t14 h2 =>
  oLd1 t14 h2 fun t15 h3 =>
  oFieldAddr 0 v3 h3 fun t16 h4 =>
  oLd1 t16 h4 fun t17 h5 =>
  oBin .lss t15 t17 h5 fun t18 h6 =>
  oIf t18
  (oBuild #[.int .i64 0, .int .i64 0, .int .u64 0, .int .i64 0] [] h6 fun t20 h7 =>
  C_q111 [v0, t20] h7 fun t21 h8 =>
  s1 (E_q95_2 v0 v3 v6 v7 v8 (ud [(12, v0), (13, t13), (14, t14), (15, t15), (16, t16), (17, t17), (18, t18), (19, v0), (20, t20), (21, t21)] d)) h8)
  (oFieldAddr 2 v3 h6 fun t23 h9 =>
  oLdN 4 t23 h9 fun t24 h10 =>
  C_q111 [v0, t24] h10 fun t25 h11 =>
  oBin .add v8 (Value.int .i64 1) h11 fun t26 h12 =>
  s0 (E_q95_1 v0 v6 v7 t26 (ud [(3, v3), (12, v0), (13, t13), (14, t14), (15, t15), (16, t16), (17, t17), (18, t18), (22, v0), (23, t23), (24, t24), (25, t25), (26, t26)] d)) h12)
def X_q95_2 (Qv : Post) (v0 v3 v6 v7 v8 : Value) (d : Nat → Value) (h : Hp) : Prop :=
  oNilCheck v0 h fun t13 h1 =>
  oFieldAddr 5 t13 h1 fun t14 h2 =>
  oLd1 t14 h2 fun t15 h3 =>
  oFieldAddr 0 v3 h3 fun t16 h4 =>
  oLd1 t16 h4 fun t17 h5 =>
  oBin .lss t15 t17 h5 fun t18 h6 =>
  oIf t18
  (oBuild #[.int .i64 0, .int .i64 0, .int .u64 0, .int .i64 0] [] h6 fun t20 h7 =>
  C_q111 [v0, t20] h7 fun t21 h8 =>
  (qBlk 3 Qv) .normal (ul (E_q95_2 v0 v3 v6 v7 v8 d) [(12, v0), (13, t13), (14, t14), (15, t15), (16, t16), (17, t17), (18, t18), (19, v0), (20, t20), (21, t21)]) h8)
  ((qSeq (aw Try.prog O_q95 K_q95_7 Qv) Qv) (.exit 2) (ul (E_q95_2 v0 v3 v6 v7 v8 d) [(12, v0), (13, t13), (14, t14), (15, t15), (16, t16), (17, t17), (18, t18)]) h6)
theorem ga_q95_2 (Qv : Post) (v0 v3 v6 v7 v8 : Value) (d : Nat → Value) (h : Hp) : aw Try.prog O_q95 K_q95_6 Qv (E_q95_2 v0 v3 v6 v7 v8 d) h = X_q95_2 Qv v0 v3 v6 v7 v8 d h := by kernel_rfl
theorem gb_q95_2 (K : Kont) (s0 : Self) (s1 : Self) (v0 v3 v6 v7 v8 : Value) (d : Nat → Value) (h : Hp) : X_q95_2 (Q_q95_6 K s0 s1) v0 v3 v6 v7 v8 d h = B_q95_2 K s0 s1 v0 v3 v6 v7 v8 d h := by kernel_rfl
theorem beq_q95_2 (K : Kont) (s0 : Self) (s1 : Self) (v0 v3 v6 v7 v8 : Value) (d : Nat → Value) (h : Hp) : aw Try.prog O_q95 K_q95_6 (Q_q95_6 K s0 s1) (E_q95_2 v0 v3 v6 v7 v8 d) h = B_q95_2 K s0 s1 v0 v3 v6 v7 v8 d h := (ga_q95_2 _ v0 v3 v6 v7 v8 d h).trans (gb_q95_2 K s0 s1 v0 v3 v6 v7 v8 d h)
theorem rule_q95_2 {K : Kont} {s0 : Self} {v0 v3 v6 v7 v8 : Value} (Inv : Hp → Prop) (μ : Hp → Nat)
    (step : ∀ (s1 : Self) (d : Nat → Value) (h : Hp), Inv  h → (∀ (d' : Nat → Value) (h' : Hp), Inv  h' → μ  h' < μ  h → s1 (E_q95_2 v0 v3 v6 v7 v8 d') h') → B_q95_2 K s0 s1 v0 v3 v6 v7 v8 d h) (d : Nat → Value) (h : Hp) (hi : Inv  h) : G_q95_2 K s0 v0 v3 v6 v7 v8 d h :=
  oLoop_rule (α := (Nat → Value)) (fun x => E_q95_2 v0 v3 v6 v7 v8 x) (fun x h => Inv  h) (fun x h => μ  h)
    (fun self x h hx hs => (beq_q95_2 K s0 self v0 v3 v6 v7 v8 x h).mpr (step self  x h hx (fun d' h' h1 h2 => hs d' h' h1 h2))) d h hi
def O_q50 : Od := []
def G_q50 (a0 a1 : Value) (h : Hp) (K : Kont) : Prop :=
  oBox a1 h fun t3 h1 =>
  C_q94 [a0] h1 fun t6 h2 =>
  C_q8 [t6, (.func (Go.Fn.func 85) #[] #[t3])] h2 fun t8 h3 =>
  K t8 h3
def E0_q50 (a0 a1 : Value) : List Value := [a0, a1, undef, undef, undef, undef, undef, undef, undef]
def X_q50 (Qv : Post) (a0 a1 : Value) (h : Hp) : Prop :=
  oBox a1 h fun t3 h1 =>
  C_q94 [a0] h1 fun t6 h2 =>
  C_q8 [t6, (.func (Go.Fn.func 85) #[] #[t3])] h2 fun t8 h3 =>
  Qv .ret (ul (E0_q50 a0 a1) [(3, t3), (4, t8), (5, a0), (6, t6), (7, (.func (Go.Fn.func 85) #[] #[t3])), (8, t8)]) h3
theorem ga_q50 (Qv : Post) (a0 a1 : Value) (h : Hp) : aw Try.prog O_q50 (bodyC Try.f61) Qv (E0_q50 a0 a1) h = X_q50 Qv a0 a1 h := by kernel_rfl
theorem gb_q50 (a0 a1 : Value) (h : Hp) (K : Kont) : X_q50 (qTop Try.prog Try.f61 K) a0 a1 h = G_q50 a0 a1 h K := by kernel_rfl
theorem gc_q50 (a0 a1 : Value) (h : Hp) (K : Kont) : abody Try.prog O_q50 Try.f61 (bodyC Try.f61) [a0, a1] h K = aw Try.prog O_q50 (bodyC Try.f61) (qTop Try.prog Try.f61 K) (E0_q50 a0 a1) h := by kernel_rfl
theorem eq_q50 (a0 a1 : Value) (h : Hp) (K : Kont) : abody Try.prog O_q50 Try.f61 (bodyC Try.f61) [a0, a1] h K = G_q50 a0 a1 h K := (gc_q50 a0 a1 h K).trans ((ga_q50 _ a0 a1 h).trans (gb_q50 a0 a1 h K))
theorem ok_q50 {a0 a1 : Value} {h : Hp} {K : Kont} (hk : G_q50 a0 a1 h K) : C_q50 [a0, a1] h K := ac_of_body prog_mixed (fn := Try.f61) Try.func61 (c := bodyC Try.f61) (by kernel_rfl) ((eq_q50 a0 a1 h K).mpr hk)
def O_q96 : Od := [(1, (.one 0 true (.one 1 true (.one 2 true (.one 3 true (.one 4 true (.one 5 true (.one 6 true (.one 7 true (.one 8 true (.one 9 true (.one 10 true (.one 11 true (.one 12 true (.one 13 false .nil)))))))))))))))]
def G_q96 (a0 a1 : Value) (h : Hp) (K : Kont) : Prop :=
  oAlloc #[.int .i64 0, .int .u64 0, .int .i64 0, .int .i64 0, .int .u64 0, .int .i64 0] h fun t4 h1 =>
  oNilCheck a0 h1 fun t7 h2 =>
  oFieldAddr 3 t7 h2 fun t8 h3 =>
  oLd1 t8 h3 fun t9 h4 =>
  oNilCheck a0 h4 fun t11 h5 =>
  oFieldAddr 7 t11 h5 fun t12 h6 =>
  oLd1 t12 h6 fun t13 h7 =>
  oLookup (.int .i64) (.agg #[.int .i64 0, .int .i64 0, .int .u64 0, .int .i64 0, .int .u64 0]) t13 a1 false h7 fun t15 h8 =>
  oField 0 (some 4) t15 h8 fun t16 h9 =>
  oBuild #[.int .i64 0, .int .u64 0, .int .i64 0, .int .i64 0, .int .u64 0, .int .i64 0] [(0, 1, a1), (1, 1, t9), (2, 4, t16)] h9 fun t17 h10 =>
  oSt 6 t4 t17 h10 fun _ h11 =>
  (True) ∧
  oLdN 6 t4 h11 fun r1 _ =>
  K r1 h11
def E0_q96 (a0 a1 : Value) : List Value := [a0, a1, undef, undef, undef, undef, undef, undef, undef, undef, undef, undef, undef, undef, undef, undef, undef, undef]
def X_q96 (Qv : Post) (a0 a1 : Value) (h : Hp) : Prop :=
  oAlloc #[.int .i64 0, .int .u64 0, .int .i64 0, .int .i64 0, .int .u64 0, .int .i64 0] h fun t4 h1 =>
  oNilCheck a0 h1 fun t7 h2 =>
  oFieldAddr 3 t7 h2 fun t8 h3 =>
  oLd1 t8 h3 fun t9 h4 =>
  oNilCheck a0 h4 fun t11 h5 =>
  oFieldAddr 7 t11 h5 fun t12 h6 =>
  oLd1 t12 h6 fun t13 h7 =>
  oLookup (.int .i64) (.agg #[.int .i64 0, .int .i64 0, .int .u64 0, .int .i64 0, .int .u64 0]) t13 a1 false h7 fun t15 h8 =>
  oField 0 (some 4) t15 h8 fun t16 h9 =>
  oBuild #[.int .i64 0, .int .u64 0, .int .i64 0, .int .i64 0, .int .u64 0, .int .i64 0] [(0, 1, a1), (1, 1, t9), (2, 4, t16)] h9 fun t17 h10 =>
  oSt 6 t4 t17 h10 fun _ h11 =>
  (True) ∧
  Qv .ret (ul (E0_q96 a0 a1) [(4, t4), (5, a1), (6, a0), (7, t7), (8, t8), (9, t9), (10, a0), (11, t11), (12, t12), (13, t13), (14, a1), (15, t15), (16, t16), (17, t17)]) h11
theorem ga_q96 (Qv : Post) (a0 a1 : Value) (h : Hp) : aw Try.prog O_q96 (bodyC Try.f62) Qv (E0_q96 a0 a1) h = X_q96 Qv a0 a1 h := by kernel_rfl
theorem gb_q96 (a0 a1 : Value) (h : Hp) (K : Kont) : X_q96 (qTop Try.prog Try.f62 K) a0 a1 h = G_q96 a0 a1 h K := by kernel_rfl
theorem gc_q96 (a0 a1 : Value) (h : Hp) (K : Kont) : abody Try.prog O_q96 Try.f62 (bodyC Try.f62) [a0, a1] h K = aw Try.prog O_q96 (bodyC Try.f62) (qTop Try.prog Try.f62 K) (E0_q96 a0 a1) h := by kernel_rfl
theorem eq_q96 (a0 a1 : Value) (h : Hp) (K : Kont) : abody Try.prog O_q96 Try.f62 (bodyC Try.f62) [a0, a1] h K = G_q96 a0 a1 h K := (gc_q96 a0 a1 h K).trans ((ga_q96 _ a0 a1 h).trans (gb_q96 a0 a1 h K))
theorem ok_q96 {a0 a1 : Value} {h : Hp} {K : Kont} (hk : G_q96 a0 a1 h K) : C_q96 [a0, a1] h K := ac_of_body prog_mixed (fn := Try.f62) Try.func62 (c := bodyC Try.f62) (by kernel_rfl) ((eq_q96 a0 a1 h K).mpr hk)
def O_q111 : Od := [(2, (.one 0 true (.one 1 true (.one 2 true (.one 3 true (.one 4 true (.one 5 true (.one 6 true (.one 7 false .nil)))))))))]
def G_q111 (a0 a1 : Value) (h : Hp) (K : Kont) : Prop :=
  oBox a1 h fun t3 h1 =>
  oNilCheck a0 h1 fun t7 h2 =>
  oFieldAddr 5 t7 h2 fun t8 h3 =>
  oLd1 t8 h3 fun t9 h4 =>
  oNilCheck a0 h4 fun t11 h5 =>
  oFieldAddr 7 t11 h5 fun t12 h6 =>
  oLd1 t12 h6 fun t13 h7 =>
  oLdN 4 t3 h7 fun t15 h8 =>
  oBuild #[.int .i64 0, .int .i64 0, .int .u64 0, .int .i64 0, .int .u64 0] [(0, 4, t15)] h8 fun t16 h9 =>
  oMapUpdate (.int .i64) t13 t9 t16 h9 fun _ h10 =>
  (True) ∧
  oNilCheck a0 h10 fun t18 h11 =>
  oFieldAddr 5 t18 h11 fun t19 h12 =>
  oLd1 t19 h12 fun t20 h13 =>
  oBin .add t20 (Value.int .i64 1) h13 fun t21 h14 =>
  oNilCheck a0 h14 fun t22 h15 =>
  oFieldAddr 5 t22 h15 fun t23 h16 =>
  oSt 1 t23 t21 h16 fun _ h17 =>
  K t9 h17
def E0_q111 (a0 a1 : Value) : List Value := [a0, a1, undef, undef, undef, undef, undef, undef, undef, undef, undef, undef, undef, undef, undef, undef, undef, undef, undef, undef, undef, undef, undef, undef, undef]
def X_q111 (Qv : Post) (a0 a1 : Value) (h : Hp) : Prop :=
  oBox a1 h fun t3 h1 =>
  oNilCheck a0 h1 fun t7 h2 =>
  oFieldAddr 5 t7 h2 fun t8 h3 =>
  oLd1 t8 h3 fun t9 h4 =>
  oNilCheck a0 h4 fun t11 h5 =>
  oFieldAddr 7 t11 h5 fun t12 h6 =>
  oLd1 t12 h6 fun t13 h7 =>
  oLdN 4 t3 h7 fun t15 h8 =>
  oBuild #[.int .i64 0, .int .i64 0, .int .u64 0, .int .i64 0, .int .u64 0] [(0, 4, t15)] h8 fun t16 h9 =>
  oMapUpdate (.int .i64) t13 t9 t16 h9 fun _ h10 =>
  (True) ∧
  oNilCheck a0 h10 fun t18 h11 =>
  oFieldAddr 5 t18 h11 fun t19 h12 =>
  oLd1 t19 h12 fun t20 h13 =>
  oBin .add t20 (Value.int .i64 1) h13 fun t21 h14 =>
  oNilCheck a0 h14 fun t22 h15 =>
  oFieldAddr 5 t22 h15 fun t23 h16 =>
  oSt 1 t23 t21 h16 fun _ h17 =>
  Qv .ret (ul (E0_q111 a0 a1) [(3, t3), (4, t9), (5, t9), (6, a0), (7, t7), (8, t8), (9, t9), (10, a0), (11, t11), (12, t12), (13, t13), (14, t9), (15, t15), (16, t16), (17, a0), (18, t18), (19, t19), (20, t20), (21, t21), (22, t22), (23, t23), (24, t9)]) h17
theorem ga_q111 (Qv : Post) (a0 a1 : Value) (h : Hp) : aw Try.prog O_q111 (bodyC Try.f63) Qv (E0_q111 a0 a1) h = X_q111 Qv a0 a1 h := by kernel_rfl
theorem gb_q111 (a0 a1 : Value) (h : Hp) (K : Kont) : X_q111 (qTop Try.prog Try.f63 K) a0 a1 h = G_q111 a0 a1 h K := by kernel_rfl
theorem gc_q111 (a0 a1 : Value) (h : Hp) (K : Kont) : abody Try.prog O_q111 Try.f63 (bodyC Try.f63) [a0, a1] h K = aw Try.prog O_q111 (bodyC Try.f63) (qTop Try.prog Try.f63 K) (E0_q111 a0 a1) h := by kernel_rfl
theorem eq_q111 (a0 a1 : Value) (h : Hp) (K : Kont) : abody Try.prog O_q111 Try.f63 (bodyC Try.f63) [a0, a1] h K = G_q111 a0 a1 h K := (gc_q111 a0 a1 h K).trans ((ga_q111 _ a0 a1 h).trans (gb_q111 a0 a1 h K))
theorem ok_q111 {a0 a1 : Value} {h : Hp} {K : Kont} (hk : G_q111 a0 a1 h K) : C_q111 [a0, a1] h K := ac_of_body prog_mixed (fn := Try.f63) Try.func63 (c := bodyC Try.f63) (by kernel_rfl) ((eq_q111 a0 a1 h K).mpr hk)
def O_q1 : Od := []
def G_q1 (a0 : Value) (h : Hp) (K : Kont) : Prop :=
  oBox a0 h fun t1 h1 =>
  K (.func (Go.Fn.func 87) #[] #[t1]) h1
def E0_q1 (a0 : Value) : List Value := [a0, undef, undef, undef]
def X_q1 (Qv : Post) (a0 : Value) (h : Hp) : Prop :=
  oBox a0 h fun t1 h1 =>
  Qv .ret (ul (E0_q1 a0) [(1, t1), (2, (.func (Go.Fn.func 87) #[] #[t1])), (3, (.func (Go.Fn.func 87) #[] #[t1]))]) h1
theorem ga_q1 (Qv : Post) (a0 : Value) (h : Hp) : aw Try.prog O_q1 (bodyC Try.f65) Qv (E0_q1 a0) h = X_q1 Qv a0 h := by kernel_rfl
theorem gb_q1 (a0 : Value) (h : Hp) (K : Kont) : X_q1 (qTop Try.prog Try.f65 K) a0 h = G_q1 a0 h K := by kernel_rfl
theorem gc_q1 (a0 : Value) (h : Hp) (K : Kont) : abody Try.prog O_q1 Try.f65 (bodyC Try.f65) [a0] h K = aw Try.prog O_q1 (bodyC Try.f65) (qTop Try.prog Try.f65 K) (E0_q1 a0) h := by kernel_rfl
theorem eq_q1 (a0 : Value) (h : Hp) (K : Kont) : abody Try.prog O_q1 Try.f65 (bodyC Try.f65) [a0] h K = G_q1 a0 h K := (gc_q1 a0 h K).trans ((ga_q1 _ a0 h).trans (gb_q1 a0 h K))
theorem ok_q1 {a0 : Value} {h : Hp} {K : Kont} (hk : G_q1 a0 h K) : C_q1 [a0] h K := ac_of_body prog_mixed (fn := Try.f65) Try.func65 (c := bodyC Try.f65) (by kernel_rfl) ((eq_q1 a0 h K).mpr hk)
end Go.Proofs.Ytdolepapmpcpiaa

namespace Go.Proofs.Ytdolepapmpcpiaa
open Go
set_option linter.unusedSectionVars false
variable [Base]
set_option linter.unusedVariables false
set_option maxRecDepth 100000
end Go.Proofs.Ytdolepapmpcpiaa

namespace Go.Proofs.Ytdolepapmpcpiaa
open Go
set_option linter.unusedSectionVars false
variable [Base]
set_option linter.unusedVariables false
set_option maxRecDepth 100000
def O_q81 : Od := [(4, (.one 0 true (.one 1 true (.one 2 true (.one 3 true (.one 4 true (.one 5 true (.one 6 true (.one 7 true (.one 8 true (.one 9 true (.one 10 true (.one 11 true (.one 12 true (.one 13 true (.one 14 true (.one 15 true (.one 16 true (.one 17 true (.one 18 true (.one 19 true (.one 20 true (.one 21 true (.one 22 true (.one 23 true .nil))))))))))))))))))))))))), (6, (.one 0 true (.one 1 true (.one 2 true (.one 3 true (.one 4 true (.one 5 true (.one 6 false (.one 7 false (.one 8 true (.one 9 true (.one 10 false .nil))))))))))))]
noncomputable def K_q81_0 : Code := (cI (cB (cA (cB (bodyC Try.f71)))))
noncomputable def K_q81_1 : Code := (cB (cB (bodyC Try.f71)))
def Q_q81_0 (K : Kont) : Post := qSeq (aw Try.prog O_q81 K_q81_1 (qTop Try.prog Try.f71 K)) (qTop Try.prog Try.f71 K)
def Q_q81_1 (K : Kont) : Post := qBlk 0 (Q_q81_0 K)
def E_q81_1 (v0 v3 v4 : Value) (d : Nat → Value) : List Value := [v0, d 1, d 2, v3, v4, d 5, d 6, d 7, d 8, d 9, d 10, d 11, d 12, d 13, d 14, d 15, d 16, d 17, d 18, d 19, d 20, d 21, d 22, d 23, d 24, d 25, d 26, d 27, d 28, d 29, d 30, d 31, d 32, d 33, d 34, d 35, d 36, d 37, d 38, d 39, d 40, d 41, d 42, d 43, d 44, d 45, d 46, d 47, d 48, d 49, d 50]
def G_q81_1 (K : Kont) (v0 v3 v4 : Value) (d : Nat → Value) (h : Hp) : Prop := aw Try.prog O_q81 K_q81_0 (Q_q81_1 K) (E_q81_1 v0 v3 v4 d) h
def Q_q81_2 (K : Kont) (s0 : Self) : Post := qSeq s0 (Q_q81_1 K)
noncomputable def K_q81_2 : Code := (cI (cI (cB (cA (cB (bodyC Try.f71))))))
noncomputable def K_q81_3 : Code := (cB (cB (cI (cI (cB (cA (cB (bodyC Try.f71))))))))
def E_q81_2 (v0 v3 v4 : Value) (d : Nat → Value) : List Value := [v0, d 1, d 2, v3, v4, d 5, d 6, d 7, d 8, d 9, d 10, d 11, d 12, d 13, d 14, d 15, d 16, d 17, d 18, d 19, d 20, d 21, d 22, d 23, d 24, d 25, d 26, d 27, d 28, d 29, d 30, d 31, d 32, d 33, d 34, d 35, d 36, d 37, d 38, d 39, d 40, d 41, d 42, d 43, d 44, d 45, d 46, d 47, d 48, d 49, d 50]
def G_q81_2 (K : Kont) (s0 : Self) (v0 v3 v4 : Value) (d : Nat → Value) (h : Hp) : Prop := aw Try.prog O_q81 K_q81_3 (Q_q81_2 K s0) (E_q81_2 v0 v3 v4 d) h
noncomputable def K_q81_4 : Code := (cB (cI (cI (cB (cA (cB (bodyC Try.f71)))))))
def G_q81 (a0 a1 : Value) (h : Hp) (K : Kont) : Prop :=
  oBox a1 h fun t3 h1 =>
  G_q81_1 K a0 t3 (Value.int .i64 0) (ud [(1, a1)] dz) h1
def E0_q81 (a0 a1 : Value) : List Value := [a0, a1, undef, undef, undef, undef, undef, undef, undef, undef, undef, undef, undef, undef, undef, undef, undef, undef, undef, undef, undef, undef, undef, undef, undef, undef, undef, undef, undef, undef, undef, undef, undef, undef, undef, undef, undef, undef, undef, undef, undef, undef, undef, undef, undef, undef, undef, undef, undef, undef, undef]
def X_q81 (Qv : Post) (a0 a1 : Value) (h : Hp) : Prop :=
  oBox a1 h fun t3 h1 =>
  aw Try.prog O_q81 K_q81_0 (qBlk 0 (qSeq (aw Try.prog O_q81 K_q81_1 Qv) Qv)) (ul (E0_q81 a0 a1) [(3, t3), (4, (Value.int .i64 0))]) h1
theorem ga_q81 (Qv : Post) (a0 a1 : Value) (h : Hp) : aw Try.prog O_q81 (bodyC Try.f71) Qv (E0_q81 a0 a1) h = X_q81 Qv a0 a1 h := by kernel_rfl
theorem gb_q81 (a0 a1 : Value) (h : Hp) (K : Kont) : X_q81 (qTop Try.prog Try.f71 K) a0 a1 h = G_q81 a0 a1 h K := by kernel_rfl
theorem gc_q81 (a0 a1 : Value) (h : Hp) (K : Kont) : abody Try.prog O_q81 Try.f71 (bodyC Try.f71) [a0, a1] h K = aw Try.prog O_q81 (bodyC Try.f71) (qTop Try.prog Try.f71 K) (E0_q81 a0 a1) h := by kernel_rfl
theorem eq_q81 (a0 a1 : Value) (h : Hp) (K : Kont) : abody Try.prog O_q81 Try.f71 (bodyC Try.f71) [a0, a1] h K = G_q81 a0 a1 h K := (gc_q81 a0 a1 h K).trans ((ga_q81 _ a0 a1 h).trans (gb_q81 a0 a1 h K))
theorem ok_q81 {a0 a1 : Value} {h : Hp} {K : Kont} (hk : G_q81 a0 a1 h K) : C_q81 [a0, a1] h K := ac_of_body prog_mixed (fn := Try.f71) Try.func71 (c := bodyC Try.f71) (by kernel_rfl) ((eq_q81 a0 a1 h K).mpr hk)
def B_q81_1 (K : Kont) (s0 : Self) (v0 v3 v4 : Value) (d : Nat → Value) (h : Hp) : Prop :=
  oNilCheck v0 h fun t7 h1 =>
  oFieldAddr 3 t7 h1 fun t8 h2 =>
  oLd1 t8 h2 fun t9 h3 =>
  oLen 0 t9 h3 fun t10 h4 =>
  oBin .lss v4 t10 h4 fun t11 h5 =>
  oIf t11
  (oNilCheck v0 h5 fun t15 h6 =>
  oFieldAddr 3 t15 h6 fun t16 h7 =>
  oLd1 t16 h7 fun t17 h8 =>
  oIdxS 6 t17 v4 h8 fun t19 h9 =>
  oFieldAddr 0 t19 h9 fun t20 h10 =>
  oLd1 t20 h10 fun t21 h11 =>
  oFieldAddr 0 v3 h11 fun t22 h12 =>
  oLd1 t22 h12 fun t23 h13 =>
  oBin .eql t21 t23 h13 fun t24 h14 =>
  oGuard t24 true (fun K => K v0 h14) h14 fun t26 h15 =>
  oGuard t24 true (fun K => oNilCheck t26 h15 K) h15 fun t27 h16 =>
  oGuard t24 true (fun K => oFieldAddr 3 t27 h16 K) h16 fun t28 h17 =>
  oGuard t24 true (fun K => oLd1 t28 h17 K) h17 fun t29 h18 =>
  oGuard t24 true (fun K => K v4 h18) h18 fun t30 h19 =>
  oGuard t24 true (fun K => oIdxS 6 t29 t30 h19 K) h19 fun t31 h20 =>
  oGuard t24 true (fun K => oFieldAddr 2 t31 h20 K) h20 fun t32 h21 =>
  oGuard t24 true (fun K => oLdN 4 t32 h21 K) h21 fun t33 h22 =>
  oGuard t24 true (fun K => oFieldAddr 2 v3 h22 K) h22 fun t34 h23 =>
  oGuard t24 true (fun K => oLdN 4 t34 h23 K) h23 fun t35 h24 =>
  oGuard t24 true (fun K => oEq 4 true (some [(0, (.int .i64)), (1, (.int .i64)), (2, (.int .u64)), (3, (.int .i64))]) t33 t35 h24 K) h24 fun t36 h25 =>
  oPick t24 t36 (Value.bool false) h25 fun t37 h26 =>
  oIf t37
  (oNilCheck v0 h26 fun t39 h27 =>
  oFieldAddr 4 t39 h27 fun t40 h28 =>
  oSt 1 t40 (Value.bool false) h28 fun _ h29 =>
  G_q81_2 K s0 v0 v3 v4 (ud [(5, v4), (6, v0), (7, t7), (8, t8), (9, t9), (10, t10), (11, t11), (14, v0), (15, t15), (16, t16), (17, t17), (18, v4), (19, t19), (20, t20), (21, t21), (22, t22), (23, t23), (24, t24), (25, t24), (26, t26), (27, t27), (28, t28), (29, t29), (30, t30), (31, t31), (32, t32), (33, t33), (34, t34), (35, t35), (36, t36), (37, t37), (38, v0), (39, t39), (40, t40)] d) h29)
  (G_q81_2 K s0 v0 v3 v4 (ud [(5, v4), (6, v0), (7, t7), (8, t8), (9, t9), (10, t10), (11, t11), (14, v0), (15, t15), (16, t16), (17, t17), (18, v4), (19, t19), (20, t20), (21, t21), (22, t22), (23, t23), (24, t24), (25, t24), (26, t26), (27, t27), (28, t28), (29, t29), (30, t30), (31, t31), (32, t32), (33, t33), (34, t34), (35, t35), (36, t36), (37, t37)] d) h26))
  (oNilCheck v0 h5 fun t43 h30 =>
  oFieldAddr 3 t43 h30 fun t44 h31 =>
  oLd1 t44 h31 fun t45 h32 =>
  oLdN 6 v3 h32 fun t46 h33 =>
  oBuildSlice #[.int .i64 0, .int .u64 0, .int .i64 0, .int .i64 0, .int .u64 0, .int .i64 0] 1 [(0 * 6, 6, t46)] h33 fun t47 h34 =>
  ((oLd1 t44 h33 (fun v' _ => v' = t45) → oLd1 t44 h34 (fun v' _ => v' = t45)) ∧ True) ∧
  oAppend 6 48 #[.int .i64 0, .int .u64 0, .int .i64 0, .int .i64 0, .int .u64 0, .int .i64 0] t45 t47 h34 fun t48 h35 =>
  ((oLdN 6 v3 h34 (fun v' _ => v' = t46) → oLdN 6 v3 h35 (fun v' _ => v' = t46)) ∧ True) ∧
  oNilCheck v0 h35 fun t49 h36 =>
  oFieldAddr 3 t49 h36 fun t50 h37 =>
  oSt 1 t50 t48 h37 fun _ h38 =>
  (True) ∧
  K (.tuple #[]) h38)
def X_q81_1 (Qv : Post) (v0 v3 v4 : Value) (d : Nat → Value) (h : Hp) : Prop :=
  oNilCheck v0 h fun t7 h1 =>
  oFieldAddr 3 t7 h1 fun t8 h2 =>
  oLd1 t8 h2 fun t9 h3 =>
  oLen 0 t9 h3 fun t10 h4 =>
  oBin .lss v4 t10 h4 fun t11 h5 =>
  oIf t11
  (oNilCheck v0 h5 fun t15 h6 =>
  oFieldAddr 3 t15 h6 fun t16 h7 =>
  oLd1 t16 h7 fun t17 h8 =>
  oIdxS 6 t17 v4 h8 fun t19 h9 =>
  oFieldAddr 0 t19 h9 fun t20 h10 =>
  oLd1 t20 h10 fun t21 h11 =>
  oFieldAddr 0 v3 h11 fun t22 h12 =>
  oLd1 t22 h12 fun t23 h13 =>
  oBin .eql t21 t23 h13 fun t24 h14 =>
  oGuard t24 true (fun K => K v0 h14) h14 fun t26 h15 =>
  oGuard t24 true (fun K => oNilCheck t26 h15 K) h15 fun t27 h16 =>
  oGuard t24 true (fun K => oFieldAddr 3 t27 h16 K) h16 fun t28 h17 =>
  oGuard t24 true (fun K => oLd1 t28 h17 K) h17 fun t29 h18 =>
  oGuard t24 true (fun K => K v4 h18) h18 fun t30 h19 =>
  oGuard t24 true (fun K => oIdxS 6 t29 t30 h19 K) h19 fun t31 h20 =>
  oGuard t24 true (fun K => oFieldAddr 2 t31 h20 K) h20 fun t32 h21 =>
  oGuard t24 true (fun K => oLdN 4 t32 h21 K) h21 fun t33 h22 =>
  oGuard t24 true (fun K => oFieldAddr 2 v3 h22 K) h22 fun t34 h23 =>
  oGuard t24 true (fun K => oLdN 4 t34 h23 K) h23 fun t35 h24 =>
  oGuard t24 true (fun K => oEq 4 true (some [(0, (.int .i64)), (1, (.int .i64)), (2, (.int .u64)), (3, (.int .i64))]) t33 t35 h24 K) h24 fun t36 h25 =>
  oPick t24 t36 (Value.bool false) h25 fun t37 h26 =>
  oIf t37
  (oNilCheck v0 h26 fun t39 h27 =>
  oFieldAddr 4 t39 h27 fun t40 h28 =>
  oSt 1 t40 (Value.bool false) h28 fun _ h29 =>
  (qBlk 1 (qSeq (aw Try.prog O_q81 K_q81_3 Qv) Qv)) .normal (ul (E_q81_1 v0 v3 v4 d) [(5, v4), (6, v0), (7, t7), (8, t8), (9, t9), (10, t10), (11, t11), (14, v0), (15, t15), (16, t16), (17, t17), (18, v4), (19, t19), (20, t20), (21, t21), (22, t22), (23, t23), (24, t24), (25, t24), (26, t26), (27, t27), (28, t28), (29, t29), (30, t30), (31, t31), (32, t32), (33, t33), (34, t34), (35, t35), (36, t36), (37, t37), (38, v0), (39, t39), (40, t40)]) h29)
  ((qBlk 1 (qSeq (aw Try.prog O_q81 K_q81_3 Qv) Qv)) .normal (ul (E_q81_1 v0 v3 v4 d) [(5, v4), (6, v0), (7, t7), (8, t8), (9, t9), (10, t10), (11, t11), (14, v0), (15, t15), (16, t16), (17, t17), (18, v4), (19, t19), (20, t20), (21, t21), (22, t22), (23, t23), (24, t24), (25, t24), (26, t26), (27, t27), (28, t28), (29, t29), (30, t30), (31, t31), (32, t32), (33, t33), (34, t34), (35, t35), (36, t36), (37, t37)]) h26))
  ((qSeq (aw Try.prog O_q81 K_q81_4 Qv) Qv) (.exit 0) (ul (E_q81_1 v0 v3 v4 d) [(5, v4), (6, v0), (7, t7), (8, t8), (9, t9), (10, t10), (11, t11)]) h5)
theorem ga_q81_1 (Qv : Post) (v0 v3 v4 : Value) (d : Nat → Value) (h : Hp) : aw Try.prog O_q81 K_q81_2 Qv (E_q81_1 v0 v3 v4 d) h = X_q81_1 Qv v0 v3 v4 d h := by kernel_rfl
theorem gb_q81_1 (K : Kont) (s0 : Self) (v0 v3 v4 : Value) (d : Nat → Value) (h : Hp) : X_q81_1 (Q_q81_2 K s0) v0 v3 v4 d h = B_q81_1 K s0 v0 v3 v4 d h := by kernel_rfl
theorem beq_q81_1 (K : Kont) (s0 : Self) (v0 v3 v4 : Value) (d : Nat → Value) (h : Hp) : aw Try.prog O_q81 K_q81_2 (Q_q81_2 K s0) (E_q81_1 v0 v3 v4 d) h = B_q81_1 K s0 v0 v3 v4 d h := (ga_q81_1 _ v0 v3 v4 d h).trans (gb_q81_1 K s0 v0 v3 v4 d h)
theorem rule_q81_1 {K : Kont} {v0 v3 : Value} (Inv : Value → Hp → Prop) (μ : Value → Hp → Nat)
    (step : ∀ (s0 : Self) (v4 : Value) (d : Nat → Value) (h : Hp), Inv v4 h → (∀ (v4' : Value) (d' : Nat → Value) (h' : Hp), Inv v4' h' → μ v4' h' < μ v4 h → s0 (E_q81_1 v0 v3 v4' d') h') → B_q81_1 K s0 v0 v3 v4 d h) (v4 : Value) (d : Nat → Value) (h : Hp) (hi : Inv v4 h) : G_q81_1 K v0 v3 v4 d h :=
  oLoop_rule (α := Value × (Nat → Value)) (fun x => E_q81_1 v0 v3 x.1 x.2) (fun x h => Inv x.1 h) (fun x h => μ x.1 h)
    (fun self x h hx hs => (beq_q81_1 K self v0 v3 x.1 x.2 h).mpr (step self x.1 x.2 h hx (fun v4' d' h' h1 h2 => hs ⟨v4', d'⟩ h' h1 h2))) ⟨v4, d⟩ h hi
def R_q81_2 (K : Kont) (s0 : Self) (v0 v3 v4 : Value) (d : Nat → Value) (h : Hp) : Prop :=
  oBin .add v4 (Value.int .i64 1) h fun t13 h1 =>
  s0 (E_q81_1 v0 v3 t13 (ud [(12, v4), (13, t13)] d)) h1
def X_q81_2 (Qv : Post) (v0 v3 v4 : Value) (d : Nat → Value) (h : Hp) : Prop :=
  oBin .add v4 (Value.int .i64 1) h fun t13 h1 =>
  Qv .normal (ul (E_q81_2 v0 v3 v4 d) [(4, t13), (12, v4), (13, t13)]) h1
theorem ga_q81_2 (Qv : Post) (v0 v3 v4 : Value) (d : Nat → Value) (h : Hp) : aw Try.prog O_q81 K_q81_3 Qv (E_q81_2 v0 v3 v4 d) h = X_q81_2 Qv v0 v3 v4 d h := by kernel_rfl
theorem gb_q81_2 (K : Kont) (s0 : Self) (v0 v3 v4 : Value) (d : Nat → Value) (h : Hp) : X_q81_2 (Q_q81_2 K s0) v0 v3 v4 d h = R_q81_2 K s0 v0 v3 v4 d h := by kernel_rfl
theorem req_q81_2 (K : Kont) (s0 : Self) (v0 v3 v4 : Value) (d : Nat → Value) (h : Hp) : G_q81_2 K s0 v0 v3 v4 d h = R_q81_2 K s0 v0 v3 v4 d h := (ga_q81_2 _ v0 v3 v4 d h).trans (gb_q81_2 K s0 v0 v3 v4 d h)
def O_q104 : Od := []
def G_q104 (a0 : Value) (h : Hp) (K : Kont) : Prop :=
  oBin .geq a0 (Value.int .i64 1) h fun t4 h1 =>
  oGuard t4 true (fun K => K a0 h1) h1 fun t6 h2 =>
  oGuard t4 true (fun K => oBin .leq t6 (Value.int .i64 5) h2 K) h2 fun t7 h3 =>
  oPick t4 t7 (Value.bool false) h3 fun t8 h4 =>
  K t8 h4
def E0_q104 (a0 : Value) : List Value := [a0, undef, undef, undef, undef, undef, undef, undef, undef]
def X_q104 (Qv : Post) (a0 : Value) (h : Hp) : Prop :=
  oBin .geq a0 (Value.int .i64 1) h fun t4 h1 =>
  oGuard t4 true (fun K => K a0 h1) h1 fun t6 h2 =>
  oGuard t4 true (fun K => oBin .leq t6 (Value.int .i64 5) h2 K) h2 fun t7 h3 =>
  oPick t4 t7 (Value.bool false) h3 fun t8 h4 =>
  Qv .ret (ul (E0_q104 a0) [(2, t8), (3, a0), (4, t4), (5, t4), (6, t6), (7, t7), (8, t8)]) h4
theorem ga_q104 (Qv : Post) (a0 : Value) (h : Hp) : aw Try.prog O_q104 (bodyC Try.f74) Qv (E0_q104 a0) h = X_q104 Qv a0 h := by kernel_rfl
theorem gb_q104 (a0 : Value) (h : Hp) (K : Kont) : X_q104 (qTop Try.prog Try.f74 K) a0 h = G_q104 a0 h K := by kernel_rfl
theorem gc_q104 (a0 : Value) (h : Hp) (K : Kont) : abody Try.prog O_q104 Try.f74 (bodyC Try.f74) [a0] h K = aw Try.prog O_q104 (bodyC Try.f74) (qTop Try.prog Try.f74 K) (E0_q104 a0) h := by kernel_rfl
theorem eq_q104 (a0 : Value) (h : Hp) (K : Kont) : abody Try.prog O_q104 Try.f74 (bodyC Try.f74) [a0] h K = G_q104 a0 h K := (gc_q104 a0 h K).trans ((ga_q104 _ a0 h).trans (gb_q104 a0 h K))
theorem ok_q104 {a0 : Value} {h : Hp} {K : Kont} (hk : G_q104 a0 h K) : C_q104 [a0] h K := ac_of_body prog_mixed (fn := Try.f74) Try.func74 (c := bodyC Try.f74) (by kernel_rfl) ((eq_q104 a0 h K).mpr hk)
def O_q160 : Od := []
noncomputable def K_q160_0 : Code := (cB (cB (bodyC Try.f77)))
def G_q160 (a0 a1 : Value) (h : Hp) (K : Kont) : Prop :=
  oBin .lss a0 (Value.int .u64 1) h fun t7 h1 =>
  oGuard t7 false (fun K => K a0 h1) h1 fun t9 h2 =>
  oGuard t7 false (fun K => oBin .geq t9 (Value.int .u64 1152921504606846976) h2 K) h2 fun t10 h3 =>
  oPick t7 (Value.bool true) t10 h3 fun t11 h4 =>
  oGuard t11 false (fun K => K a1 h4) h4 fun t13 h5 =>
  oGuard t11 false (fun K => C_q104 [t13] h5 K) h5 fun t14 h6 =>
  oGuard t11 false (fun K => oNot t14 h6 K) h6 fun t15 h7 =>
  oPick t11 (Value.bool true) t15 h7 fun t16 h8 =>
  oIf t16
  (K (.tuple #[(Value.int .u64 0), (Value.int .i64 1)]) h8)
  (oBin .mul (Value.int .u64 8) a0 h8 fun t18 h9 =>
  oConvInt .u64 a1 h9 fun t20 h10 =>
  oBin .add t18 t20 h10 fun t21 h11 =>
  K (.tuple #[t21, (Value.int .i64 0)]) h11)
def E0_q160 (a0 a1 : Value) : List Value := [a0, a1, undef, undef, undef, undef, undef, undef, undef, undef, undef, undef, undef, undef, undef, undef, undef, undef, undef, undef, undef, undef]
def X_q160 (Qv : Post) (a0 a1 : Value) (h : Hp) : Prop :=
  oBin .lss a0 (Value.int .u64 1) h fun t7 h1 =>
  oGuard t7 false (fun K => K a0 h1) h1 fun t9 h2 =>
  oGuard t7 false (fun K => oBin .geq t9 (Value.int .u64 1152921504606846976) h2 K) h2 fun t10 h3 =>
  oPick t7 (Value.bool true) t10 h3 fun t11 h4 =>
  oGuard t11 false (fun K => K a1 h4) h4 fun t13 h5 =>
  oGuard t11 false (fun K => C_q104 [t13] h5 K) h5 fun t14 h6 =>
  oGuard t11 false (fun K => oNot t14 h6 K) h6 fun t15 h7 =>
  oPick t11 (Value.bool true) t15 h7 fun t16 h8 =>
  oIf t16
  ((qSeq (aw Try.prog O_q160 K_q160_0 Qv) Qv) .ret (ul (E0_q160 a0 a1) [(4, (Value.int .u64 0)), (5, (Value.int .i64 1)), (6, a0), (7, t7), (8, t7), (9, t9), (10, t10), (11, t11), (12, t11), (13, t13), (14, t14), (15, t15), (16, t16)]) h8)
  (oBin .mul (Value.int .u64 8) a0 h8 fun t18 h9 =>
  oConvInt .u64 a1 h9 fun t20 h10 =>
  oBin .add t18 t20 h10 fun t21 h11 =>
  Qv .ret (ul (E0_q160 a0 a1) [(4, t21), (5, (Value.int .i64 0)), (6, a0), (7, t7), (8, t7), (9, t9), (10, t10), (11, t11), (12, t11), (13, t13), (14, t14), (15, t15), (16, t16), (17, a0), (18, t18), (19, a1), (20, t20), (21, t21)]) h11)
theorem ga_q160 (Qv : Post) (a0 a1 : Value) (h : Hp) : aw Try.prog O_q160 (bodyC Try.f77) Qv (E0_q160 a0 a1) h = X_q160 Qv a0 a1 h := by kernel_rfl
theorem gb_q160 (a0 a1 : Value) (h : Hp) (K : Kont) : X_q160 (qTop Try.prog Try.f77 K) a0 a1 h = G_q160 a0 a1 h K := by kernel_rfl
theorem gc_q160 (a0 a1 : Value) (h : Hp) (K : Kont) : abody Try.prog O_q160 Try.f77 (bodyC Try.f77) [a0, a1] h K = aw Try.prog O_q160 (bodyC Try.f77) (qTop Try.prog Try.f77 K) (E0_q160 a0 a1) h := by kernel_rfl
theorem eq_q160 (a0 a1 : Value) (h : Hp) (K : Kont) : abody Try.prog O_q160 Try.f77 (bodyC Try.f77) [a0, a1] h K = G_q160 a0 a1 h K := (gc_q160 a0 a1 h K).trans ((ga_q160 _ a0 a1 h).trans (gb_q160 a0 a1 h K))
theorem ok_q160 {a0 a1 : Value} {h : Hp} {K : Kont} (hk : G_q160 a0 a1 h K) : C_q160 [a0, a1] h K := ac_of_body prog_mixed (fn := Try.f77) Try.func77 (c := bodyC Try.f77) (by kernel_rfl) ((eq_q160 a0 a1 h K).mpr hk)
end Go.Proofs.Ytdolepapmpcpiaa

namespace Go.Proofs.Ytdolepapmpcpiaa
open Go
set_option linter.unusedSectionVars false
variable [Base]
set_option linter.unusedVariables false
set_option maxRecDepth 100000
def O_q11 : Od := []
noncomputable def K_q11_0 : Code := (cI (cB (cA (cB (bodyC Try.f78)))))
noncomputable def K_q11_1 : Code := (cB (cB (bodyC Try.f78)))
def Q_q11_0 (K : Kont) : Post := qSeq (aw Try.prog O_q11 K_q11_1 (qTop Try.prog Try.f78 K)) (qTop Try.prog Try.f78 K)
def Q_q11_1 (K : Kont) : Post := qBlk 0 (Q_q11_0 K)
def E_q11_1 (v0 v1 v7 v8 : Value) (d : Nat → Value) : List Value := [v0, v1, d 2, d 3, d 4, d 5, d 6, v7, v8, d 9, d 10, d 11, d 12, d 13, d 14, d 15, d 16, d 17, d 18]
def G_q11_1 (K : Kont) (v0 v1 v7 v8 : Value) (d : Nat → Value) (h : Hp) : Prop := aw Try.prog O_q11 K_q11_0 (Q_q11_1 K) (E_q11_1 v0 v1 v7 v8 d) h
def Q_q11_2 (K : Kont) (s0 : Self) : Post := qSeq s0 (Q_q11_1 K)
noncomputable def K_q11_2 : Code := (cI (cI (cB (cA (cB (bodyC Try.f78))))))
noncomputable def K_q11_3 : Code := (cB (cB (cB (cI (cI (cB (cA (cB (bodyC Try.f78)))))))))
noncomputable def K_q11_4 : Code := (cB (cB (cI (cI (cB (cA (cB (bodyC Try.f78))))))))
def G_q11 (a0 a1 : Value) (h : Hp) (K : Kont) : Prop :=
  oLen 0 a0 h fun t7 h1 =>
  G_q11_1 K a0 a1 t7 (Value.int .i64 0) (ud [(4, (Value.int .i64 0)), (6, a0)] dz) h1
def E0_q11 (a0 a1 : Value) : List Value := [a0, a1, undef, undef, undef, undef, undef, undef, undef, undef, undef, undef, undef, undef, undef, undef, undef, undef, undef]
def X_q11 (Qv : Post) (a0 a1 : Value) (h : Hp) : Prop :=
  oLen 0 a0 h fun t7 h1 =>
  aw Try.prog O_q11 K_q11_0 (qBlk 0 (qSeq (aw Try.prog O_q11 K_q11_1 Qv) Qv)) (ul (E0_q11 a0 a1) [(4, (Value.int .i64 0)), (6, a0), (7, t7), (8, (Value.int .i64 0))]) h1
theorem ga_q11 (Qv : Post) (a0 a1 : Value) (h : Hp) : aw Try.prog O_q11 (bodyC Try.f78) Qv (E0_q11 a0 a1) h = X_q11 Qv a0 a1 h := by kernel_rfl
theorem gb_q11 (a0 a1 : Value) (h : Hp) (K : Kont) : X_q11 (qTop Try.prog Try.f78 K) a0 a1 h = G_q11 a0 a1 h K := by kernel_rfl
theorem gc_q11 (a0 a1 : Value) (h : Hp) (K : Kont) : abody Try.prog O_q11 Try.f78 (bodyC Try.f78) [a0, a1] h K = aw Try.prog O_q11 (bodyC Try.f78) (qTop Try.prog Try.f78 K) (E0_q11 a0 a1) h := by kernel_rfl
theorem eq_q11 (a0 a1 : Value) (h : Hp) (K : Kont) : abody Try.prog O_q11 Try.f78 (bodyC Try.f78) [a0, a1] h K = G_q11 a0 a1 h K := (gc_q11 a0 a1 h K).trans ((ga_q11 _ a0 a1 h).trans (gb_q11 a0 a1 h K))
theorem ok_q11 {a0 a1 : Value} {h : Hp} {K : Kont} (hk : G_q11 a0 a1 h K) : C_q11 [a0, a1] h K := ac_of_body prog_mixed (fn := Try.f78) Try.func78 (c := bodyC Try.f78) (by kernel_rfl) ((eq_q11 a0 a1 h K).mpr hk)
def B_q11_1 (K : Kont) (s0 : Self) (v0 v1 v7 v8 : Value) (d : Nat → Value) (h : Hp) : Prop :=
  oBin .lss v8 v7 h fun t9 h1 =>
  oIf t9
  (oIdxS 6 v0 v8 h1 fun t14 h2 =>
  oLdN 6 t14 h2 fun t15 h3 =>
  oCallV Try.prog v1 [t15] h3 fun t16 h4 =>
  oIf t16
  (K v8 h4)
  (oBin .add v8 (Value.int .i64 1) h4 fun t18 h5 =>
  s0 (E_q11_1 v0 v1 v7 t18 (ud [(5, v8), (9, t9), (10, v8), (11, v1), (12, v0), (13, v8), (14, t14), (15, t15), (16, t16), (18, t18)] d)) h5))
  (K (Value.int .i64 (-1)) h1)
def X_q11_1 (Qv : Post) (v0 v1 v7 v8 : Value) (d : Nat → Value) (h : Hp) : Prop :=
  oBin .lss v8 v7 h fun t9 h1 =>
  oIf t9
  (oIdxS 6 v0 v8 h1 fun t14 h2 =>
  oLdN 6 t14 h2 fun t15 h3 =>
  oCallV Try.prog v1 [t15] h3 fun t16 h4 =>
  oIf t16
  ((qBlk 1 (qSeq (aw Try.prog O_q11 K_q11_3 Qv) Qv)) .ret (ul (E_q11_1 v0 v1 v7 v8 d) [(4, v8), (5, v8), (9, t9), (10, v8), (11, v1), (12, v0), (13, v8), (14, t14), (15, t15), (16, t16), (17, v8)]) h4)
  (oBin .add v8 (Value.int .i64 1) h4 fun t18 h5 =>
  Qv .normal (ul (E_q11_1 v0 v1 v7 v8 d) [(5, v8), (8, t18), (9, t9), (10, v8), (11, v1), (12, v0), (13, v8), (14, t14), (15, t15), (16, t16), (18, t18)]) h5))
  ((qSeq (aw Try.prog O_q11 K_q11_4 Qv) Qv) (.exit 0) (ul (E_q11_1 v0 v1 v7 v8 d) [(9, t9)]) h1)
theorem ga_q11_1 (Qv : Post) (v0 v1 v7 v8 : Value) (d : Nat → Value) (h : Hp) : aw Try.prog O_q11 K_q11_2 Qv (E_q11_1 v0 v1 v7 v8 d) h = X_q11_1 Qv v0 v1 v7 v8 d h := by kernel_rfl
theorem gb_q11_1 (K : Kont) (s0 : Self) (v0 v1 v7 v8 : Value) (d : Nat → Value) (h : Hp) : X_q11_1 (Q_q11_2 K s0) v0 v1 v7 v8 d h = B_q11_1 K s0 v0 v1 v7 v8 d h := by kernel_rfl
theorem beq_q11_1 (K : Kont) (s0 : Self) (v0 v1 v7 v8 : Value) (d : Nat → Value) (h : Hp) : aw Try.prog O_q11 K_q11_2 (Q_q11_2 K s0) (E_q11_1 v0 v1 v7 v8 d) h = B_q11_1 K s0 v0 v1 v7 v8 d h := (ga_q11_1 _ v0 v1 v7 v8 d h).trans (gb_q11_1 K s0 v0 v1 v7 v8 d h)
theorem rule_q11_1 {K : Kont} {v0 v1 v7 : Value} (Inv : Value → Hp → Prop) (μ : Value → Hp → Nat)
    (step : ∀ (s0 : Self) (v8 : Value) (d : Nat → Value) (h : Hp), Inv v8 h → (∀ (v8' : Value) (d' : Nat → Value) (h' : Hp), Inv v8' h' → μ v8' h' < μ v8 h → s0 (E_q11_1 v0 v1 v7 v8' d') h') → B_q11_1 K s0 v0 v1 v7 v8 d h) (v8 : Value) (d : Nat → Value) (h : Hp) (hi : Inv v8 h) : G_q11_1 K v0 v1 v7 v8 d h :=
  oLoop_rule (α := Value × (Nat → Value)) (fun x => E_q11_1 v0 v1 v7 x.1 x.2) (fun x h => Inv x.1 h) (fun x h => μ x.1 h)
    (fun self x h hx hs => (beq_q11_1 K self v0 v1 v7 x.1 x.2 h).mpr (step self x.1 x.2 h hx (fun v8' d' h' h1 h2 => hs ⟨v8', d'⟩ h' h1 h2))) ⟨v8, d⟩ h hi
def O_q105 : Od := []
def G_q105 (a0 : Value) (h : Hp) (K : Kont) : Prop :=
  oBin .geq a0 (Value.int .i64 1) h fun t4 h1 =>
  oGuard t4 true (fun K => K a0 h1) h1 fun t6 h2 =>
  oGuard t4 true (fun K => oBin .leq t6 (Value.int .i64 63) h2 K) h2 fun t7 h3 =>
  oPick t4 t7 (Value.bool false) h3 fun t8 h4 =>
  K t8 h4
def E0_q105 (a0 : Value) : List Value := [a0, undef, undef, undef, undef, undef, undef, undef, undef]
def X_q105 (Qv : Post) (a0 : Value) (h : Hp) : Prop :=
  oBin .geq a0 (Value.int .i64 1) h fun t4 h1 =>
  oGuard t4 true (fun K => K a0 h1) h1 fun t6 h2 =>
  oGuard t4 true (fun K => oBin .leq t6 (Value.int .i64 63) h2 K) h2 fun t7 h3 =>
  oPick t4 t7 (Value.bool false) h3 fun t8 h4 =>
  Qv .ret (ul (E0_q105 a0) [(2, t8), (3, a0), (4, t4), (5, t4), (6, t6), (7, t7), (8, t8)]) h4
theorem ga_q105 (Qv : Post) (a0 : Value) (h : Hp) : aw Try.prog O_q105 (bodyC Try.f79) Qv (E0_q105 a0) h = X_q105 Qv a0 h := by kernel_rfl
theorem gb_q105 (a0 : Value) (h : Hp) (K : Kont) : X_q105 (qTop Try.prog Try.f79 K) a0 h = G_q105 a0 h K := by kernel_rfl
theorem gc_q105 (a0 : Value) (h : Hp) (K : Kont) : abody Try.prog O_q105 Try.f79 (bodyC Try.f79) [a0] h K = aw Try.prog O_q105 (bodyC Try.f79) (qTop Try.prog Try.f79 K) (E0_q105 a0) h := by kernel_rfl
theorem eq_q105 (a0 : Value) (h : Hp) (K : Kont) : abody Try.prog O_q105 Try.f79 (bodyC Try.f79) [a0] h K = G_q105 a0 h K := (gc_q105 a0 h K).trans ((ga_q105 _ a0 h).trans (gb_q105 a0 h K))
theorem ok_q105 {a0 : Value} {h : Hp} {K : Kont} (hk : G_q105 a0 h K) : C_q105 [a0] h K := ac_of_body prog_mixed (fn := Try.f79) Try.func79 (c := bodyC Try.f79) (by kernel_rfl) ((eq_q105 a0 h K).mpr hk)
def O_q120 : Od := []
def G_q120 (a0 : Value) (h : Hp) (K : Kont) : Prop :=
  oBin .andNot a0 (Value.int .u64 1) h fun t4 h1 =>
  C_q31 [t4] h1 fun t5 h2 =>
  K t5 h2
def E0_q120 (a0 : Value) : List Value := [a0, undef, undef, undef, undef, undef]
def X_q120 (Qv : Post) (a0 : Value) (h : Hp) : Prop :=
  oBin .andNot a0 (Value.int .u64 1) h fun t4 h1 =>
  C_q31 [t4] h1 fun t5 h2 =>
  Qv .ret (ul (E0_q120 a0) [(2, t5), (3, a0), (4, t4), (5, t5)]) h2
theorem ga_q120 (Qv : Post) (a0 : Value) (h : Hp) : aw Try.prog O_q120 (bodyC Try.f81) Qv (E0_q120 a0) h = X_q120 Qv a0 h := by kernel_rfl
theorem gb_q120 (a0 : Value) (h : Hp) (K : Kont) : X_q120 (qTop Try.prog Try.f81 K) a0 h = G_q120 a0 h K := by kernel_rfl
theorem gc_q120 (a0 : Value) (h : Hp) (K : Kont) : abody Try.prog O_q120 Try.f81 (bodyC Try.f81) [a0] h K = aw Try.prog O_q120 (bodyC Try.f81) (qTop Try.prog Try.f81 K) (E0_q120 a0) h := by kernel_rfl
theorem eq_q120 (a0 : Value) (h : Hp) (K : Kont) : abody Try.prog O_q120 Try.f81 (bodyC Try.f81) [a0] h K = G_q120 a0 h K := (gc_q120 a0 h K).trans ((ga_q120 _ a0 h).trans (gb_q120 a0 h K))
theorem ok_q120 {a0 : Value} {h : Hp} {K : Kont} (hk : G_q120 a0 h K) : C_q120 [a0] h K := ac_of_body prog_mixed (fn := Try.f81) Try.func81 (c := bodyC Try.f81) (by kernel_rfl) ((eq_q120 a0 h K).mpr hk)
def O_q103 : Od := []
noncomputable def K_q103_0 : Code := (cB (cB (bodyC Try.f82)))
def G_q103 (a0 : Value) (h : Hp) (K : Kont) : Prop :=
  oBin .lss a0 (Value.int .i64 1) h fun t4 h1 =>
  oIf t4
  (K (Value.int .i64 0) h1)
  (oBin .quo a0 (Value.int .i64 2) h1 fun t6 h2 =>
  oBin .add t6 (Value.int .i64 1) h2 fun t7 h3 =>
  K t7 h3)
def E0_q103 (a0 : Value) : List Value := [a0, undef, undef, undef, undef, undef, undef, undef]
def X_q103 (Qv : Post) (a0 : Value) (h : Hp) : Prop :=
  oBin .lss a0 (Value.int .i64 1) h fun t4 h1 =>
  oIf t4
  ((qSeq (aw Try.prog O_q103 K_q103_0 Qv) Qv) .ret (ul (E0_q103 a0) [(2, (Value.int .i64 0)), (3, a0), (4, t4)]) h1)
  (oBin .quo a0 (Value.int .i64 2) h1 fun t6 h2 =>
  oBin .add t6 (Value.int .i64 1) h2 fun t7 h3 =>
  Qv .ret (ul (E0_q103 a0) [(2, t7), (3, a0), (4, t4), (5, a0), (6, t6), (7, t7)]) h3)
theorem ga_q103 (Qv : Post) (a0 : Value) (h : Hp) : aw Try.prog O_q103 (bodyC Try.f82) Qv (E0_q103 a0) h = X_q103 Qv a0 h := by kernel_rfl
theorem gb_q103 (a0 : Value) (h : Hp) (K : Kont) : X_q103 (qTop Try.prog Try.f82 K) a0 h = G_q103 a0 h K := by kernel_rfl
theorem gc_q103 (a0 : Value) (h : Hp) (K : Kont) : abody Try.prog O_q103 Try.f82 (bodyC Try.f82) [a0] h K = aw Try.prog O_q103 (bodyC Try.f82) (qTop Try.prog Try.f82 K) (E0_q103 a0) h := by kernel_rfl
theorem eq_q103 (a0 : Value) (h : Hp) (K : Kont) : abody Try.prog O_q103 Try.f82 (bodyC Try.f82) [a0] h K = G_q103 a0 h K := (gc_q103 a0 h K).trans ((ga_q103 _ a0 h).trans (gb_q103 a0 h K))
theorem ok_q103 {a0 : Value} {h : Hp} {K : Kont} (hk : G_q103 a0 h K) : C_q103 [a0] h K := ac_of_body prog_mixed (fn := Try.f82) Try.func82 (c := bodyC Try.f82) (by kernel_rfl) ((eq_q103 a0 h K).mpr hk)
def O_q110 : Od := []
noncomputable def K_q110_0 : Code := (cI (cB (cA (cB (cB (bodyC Try.f83))))))
noncomputable def K_q110_1 : Code := (cB (cB (cB (bodyC Try.f83))))
def Q_q110_0 (K : Kont) : Post := qSeq (aw Try.prog O_q110 K_q110_1 (qTop Try.prog Try.f83 K)) (qTop Try.prog Try.f83 K)
def Q_q110_1 (K : Kont) : Post := qBlk 0 (Q_q110_0 K)
def E_q110_1 (v0 v3 v11 v12 v13 : Value) (d : Nat → Value) : List Value := [v0, d 1, d 2, v3, d 4, d 5, d 6, d 7, d 8, d 9, d 10, v11, v12, v13, d 14, d 15, d 16, d 17, d 18, d 19, d 20, d 21, d 22, d 23, d 24, d 25, d 26, d 27]
def G_q110_1 (K : Kont) (v0 v3 v11 v12 v13 : Value) (d : Nat → Value) (h : Hp) : Prop := aw Try.prog O_q110 K_q110_0 (Q_q110_1 K) (E_q110_1 v0 v3 v11 v12 v13 d) h
def Q_q110_2 (K : Kont) (s0 : Self) : Post := qSeq s0 (Q_q110_1 K)
noncomputable def K_q110_2 : Code := (cI (cI (cB (cA (cB (cB (bodyC Try.f83)))))))
noncomputable def K_q110_3 : Code := (cB (cB (cI (cI (cB (cA (cB (cB (bodyC Try.f83)))))))))
def G_q110 (a0 : Value) (h : Hp) (K : Kont) : Prop :=
  oNilCheck a0 h fun t7 h1 =>
  oFieldAddr 6 t7 h1 fun t8 h2 =>
  oLd1 t8 h2 fun t9 h3 =>
  C_q4 [t9] h3 fun t10 h4 =>
  C_q61 [t10] h4 fun t11 h5 =>
  oLen 0 t11 h5 fun t12 h6 =>
  G_q110_1 K a0 (Value.slice none 0 0) t11 t12 (Value.int .i64 0) (ud [(2, (Value.slice none 0 0)), (6, a0), (7, t7), (8, t8), (9, t9), (10, t10)] dz) h6
def E0_q110 (a0 : Value) : List Value := [a0, undef, undef, undef, undef, undef, undef, undef, undef, undef, undef, undef, undef, undef, undef, undef, undef, undef, undef, undef, undef, undef, undef, undef, undef, undef, undef, undef]
def X_q110 (Qv : Post) (a0 : Value) (h : Hp) : Prop :=
  oNilCheck a0 h fun t7 h1 =>
  oFieldAddr 6 t7 h1 fun t8 h2 =>
  oLd1 t8 h2 fun t9 h3 =>
  C_q4 [t9] h3 fun t10 h4 =>
  C_q61 [t10] h4 fun t11 h5 =>
  oLen 0 t11 h5 fun t12 h6 =>
  aw Try.prog O_q110 K_q110_0 (qBlk 0 (qSeq (aw Try.prog O_q110 K_q110_1 Qv) Qv)) (ul (E0_q110 a0) [(2, (Value.slice none 0 0)), (3, (Value.slice none 0 0)), (6, a0), (7, t7), (8, t8), (9, t9), (10, t10), (11, t11), (12, t12), (13, (Value.int .i64 0))]) h6
theorem ga_q110 (Qv : Post) (a0 : Value) (h : Hp) : aw Try.prog O_q110 (bodyC Try.f83) Qv (E0_q110 a0) h = X_q110 Qv a0 h := by kernel_rfl
theorem gb_q110 (a0 : Value) (h : Hp) (K : Kont) : X_q110 (qTop Try.prog Try.f83 K) a0 h = G_q110 a0 h K := by kernel_rfl
theorem gc_q110 (a0 : Value) (h : Hp) (K : Kont) : abody Try.prog O_q110 Try.f83 (bodyC Try.f83) [a0] h K = aw Try.prog O_q110 (bodyC Try.f83) (qTop Try.prog Try.f83 K) (E0_q110 a0) h := by kernel_rfl
theorem eq_q110 (a0 : Value) (h : Hp) (K : Kont) : abody Try.prog O_q110 Try.f83 (bodyC Try.f83) [a0] h K = G_q110 a0 h K := (gc_q110 a0 h K).trans ((ga_q110 _ a0 h).trans (gb_q110 a0 h K))
theorem ok_q110 {a0 : Value} {h : Hp} {K : Kont} (hk : G_q110 a0 h K) : C_q110 [a0] h K := ac_of_body prog_mixed (fn := Try.f83) Try.func83 (c := bodyC Try.f83) (by kernel_rfl) ((eq_q110 a0 h K).mpr hk)
def B_q110_1 (K : Kont) (s0 : Self) (v0 v3 v11 v12 v13 : Value) (d : Nat → Value) (h : Hp) : Prop :=
  oBin .lss v13 v12 h fun t14 h1 =>
  oIf t14
  (oIdxS 1 v11 v13 h1 fun t15 h2 =>
  oLd1 t15 h2 fun t16 h3 =>
  oNilCheck v0 h3 fun t19 h4 =>
  oFieldAddr 6 t19 h4 fun t20 h5 =>
  oLd1 t20 h5 fun t21 h6 =>
  oLookup (.int .i64) (.slice none 0 0) t21 t16 false h6 fun t23 h7 =>
  oBuildSlice #[.slice none 0 0] 1 [(0 * 1, 1, t23)] h7 fun t24 h8 =>
  oAppend 1 24 #[.slice none 0 0] v3 t24 h8 fun t25 h9 =>
  oBin .add v13 (Value.int .i64 1) h9 fun t26 h10 =>
  s0 (E_q110_1 v0 t25 v11 v12 t26 (ud [(5, t16), (14, t14), (15, t15), (16, t16), (17, v3), (18, v0), (19, t19), (20, t20), (21, t21), (22, t16), (23, t23), (24, t24), (25, t25), (26, t26)] d)) h10)
  (K v3 h1)
def X_q110_1 (Qv : Post) (v0 v3 v11 v12 v13 : Value) (d : Nat → Value) (h : Hp) : Prop :=
  oBin .lss v13 v12 h fun t14 h1 =>
  oIf t14
  (oIdxS 1 v11 v13 h1 fun t15 h2 =>
  oLd1 t15 h2 fun t16 h3 =>
  oNilCheck v0 h3 fun t19 h4 =>
  oFieldAddr 6 t19 h4 fun t20 h5 =>
  oLd1 t20 h5 fun t21 h6 =>
  oLookup (.int .i64) (.slice none 0 0) t21 t16 false h6 fun t23 h7 =>
  oBuildSlice #[.slice none 0 0] 1 [(0 * 1, 1, t23)] h7 fun t24 h8 =>
  oAppend 1 24 #[.slice none 0 0] v3 t24 h8 fun t25 h9 =>
  oBin .add v13 (Value.int .i64 1) h9 fun t26 h10 =>
  Qv .normal (ul (E_q110_1 v0 v3 v11 v12 v13 d) [(3, t25), (5, t16), (13, t26), (14, t14), (15, t15), (16, t16), (17, v3), (18, v0), (19, t19), (20, t20), (21, t21), (22, t16), (23, t23), (24, t24), (25, t25), (26, t26)]) h10)
  ((qSeq (aw Try.prog O_q110 K_q110_3 Qv) Qv) (.exit 0) (ul (E_q110_1 v0 v3 v11 v12 v13 d) [(14, t14)]) h1)
theorem ga_q110_1 (Qv : Post) (v0 v3 v11 v12 v13 : Value) (d : Nat → Value) (h : Hp) : aw Try.prog O_q110 K_q110_2 Qv (E_q110_1 v0 v3 v11 v12 v13 d) h = X_q110_1 Qv v0 v3 v11 v12 v13 d h := by kernel_rfl
theorem gb_q110_1 (K : Kont) (s0 : Self) (v0 v3 v11 v12 v13 : Value) (d : Nat → Value) (h : Hp) : X_q110_1 (Q_q110_2 K s0) v0 v3 v11 v12 v13 d h = B_q110_1 K s0 v0 v3 v11 v12 v13 d h := by kernel_rfl
theorem beq_q110_1 (K : Kont) (s0 : Self) (v0 v3 v11 v12 v13 : Value) (d : Nat → Value) (h : Hp) : aw Try.prog O_q110 K_q110_2 (Q_q110_2 K s0) (E_q110_1 v0 v3 v11 v12 v13 d) h = B_q110_1 K s0 v0 v3 v11 v12 v13 d h := (ga_q110_1 _ v0 v3 v11 v12 v13 d h).trans (gb_q110_1 K s0 v0 v3 v11 v12 v13 d h)
theorem rule_q110_1 {K : Kont} {v0 v11 v12 : Value} (Inv : Value → Value → Hp → Prop) (μ : Value → Value → Hp → Nat)
    (step : ∀ (s0 : Self) (v3 v13 : Value) (d : Nat → Value) (h : Hp), Inv v3 v13 h → (∀ (v3' : Value) (v13' : Value) (d' : Nat → Value) (h' : Hp), Inv v3' v13' h' → μ v3' v13' h' < μ v3 v13 h → s0 (E_q110_1 v0 v3' v11 v12 v13' d') h') → B_q110_1 K s0 v0 v3 v11 v12 v13 d h) (v3 v13 : Value) (d : Nat → Value) (h : Hp) (hi : Inv v3 v13 h) : G_q110_1 K v0 v3 v11 v12 v13 d h :=
  oLoop_rule (α := Value × Value × (Nat → Value)) (fun x => E_q110_1 v0 x.1 v11 v12 x.2.1 x.2.2) (fun x h => Inv x.1 x.2.1 h) (fun x h => μ x.1 x.2.1 h)
    (fun self x h hx hs => (beq_q110_1 K self v0 x.1 v11 v12 x.2.1 x.2.2 h).mpr (step self x.1 x.2.1 x.2.2 h hx (fun v3' v13' d' h' h1 h2 => hs ⟨v3', v13', d'⟩ h' h1 h2))) ⟨v3, v13, d⟩ h hi
def O_q8 : Od := []
def G_q8 (a0 a1 : Value) (h : Hp) (K : Kont) : Prop :=
  C_q11 [a0, a1] h fun t7 h1 =>
  oBin .geq t7 (Value.int .i64 0) h1 fun t8 h2 =>
  K t8 h2
def E0_q8 (a0 a1 : Value) : List Value := [a0, a1, undef, undef, undef, undef, undef, undef, undef]
def X_q8 (Qv : Post) (a0 a1 : Value) (h : Hp) : Prop :=
  C_q11 [a0, a1] h fun t7 h1 =>
  oBin .geq t7 (Value.int .i64 0) h1 fun t8 h2 =>
  Qv .ret (ul (E0_q8 a0 a1) [(4, t8), (5, a0), (6, a1), (7, t7), (8, t8)]) h2
theorem ga_q8 (Qv : Post) (a0 a1 : Value) (h : Hp) : aw Try.prog O_q8 (bodyC Try.f84) Qv (E0_q8 a0 a1) h = X_q8 Qv a0 a1 h := by kernel_rfl
theorem gb_q8 (a0 a1 : Value) (h : Hp) (K : Kont) : X_q8 (qTop Try.prog Try.f84 K) a0 a1 h = G_q8 a0 a1 h K := by kernel_rfl
theorem gc_q8 (a0 a1 : Value) (h : Hp) (K : Kont) : abody Try.prog O_q8 Try.f84 (bodyC Try.f84) [a0, a1] h K = aw Try.prog O_q8 (bodyC Try.f84) (qTop Try.prog Try.f84 K) (E0_q8 a0 a1) h := by kernel_rfl
theorem eq_q8 (a0 a1 : Value) (h : Hp) (K : Kont) : abody Try.prog O_q8 Try.f84 (bodyC Try.f84) [a0, a1] h K = G_q8 a0 a1 h K := (gc_q8 a0 a1 h K).trans ((ga_q8 _ a0 a1 h).trans (gb_q8 a0 a1 h K))
theorem ok_q8 {a0 a1 : Value} {h : Hp} {K : Kont} (hk : G_q8 a0 a1 h K) : C_q8 [a0, a1] h K := ac_of_body prog_mixed (fn := Try.f84) Try.func84 (c := bodyC Try.f84) (by kernel_rfl) ((eq_q8 a0 a1 h K).mpr hk)
def O_q29 : Od := []
def G_q29 (a0 a1 : Value) (h : Hp) (K : Kont) : Prop :=
  oBox a0 h fun t2 h1 =>
  oFieldAddr 2 t2 h1 fun t4 h2 =>
  oLdN 4 t4 h2 fun t5 h3 =>
  oLdN 4 a1 h3 fun t6 h4 =>
  oEq 4 false (some [(0, (.int .i64)), (1, (.int .i64)), (2, (.int .u64)), (3, (.int .i64))]) t5 t6 h4 fun t7 h5 =>
  K t7 h5
def E0_q29 (a0 a1 : Value) : List Value := [a0, a1, undef, undef, undef, undef, undef, undef]
def X_q29 (Qv : Post) (a0 a1 : Value) (h : Hp) : Prop :=
  oBox a0 h fun t2 h1 =>
  oFieldAddr 2 t2 h1 fun t4 h2 =>
  oLdN 4 t4 h2 fun t5 h3 =>
  oLdN 4 a1 h3 fun t6 h4 =>
  oEq 4 false (some [(0, (.int .i64)), (1, (.int .i64)), (2, (.int .u64)), (3, (.int .i64))]) t5 t6 h4 fun t7 h5 =>
  Qv .ret (ul (E0_q29 a0 a1) [(2, t2), (3, t7), (4, t4), (5, t5), (6, t6), (7, t7)]) h5
theorem ga_q29 (Qv : Post) (a0 a1 : Value) (h : Hp) : aw Try.prog O_q29 (bodyC Try.f85) Qv (E0_q29 a0 a1) h = X_q29 Qv a0 a1 h := by kernel_rfl
theorem gb_q29 (a0 a1 : Value) (h : Hp) (K : Kont) : X_q29 (qTop Try.prog Try.f85 K) a0 a1 h = G_q29 a0 a1 h K := by kernel_rfl
theorem gc_q29 (a0 a1 : Value) (h : Hp) (K : Kont) : abody Try.prog O_q29 Try.f85 (bodyC Try.f85) [a0, a1] h K = aw Try.prog O_q29 (bodyC Try.f85) (qTop Try.prog Try.f85 K) (E0_q29 a0 a1) h := by kernel_rfl
theorem eq_q29 (a0 a1 : Value) (h : Hp) (K : Kont) : abody Try.prog O_q29 Try.f85 (bodyC Try.f85) [a0, a1] h K = G_q29 a0 a1 h K := (gc_q29 a0 a1 h K).trans ((ga_q29 _ a0 a1 h).trans (gb_q29 a0 a1 h K))
theorem ok_q29 {a0 a1 : Value} {h : Hp} {K : Kont} (hk : G_q29 a0 a1 h K) : C_q29 [a0, a1] h K := ac_of_body prog_mixed (fn := Try.f85) Try.func85 (c := bodyC Try.f85) (by kernel_rfl) ((eq_q29 a0 a1 h K).mpr hk)
end Go.Proofs.Ytdolepapmpcpiaa

namespace Go.Proofs.Ytdolepapmpcpiaa
open Go
set_option linter.unusedSectionVars false
variable [Base]
set_option linter.unusedVariables false
set_option maxRecDepth 100000
def O_q31 : Od := []
def G_q31 (a0 : Value) (h : Hp) (K : Kont) : Prop :=
  oBin .shr a0 (Value.int .u64 1) h fun t4 h1 =>
  oBin .and t4 (Value.int .u64 6148914691236517205) h1 fun t5 h2 =>
  oBin .and a0 (Value.int .u64 6148914691236517205) h2 fun t7 h3 =>
  oBin .add t5 t7 h3 fun t8 h4 =>
  oBin .shr t8 (Value.int .u64 2) h4 fun t10 h5 =>
  oBin .and t10 (Value.int .u64 3689348814741910323) h5 fun t11 h6 =>
  oBin .and t8 (Value.int .u64 3689348814741910323) h6 fun t13 h7 =>
  oBin .add t11 t13 h7 fun t14 h8 =>
  oBin .shr t14 (Value.int .u64 4) h8 fun t16 h9 =>
  oBin .add t16 t14 h9 fun t18 h10 =>
  oBin .and t18 (Value.int .u64 1085102592571150095) h10 fun t19 h11 =>
  oBin .shr t19 (Value.int .u64 8) h11 fun t22 h12 =>
  oBin .add t19 t22 h12 fun t23 h13 =>
  oBin .shr t23 (Value.int .u64 16) h13 fun t26 h14 =>
  oBin .add t23 t26 h14 fun t27 h15 =>
  oBin .shr t27 (Value.int .u64 32) h15 fun t30 h16 =>
  oBin .add t27 t30 h16 fun t31 h17 =>
  oConvInt .i64 t31 h17 fun t33 h18 =>
  oBin .and t33 (Value.int .i64 127) h18 fun t34 h19 =>
  K t34 h19
def E0_q31 (a0 : Value) : List Value := [a0, undef, undef, undef, undef, undef, undef, undef, undef, undef, undef, undef, undef, undef, undef, undef, undef, undef, undef, undef, undef, undef, undef, undef, undef, undef, undef, undef, undef, undef, undef, undef, undef, undef, undef]
def X_q31 (Qv : Post) (a0 : Value) (h : Hp) : Prop :=
  oBin .shr a0 (Value.int .u64 1) h fun t4 h1 =>
  oBin .and t4 (Value.int .u64 6148914691236517205) h1 fun t5 h2 =>
  oBin .and a0 (Value.int .u64 6148914691236517205) h2 fun t7 h3 =>
  oBin .add t5 t7 h3 fun t8 h4 =>
  oBin .shr t8 (Value.int .u64 2) h4 fun t10 h5 =>
  oBin .and t10 (Value.int .u64 3689348814741910323) h5 fun t11 h6 =>
  oBin .and t8 (Value.int .u64 3689348814741910323) h6 fun t13 h7 =>
  oBin .add t11 t13 h7 fun t14 h8 =>
  oBin .shr t14 (Value.int .u64 4) h8 fun t16 h9 =>
  oBin .add t16 t14 h9 fun t18 h10 =>
  oBin .and t18 (Value.int .u64 1085102592571150095) h10 fun t19 h11 =>
  oBin .shr t19 (Value.int .u64 8) h11 fun t22 h12 =>
  oBin .add t19 t22 h12 fun t23 h13 =>
  oBin .shr t23 (Value.int .u64 16) h13 fun t26 h14 =>
  oBin .add t23 t26 h14 fun t27 h15 =>
  oBin .shr t27 (Value.int .u64 32) h15 fun t30 h16 =>
  oBin .add t27 t30 h16 fun t31 h17 =>
  oConvInt .i64 t31 h17 fun t33 h18 =>
  oBin .and t33 (Value.int .i64 127) h18 fun t34 h19 =>
  Qv .ret (ul (E0_q31 a0) [(0, t31), (2, t34), (3, a0), (4, t4), (5, t5), (6, a0), (7, t7), (8, t8), (9, t8), (10, t10), (11, t11), (12, t8), (13, t13), (14, t14), (15, t14), (16, t16), (17, t14), (18, t18), (19, t19), (20, t19), (21, t19), (22, t22), (23, t23), (24, t23), (25, t23), (26, t26), (27, t27), (28, t27), (29, t27), (30, t30), (31, t31), (32, t31), (33, t33), (34, t34)]) h19
theorem ga_q31 (Qv : Post) (a0 : Value) (h : Hp) : aw Try.prog O_q31 (bodyC Try.f94) Qv (E0_q31 a0) h = X_q31 Qv a0 h := by kernel_rfl
theorem gb_q31 (a0 : Value) (h : Hp) (K : Kont) : X_q31 (qTop Try.prog Try.f94 K) a0 h = G_q31 a0 h K := by kernel_rfl
theorem gc_q31 (a0 : Value) (h : Hp) (K : Kont) : abody Try.prog O_q31 Try.f94 (bodyC Try.f94) [a0] h K = aw Try.prog O_q31 (bodyC Try.f94) (qTop Try.prog Try.f94 K) (E0_q31 a0) h := by kernel_rfl
theorem eq_q31 (a0 : Value) (h : Hp) (K : Kont) : abody Try.prog O_q31 Try.f94 (bodyC Try.f94) [a0] h K = G_q31 a0 h K := (gc_q31 a0 h K).trans ((ga_q31 _ a0 h).trans (gb_q31 a0 h K))
theorem ok_q31 {a0 : Value} {h : Hp} {K : Kont} (hk : G_q31 a0 h K) : C_q31 [a0] h K := ac_of_body prog_mixed (fn := Try.f94) Try.func94 (c := bodyC Try.f94) (by kernel_rfl) ((eq_q31 a0 h K).mpr hk)
end Go.Proofs.Ytdolepapmpcpiaa



namespace Go.Proofs.Ytdolepapmpcpiaa
open Go
set_option linter.unusedSectionVars false
variable [Base]
set_option linter.unusedVariables false
set_option linter.unusedSimpArgs false
structure Cmd where
  kind : Int
  chain : Int
  epoch : Int
  node : Int
  deriving DecidableEq
structure Vote where
  slot : Int
  ballot : Int
  cmd : Cmd
  deriving DecidableEq
def cmd0 : Cmd := ⟨0, 0, 0, 0⟩
def vote0 : Vote := ⟨0, 0, cmd0⟩
def voteV (v : Vote) : Value := .agg #[.int .i64 v.slot, .int .u64 v.ballot, .int .i64 v.cmd.kind, .int .i64 v.cmd.chain, .int .u64 v.cmd.epoch, .int .i64 v.cmd.node]
/-- An acceptor at block p, its votes at block r. -/
structure Acc (h : Hp) (p r : Nat) (prom : Int) (m : List (Int × Vote)) : Prop where
  blk : h[p]? = some (.cells #[.int .u64 prom, .map (some r)])
  map : h[r]? = some (.map (encM voteV m))
theorem sp_Promised {h : Hp} {p r : Nat} {prom : Int} {m : List (Int × Vote)} (hA : Acc h p r prom m) {K : Kont} (hK : K (.int .u64 prom) h) : C_q17 [pt p 0] h K := by
  refine ok_q17 ?_
  have h1 := hA.blk
  unfold G_q17
  simp (disch := (first|omega|(simp only [zz,Nat.reduceAdd,Nat.reduceLeDiff];done)|(simp only [zz];omega))) only [e_pickT, e_pickF, e_alloc, e_box, e_build, e_buildSlice, e_ld1, e_ldN, e_st, e_nilCheck, e_bin, e_eq, e_not, e_conv, e_makeMap, e_fieldAddr, e_idxS, e_idxA, e_lookup, e_lookupN, e_mapUpdate, e_delete, e_clearMap, e_len0, e_len1, e_len2, e_len2n, e_extract, e_ifT, e_ifF, e_gTT, e_gFF, e_gTF, e_gFT, e_hTT, e_hFF, e_hTF, e_hFT, e_gU, e_hU, e_minmax, e_field1, b_add, b_sub, b_mul, b_quo, b_rem, b_eql, b_neq, b_lss, b_leq, b_gtr, b_geq, Int.cast_ofNat_Int, decide_true, decide_false, Int.reduceLT, Int.reduceLE, Int.reduceEq, List.toList_toArray, rdC_eq, Bool.false_eq_true, if_false, Bool.true_eq_false, onS_some, asCells_cells, asMap_map, cellAt_cells, g_push_lt, g_push_eq, g_set_eq, g_set_ne, wrap_i, wrap_u, Option.bind_some, Array.size_push, Array.size_setIfInBounds, List.size_toArray, List.length_cons, List.length_nil, List.getElem?_toArray, List.getElem?_cons_zero, List.getElem?_cons_succ, List.setIfInBounds_toArray, List.set_cons_zero, List.set_cons_succ, Nat.reduceAdd, Nat.zero_add, Nat.add_zero, true_and, and_true, Value.cells, setL, rdN, bfill, one, List.all_cons, List.all_nil, Bool.and_self, Option.map_some, Nat.reduceLeDiff, Nat.le_refl, if_true, Option.isNone_some, Option.isNone_none, eqV, Bool.not_true, Bool.not_false, Nat.zero_mul, Nat.reduceMul, lookRes, h1]
  exact hK
theorem sp_Len {h : Hp} {p r : Nat} {prom : Int} {m : List (Int × Vote)} (hA : Acc h p r prom m) {K : Kont} (hK : K (.int .i64 m.length) h) : C_q38 [pt p 0] h K := by
  refine ok_q38 ?_
  have h1 := hA.blk
  have h2 := hA.map
  unfold G_q38
  simp (disch := (first|omega|(simp only [zz,Nat.reduceAdd,Nat.reduceLeDiff];done)|(simp only [zz];omega))) only [e_pickT, e_pickF, e_alloc, e_box, e_build, e_buildSlice, e_ld1, e_ldN, e_st, e_nilCheck, e_bin, e_eq, e_not, e_conv, e_makeMap, e_fieldAddr, e_idxS, e_idxA, e_lookup, e_lookupN, e_mapUpdate, e_delete, e_clearMap, e_len0, e_len1, e_len2, e_len2n, e_extract, e_ifT, e_ifF, e_gTT, e_gFF, e_gTF, e_gFT, e_hTT, e_hFF, e_hTF, e_hFT, e_gU, e_hU, e_minmax, e_field1, b_add, b_sub, b_mul, b_quo, b_rem, b_eql, b_neq, b_lss, b_leq, b_gtr, b_geq, Int.cast_ofNat_Int, decide_true, decide_false, Int.reduceLT, Int.reduceLE, Int.reduceEq, List.toList_toArray, rdC_eq, Bool.false_eq_true, if_false, Bool.true_eq_false, onS_some, asCells_cells, asMap_map, cellAt_cells, g_push_lt, g_push_eq, g_set_eq, g_set_ne, wrap_i, wrap_u, Option.bind_some, Array.size_push, Array.size_setIfInBounds, List.size_toArray, List.length_cons, List.length_nil, List.getElem?_toArray, List.getElem?_cons_zero, List.getElem?_cons_succ, List.setIfInBounds_toArray, List.set_cons_zero, List.set_cons_succ, Nat.reduceAdd, Nat.zero_add, Nat.add_zero, true_and, and_true, Value.cells, setL, rdN, bfill, one, List.all_cons, List.all_nil, Bool.and_self, Option.map_some, Nat.reduceLeDiff, Nat.le_refl, if_true, Option.isNone_some, Option.isNone_none, eqV, Bool.not_true, Bool.not_false, Nat.zero_mul, Nat.reduceMul, lookRes, h1, h2, encM_length]
  exact hK
theorem sp_Vote {h : Hp} (hB : Base.b ≤ h.size) {p r : Nat} {prom : Int} {m : List (Int × Vote)} (hA : Acc h p r prom m) (s : Int) {K : Kont}
    (hK : ∀ h', Ext h h' → K (.tuple #[voteV ((mget m s).getD vote0), .bool (mget m s).isSome]) h') : C_q33 [pt p 0, .int .i64 s] h K := by
  refine ok_q33 ?_
  have h1 := hA.blk
  have h2 := hA.map
  have l1 := lt_of_get h1
  have l2 := lt_of_get h2
  unfold mget at hK
  unfold G_q33
  cases hf : mfind m s 0 with
  | none =>
    rw [hf] at hK
    simp (disch := (first|omega|(simp only [zz,Nat.reduceAdd,Nat.reduceLeDiff];done)|(simp only [zz];omega))) only [e_pickT, e_pickF, e_alloc, e_box, e_build, e_buildSlice, e_ld1, e_ldN, e_st, e_nilCheck, e_bin, e_eq, e_not, e_conv, e_makeMap, e_fieldAddr, e_idxS, e_idxA, e_lookup, e_lookupN, e_mapUpdate, e_delete, e_clearMap, e_len0, e_len1, e_len2, e_len2n, e_extract, e_ifT, e_ifF, e_gTT, e_gFF, e_gTF, e_gFT, e_hTT, e_hFF, e_hTF, e_hFT, e_gU, e_hU, e_minmax, e_field1, b_add, b_sub, b_mul, b_quo, b_rem, b_eql, b_neq, b_lss, b_leq, b_gtr, b_geq, Int.cast_ofNat_Int, decide_true, decide_false, Int.reduceLT, Int.reduceLE, Int.reduceEq, List.toList_toArray, rdC_eq, Bool.false_eq_true, if_false, Bool.true_eq_false, onS_some, asCells_cells, asMap_map, cellAt_cells, g_push_lt, g_push_eq, g_set_eq, g_set_ne, wrap_i, wrap_u, Option.bind_some, Array.size_push, Array.size_setIfInBounds, List.size_toArray, List.length_cons, List.length_nil, List.getElem?_toArray, List.getElem?_cons_zero, List.getElem?_cons_succ, List.setIfInBounds_toArray, List.set_cons_zero, List.set_cons_succ, Nat.reduceAdd, Nat.zero_add, Nat.add_zero, true_and, and_true, Value.cells, setL, rdN, bfill, one, List.all_cons, List.all_nil, Bool.and_self, Option.map_some, Nat.reduceLeDiff, Nat.le_refl, if_true, Option.isNone_some, Option.isNone_none, eqV, Bool.not_true, Bool.not_false, Nat.zero_mul, Nat.reduceMul, lookRes, h1, h2, kvFind_enc, hf, Option.map_none]
    exact hK _ (by repeat' (first|with_reducible (first|exact u0 _|refine u1 ?_ _|refine u2 ?_ _ _ ?_)|exact .inl (by (first|omega|(simp only [zz,Nat.reduceAdd,Nat.reduceLeDiff];done)|(simp only [zz];omega)))|exact .inr rfl|exact .inr (by simp;done)))
  | some q =>
    rw [hf] at hK
    simp (disch := (first|omega|(simp only [zz,Nat.reduceAdd,Nat.reduceLeDiff];done)|(simp only [zz];omega))) only [e_pickT, e_pickF, e_alloc, e_box, e_build, e_buildSlice, e_ld1, e_ldN, e_st, e_nilCheck, e_bin, e_eq, e_not, e_conv, e_makeMap, e_fieldAddr, e_idxS, e_idxA, e_lookup, e_lookupN, e_mapUpdate, e_delete, e_clearMap, e_len0, e_len1, e_len2, e_len2n, e_extract, e_ifT, e_ifF, e_gTT, e_gFF, e_gTF, e_gFT, e_hTT, e_hFF, e_hTF, e_hFT, e_gU, e_hU, e_minmax, e_field1, b_add, b_sub, b_mul, b_quo, b_rem, b_eql, b_neq, b_lss, b_leq, b_gtr, b_geq, Int.cast_ofNat_Int, decide_true, decide_false, Int.reduceLT, Int.reduceLE, Int.reduceEq, List.toList_toArray, rdC_eq, Bool.false_eq_true, if_false, Bool.true_eq_false, onS_some, asCells_cells, asMap_map, cellAt_cells, g_push_lt, g_push_eq, g_set_eq, g_set_ne, wrap_i, wrap_u, Option.bind_some, Array.size_push, Array.size_setIfInBounds, List.size_toArray, List.length_cons, List.length_nil, List.getElem?_toArray, List.getElem?_cons_zero, List.getElem?_cons_succ, List.setIfInBounds_toArray, List.set_cons_zero, List.set_cons_succ, Nat.reduceAdd, Nat.zero_add, Nat.add_zero, true_and, and_true, Value.cells, setL, rdN, bfill, one, List.all_cons, List.all_nil, Bool.and_self, Option.map_some, Nat.reduceLeDiff, Nat.le_refl, if_true, Option.isNone_some, Option.isNone_none, eqV, Bool.not_true, Bool.not_false, Nat.zero_mul, Nat.reduceMul, lookRes, h1, h2, kvFind_enc, hf, Option.map_some, voteV]
    exact hK _ (by repeat' (first|with_reducible (first|exact u0 _|refine u1 ?_ _|refine u2 ?_ _ _ ?_)|exact .inl (by (first|omega|(simp only [zz,Nat.reduceAdd,Nat.reduceLeDiff];done)|(simp only [zz];omega)))|exact .inr rfl|exact .inr (by simp;done)))
end Go.Proofs.Ytdolepapmpcpiaa

namespace Go.Proofs.Ytdolepapmpcpiaa
open Go
set_option linter.unusedSectionVars false
variable [Base]
set_option linter.unusedVariables false
set_option linter.unusedSimpArgs false
theorem rdN_add (h : Hp) (b : Nat) : ∀ (m n i : Nat), rdN h b i (m + n) = (rdN h b i m).bind fun x => (rdN h b (i + m) n).map (x ++ ·)
  | 0, n, i => by simp [rdN]
  | m + 1, n, i => by
    rw [show m + 1 + n = (m + n) + 1 by omega]
    simp only [rdN]
    cases rdC h b i with
    | none => rfl
    | some v =>
      simp only [Option.bind_some]
      rw [rdN_add h b m n (i + 1), show i + 1 + m = i + (m + 1) by omega]
      cases rdN h b (i + 1) m with
      | none => rfl
      | some x => cases rdN h b (i + (m + 1)) n <;> rfl
theorem rdN_len {h : Hp} {b : Nat} : ∀ {n i : Nat} {l : List Value}, rdN h b i n = some l → l.length = n
  | 0, i, l, e => by simp only [rdN, Option.some.injEq] at e; subst e; rfl
  | n + 1, i, l, e => by
    simp only [rdN] at e
    cases hv : rdC h b i with
    | none => rw [hv] at e; cases e
    | some v =>
      rw [hv] at e
      simp only [Option.bind_some, Option.map_eq_some_iff] at e
      obtain ⟨r, hr, rfl⟩ := e
      simp [rdN_len hr]
theorem rdN_part {h : Hp} {b i m n k : Nat} {l : List Value} (e : rdN h b i m = some l) (hk : k + n ≤ m) : rdN h b (i + k) n = some ((l.drop k).take n) := by
  obtain ⟨r, rfl⟩ : ∃ r, m = k + n + r := ⟨m - (k + n), by omega⟩
  rw [rdN_add, rdN_add] at e
  cases h1 : rdN h b i k with
  | none => rw [h1] at e; cases e
  | some x =>
    rw [h1] at e
    simp only [Option.bind_some] at e
    cases h2 : rdN h b (i + k) n with
    | none => rw [h2] at e; cases e
    | some y =>
      rw [h2] at e
      simp only [Option.map_some, Option.bind_some, Option.map_eq_some_iff] at e
      obtain ⟨z, _, rfl⟩ := e
      have l1 := rdN_len h1
      have l2 := rdN_len h2
      rw [List.append_assoc, List.drop_append_of_le_length (by omega), List.drop_eq_nil_of_le (by omega : x.length ≤ k), List.nil_append, List.take_append_of_le_length (by omega), List.take_of_length_le (by omega)]
theorem rdN_one {h : Hp} {b i : Nat} {v : Value} (e : rdN h b i 1 = some [v]) : rdC h b i = some v := by
  simp only [rdN] at e
  cases hv : rdC h b i with
  | none => rw [hv] at e; cases e
  | some u => rw [hv] at e; simpa using e
theorem rdN_cell {h : Hp} {b i m k : Nat} {l : List Value} {v : Value} (e : rdN h b i m = some l) (hk : l[k]? = some v) : rdC h b (i + k) = some v := by
  have hl := rdN_len e
  have hkm : k < l.length := (List.getElem?_eq_some_iff.1 hk).1
  have := rdN_part (n := 1) (k := k) e (by omega)
  apply rdN_one
  rw [this]
  have h2 := (List.getElem?_eq_some_iff.1 hk).2
  rw [List.drop_eq_getElem_cons hkm]
  simp [h2]
theorem rdN_upd {S : Nat → Prop} {h h' : Hp} (u : Upd S h h') {b : Nat} (hb : ¬ S b) : ∀ {n i : Nat} {l : List Value}, rdN h b i n = some l → rdN h' b i n = some l
  | 0, i, l, e => by simpa [rdN] using e
  | n + 1, i, l, e => by
    simp only [rdN] at e ⊢
    cases hv : rdC h b i with
    | none => rw [hv] at e; cases e
    | some v =>
      have hlt : b < h.size := by
        rcases Nat.lt_or_ge b h.size with hl | hl
        · exact hl
        · rw [rdC, Array.getElem?_eq_none hl] at hv; cases hv
      have : rdC h' b i = some v := by unfold rdC at hv ⊢; rw [u.2 b hlt hb]; exact hv
      rw [this]
      rw [hv] at e
      simp only [Option.bind_some, Option.map_eq_some_iff] at e ⊢
      obtain ⟨r, hr, rfl⟩ := e
      exact ⟨r, rdN_upd u hb hr, rfl⟩
theorem rdN_blk {h : Hp} {b : Nat} {c : Array Value} (e : h[b]? = some (.cells c)) : ∀ {n i : Nat}, i + n ≤ c.size → rdN h b i n = some ((c.toList.drop i).take n)
  | 0, i, _ => by simp [rdN]
  | n + 1, i, hi => by
    have hlt : i < c.size := by omega
    have h1 : rdC h b i = some c[i] := by unfold rdC; rw [e]; simp [hlt]
    simp only [rdN, h1, Option.bind_some, rdN_blk e (n := n) (i := i + 1) (by omega), Option.map_some]
    rw [List.drop_eq_getElem_cons (l := c.toList) (i := i) (by simpa using hlt), List.take_succ_cons]
    simp
theorem rdN_same {h h' : Hp} {b : Nat} (e : h'[b]? = h[b]?) : ∀ (n i : Nat), rdN h' b i n = rdN h b i n
  | 0, _ => rfl
  | n + 1, i => by simp only [rdN, rdC, e, rdN_same e n]
theorem rdN_push {h : Hp} {o : AObj} {b n i : Nat} (hb : b < h.size) : rdN (h.push o) b i n = rdN h b i n := rdN_same (g_push_lt hb) n i
theorem rdN_setne {h : Hp} {o : AObj} {b r n i : Nat} (e : r ≠ b) : rdN (h.setIfInBounds r o) b i n = rdN h b i n := rdN_same (g_set_ne e) n i
theorem rdN_lt {h : Hp} {b n i : Nat} {l : List Value} (e : rdN h b i (n + 1) = some l) : b < h.size := by
  rcases Nat.lt_or_ge b h.size with hl | hl
  · exact hl
  · simp only [rdN, rdC, Array.getElem?_eq_none hl] at e; cases e
def ival : Value → Nat
  | .int _ n => n.toNat
  | _ => 0
theorem ival_nat (k : IntKind) (n : Nat) : ival (.int k n) = n := by simp [ival]
/-- The block of a slice. -/
def blk : Value → Option Nat
  | .slice (some a) _ _ => some a.block
  | _ => none
section
variable {α : Type}
/-- v is a slice that reads as l. -/
def Sl (h : Hp) (sz : Nat) (enc : α → List Value) (v : Value) (l : List α) : Prop :=
  ∃ p cap, v = .slice p l.length cap ∧ l.length ≤ cap ∧ srcCells sz v h = some (l.length, l.flatMap enc)
/-- .. at a row of its own, from base on, or nil. -/
def Own (h : Hp) (base sz : Nat) (enc : α → List Value) (v : Value) (l : List α) : Prop :=
  (v = .slice none 0 0 ∧ l = []) ∨
  ∃ g cap c, v = .slice (some ⟨g, 0, none⟩) l.length cap ∧ base ≤ g ∧ h[g]? = some (.cells c) ∧ l.length ≤ cap ∧ c.size = cap * sz ∧ c.toList.take (l.length * sz) = l.flatMap enc
variable {h h' : Hp} {sz base : Nat} {enc : α → List Value} {v : Value} {l : List α}
theorem Own.nil : Own h base sz enc (.slice none 0 0) ([] : List α) := .inl ⟨rfl, rfl⟩
theorem Sl.nil : Sl h sz enc (.slice none 0 0) ([] : List α) := ⟨none, 0, rfl, Nat.le_refl _, rfl⟩
theorem flat_len (he : ∀ a, (enc a).length = sz) : ∀ l : List α, (l.flatMap enc).length = l.length * sz
  | [] => by simp
  | a :: l => by simp [flat_len he l, he, Nat.add_mul]; omega
theorem flat_part (he : ∀ a, (enc a).length = sz) : ∀ (l : List α) (i : Nat) (hi : i < l.length), ((l.flatMap enc).drop (i * sz)).take sz = enc l[i]
  | a :: l, 0, _ => by
    rw [Nat.zero_mul, List.drop_zero, List.flatMap_cons, List.take_append_of_le_length (by rw [he]; exact Nat.le_refl _), List.take_of_length_le (by rw [he]; exact Nat.le_refl _)]; rfl
  | a :: l, i + 1, hi => by
    rw [List.flatMap_cons, Nat.add_mul, Nat.one_mul, Nat.add_comm, ← List.drop_drop, List.drop_left' (he a)]
    exact flat_part he l i (by simpa using hi)
theorem Own.sl (o : Own h base sz enc v l) : Sl h sz enc v l := by
  rcases o with ⟨rfl, rfl⟩ | ⟨g, cap, c, rfl, _, hg, hn, hs, ht⟩
  · exact Sl.nil
  · refine ⟨_, cap, rfl, hn, ?_⟩
    have : 0 + l.length * sz ≤ c.size := by rw [hs, Nat.zero_add]; exact Nat.mul_le_mul_right _ hn
    simp only [srcCells, rdN_blk hg this, Option.map_some, List.drop_zero, ht]
theorem Sl.at (s : Sl h sz enc v l) (he : ∀ a, (enc a).length = sz) (i : Nat) (hi : i < l.length) :
    ∃ b o cap, v = .slice (some ⟨b, o, none⟩) l.length cap ∧ rdN h b (o + i * sz) sz = some (enc l[i]) := by
  obtain ⟨p, cap, rfl, _, e⟩ := s
  cases p with
  | none =>
    simp only [srcCells] at e
    split at e
    · rename_i h0; have : l = [] := by simpa using h0
      subst this; simp at hi
    · cases e
  | some a =>
    obtain ⟨b, o, q⟩ := a
    cases q with
    | some _ =>
      simp only [srcCells] at e
      split at e
      · rename_i h0; have : l = [] := by simpa using h0
        subst this; simp at hi
      · cases e
    | none =>
      simp only [srcCells, Option.map_eq_some_iff, Prod.mk.injEq, true_and] at e
      obtain ⟨r, hr, rfl⟩ := e
      refine ⟨b, o, cap, rfl, ?_⟩
      have h2 : i * sz + sz ≤ l.length * sz := by rw [← Nat.succ_mul]; exact Nat.mul_le_mul_right _ hi
      rw [rdN_part hr h2, flat_part he l i hi]
theorem Sl.upd {S : Nat → Prop} (s : Sl h sz enc v l) (u : Upd S h h') (hb : ∀ b, blk v = some b → ¬ S b) : Sl h' sz enc v l := by
  obtain ⟨p, cap, rfl, hcap, e⟩ := s
  refine ⟨p, cap, rfl, hcap, ?_⟩
  cases p with
  | none => exact e
  | some a =>
    obtain ⟨b, o, q⟩ := a
    cases q with
    | some _ => exact e
    | none =>
      simp only [srcCells, Option.map_eq_some_iff, Prod.mk.injEq, true_and] at e ⊢
      obtain ⟨r, hr, rfl⟩ := e
      exact ⟨_, rdN_upd u (hb b rfl) hr, rfl⟩
theorem Sl.ext (s : Sl h sz enc v l) (u : Ext h h') : Sl h' sz enc v l := s.upd u (fun _ _ => id)
theorem Sl.len (s : Sl h sz enc v l) {K : Kont} : oLen 0 v h K = K (.int .i64 l.length) h := by
  obtain ⟨p, cap, rfl, _⟩ := s; rfl
theorem Own.upd {S : Nat → Prop} (o : Own h base sz enc v l) (u : Upd S h h') (hb : ∀ b, blk v = some b → ¬ S b) : Own h' base sz enc v l := by
  rcases o with ⟨rfl, rfl⟩ | ⟨g, cap, c, rfl, hbase, hg, hr⟩
  · exact .inl ⟨rfl, rfl⟩
  · exact .inr ⟨g, cap, c, rfl, hbase, u.get hg (hb g rfl), hr⟩
theorem Own.ext (o : Own h base sz enc v l) (u : Ext h h') : Own h' base sz enc v l := o.upd u (fun _ _ => id)
theorem Own.low (o : Own h base sz enc v l) {b' : Nat} (hb : b' ≤ base) : Own h b' sz enc v l := by
  rcases o with o | ⟨g, cap, c, e, hbase, hr⟩
  · exact .inl o
  · exact .inr ⟨g, cap, c, e, Nat.le_trans hb hbase, hr⟩
theorem setL_take (vs : List Value) : ∀ (c : Array Value) (i : Nat), i + vs.length ≤ c.size → (setL c i vs).toList.take (i + vs.length) = c.toList.take i ++ vs := by
  induction vs with
  | nil => intro c i _; simp [setL]
  | cons v vs ih =>
    intro c i hi
    simp only [List.length_cons] at hi ⊢
    simp only [setL]
    rw [show i + (vs.length + 1) = (i + 1) + vs.length by omega, ih _ _ (by simp; omega)]
    simp only [Array.toList_setIfInBounds]
    have hlt : i < c.toList.length := by simp; omega
    rw [List.take_add_one, List.take_set_of_le (Nat.le_refl _)]
    have h2 : i < c.size := by simpa using hlt
    simp [h2]
theorem zeroCells_size (z : Array Value) (n : Nat) : (Builtin.zeroCells z n).size = n * z.size := by simp [Builtin.zeroCells]
/-- []T{a}: the slice that is made for append(out, a). -/
theorem Sl.one {c : Array Value} {a : α} (hc : c.toList = enc a) (he : (enc a).length = sz) : Sl (h.push (.cells c)) sz enc (.slice (some ⟨h.size, 0, none⟩) 1 1) [a] := by
  refine ⟨_, 1, rfl, Nat.le_refl _, ?_⟩
  have hs : c.size = sz := by rw [← he, ← hc]; simp
  simp only [srcCells, Nat.one_mul, rdN_blk (h := h.push (.cells c)) (b := h.size) (c := c) (g_push_eq rfl) (n := sz) (i := 0) (by omega), Option.map_some, List.drop_zero, hc, List.length_singleton, List.flatMap_singleton]
  rw [List.take_of_length_le (by omega)]
/-- append(out, l..): whatever is read goes behind what the row holds. -/
theorem Own.append (o : Own h base sz enc v l) (he : ∀ a, (enc a).length = sz) (ho : ∀ a, (enc a).all one = true) {z : Array Value} {bytes : Nat} {x : Value} {r : List α}
    (hB : Base.b ≤ h.size) (hz : z.size = sz) (s : Sl h sz enc x r) (hb : base ≤ h.size) (hbytes : (l.length + r.length) * bytes ≤ 140737488355328) {K : Kont}
    (hK : ∀ v' h', Own h' base sz enc v' (l ++ r) → Upd (fun b => base ≤ b) h h' → K v' h') : oAppend sz bytes z v x h K := by
  obtain ⟨q, c2, rfl, _, hs⟩ := s
  have ho' : ∀ q : List α, (q.flatMap enc).all one = true := by
    intro q; induction q with
    | nil => rfl
    | cons a q ih => simp only [List.flatMap_cons, List.all_append, ho a, ih, Bool.and_self]
  have hl := flat_len he l
  have hr := flat_len he r
  rcases o with ⟨rfl, rfl⟩ | ⟨g, cap, c, rfl, hbase, hg, hn, hsz, ht⟩
  · refine ⟨_, _, hs, ?_, ?_⟩
    · intro hc
      have : r = [] := by
        cases r with
        | nil => rfl
        | cons a r => simp at hc
      subst this
      exact .inl ⟨rfl, hK _ _ (.inl ⟨rfl, rfl⟩) (Upd.refl _)⟩
    · intro _
      refine ⟨[], rfl, by simpa using hbytes, hB, fun nc hnc => hK _ _ (.inr ⟨h.size, nc, _, by simp, hb, g_push_eq rfl, by simpa using hnc, ?_, ?_⟩) (Upd.push (Upd.refl _) _)⟩
      · simp only [Nat.zero_add] at hnc
        simp only [Array.size_append, List.size_toArray, List.length_nil, Nat.zero_add, hr, zeroCells_size, hz]
        rw [← Nat.add_mul]; congr 1; omega
      · simp only [List.nil_append, Array.toList_append, List.append_nil]
        rw [List.take_append_of_le_length (by rw [hr]; exact Nat.le_refl _), List.take_of_length_le (by rw [hr]; exact Nat.le_refl _)]
  · refine ⟨_, _, hs, ?_, ?_⟩
    · intro hc
      refine .inr ⟨g, 0, c, rfl, hg, ?_, ho' r, ?_⟩
      · rw [hr, hsz, Nat.zero_add, ← Nat.add_mul]; exact Nat.mul_le_mul_right _ hc
      · refine hK _ _ (.inr ⟨g, cap, _, by simp, hbase, g_set_eq (lt_of_get hg) rfl, by simpa using hc, by rw [setL_size]; exact hsz, ?_⟩) (Upd.set (Upd.refl _) _ _ (.inr hbase))
        rw [List.length_append, Nat.add_mul, ← hr, Nat.zero_add, setL_take _ _ _ (by rw [hr, hsz, ← Nat.add_mul]; exact Nat.mul_le_mul_right _ hc), ht, List.flatMap_append]
    · intro hc
      have hself : srcCells sz (.slice (some ⟨g, 0, none⟩) l.length cap) h = some (l.length, l.flatMap enc) := by
        have : Sl h sz enc (.slice (some ⟨g, 0, none⟩) l.length cap) l := Own.sl (base := base) (.inr ⟨g, cap, c, rfl, hbase, hg, hn, hsz, ht⟩)
        obtain ⟨_, _, _, _, e⟩ := this; exact e
      refine ⟨_, hself, hbytes, hB, fun nc hnc => hK _ _ (.inr ⟨h.size, nc, _, by simp, hb, g_push_eq rfl, by simpa using hnc, ?_, ?_⟩) (Upd.push (Upd.refl _) _)⟩
      · simp only [Array.size_append, List.size_toArray, hl, hr, zeroCells_size, hz]
        rw [← Nat.add_mul, ← Nat.add_mul]; congr 1; omega
      · rw [Array.toList_append, List.take_append_of_le_length (by simp [hl, hr, Nat.add_mul]), List.take_of_length_le (by simp [hl, hr, Nat.add_mul])]
        simp
end
end Go.Proofs.Ytdolepapmpcpiaa

