/- What functions of the program ask of the seen heap (written by a program of this proof, vgen.py). -/
import Derived.Test.YtdolepapmpcpiaaFC
import Derived.Test.YtdolepapmpcpiaaProg
namespace Go.Proofs.Ytdolepapmpcpiaa
open Go
set_option linter.unusedSectionVars false
variable [Base]
set_option linter.unusedVariables false
set_option maxRecDepth 100000

/-! ### catenary/accept.Best: function 23 -/
def O_accept_Best : Od := []
noncomputable def K_accept_Best_0 : Code := (cI (cB (cA (cB (cB (bodyC Try.f23))))))
noncomputable def K_accept_Best_1 : Code := (cB (cB (cB (bodyC Try.f23))))
def Q_accept_Best_0 (K : Kont) : Post := qSeq (aw Try.prog O_accept_Best K_accept_Best_1 (qTop Try.prog Try.f23 K)) (qTop Try.prog Try.f23 K)
def Q_accept_Best_1 (K : Kont) : Post := qBlk 0 (Q_accept_Best_0 K)
def E_accept_Best_1 (v3 : Value) (v11 : Value) (v12 : Value) (v13 : Value) (d : Nat → Value) : List Value := [d 0, d 1, d 2, v3, d 4, d 5, d 6, d 7, d 8, d 9, d 10, v11, v12, v13, d 14, d 15, d 16, d 17, d 18, d 19, d 20, d 21, d 22, d 23, d 24, d 25, d 26, d 27, d 28, d 29, d 30, d 31, d 32, d 33, d 34, d 35, d 36, d 37, d 38, d 39, d 40, d 41, d 42, d 43, d 44, d 45, d 46, d 47, d 48, d 49, d 50, d 51, d 52, d 53]
def G_accept_Best_1 (K : Kont) (v3 : Value) (v11 : Value) (v12 : Value) (v13 : Value) (d : Nat → Value) (h : Hp) : Prop := aw Try.prog O_accept_Best K_accept_Best_0 (Q_accept_Best_1 K) (E_accept_Best_1 v3 v11 v12 v13 d) h
def Q_accept_Best_2 (K : Kont) (s0 : Self) : Post := qSeq s0 (Q_accept_Best_1 K)
noncomputable def K_accept_Best_2 : Code := (cI (cI (cB (cA (cB (cB (bodyC Try.f23)))))))
noncomputable def K_accept_Best_3 : Code := (cI (cB (cB (cI (cA (cB (cB (cI (cI (cB (cA (cB (cB (bodyC Try.f23))))))))))))))
noncomputable def K_accept_Best_4 : Code := (cB (cB (cB (cI (cI (cB (cA (cB (cB (bodyC Try.f23))))))))))
def Q_accept_Best_3 (K : Kont) (s0 : Self) : Post := qSeq (aw Try.prog O_accept_Best K_accept_Best_4 (Q_accept_Best_2 K s0)) (Q_accept_Best_2 K s0)
def Q_accept_Best_4 (K : Kont) (s0 : Self) : Post := qBlk 1 (Q_accept_Best_3 K s0)
def Q_accept_Best_5 (K : Kont) (s0 : Self) : Post := qBlk 2 (Q_accept_Best_4 K s0)
def E_accept_Best_2 (v3 : Value) (v11 : Value) (v12 : Value) (v13 : Value) (v17 : Value) (v18 : Value) (v19 : Value) (d : Nat → Value) : List Value := [d 0, d 1, d 2, v3, d 4, d 5, d 6, d 7, d 8, d 9, d 10, v11, v12, v13, d 14, d 15, d 16, v17, v18, v19, d 20, d 21, d 22, d 23, d 24, d 25, d 26, d 27, d 28, d 29, d 30, d 31, d 32, d 33, d 34, d 35, d 36, d 37, d 38, d 39, d 40, d 41, d 42, d 43, d 44, d 45, d 46, d 47, d 48, d 49, d 50, d 51, d 52, d 53]
def G_accept_Best_2 (K : Kont) (s0 : Self) (v3 : Value) (v11 : Value) (v12 : Value) (v13 : Value) (v17 : Value) (v18 : Value) (v19 : Value) (d : Nat → Value) (h : Hp) : Prop := aw Try.prog O_accept_Best K_accept_Best_3 (Q_accept_Best_5 K s0) (E_accept_Best_2 v3 v11 v12 v13 v17 v18 v19 d) h
noncomputable def K_accept_Best_5 : Code := (cB (cB (cI (cI (cB (cA (cB (cB (bodyC Try.f23)))))))))
def Q_accept_Best_6 (K : Kont) (s0 : Self) (s1 : Self) : Post := qSeq s1 (Q_accept_Best_5 K s0)
noncomputable def K_accept_Best_6 : Code := (cI (cI (cB (cB (cI (cA (cB (cB (cI (cI (cB (cA (cB (cB (bodyC Try.f23)))))))))))))))
noncomputable def K_accept_Best_7 : Code := (cB (cB (cB (cI (cI (cB (cB (cI (cA (cB (cB (cI (cI (cB (cA (cB (cB (bodyC Try.f23))))))))))))))))))
def E_accept_Best_3 (v3 : Value) (v11 : Value) (v12 : Value) (v13 : Value) (v17 : Value) (v18 : Value) (v19 : Value) (d : Nat → Value) : List Value := [d 0, d 1, d 2, v3, d 4, d 5, d 6, d 7, d 8, d 9, d 10, v11, v12, v13, d 14, d 15, d 16, v17, v18, v19, d 20, d 21, d 22, d 23, d 24, d 25, d 26, d 27, d 28, d 29, d 30, d 31, d 32, d 33, d 34, d 35, d 36, d 37, d 38, d 39, d 40, d 41, d 42, d 43, d 44, d 45, d 46, d 47, d 48, d 49, d 50, d 51, d 52, d 53]
def G_accept_Best_3 (K : Kont) (s0 : Self) (s1 : Self) (v3 : Value) (v11 : Value) (v12 : Value) (v13 : Value) (v17 : Value) (v18 : Value) (v19 : Value) (d : Nat → Value) (h : Hp) : Prop := aw Try.prog O_accept_Best K_accept_Best_7 (Q_accept_Best_6 K s0 s1) (E_accept_Best_3 v3 v11 v12 v13 v17 v18 v19 d) h
noncomputable def K_accept_Best_8 : Code := (cB (cB (cI (cI (cB (cB (cI (cA (cB (cB (cI (cI (cB (cA (cB (cB (bodyC Try.f23)))))))))))))))))
def G_accept_Best (a0 : Value) (h : Hp) (K : Kont) : Prop :=
  oMakeMap h fun t10 h1 =>
  oLen 0 a0 h1 fun t12 h2 =>
  G_accept_Best_1 K t10 a0 t12 (Go.Value.int Go.IntKind.i64 0) (dl [a0, undef, (Go.Value.slice none 0 0), t10, undef, undef, undef, undef, undef, undef, t10, a0, t12, (Go.Value.int Go.IntKind.i64 0), undef, undef, undef, undef, undef, undef, undef, undef, undef, undef, undef, undef, undef, undef, undef, undef, undef, undef, undef, undef, undef, undef, undef, undef, undef, undef, undef, undef, undef, undef, undef, undef, undef, undef, undef, undef, undef, undef, undef, undef]) h2
theorem ga_accept_Best (Qv : Post) (a0 : Value) (h : Hp) : aw Try.prog O_accept_Best (bodyC Try.f23) Qv [a0, undef, undef, undef, undef, undef, undef, undef, undef, undef, undef, undef, undef, undef, undef, undef, undef, undef, undef, undef, undef, undef, undef, undef, undef, undef, undef, undef, undef, undef, undef, undef, undef, undef, undef, undef, undef, undef, undef, undef, undef, undef, undef, undef, undef, undef, undef, undef, undef, undef, undef, undef, undef, undef] h = (oMakeMap h fun t10 h1 =>
  oLen 0 a0 h1 fun t12 h2 =>
  aw Try.prog O_accept_Best K_accept_Best_0 (qBlk 0 (qSeq (aw Try.prog O_accept_Best K_accept_Best_1 Qv) Qv)) [a0, undef, (Go.Value.slice none 0 0), t10, undef, undef, undef, undef, undef, undef, t10, a0, t12, (Go.Value.int Go.IntKind.i64 0), undef, undef, undef, undef, undef, undef, undef, undef, undef, undef, undef, undef, undef, undef, undef, undef, undef, undef, undef, undef, undef, undef, undef, undef, undef, undef, undef, undef, undef, undef, undef, undef, undef, undef, undef, undef, undef, undef, undef, undef] h2) := by kernel_rfl
theorem gb_accept_Best (a0 : Value) (h : Hp) (K : Kont) : (oMakeMap h fun t10 h1 =>
  oLen 0 a0 h1 fun t12 h2 =>
  aw Try.prog O_accept_Best K_accept_Best_0 (qBlk 0 (qSeq (aw Try.prog O_accept_Best K_accept_Best_1 (qTop Try.prog Try.f23 K)) (qTop Try.prog Try.f23 K))) [a0, undef, (Go.Value.slice none 0 0), t10, undef, undef, undef, undef, undef, undef, t10, a0, t12, (Go.Value.int Go.IntKind.i64 0), undef, undef, undef, undef, undef, undef, undef, undef, undef, undef, undef, undef, undef, undef, undef, undef, undef, undef, undef, undef, undef, undef, undef, undef, undef, undef, undef, undef, undef, undef, undef, undef, undef, undef, undef, undef, undef, undef, undef, undef] h2) = G_accept_Best a0 h K := by kernel_rfl
theorem gc_accept_Best (a0 : Value) (h : Hp) (K : Kont) : abody Try.prog O_accept_Best Try.f23 (bodyC Try.f23) [a0] h K = aw Try.prog O_accept_Best (bodyC Try.f23) (qTop Try.prog Try.f23 K) [a0, undef, undef, undef, undef, undef, undef, undef, undef, undef, undef, undef, undef, undef, undef, undef, undef, undef, undef, undef, undef, undef, undef, undef, undef, undef, undef, undef, undef, undef, undef, undef, undef, undef, undef, undef, undef, undef, undef, undef, undef, undef, undef, undef, undef, undef, undef, undef, undef, undef, undef, undef, undef, undef] h := by kernel_rfl
theorem eq_accept_Best (a0 : Value) (h : Hp) (K : Kont) : abody Try.prog O_accept_Best Try.f23 (bodyC Try.f23) [a0] h K = G_accept_Best a0 h K := (gc_accept_Best a0 h K).trans ((ga_accept_Best _ a0 h).trans (gb_accept_Best a0 h K))
theorem ok_accept_Best {a0 : Value} {h : Hp} {K : Kont} (hk : G_accept_Best a0 h K) : C_accept_Best [a0] h K := ac_of_body prog_mixed (fn := Try.f23) Try.func23 (c := bodyC Try.f23) (by kernel_rfl) ((eq_accept_Best a0 h K).mpr hk)
def B_accept_Best_1 (K : Kont) (s0 : Self) (v3 : Value) (v11 : Value) (v12 : Value) (v13 : Value) (d : Nat → Value) (h : Hp) : Prop :=
  oBin .lss v13 v12 h fun t14 h1 =>
  oIf t14
  (oIdxS 1 v11 v13 h1 fun t15 h2 =>
  oLd1 t15 h2 fun t16 h3 =>
  oLen 0 t16 h3 fun t18 h4 =>
  G_accept_Best_2 K s0 v3 v11 v12 v13 t16 t18 (Go.Value.int Go.IntKind.i64 0) (dl [(d 0), (d 1), (d 2), v3, (d 4), t16, (d 6), (d 7), (d 8), (d 9), (d 10), v11, v12, v13, t14, t15, t16, t16, t18, (Go.Value.int Go.IntKind.i64 0), (d 20), (d 21), (d 22), (d 23), (d 24), (d 25), (d 26), (d 27), (d 28), (d 29), (d 30), (d 31), (d 32), (d 33), (d 34), (d 35), (d 36), (d 37), (d 38), (d 39), (d 40), (d 41), (d 42), (d 43), (d 44), (d 45), (d 46), (d 47), (d 48), (d 49), (d 50), (d 51), (d 52), (d 53)]) h4)
  (oLen 2 v3 h1 fun t46 h5 =>
  oBin .eql t46 (Go.Value.int Go.IntKind.i64 0) h5 fun t47 h6 =>
  oIf t47
  (K (Go.Value.slice none 0 0) h6)
  (C_maps_Keys_map_int_api_Vote_int_api_Vote [v3] h6 fun t50 h7 =>
  C_slices_Collect_int [t50] h7 fun t51 h8 =>
  C_slices_Min_Sint_int [t51] h8 fun t52 h9 =>
  C_accept_rising [v3, t52] h9 fun t53 h10 =>
  K t53 h10))
theorem ga_accept_Best_1 (Qv : Post) (v3 : Value) (v11 : Value) (v12 : Value) (v13 : Value) (d : Nat → Value) (h : Hp) : aw Try.prog O_accept_Best K_accept_Best_2 Qv (E_accept_Best_1 v3 v11 v12 v13 d) h = (oBin .lss v13 v12 h fun t14 h1 =>
  oIf t14
  (oIdxS 1 v11 v13 h1 fun t15 h2 =>
  oLd1 t15 h2 fun t16 h3 =>
  oLen 0 t16 h3 fun t18 h4 =>
  aw Try.prog O_accept_Best K_accept_Best_3 (qBlk 2 (qBlk 1 (qSeq (aw Try.prog O_accept_Best K_accept_Best_4 Qv) Qv))) [(d 0), (d 1), (d 2), v3, (d 4), t16, (d 6), (d 7), (d 8), (d 9), (d 10), v11, v12, v13, t14, t15, t16, t16, t18, (Go.Value.int Go.IntKind.i64 0), (d 20), (d 21), (d 22), (d 23), (d 24), (d 25), (d 26), (d 27), (d 28), (d 29), (d 30), (d 31), (d 32), (d 33), (d 34), (d 35), (d 36), (d 37), (d 38), (d 39), (d 40), (d 41), (d 42), (d 43), (d 44), (d 45), (d 46), (d 47), (d 48), (d 49), (d 50), (d 51), (d 52), (d 53)] h4)
  ((qSeq (aw Try.prog O_accept_Best K_accept_Best_5 Qv) Qv) (.exit 0) [(d 0), (d 1), (d 2), v3, (d 4), (d 5), (d 6), (d 7), (d 8), (d 9), (d 10), v11, v12, v13, t14, (d 15), (d 16), (d 17), (d 18), (d 19), (d 20), (d 21), (d 22), (d 23), (d 24), (d 25), (d 26), (d 27), (d 28), (d 29), (d 30), (d 31), (d 32), (d 33), (d 34), (d 35), (d 36), (d 37), (d 38), (d 39), (d 40), (d 41), (d 42), (d 43), (d 44), (d 45), (d 46), (d 47), (d 48), (d 49), (d 50), (d 51), (d 52), (d 53)] h1)) := by kernel_rfl
theorem gb_accept_Best_1 (K : Kont) (s0 : Self) (v3 : Value) (v11 : Value) (v12 : Value) (v13 : Value) (d : Nat → Value) (h : Hp) : (oBin .lss v13 v12 h fun t14 h1 =>
  oIf t14
  (oIdxS 1 v11 v13 h1 fun t15 h2 =>
  oLd1 t15 h2 fun t16 h3 =>
  oLen 0 t16 h3 fun t18 h4 =>
  aw Try.prog O_accept_Best K_accept_Best_3 (qBlk 2 (qBlk 1 (qSeq (aw Try.prog O_accept_Best K_accept_Best_4 (Q_accept_Best_2 K s0)) (Q_accept_Best_2 K s0)))) [(d 0), (d 1), (d 2), v3, (d 4), t16, (d 6), (d 7), (d 8), (d 9), (d 10), v11, v12, v13, t14, t15, t16, t16, t18, (Go.Value.int Go.IntKind.i64 0), (d 20), (d 21), (d 22), (d 23), (d 24), (d 25), (d 26), (d 27), (d 28), (d 29), (d 30), (d 31), (d 32), (d 33), (d 34), (d 35), (d 36), (d 37), (d 38), (d 39), (d 40), (d 41), (d 42), (d 43), (d 44), (d 45), (d 46), (d 47), (d 48), (d 49), (d 50), (d 51), (d 52), (d 53)] h4)
  ((qSeq (aw Try.prog O_accept_Best K_accept_Best_5 (Q_accept_Best_2 K s0)) (Q_accept_Best_2 K s0)) (.exit 0) [(d 0), (d 1), (d 2), v3, (d 4), (d 5), (d 6), (d 7), (d 8), (d 9), (d 10), v11, v12, v13, t14, (d 15), (d 16), (d 17), (d 18), (d 19), (d 20), (d 21), (d 22), (d 23), (d 24), (d 25), (d 26), (d 27), (d 28), (d 29), (d 30), (d 31), (d 32), (d 33), (d 34), (d 35), (d 36), (d 37), (d 38), (d 39), (d 40), (d 41), (d 42), (d 43), (d 44), (d 45), (d 46), (d 47), (d 48), (d 49), (d 50), (d 51), (d 52), (d 53)] h1)) = B_accept_Best_1 K s0 v3 v11 v12 v13 d h := by kernel_rfl
theorem beq_accept_Best_1 (K : Kont) (s0 : Self) (v3 : Value) (v11 : Value) (v12 : Value) (v13 : Value) (d : Nat → Value) (h : Hp) : aw Try.prog O_accept_Best K_accept_Best_2 (Q_accept_Best_2 K s0) (E_accept_Best_1 v3 v11 v12 v13 d) h = B_accept_Best_1 K s0 v3 v11 v12 v13 d h := (ga_accept_Best_1 _ v3 v11 v12 v13 d h).trans (gb_accept_Best_1 K s0 v3 v11 v12 v13 d h)
theorem rule_accept_Best_1 {K : Kont} {v3 : Value} {v11 : Value} {v12 : Value} (Inv : Value → Hp → Prop) (μ : Value → Hp → Nat)
    (step : ∀ (s0 : Self) (v13 : Value) (d : Nat → Value) (h : Hp), Inv v13 h → (∀ (v13' : Value) (d' : Nat → Value) (h' : Hp), Inv v13' h' → μ v13' h' < μ v13 h → s0 (E_accept_Best_1 v3 v11 v12 v13' d') h') → B_accept_Best_1 K s0 v3 v11 v12 v13 d h) (v13 : Value) (d : Nat → Value) (h : Hp) (hi : Inv v13 h) : G_accept_Best_1 K v3 v11 v12 v13 d h :=
  oLoop_rule (α := Value × (Nat → Value)) (fun x => E_accept_Best_1 v3 v11 v12 x.1 x.2) (fun x h => Inv x.1 h) (fun x h => μ x.1 h)
    (fun self x h hx hs => (beq_accept_Best_1 K self v3 v11 v12 x.1 x.2 h).mpr (step self x.1 x.2 h hx (fun v13' d' h' h1 h2 => hs ⟨v13', d'⟩ h' h1 h2))) ⟨v13, d⟩ h hi
def B_accept_Best_2 (K : Kont) (s0 : Self) (s1 : Self) (v3 : Value) (v11 : Value) (v12 : Value) (v13 : Value) (v17 : Value) (v18 : Value) (v19 : Value) (d : Nat → Value) (h : Hp) : Prop :=
  oBin .lss v19 v18 h fun t20 h1 =>
  oIf t20
  (oIdxS 6 v17 v19 h1 fun t21 h2 =>
  oLdN 6 t21 h2 fun t22 h3 =>
  oAlloc #[.int .i64 0, .int .u64 0, .int .i64 0, .int .i64 0, .int .u64 0, .int .i64 0] h3 fun t7 h4 =>
  oSt 6 t7 t22 h4 fun _ h5 =>
  oFieldAddr 0 t7 h5 fun t25 h6 =>
  oLd1 t25 h6 fun t26 h7 =>
  oLookup (.int .i64) (.agg #[.int .i64 0, .int .u64 0, .int .i64 0, .int .i64 0, .int .u64 0, .int .i64 0]) v3 t26 true h7 fun t27 h8 =>
  oExtract t27 0 h8 fun t28 h9 =>
  oExtract t27 1 h9 fun t29 h10 =>
  oAlloc #[.int .i64 0, .int .u64 0, .int .i64 0, .int .i64 0, .int .u64 0, .int .i64 0] h10 fun t8 h11 =>
  oSt 6 t8 t28 h11 fun _ h12 =>
  oNot t29 h12 fun t31 h13 =>
  oGuard t31 false (fun K => oFieldAddr 1 t7 h13 K) h13 fun t33 h14 =>
  oGuard t31 false (fun K => oLd1 t33 h14 K) h14 fun t34 h15 =>
  oGuard t31 false (fun K => oFieldAddr 1 t8 h15 K) h15 fun t35 h16 =>
  oGuard t31 false (fun K => oLd1 t35 h16 K) h16 fun t36 h17 =>
  oGuard t31 false (fun K => oBin .gtr t34 t36 h17 K) h17 fun t37 h18 =>
  oPick t31 (Go.Value.bool true) t37 h18 fun t38 h19 =>
  oIf t38
  (oFieldAddr 0 t7 h19 fun t40 h20 =>
  oLd1 t40 h20 fun t41 h21 =>
  oLdN 6 t7 h21 fun t42 h22 =>
  oMapUpdate (.int .i64) v3 t41 t42 h22 fun _ h23 =>
  G_accept_Best_3 K s0 s1 v3 v11 v12 v13 v17 v18 v19 (dl [(d 0), (d 1), (d 2), v3, (d 4), (d 5), (d 6), t7, t8, t29, (d 10), v11, v12, v13, (d 14), (d 15), (d 16), v17, v18, v19, t20, t21, t22, t27, v3, t25, t26, t27, t28, t29, t29, t31, t31, t33, t34, t35, t36, t37, t38, v3, t40, t41, t42, (d 43), (d 44), (d 45), (d 46), (d 47), (d 48), (d 49), (d 50), (d 51), (d 52), (d 53)]) h23)
  (G_accept_Best_3 K s0 s1 v3 v11 v12 v13 v17 v18 v19 (dl [(d 0), (d 1), (d 2), v3, (d 4), (d 5), (d 6), t7, t8, t29, (d 10), v11, v12, v13, (d 14), (d 15), (d 16), v17, v18, v19, t20, t21, t22, t27, v3, t25, t26, t27, t28, t29, t29, t31, t31, t33, t34, t35, t36, t37, t38, (d 39), (d 40), (d 41), (d 42), (d 43), (d 44), (d 45), (d 46), (d 47), (d 48), (d 49), (d 50), (d 51), (d 52), (d 53)]) h19))
  (oBin .add v13 (Go.Value.int Go.IntKind.i64 1) h1 fun t44 h24 =>
  s0 (E_accept_Best_1 v3 v11 v12 t44 (dl [(d 0), (d 1), (d 2), v3, (d 4), (d 5), (d 6), (d 7), (d 8), (d 9), (d 10), v11, v12, t44, (d 14), (d 15), (d 16), v17, v18, v19, t20, (d 21), (d 22), (d 23), (d 24), (d 25), (d 26), (d 27), (d 28), (d 29), (d 30), (d 31), (d 32), (d 33), (d 34), (d 35), (d 36), (d 37), (d 38), (d 39), (d 40), (d 41), (d 42), (d 43), t44, (d 45), (d 46), (d 47), (d 48), (d 49), (d 50), (d 51), (d 52), (d 53)])) h24)
theorem ga_accept_Best_2 (Qv : Post) (v3 : Value) (v11 : Value) (v12 : Value) (v13 : Value) (v17 : Value) (v18 : Value) (v19 : Value) (d : Nat → Value) (h : Hp) : aw Try.prog O_accept_Best K_accept_Best_6 Qv (E_accept_Best_2 v3 v11 v12 v13 v17 v18 v19 d) h = (oBin .lss v19 v18 h fun t20 h1 =>
  oIf t20
  (oIdxS 6 v17 v19 h1 fun t21 h2 =>
  oLdN 6 t21 h2 fun t22 h3 =>
  oAlloc #[.int .i64 0, .int .u64 0, .int .i64 0, .int .i64 0, .int .u64 0, .int .i64 0] h3 fun t7 h4 =>
  oSt 6 t7 t22 h4 fun _ h5 =>
  oFieldAddr 0 t7 h5 fun t25 h6 =>
  oLd1 t25 h6 fun t26 h7 =>
  oLookup (.int .i64) (.agg #[.int .i64 0, .int .u64 0, .int .i64 0, .int .i64 0, .int .u64 0, .int .i64 0]) v3 t26 true h7 fun t27 h8 =>
  oExtract t27 0 h8 fun t28 h9 =>
  oExtract t27 1 h9 fun t29 h10 =>
  oAlloc #[.int .i64 0, .int .u64 0, .int .i64 0, .int .i64 0, .int .u64 0, .int .i64 0] h10 fun t8 h11 =>
  oSt 6 t8 t28 h11 fun _ h12 =>
  oNot t29 h12 fun t31 h13 =>
  oGuard t31 false (fun K => oFieldAddr 1 t7 h13 K) h13 fun t33 h14 =>
  oGuard t31 false (fun K => oLd1 t33 h14 K) h14 fun t34 h15 =>
  oGuard t31 false (fun K => oFieldAddr 1 t8 h15 K) h15 fun t35 h16 =>
  oGuard t31 false (fun K => oLd1 t35 h16 K) h16 fun t36 h17 =>
  oGuard t31 false (fun K => oBin .gtr t34 t36 h17 K) h17 fun t37 h18 =>
  oPick t31 (Go.Value.bool true) t37 h18 fun t38 h19 =>
  oIf t38
  (oFieldAddr 0 t7 h19 fun t40 h20 =>
  oLd1 t40 h20 fun t41 h21 =>
  oLdN 6 t7 h21 fun t42 h22 =>
  oMapUpdate (.int .i64) v3 t41 t42 h22 fun _ h23 =>
  (qBlk 3 (qSeq (aw Try.prog O_accept_Best K_accept_Best_7 Qv) Qv)) .normal [(d 0), (d 1), (d 2), v3, (d 4), (d 5), (d 6), t7, t8, t29, (d 10), v11, v12, v13, (d 14), (d 15), (d 16), v17, v18, v19, t20, t21, t22, t27, v3, t25, t26, t27, t28, t29, t29, t31, t31, t33, t34, t35, t36, t37, t38, v3, t40, t41, t42, (d 43), (d 44), (d 45), (d 46), (d 47), (d 48), (d 49), (d 50), (d 51), (d 52), (d 53)] h23)
  ((qBlk 3 (qSeq (aw Try.prog O_accept_Best K_accept_Best_7 Qv) Qv)) .normal [(d 0), (d 1), (d 2), v3, (d 4), (d 5), (d 6), t7, t8, t29, (d 10), v11, v12, v13, (d 14), (d 15), (d 16), v17, v18, v19, t20, t21, t22, t27, v3, t25, t26, t27, t28, t29, t29, t31, t31, t33, t34, t35, t36, t37, t38, (d 39), (d 40), (d 41), (d 42), (d 43), (d 44), (d 45), (d 46), (d 47), (d 48), (d 49), (d 50), (d 51), (d 52), (d 53)] h19))
  ((qSeq (aw Try.prog O_accept_Best K_accept_Best_8 Qv) Qv) (.exit 2) [(d 0), (d 1), (d 2), v3, (d 4), (d 5), (d 6), (d 7), (d 8), (d 9), (d 10), v11, v12, v13, (d 14), (d 15), (d 16), v17, v18, v19, t20, (d 21), (d 22), (d 23), (d 24), (d 25), (d 26), (d 27), (d 28), (d 29), (d 30), (d 31), (d 32), (d 33), (d 34), (d 35), (d 36), (d 37), (d 38), (d 39), (d 40), (d 41), (d 42), (d 43), (d 44), (d 45), (d 46), (d 47), (d 48), (d 49), (d 50), (d 51), (d 52), (d 53)] h1)) := by kernel_rfl
theorem gb_accept_Best_2 (K : Kont) (s0 : Self) (s1 : Self) (v3 : Value) (v11 : Value) (v12 : Value) (v13 : Value) (v17 : Value) (v18 : Value) (v19 : Value) (d : Nat → Value) (h : Hp) : (oBin .lss v19 v18 h fun t20 h1 =>
  oIf t20
  (oIdxS 6 v17 v19 h1 fun t21 h2 =>
  oLdN 6 t21 h2 fun t22 h3 =>
  oAlloc #[.int .i64 0, .int .u64 0, .int .i64 0, .int .i64 0, .int .u64 0, .int .i64 0] h3 fun t7 h4 =>
  oSt 6 t7 t22 h4 fun _ h5 =>
  oFieldAddr 0 t7 h5 fun t25 h6 =>
  oLd1 t25 h6 fun t26 h7 =>
  oLookup (.int .i64) (.agg #[.int .i64 0, .int .u64 0, .int .i64 0, .int .i64 0, .int .u64 0, .int .i64 0]) v3 t26 true h7 fun t27 h8 =>
  oExtract t27 0 h8 fun t28 h9 =>
  oExtract t27 1 h9 fun t29 h10 =>
  oAlloc #[.int .i64 0, .int .u64 0, .int .i64 0, .int .i64 0, .int .u64 0, .int .i64 0] h10 fun t8 h11 =>
  oSt 6 t8 t28 h11 fun _ h12 =>
  oNot t29 h12 fun t31 h13 =>
  oGuard t31 false (fun K => oFieldAddr 1 t7 h13 K) h13 fun t33 h14 =>
  oGuard t31 false (fun K => oLd1 t33 h14 K) h14 fun t34 h15 =>
  oGuard t31 false (fun K => oFieldAddr 1 t8 h15 K) h15 fun t35 h16 =>
  oGuard t31 false (fun K => oLd1 t35 h16 K) h16 fun t36 h17 =>
  oGuard t31 false (fun K => oBin .gtr t34 t36 h17 K) h17 fun t37 h18 =>
  oPick t31 (Go.Value.bool true) t37 h18 fun t38 h19 =>
  oIf t38
  (oFieldAddr 0 t7 h19 fun t40 h20 =>
  oLd1 t40 h20 fun t41 h21 =>
  oLdN 6 t7 h21 fun t42 h22 =>
  oMapUpdate (.int .i64) v3 t41 t42 h22 fun _ h23 =>
  (qBlk 3 (qSeq (aw Try.prog O_accept_Best K_accept_Best_7 (Q_accept_Best_6 K s0 s1)) (Q_accept_Best_6 K s0 s1))) .normal [(d 0), (d 1), (d 2), v3, (d 4), (d 5), (d 6), t7, t8, t29, (d 10), v11, v12, v13, (d 14), (d 15), (d 16), v17, v18, v19, t20, t21, t22, t27, v3, t25, t26, t27, t28, t29, t29, t31, t31, t33, t34, t35, t36, t37, t38, v3, t40, t41, t42, (d 43), (d 44), (d 45), (d 46), (d 47), (d 48), (d 49), (d 50), (d 51), (d 52), (d 53)] h23)
  ((qBlk 3 (qSeq (aw Try.prog O_accept_Best K_accept_Best_7 (Q_accept_Best_6 K s0 s1)) (Q_accept_Best_6 K s0 s1))) .normal [(d 0), (d 1), (d 2), v3, (d 4), (d 5), (d 6), t7, t8, t29, (d 10), v11, v12, v13, (d 14), (d 15), (d 16), v17, v18, v19, t20, t21, t22, t27, v3, t25, t26, t27, t28, t29, t29, t31, t31, t33, t34, t35, t36, t37, t38, (d 39), (d 40), (d 41), (d 42), (d 43), (d 44), (d 45), (d 46), (d 47), (d 48), (d 49), (d 50), (d 51), (d 52), (d 53)] h19))
  ((qSeq (aw Try.prog O_accept_Best K_accept_Best_8 (Q_accept_Best_6 K s0 s1)) (Q_accept_Best_6 K s0 s1)) (.exit 2) [(d 0), (d 1), (d 2), v3, (d 4), (d 5), (d 6), (d 7), (d 8), (d 9), (d 10), v11, v12, v13, (d 14), (d 15), (d 16), v17, v18, v19, t20, (d 21), (d 22), (d 23), (d 24), (d 25), (d 26), (d 27), (d 28), (d 29), (d 30), (d 31), (d 32), (d 33), (d 34), (d 35), (d 36), (d 37), (d 38), (d 39), (d 40), (d 41), (d 42), (d 43), (d 44), (d 45), (d 46), (d 47), (d 48), (d 49), (d 50), (d 51), (d 52), (d 53)] h1)) = B_accept_Best_2 K s0 s1 v3 v11 v12 v13 v17 v18 v19 d h := by kernel_rfl
theorem beq_accept_Best_2 (K : Kont) (s0 : Self) (s1 : Self) (v3 : Value) (v11 : Value) (v12 : Value) (v13 : Value) (v17 : Value) (v18 : Value) (v19 : Value) (d : Nat → Value) (h : Hp) : aw Try.prog O_accept_Best K_accept_Best_6 (Q_accept_Best_6 K s0 s1) (E_accept_Best_2 v3 v11 v12 v13 v17 v18 v19 d) h = B_accept_Best_2 K s0 s1 v3 v11 v12 v13 v17 v18 v19 d h := (ga_accept_Best_2 _ v3 v11 v12 v13 v17 v18 v19 d h).trans (gb_accept_Best_2 K s0 s1 v3 v11 v12 v13 v17 v18 v19 d h)
theorem rule_accept_Best_2 {K : Kont} {s0 : Self} {v3 : Value} {v11 : Value} {v12 : Value} {v13 : Value} {v17 : Value} {v18 : Value} (Inv : Value → Hp → Prop) (μ : Value → Hp → Nat)
    (step : ∀ (s1 : Self) (v19 : Value) (d : Nat → Value) (h : Hp), Inv v19 h → (∀ (v19' : Value) (d' : Nat → Value) (h' : Hp), Inv v19' h' → μ v19' h' < μ v19 h → s1 (E_accept_Best_2 v3 v11 v12 v13 v17 v18 v19' d') h') → B_accept_Best_2 K s0 s1 v3 v11 v12 v13 v17 v18 v19 d h) (v19 : Value) (d : Nat → Value) (h : Hp) (hi : Inv v19 h) : G_accept_Best_2 K s0 v3 v11 v12 v13 v17 v18 v19 d h :=
  oLoop_rule (α := Value × (Nat → Value)) (fun x => E_accept_Best_2 v3 v11 v12 v13 v17 v18 x.1 x.2) (fun x h => Inv x.1 h) (fun x h => μ x.1 h)
    (fun self x h hx hs => (beq_accept_Best_2 K s0 self v3 v11 v12 v13 v17 v18 x.1 x.2 h).mpr (step self x.1 x.2 h hx (fun v19' d' h' h1 h2 => hs ⟨v19', d'⟩ h' h1 h2))) ⟨v19, d⟩ h hi
def R_accept_Best_3 (K : Kont) (s0 : Self) (s1 : Self) (v3 : Value) (v11 : Value) (v12 : Value) (v13 : Value) (v17 : Value) (v18 : Value) (v19 : Value) (d : Nat → Value) (h : Hp) : Prop :=
  oBin .add v19 (Go.Value.int Go.IntKind.i64 1) h fun t43 h1 =>
  s1 (E_accept_Best_2 v3 v11 v12 v13 v17 v18 t43 (dl [(d 0), (d 1), (d 2), v3, (d 4), (d 5), (d 6), (d 7), (d 8), (d 9), (d 10), v11, v12, v13, (d 14), (d 15), (d 16), v17, v18, t43, (d 20), (d 21), (d 22), (d 23), (d 24), (d 25), (d 26), (d 27), (d 28), (d 29), (d 30), (d 31), (d 32), (d 33), (d 34), (d 35), (d 36), (d 37), (d 38), (d 39), (d 40), (d 41), (d 42), t43, (d 44), (d 45), (d 46), (d 47), (d 48), (d 49), (d 50), (d 51), (d 52), (d 53)])) h1
theorem ga_accept_Best_3 (Qv : Post) (v3 : Value) (v11 : Value) (v12 : Value) (v13 : Value) (v17 : Value) (v18 : Value) (v19 : Value) (d : Nat → Value) (h : Hp) : aw Try.prog O_accept_Best K_accept_Best_7 Qv (E_accept_Best_3 v3 v11 v12 v13 v17 v18 v19 d) h = (oBin .add v19 (Go.Value.int Go.IntKind.i64 1) h fun t43 h1 =>
  Qv .normal [(d 0), (d 1), (d 2), v3, (d 4), (d 5), (d 6), (d 7), (d 8), (d 9), (d 10), v11, v12, v13, (d 14), (d 15), (d 16), v17, v18, t43, (d 20), (d 21), (d 22), (d 23), (d 24), (d 25), (d 26), (d 27), (d 28), (d 29), (d 30), (d 31), (d 32), (d 33), (d 34), (d 35), (d 36), (d 37), (d 38), (d 39), (d 40), (d 41), (d 42), t43, (d 44), (d 45), (d 46), (d 47), (d 48), (d 49), (d 50), (d 51), (d 52), (d 53)] h1) := by kernel_rfl
theorem gb_accept_Best_3 (K : Kont) (s0 : Self) (s1 : Self) (v3 : Value) (v11 : Value) (v12 : Value) (v13 : Value) (v17 : Value) (v18 : Value) (v19 : Value) (d : Nat → Value) (h : Hp) : (oBin .add v19 (Go.Value.int Go.IntKind.i64 1) h fun t43 h1 =>
  (Q_accept_Best_6 K s0 s1) .normal [(d 0), (d 1), (d 2), v3, (d 4), (d 5), (d 6), (d 7), (d 8), (d 9), (d 10), v11, v12, v13, (d 14), (d 15), (d 16), v17, v18, t43, (d 20), (d 21), (d 22), (d 23), (d 24), (d 25), (d 26), (d 27), (d 28), (d 29), (d 30), (d 31), (d 32), (d 33), (d 34), (d 35), (d 36), (d 37), (d 38), (d 39), (d 40), (d 41), (d 42), t43, (d 44), (d 45), (d 46), (d 47), (d 48), (d 49), (d 50), (d 51), (d 52), (d 53)] h1) = R_accept_Best_3 K s0 s1 v3 v11 v12 v13 v17 v18 v19 d h := by kernel_rfl
theorem req_accept_Best_3 (K : Kont) (s0 : Self) (s1 : Self) (v3 : Value) (v11 : Value) (v12 : Value) (v13 : Value) (v17 : Value) (v18 : Value) (v19 : Value) (d : Nat → Value) (h : Hp) : G_accept_Best_3 K s0 s1 v3 v11 v12 v13 v17 v18 v19 d h = R_accept_Best_3 K s0 s1 v3 v11 v12 v13 v17 v18 v19 d h := (ga_accept_Best_3 _ v3 v11 v12 v13 v17 v18 v19 d h).trans (gb_accept_Best_3 K s0 s1 v3 v11 v12 v13 v17 v18 v19 d h)

/-! ### catenary/catenaryref11.Best: function 24 -/
def O_catenaryref11_Best : Od := [(9, (.one 0 true (.one 1 true (.one 2 true (.one 3 true (.one 4 true (.one 5 true (.one 6 true (.one 7 true (.one 8 true (.one 9 true (.one 10 true (.one 11 true (.one 12 true (.one 13 true (.one 14 true .nil))))))))))))))))]
noncomputable def K_catenaryref11_Best_0 : Code := (cI (cB (cA (cB (cB (bodyC Try.f24))))))
noncomputable def K_catenaryref11_Best_1 : Code := (cB (cB (cB (bodyC Try.f24))))
def Q_catenaryref11_Best_0 (K : Kont) : Post := qSeq (aw Try.prog O_catenaryref11_Best K_catenaryref11_Best_1 (qTop Try.prog Try.f24 K)) (qTop Try.prog Try.f24 K)
def Q_catenaryref11_Best_1 (K : Kont) : Post := qBlk 0 (Q_catenaryref11_Best_0 K)
def E_catenaryref11_Best_1 (v0 : Value) (v3 : Value) (v4 : Value) (d : Nat → Value) : List Value := [v0, d 1, d 2, v3, v4, d 5, d 6, d 7, d 8, d 9, d 10, d 11, d 12, d 13, d 14, d 15, d 16, d 17, d 18, d 19, d 20, d 21, d 22, d 23, d 24, d 25, d 26, d 27, d 28, d 29, d 30, d 31, d 32, d 33, d 34, d 35, d 36, d 37, d 38, d 39, d 40, d 41, d 42, d 43, d 44, d 45, d 46, d 47, d 48, d 49, d 50, d 51, d 52, d 53, d 54, d 55, d 56, d 57, d 58, d 59, d 60]
def G_catenaryref11_Best_1 (K : Kont) (v0 : Value) (v3 : Value) (v4 : Value) (d : Nat → Value) (h : Hp) : Prop := aw Try.prog O_catenaryref11_Best K_catenaryref11_Best_0 (Q_catenaryref11_Best_1 K) (E_catenaryref11_Best_1 v0 v3 v4 d) h
def Q_catenaryref11_Best_2 (K : Kont) (s0 : Self) : Post := qSeq s0 (Q_catenaryref11_Best_1 K)
noncomputable def K_catenaryref11_Best_2 : Code := (cI (cI (cB (cA (cB (cB (bodyC Try.f24)))))))
noncomputable def K_catenaryref11_Best_3 : Code := (cI (cB (cI (cA (cB (cI (cI (cB (cA (cB (cB (bodyC Try.f24))))))))))))
noncomputable def K_catenaryref11_Best_4 : Code := (cB (cB (cI (cI (cB (cA (cB (cB (bodyC Try.f24)))))))))
def Q_catenaryref11_Best_3 (K : Kont) (s0 : Self) : Post := qSeq (aw Try.prog O_catenaryref11_Best K_catenaryref11_Best_4 (Q_catenaryref11_Best_2 K s0)) (Q_catenaryref11_Best_2 K s0)
def Q_catenaryref11_Best_4 (K : Kont) (s0 : Self) : Post := qBlk 1 (Q_catenaryref11_Best_3 K s0)
def Q_catenaryref11_Best_5 (K : Kont) (s0 : Self) : Post := qBlk 2 (Q_catenaryref11_Best_4 K s0)
def E_catenaryref11_Best_2 (v0 : Value) (v3 : Value) (v4 : Value) (v5 : Value) (d : Nat → Value) : List Value := [v0, d 1, d 2, v3, v4, v5, d 6, d 7, d 8, d 9, d 10, d 11, d 12, d 13, d 14, d 15, d 16, d 17, d 18, d 19, d 20, d 21, d 22, d 23, d 24, d 25, d 26, d 27, d 28, d 29, d 30, d 31, d 32, d 33, d 34, d 35, d 36, d 37, d 38, d 39, d 40, d 41, d 42, d 43, d 44, d 45, d 46, d 47, d 48, d 49, d 50, d 51, d 52, d 53, d 54, d 55, d 56, d 57, d 58, d 59, d 60]
def G_catenaryref11_Best_2 (K : Kont) (s0 : Self) (v0 : Value) (v3 : Value) (v4 : Value) (v5 : Value) (d : Nat → Value) (h : Hp) : Prop := aw Try.prog O_catenaryref11_Best K_catenaryref11_Best_3 (Q_catenaryref11_Best_5 K s0) (E_catenaryref11_Best_2 v0 v3 v4 v5 d) h
noncomputable def K_catenaryref11_Best_5 : Code := (cB (cI (cI (cB (cA (cB (cB (bodyC Try.f24))))))))
def Q_catenaryref11_Best_6 (K : Kont) (s0 : Self) (s1 : Self) : Post := qSeq s1 (Q_catenaryref11_Best_5 K s0)
noncomputable def K_catenaryref11_Best_6 : Code := (cI (cI (cB (cI (cA (cB (cI (cI (cB (cA (cB (cB (bodyC Try.f24)))))))))))))
noncomputable def K_catenaryref11_Best_7 : Code := (cB (cB (cI (cI (cB (cI (cA (cB (cI (cI (cB (cA (cB (cB (bodyC Try.f24)))))))))))))))
def E_catenaryref11_Best_3 (v0 : Value) (v3 : Value) (v4 : Value) (v5 : Value) (d : Nat → Value) : List Value := [v0, d 1, d 2, v3, v4, v5, d 6, d 7, d 8, d 9, d 10, d 11, d 12, d 13, d 14, d 15, d 16, d 17, d 18, d 19, d 20, d 21, d 22, d 23, d 24, d 25, d 26, d 27, d 28, d 29, d 30, d 31, d 32, d 33, d 34, d 35, d 36, d 37, d 38, d 39, d 40, d 41, d 42, d 43, d 44, d 45, d 46, d 47, d 48, d 49, d 50, d 51, d 52, d 53, d 54, d 55, d 56, d 57, d 58, d 59, d 60]
def G_catenaryref11_Best_3 (K : Kont) (s0 : Self) (s1 : Self) (v0 : Value) (v3 : Value) (v4 : Value) (v5 : Value) (d : Nat → Value) (h : Hp) : Prop := aw Try.prog O_catenaryref11_Best K_catenaryref11_Best_7 (Q_catenaryref11_Best_6 K s0 s1) (E_catenaryref11_Best_3 v0 v3 v4 v5 d) h
noncomputable def K_catenaryref11_Best_8 : Code := (cB (cI (cI (cB (cI (cA (cB (cI (cI (cB (cA (cB (cB (bodyC Try.f24))))))))))))))
def G_catenaryref11_Best (a0 : Value) (h : Hp) (K : Kont) : Prop :=
  G_catenaryref11_Best_1 K a0 (Go.Value.slice none 0 0) (Go.Value.int Go.IntKind.i64 0) (dl [a0, undef, (Go.Value.slice none 0 0), (Go.Value.slice none 0 0), (Go.Value.int Go.IntKind.i64 0), undef, undef, undef, undef, undef, undef, undef, undef, undef, undef, undef, undef, undef, undef, undef, undef, undef, undef, undef, undef, undef, undef, undef, undef, undef, undef, undef, undef, undef, undef, undef, undef, undef, undef, undef, undef, undef, undef, undef, undef, undef, undef, undef, undef, undef, undef, undef, undef, undef, undef, undef, undef, undef, undef, undef, undef]) h
theorem ga_catenaryref11_Best (Qv : Post) (a0 : Value) (h : Hp) : aw Try.prog O_catenaryref11_Best (bodyC Try.f24) Qv [a0, undef, undef, undef, undef, undef, undef, undef, undef, undef, undef, undef, undef, undef, undef, undef, undef, undef, undef, undef, undef, undef, undef, undef, undef, undef, undef, undef, undef, undef, undef, undef, undef, undef, undef, undef, undef, undef, undef, undef, undef, undef, undef, undef, undef, undef, undef, undef, undef, undef, undef, undef, undef, undef, undef, undef, undef, undef, undef, undef, undef] h = (aw Try.prog O_catenaryref11_Best K_catenaryref11_Best_0 (qBlk 0 (qSeq (aw Try.prog O_catenaryref11_Best K_catenaryref11_Best_1 Qv) Qv)) [a0, undef, (Go.Value.slice none 0 0), (Go.Value.slice none 0 0), (Go.Value.int Go.IntKind.i64 0), undef, undef, undef, undef, undef, undef, undef, undef, undef, undef, undef, undef, undef, undef, undef, undef, undef, undef, undef, undef, undef, undef, undef, undef, undef, undef, undef, undef, undef, undef, undef, undef, undef, undef, undef, undef, undef, undef, undef, undef, undef, undef, undef, undef, undef, undef, undef, undef, undef, undef, undef, undef, undef, undef, undef, undef] h) := by kernel_rfl
theorem gb_catenaryref11_Best (a0 : Value) (h : Hp) (K : Kont) : (aw Try.prog O_catenaryref11_Best K_catenaryref11_Best_0 (qBlk 0 (qSeq (aw Try.prog O_catenaryref11_Best K_catenaryref11_Best_1 (qTop Try.prog Try.f24 K)) (qTop Try.prog Try.f24 K))) [a0, undef, (Go.Value.slice none 0 0), (Go.Value.slice none 0 0), (Go.Value.int Go.IntKind.i64 0), undef, undef, undef, undef, undef, undef, undef, undef, undef, undef, undef, undef, undef, undef, undef, undef, undef, undef, undef, undef, undef, undef, undef, undef, undef, undef, undef, undef, undef, undef, undef, undef, undef, undef, undef, undef, undef, undef, undef, undef, undef, undef, undef, undef, undef, undef, undef, undef, undef, undef, undef, undef, undef, undef, undef, undef] h) = G_catenaryref11_Best a0 h K := by kernel_rfl
theorem gc_catenaryref11_Best (a0 : Value) (h : Hp) (K : Kont) : abody Try.prog O_catenaryref11_Best Try.f24 (bodyC Try.f24) [a0] h K = aw Try.prog O_catenaryref11_Best (bodyC Try.f24) (qTop Try.prog Try.f24 K) [a0, undef, undef, undef, undef, undef, undef, undef, undef, undef, undef, undef, undef, undef, undef, undef, undef, undef, undef, undef, undef, undef, undef, undef, undef, undef, undef, undef, undef, undef, undef, undef, undef, undef, undef, undef, undef, undef, undef, undef, undef, undef, undef, undef, undef, undef, undef, undef, undef, undef, undef, undef, undef, undef, undef, undef, undef, undef, undef, undef, undef] h := by kernel_rfl
theorem eq_catenaryref11_Best (a0 : Value) (h : Hp) (K : Kont) : abody Try.prog O_catenaryref11_Best Try.f24 (bodyC Try.f24) [a0] h K = G_catenaryref11_Best a0 h K := (gc_catenaryref11_Best a0 h K).trans ((ga_catenaryref11_Best _ a0 h).trans (gb_catenaryref11_Best a0 h K))
theorem ok_catenaryref11_Best {a0 : Value} {h : Hp} {K : Kont} (hk : G_catenaryref11_Best a0 h K) : C_catenaryref11_Best [a0] h K := ac_of_body prog_mixed (fn := Try.f24) Try.func24 (c := bodyC Try.f24) (by kernel_rfl) ((eq_catenaryref11_Best a0 h K).mpr hk)
def B_catenaryref11_Best_1 (K : Kont) (s0 : Self) (v0 : Value) (v3 : Value) (v4 : Value) (d : Nat → Value) (h : Hp) : Prop :=
  oLen 0 v0 h fun t10 h1 =>
  oBin .lss v4 t10 h1 fun t11 h2 =>
  oIf t11
  (G_catenaryref11_Best_2 K s0 v0 v3 v4 (Go.Value.int Go.IntKind.i64 0) (dl [v0, (d 1), (d 2), v3, v4, (Go.Value.int Go.IntKind.i64 0), (d 6), (d 7), v4, v0, t10, t11, (d 12), (d 13), (d 14), (d 15), (d 16), (d 17), (d 18), (d 19), (d 20), (d 21), (d 22), (d 23), (d 24), (d 25), (d 26), (d 27), (d 28), (d 29), (d 30), (d 31), (d 32), (d 33), (d 34), (d 35), (d 36), (d 37), (d 38), (d 39), (d 40), (d 41), (d 42), (d 43), (d 44), (d 45), (d 46), (d 47), (d 48), (d 49), (d 50), (d 51), (d 52), (d 53), (d 54), (d 55), (d 56), (d 57), (d 58), (d 59), (d 60)]) h2)
  (K v3 h2)
theorem ga_catenaryref11_Best_1 (Qv : Post) (v0 : Value) (v3 : Value) (v4 : Value) (d : Nat → Value) (h : Hp) : aw Try.prog O_catenaryref11_Best K_catenaryref11_Best_2 Qv (E_catenaryref11_Best_1 v0 v3 v4 d) h = (oLen 0 v0 h fun t10 h1 =>
  oBin .lss v4 t10 h1 fun t11 h2 =>
  oIf t11
  (aw Try.prog O_catenaryref11_Best K_catenaryref11_Best_3 (qBlk 2 (qBlk 1 (qSeq (aw Try.prog O_catenaryref11_Best K_catenaryref11_Best_4 Qv) Qv))) [v0, (d 1), (d 2), v3, v4, (Go.Value.int Go.IntKind.i64 0), (d 6), (d 7), v4, v0, t10, t11, (d 12), (d 13), (d 14), (d 15), (d 16), (d 17), (d 18), (d 19), (d 20), (d 21), (d 22), (d 23), (d 24), (d 25), (d 26), (d 27), (d 28), (d 29), (d 30), (d 31), (d 32), (d 33), (d 34), (d 35), (d 36), (d 37), (d 38), (d 39), (d 40), (d 41), (d 42), (d 43), (d 44), (d 45), (d 46), (d 47), (d 48), (d 49), (d 50), (d 51), (d 52), (d 53), (d 54), (d 55), (d 56), (d 57), (d 58), (d 59), (d 60)] h2)
  ((qSeq (aw Try.prog O_catenaryref11_Best K_catenaryref11_Best_5 Qv) Qv) (.exit 0) [v0, (d 1), (d 2), v3, v4, (d 5), (d 6), (d 7), v4, v0, t10, t11, (d 12), (d 13), (d 14), (d 15), (d 16), (d 17), (d 18), (d 19), (d 20), (d 21), (d 22), (d 23), (d 24), (d 25), (d 26), (d 27), (d 28), (d 29), (d 30), (d 31), (d 32), (d 33), (d 34), (d 35), (d 36), (d 37), (d 38), (d 39), (d 40), (d 41), (d 42), (d 43), (d 44), (d 45), (d 46), (d 47), (d 48), (d 49), (d 50), (d 51), (d 52), (d 53), (d 54), (d 55), (d 56), (d 57), (d 58), (d 59), (d 60)] h2)) := by kernel_rfl
theorem gb_catenaryref11_Best_1 (K : Kont) (s0 : Self) (v0 : Value) (v3 : Value) (v4 : Value) (d : Nat → Value) (h : Hp) : (oLen 0 v0 h fun t10 h1 =>
  oBin .lss v4 t10 h1 fun t11 h2 =>
  oIf t11
  (aw Try.prog O_catenaryref11_Best K_catenaryref11_Best_3 (qBlk 2 (qBlk 1 (qSeq (aw Try.prog O_catenaryref11_Best K_catenaryref11_Best_4 (Q_catenaryref11_Best_2 K s0)) (Q_catenaryref11_Best_2 K s0)))) [v0, (d 1), (d 2), v3, v4, (Go.Value.int Go.IntKind.i64 0), (d 6), (d 7), v4, v0, t10, t11, (d 12), (d 13), (d 14), (d 15), (d 16), (d 17), (d 18), (d 19), (d 20), (d 21), (d 22), (d 23), (d 24), (d 25), (d 26), (d 27), (d 28), (d 29), (d 30), (d 31), (d 32), (d 33), (d 34), (d 35), (d 36), (d 37), (d 38), (d 39), (d 40), (d 41), (d 42), (d 43), (d 44), (d 45), (d 46), (d 47), (d 48), (d 49), (d 50), (d 51), (d 52), (d 53), (d 54), (d 55), (d 56), (d 57), (d 58), (d 59), (d 60)] h2)
  ((qSeq (aw Try.prog O_catenaryref11_Best K_catenaryref11_Best_5 (Q_catenaryref11_Best_2 K s0)) (Q_catenaryref11_Best_2 K s0)) (.exit 0) [v0, (d 1), (d 2), v3, v4, (d 5), (d 6), (d 7), v4, v0, t10, t11, (d 12), (d 13), (d 14), (d 15), (d 16), (d 17), (d 18), (d 19), (d 20), (d 21), (d 22), (d 23), (d 24), (d 25), (d 26), (d 27), (d 28), (d 29), (d 30), (d 31), (d 32), (d 33), (d 34), (d 35), (d 36), (d 37), (d 38), (d 39), (d 40), (d 41), (d 42), (d 43), (d 44), (d 45), (d 46), (d 47), (d 48), (d 49), (d 50), (d 51), (d 52), (d 53), (d 54), (d 55), (d 56), (d 57), (d 58), (d 59), (d 60)] h2)) = B_catenaryref11_Best_1 K s0 v0 v3 v4 d h := by kernel_rfl
theorem beq_catenaryref11_Best_1 (K : Kont) (s0 : Self) (v0 : Value) (v3 : Value) (v4 : Value) (d : Nat → Value) (h : Hp) : aw Try.prog O_catenaryref11_Best K_catenaryref11_Best_2 (Q_catenaryref11_Best_2 K s0) (E_catenaryref11_Best_1 v0 v3 v4 d) h = B_catenaryref11_Best_1 K s0 v0 v3 v4 d h := (ga_catenaryref11_Best_1 _ v0 v3 v4 d h).trans (gb_catenaryref11_Best_1 K s0 v0 v3 v4 d h)
theorem rule_catenaryref11_Best_1 {K : Kont} {v0 : Value} (Inv : Value → Value → Hp → Prop) (μ : Value → Value → Hp → Nat)
    (step : ∀ (s0 : Self) (v3 : Value) (v4 : Value) (d : Nat → Value) (h : Hp), Inv v3 v4 h → (∀ (v3' : Value) (v4' : Value) (d' : Nat → Value) (h' : Hp), Inv v3' v4' h' → μ v3' v4' h' < μ v3 v4 h → s0 (E_catenaryref11_Best_1 v0 v3' v4' d') h') → B_catenaryref11_Best_1 K s0 v0 v3 v4 d h) (v3 : Value) (v4 : Value) (d : Nat → Value) (h : Hp) (hi : Inv v3 v4 h) : G_catenaryref11_Best_1 K v0 v3 v4 d h :=
  oLoop_rule (α := Value × Value × (Nat → Value)) (fun x => E_catenaryref11_Best_1 v0 x.1 x.2.1 x.2.2) (fun x h => Inv x.1 x.2.1 h) (fun x h => μ x.1 x.2.1 h)
    (fun self x h hx hs => (beq_catenaryref11_Best_1 K self v0 x.1 x.2.1 x.2.2 h).mpr (step self x.1 x.2.1 x.2.2 h hx (fun v3' v4' d' h' h1 h2 => hs ⟨v3', v4', d'⟩ h' h1 h2))) ⟨v3, v4, d⟩ h hi
def B_catenaryref11_Best_2 (K : Kont) (s0 : Self) (s1 : Self) (v0 : Value) (v3 : Value) (v4 : Value) (v5 : Value) (d : Nat → Value) (h : Hp) : Prop :=
  oIdxS 1 v0 v4 h fun t17 h1 =>
  oLd1 t17 h1 fun t18 h2 =>
  oLen 0 t18 h2 fun t19 h3 =>
  oBin .lss v5 t19 h3 fun t20 h4 =>
  oIf t20
  (oIdxS 1 v0 v4 h4 fun t27 h5 =>
  oLd1 t27 h5 fun t28 h6 =>
  oIdxS 6 t28 v5 h6 fun t30 h7 =>
  oFieldAddr 0 t30 h7 fun t31 h8 =>
  oLd1 t31 h8 fun t32 h9 =>
  C_catenaryref11_At [v3, t32] h9 fun t33 h10 =>
  oExtract t33 0 h10 fun t34 h11 =>
  oExtract t33 1 h11 fun t35 h12 =>
  oAlloc #[.int .i64 0, .int .u64 0, .int .i64 0, .int .i64 0, .int .u64 0, .int .i64 0] h12 fun t6 h13 =>
  oSt 6 t6 t34 h13 fun _ h14 =>
  oNot t35 h14 fun t37 h15 =>
  oGuard t37 false (fun K => K v0 h15) h15 fun t39 h16 =>
  oGuard t37 false (fun K => K v4 h16) h16 fun t40 h17 =>
  oGuard t37 false (fun K => oIdxS 1 t39 t40 h17 K) h17 fun t41 h18 =>
  oGuard t37 false (fun K => oLd1 t41 h18 K) h18 fun t42 h19 =>
  oGuard t37 false (fun K => K v5 h19) h19 fun t43 h20 =>
  oGuard t37 false (fun K => oIdxS 6 t42 t43 h20 K) h20 fun t44 h21 =>
  oGuard t37 false (fun K => oFieldAddr 1 t44 h21 K) h21 fun t45 h22 =>
  oGuard t37 false (fun K => oLd1 t45 h22 K) h22 fun t46 h23 =>
  oGuard t37 false (fun K => oFieldAddr 1 t6 h23 K) h23 fun t47 h24 =>
  oGuard t37 false (fun K => oLd1 t47 h24 K) h24 fun t48 h25 =>
  oGuard t37 false (fun K => oBin .gtr t46 t48 h25 K) h25 fun t49 h26 =>
  oPick t37 (Go.Value.bool true) t49 h26 fun t50 h27 =>
  oIf t50
  (oIdxS 1 v0 v4 h27 fun t54 h28 =>
  oLd1 t54 h28 fun t55 h29 =>
  oIdxS 6 t55 v5 h29 fun t57 h30 =>
  oLdN 6 t57 h30 fun t58 h31 =>
  C_catenaryref11_Put [v3, t58] h31 fun t59 h32 =>
  G_catenaryref11_Best_3 K s0 s1 v0 t59 v4 v5 (dl [v0, (d 1), (d 2), t59, v4, v5, t6, t35, (d 8), (d 9), (d 10), (d 11), (d 12), (d 13), v5, v0, v4, t17, t18, t19, t20, (d 21), (d 22), t33, v3, v0, v4, t27, t28, v5, t30, t31, t32, t33, t34, t35, t35, t37, t37, t39, t40, t41, t42, t43, t44, t45, t46, t47, t48, t49, t50, v3, v0, v4, t54, t55, v5, t57, t58, t59, (d 60)]) h32)
  (G_catenaryref11_Best_3 K s0 s1 v0 v3 v4 v5 (dl [v0, (d 1), (d 2), v3, v4, v5, t6, t35, (d 8), (d 9), (d 10), (d 11), (d 12), (d 13), v5, v0, v4, t17, t18, t19, t20, (d 21), (d 22), t33, v3, v0, v4, t27, t28, v5, t30, t31, t32, t33, t34, t35, t35, t37, t37, t39, t40, t41, t42, t43, t44, t45, t46, t47, t48, t49, t50, (d 51), (d 52), (d 53), (d 54), (d 55), (d 56), (d 57), (d 58), (d 59), (d 60)]) h27))
  (oBin .add v4 (Go.Value.int Go.IntKind.i64 1) h4 fun t13 h33 =>
  s0 (E_catenaryref11_Best_1 v0 v3 t13 (dl [v0, (d 1), (d 2), v3, t13, v5, (d 6), (d 7), (d 8), (d 9), (d 10), (d 11), v4, t13, v5, v0, v4, t17, t18, t19, t20, (d 21), (d 22), (d 23), (d 24), (d 25), (d 26), (d 27), (d 28), (d 29), (d 30), (d 31), (d 32), (d 33), (d 34), (d 35), (d 36), (d 37), (d 38), (d 39), (d 40), (d 41), (d 42), (d 43), (d 44), (d 45), (d 46), (d 47), (d 48), (d 49), (d 50), (d 51), (d 52), (d 53), (d 54), (d 55), (d 56), (d 57), (d 58), (d 59), (d 60)])) h33)
theorem ga_catenaryref11_Best_2 (Qv : Post) (v0 : Value) (v3 : Value) (v4 : Value) (v5 : Value) (d : Nat → Value) (h : Hp) : aw Try.prog O_catenaryref11_Best K_catenaryref11_Best_6 Qv (E_catenaryref11_Best_2 v0 v3 v4 v5 d) h = (oIdxS 1 v0 v4 h fun t17 h1 =>
  oLd1 t17 h1 fun t18 h2 =>
  oLen 0 t18 h2 fun t19 h3 =>
  oBin .lss v5 t19 h3 fun t20 h4 =>
  oIf t20
  (oIdxS 1 v0 v4 h4 fun t27 h5 =>
  oLd1 t27 h5 fun t28 h6 =>
  oIdxS 6 t28 v5 h6 fun t30 h7 =>
  oFieldAddr 0 t30 h7 fun t31 h8 =>
  oLd1 t31 h8 fun t32 h9 =>
  C_catenaryref11_At [v3, t32] h9 fun t33 h10 =>
  oExtract t33 0 h10 fun t34 h11 =>
  oExtract t33 1 h11 fun t35 h12 =>
  oAlloc #[.int .i64 0, .int .u64 0, .int .i64 0, .int .i64 0, .int .u64 0, .int .i64 0] h12 fun t6 h13 =>
  oSt 6 t6 t34 h13 fun _ h14 =>
  oNot t35 h14 fun t37 h15 =>
  oGuard t37 false (fun K => K v0 h15) h15 fun t39 h16 =>
  oGuard t37 false (fun K => K v4 h16) h16 fun t40 h17 =>
  oGuard t37 false (fun K => oIdxS 1 t39 t40 h17 K) h17 fun t41 h18 =>
  oGuard t37 false (fun K => oLd1 t41 h18 K) h18 fun t42 h19 =>
  oGuard t37 false (fun K => K v5 h19) h19 fun t43 h20 =>
  oGuard t37 false (fun K => oIdxS 6 t42 t43 h20 K) h20 fun t44 h21 =>
  oGuard t37 false (fun K => oFieldAddr 1 t44 h21 K) h21 fun t45 h22 =>
  oGuard t37 false (fun K => oLd1 t45 h22 K) h22 fun t46 h23 =>
  oGuard t37 false (fun K => oFieldAddr 1 t6 h23 K) h23 fun t47 h24 =>
  oGuard t37 false (fun K => oLd1 t47 h24 K) h24 fun t48 h25 =>
  oGuard t37 false (fun K => oBin .gtr t46 t48 h25 K) h25 fun t49 h26 =>
  oPick t37 (Go.Value.bool true) t49 h26 fun t50 h27 =>
  oIf t50
  (oIdxS 1 v0 v4 h27 fun t54 h28 =>
  oLd1 t54 h28 fun t55 h29 =>
  oIdxS 6 t55 v5 h29 fun t57 h30 =>
  oLdN 6 t57 h30 fun t58 h31 =>
  C_catenaryref11_Put [v3, t58] h31 fun t59 h32 =>
  (qBlk 3 (qSeq (aw Try.prog O_catenaryref11_Best K_catenaryref11_Best_7 Qv) Qv)) .normal [v0, (d 1), (d 2), t59, v4, v5, t6, t35, (d 8), (d 9), (d 10), (d 11), (d 12), (d 13), v5, v0, v4, t17, t18, t19, t20, (d 21), (d 22), t33, v3, v0, v4, t27, t28, v5, t30, t31, t32, t33, t34, t35, t35, t37, t37, t39, t40, t41, t42, t43, t44, t45, t46, t47, t48, t49, t50, v3, v0, v4, t54, t55, v5, t57, t58, t59, (d 60)] h32)
  ((qBlk 3 (qSeq (aw Try.prog O_catenaryref11_Best K_catenaryref11_Best_7 Qv) Qv)) .normal [v0, (d 1), (d 2), v3, v4, v5, t6, t35, (d 8), (d 9), (d 10), (d 11), (d 12), (d 13), v5, v0, v4, t17, t18, t19, t20, (d 21), (d 22), t33, v3, v0, v4, t27, t28, v5, t30, t31, t32, t33, t34, t35, t35, t37, t37, t39, t40, t41, t42, t43, t44, t45, t46, t47, t48, t49, t50, (d 51), (d 52), (d 53), (d 54), (d 55), (d 56), (d 57), (d 58), (d 59), (d 60)] h27))
  ((qSeq (aw Try.prog O_catenaryref11_Best K_catenaryref11_Best_8 Qv) Qv) (.exit 2) [v0, (d 1), (d 2), v3, v4, v5, (d 6), (d 7), (d 8), (d 9), (d 10), (d 11), (d 12), (d 13), v5, v0, v4, t17, t18, t19, t20, (d 21), (d 22), (d 23), (d 24), (d 25), (d 26), (d 27), (d 28), (d 29), (d 30), (d 31), (d 32), (d 33), (d 34), (d 35), (d 36), (d 37), (d 38), (d 39), (d 40), (d 41), (d 42), (d 43), (d 44), (d 45), (d 46), (d 47), (d 48), (d 49), (d 50), (d 51), (d 52), (d 53), (d 54), (d 55), (d 56), (d 57), (d 58), (d 59), (d 60)] h4)) := by kernel_rfl
theorem gb_catenaryref11_Best_2 (K : Kont) (s0 : Self) (s1 : Self) (v0 : Value) (v3 : Value) (v4 : Value) (v5 : Value) (d : Nat → Value) (h : Hp) : (oIdxS 1 v0 v4 h fun t17 h1 =>
  oLd1 t17 h1 fun t18 h2 =>
  oLen 0 t18 h2 fun t19 h3 =>
  oBin .lss v5 t19 h3 fun t20 h4 =>
  oIf t20
  (oIdxS 1 v0 v4 h4 fun t27 h5 =>
  oLd1 t27 h5 fun t28 h6 =>
  oIdxS 6 t28 v5 h6 fun t30 h7 =>
  oFieldAddr 0 t30 h7 fun t31 h8 =>
  oLd1 t31 h8 fun t32 h9 =>
  C_catenaryref11_At [v3, t32] h9 fun t33 h10 =>
  oExtract t33 0 h10 fun t34 h11 =>
  oExtract t33 1 h11 fun t35 h12 =>
  oAlloc #[.int .i64 0, .int .u64 0, .int .i64 0, .int .i64 0, .int .u64 0, .int .i64 0] h12 fun t6 h13 =>
  oSt 6 t6 t34 h13 fun _ h14 =>
  oNot t35 h14 fun t37 h15 =>
  oGuard t37 false (fun K => K v0 h15) h15 fun t39 h16 =>
  oGuard t37 false (fun K => K v4 h16) h16 fun t40 h17 =>
  oGuard t37 false (fun K => oIdxS 1 t39 t40 h17 K) h17 fun t41 h18 =>
  oGuard t37 false (fun K => oLd1 t41 h18 K) h18 fun t42 h19 =>
  oGuard t37 false (fun K => K v5 h19) h19 fun t43 h20 =>
  oGuard t37 false (fun K => oIdxS 6 t42 t43 h20 K) h20 fun t44 h21 =>
  oGuard t37 false (fun K => oFieldAddr 1 t44 h21 K) h21 fun t45 h22 =>
  oGuard t37 false (fun K => oLd1 t45 h22 K) h22 fun t46 h23 =>
  oGuard t37 false (fun K => oFieldAddr 1 t6 h23 K) h23 fun t47 h24 =>
  oGuard t37 false (fun K => oLd1 t47 h24 K) h24 fun t48 h25 =>
  oGuard t37 false (fun K => oBin .gtr t46 t48 h25 K) h25 fun t49 h26 =>
  oPick t37 (Go.Value.bool true) t49 h26 fun t50 h27 =>
  oIf t50
  (oIdxS 1 v0 v4 h27 fun t54 h28 =>
  oLd1 t54 h28 fun t55 h29 =>
  oIdxS 6 t55 v5 h29 fun t57 h30 =>
  oLdN 6 t57 h30 fun t58 h31 =>
  C_catenaryref11_Put [v3, t58] h31 fun t59 h32 =>
  (qBlk 3 (qSeq (aw Try.prog O_catenaryref11_Best K_catenaryref11_Best_7 (Q_catenaryref11_Best_6 K s0 s1)) (Q_catenaryref11_Best_6 K s0 s1))) .normal [v0, (d 1), (d 2), t59, v4, v5, t6, t35, (d 8), (d 9), (d 10), (d 11), (d 12), (d 13), v5, v0, v4, t17, t18, t19, t20, (d 21), (d 22), t33, v3, v0, v4, t27, t28, v5, t30, t31, t32, t33, t34, t35, t35, t37, t37, t39, t40, t41, t42, t43, t44, t45, t46, t47, t48, t49, t50, v3, v0, v4, t54, t55, v5, t57, t58, t59, (d 60)] h32)
  ((qBlk 3 (qSeq (aw Try.prog O_catenaryref11_Best K_catenaryref11_Best_7 (Q_catenaryref11_Best_6 K s0 s1)) (Q_catenaryref11_Best_6 K s0 s1))) .normal [v0, (d 1), (d 2), v3, v4, v5, t6, t35, (d 8), (d 9), (d 10), (d 11), (d 12), (d 13), v5, v0, v4, t17, t18, t19, t20, (d 21), (d 22), t33, v3, v0, v4, t27, t28, v5, t30, t31, t32, t33, t34, t35, t35, t37, t37, t39, t40, t41, t42, t43, t44, t45, t46, t47, t48, t49, t50, (d 51), (d 52), (d 53), (d 54), (d 55), (d 56), (d 57), (d 58), (d 59), (d 60)] h27))
  ((qSeq (aw Try.prog O_catenaryref11_Best K_catenaryref11_Best_8 (Q_catenaryref11_Best_6 K s0 s1)) (Q_catenaryref11_Best_6 K s0 s1)) (.exit 2) [v0, (d 1), (d 2), v3, v4, v5, (d 6), (d 7), (d 8), (d 9), (d 10), (d 11), (d 12), (d 13), v5, v0, v4, t17, t18, t19, t20, (d 21), (d 22), (d 23), (d 24), (d 25), (d 26), (d 27), (d 28), (d 29), (d 30), (d 31), (d 32), (d 33), (d 34), (d 35), (d 36), (d 37), (d 38), (d 39), (d 40), (d 41), (d 42), (d 43), (d 44), (d 45), (d 46), (d 47), (d 48), (d 49), (d 50), (d 51), (d 52), (d 53), (d 54), (d 55), (d 56), (d 57), (d 58), (d 59), (d 60)] h4)) = B_catenaryref11_Best_2 K s0 s1 v0 v3 v4 v5 d h := by kernel_rfl
theorem beq_catenaryref11_Best_2 (K : Kont) (s0 : Self) (s1 : Self) (v0 : Value) (v3 : Value) (v4 : Value) (v5 : Value) (d : Nat → Value) (h : Hp) : aw Try.prog O_catenaryref11_Best K_catenaryref11_Best_6 (Q_catenaryref11_Best_6 K s0 s1) (E_catenaryref11_Best_2 v0 v3 v4 v5 d) h = B_catenaryref11_Best_2 K s0 s1 v0 v3 v4 v5 d h := (ga_catenaryref11_Best_2 _ v0 v3 v4 v5 d h).trans (gb_catenaryref11_Best_2 K s0 s1 v0 v3 v4 v5 d h)
theorem rule_catenaryref11_Best_2 {K : Kont} {s0 : Self} {v0 : Value} {v4 : Value} (Inv : Value → Value → Hp → Prop) (μ : Value → Value → Hp → Nat)
    (step : ∀ (s1 : Self) (v3 : Value) (v5 : Value) (d : Nat → Value) (h : Hp), Inv v3 v5 h → (∀ (v3' : Value) (v5' : Value) (d' : Nat → Value) (h' : Hp), Inv v3' v5' h' → μ v3' v5' h' < μ v3 v5 h → s1 (E_catenaryref11_Best_2 v0 v3' v4 v5' d') h') → B_catenaryref11_Best_2 K s0 s1 v0 v3 v4 v5 d h) (v3 : Value) (v5 : Value) (d : Nat → Value) (h : Hp) (hi : Inv v3 v5 h) : G_catenaryref11_Best_2 K s0 v0 v3 v4 v5 d h :=
  oLoop_rule (α := Value × Value × (Nat → Value)) (fun x => E_catenaryref11_Best_2 v0 x.1 v4 x.2.1 x.2.2) (fun x h => Inv x.1 x.2.1 h) (fun x h => μ x.1 x.2.1 h)
    (fun self x h hx hs => (beq_catenaryref11_Best_2 K s0 self v0 x.1 v4 x.2.1 x.2.2 h).mpr (step self x.1 x.2.1 x.2.2 h hx (fun v3' v5' d' h' h1 h2 => hs ⟨v3', v5', d'⟩ h' h1 h2))) ⟨v3, v5, d⟩ h hi
def R_catenaryref11_Best_3 (K : Kont) (s0 : Self) (s1 : Self) (v0 : Value) (v3 : Value) (v4 : Value) (v5 : Value) (d : Nat → Value) (h : Hp) : Prop :=
  oBin .add v5 (Go.Value.int Go.IntKind.i64 1) h fun t22 h1 =>
  s1 (E_catenaryref11_Best_2 v0 v3 v4 t22 (dl [v0, (d 1), (d 2), v3, v4, t22, (d 6), (d 7), (d 8), (d 9), (d 10), (d 11), (d 12), (d 13), (d 14), (d 15), (d 16), (d 17), (d 18), (d 19), (d 20), v5, t22, (d 23), (d 24), (d 25), (d 26), (d 27), (d 28), (d 29), (d 30), (d 31), (d 32), (d 33), (d 34), (d 35), (d 36), (d 37), (d 38), (d 39), (d 40), (d 41), (d 42), (d 43), (d 44), (d 45), (d 46), (d 47), (d 48), (d 49), (d 50), (d 51), (d 52), (d 53), (d 54), (d 55), (d 56), (d 57), (d 58), (d 59), (d 60)])) h1
theorem ga_catenaryref11_Best_3 (Qv : Post) (v0 : Value) (v3 : Value) (v4 : Value) (v5 : Value) (d : Nat → Value) (h : Hp) : aw Try.prog O_catenaryref11_Best K_catenaryref11_Best_7 Qv (E_catenaryref11_Best_3 v0 v3 v4 v5 d) h = (oBin .add v5 (Go.Value.int Go.IntKind.i64 1) h fun t22 h1 =>
  Qv .normal [v0, (d 1), (d 2), v3, v4, t22, (d 6), (d 7), (d 8), (d 9), (d 10), (d 11), (d 12), (d 13), (d 14), (d 15), (d 16), (d 17), (d 18), (d 19), (d 20), v5, t22, (d 23), (d 24), (d 25), (d 26), (d 27), (d 28), (d 29), (d 30), (d 31), (d 32), (d 33), (d 34), (d 35), (d 36), (d 37), (d 38), (d 39), (d 40), (d 41), (d 42), (d 43), (d 44), (d 45), (d 46), (d 47), (d 48), (d 49), (d 50), (d 51), (d 52), (d 53), (d 54), (d 55), (d 56), (d 57), (d 58), (d 59), (d 60)] h1) := by kernel_rfl
theorem gb_catenaryref11_Best_3 (K : Kont) (s0 : Self) (s1 : Self) (v0 : Value) (v3 : Value) (v4 : Value) (v5 : Value) (d : Nat → Value) (h : Hp) : (oBin .add v5 (Go.Value.int Go.IntKind.i64 1) h fun t22 h1 =>
  (Q_catenaryref11_Best_6 K s0 s1) .normal [v0, (d 1), (d 2), v3, v4, t22, (d 6), (d 7), (d 8), (d 9), (d 10), (d 11), (d 12), (d 13), (d 14), (d 15), (d 16), (d 17), (d 18), (d 19), (d 20), v5, t22, (d 23), (d 24), (d 25), (d 26), (d 27), (d 28), (d 29), (d 30), (d 31), (d 32), (d 33), (d 34), (d 35), (d 36), (d 37), (d 38), (d 39), (d 40), (d 41), (d 42), (d 43), (d 44), (d 45), (d 46), (d 47), (d 48), (d 49), (d 50), (d 51), (d 52), (d 53), (d 54), (d 55), (d 56), (d 57), (d 58), (d 59), (d 60)] h1) = R_catenaryref11_Best_3 K s0 s1 v0 v3 v4 v5 d h := by kernel_rfl
theorem req_catenaryref11_Best_3 (K : Kont) (s0 : Self) (s1 : Self) (v0 : Value) (v3 : Value) (v4 : Value) (v5 : Value) (d : Nat → Value) (h : Hp) : G_catenaryref11_Best_3 K s0 s1 v0 v3 v4 v5 d h = R_catenaryref11_Best_3 K s0 s1 v0 v3 v4 v5 d h := (ga_catenaryref11_Best_3 _ v0 v3 v4 v5 d h).trans (gb_catenaryref11_Best_3 K s0 s1 v0 v3 v4 v5 d h)

/-! ### catenary/catenaryref11.Prepare: function 42 -/
def O_catenaryref11_Prepare : Od := [(6, (.one 0 true (.one 1 true (.one 2 true (.one 3 true (.one 4 false (.one 5 false (.one 6 true (.one 7 true .nil)))))))))]
noncomputable def K_catenaryref11_Prepare_0 : Code := (cB (cB (bodyC Try.f42)))
noncomputable def K_catenaryref11_Prepare_1 : Code := (cB (cB (cB (bodyC Try.f42))))
def G_catenaryref11_Prepare (a0 a1 a2 : Value) (h : Hp) (K : Kont) : Prop :=
  oBox a0 h fun t3 h1 =>
  oAlloc #[.int .u64 0, .slice none 0 0] h1 fun t6 h2 =>
  C_catenaryref07_Is [a1] h2 fun t10 h3 =>
  oNot t10 h3 fun t11 h4 =>
  oGuard t11 false (fun K => K a2 h4) h4 fun t13 h5 =>
  oGuard t11 false (fun K => oBin .lss t13 (Go.Value.int Go.IntKind.i64 0) h5 K) h5 fun t14 h6 =>
  oPick t11 (Go.Value.bool true) t14 h6 fun t15 h7 =>
  oGuard t15 false (fun K => K a2 h7) h7 fun t17 h8 =>
  oGuard t15 false (fun K => oBin .gtr t17 (Go.Value.int Go.IntKind.i64 512) h8 K) h8 fun t18 h9 =>
  oPick t15 (Go.Value.bool true) t18 h9 fun t19 h10 =>
  oIf t19
  (oLdN 2 t3 h10 fun t20 h11 =>
  oSt 2 t6 t20 h11 fun _ h12 =>
  oLdN 2 t6 h12 fun r1 _ =>
  K (.tuple #[r1, (Go.Value.slice none 0 0), (Go.Value.int Go.IntKind.i64 1)]) h12)
  (oFieldAddr 0 t3 h10 fun t22 h13 =>
  oLd1 t22 h13 fun t23 h14 =>
  oBin .lss a1 t23 h14 fun t24 h15 =>
  oIf t24
  (oLdN 2 t3 h15 fun t25 h16 =>
  oSt 2 t6 t25 h16 fun _ h17 =>
  oLdN 2 t6 h17 fun r2 _ =>
  K (.tuple #[r2, (Go.Value.slice none 0 0), (Go.Value.int Go.IntKind.i64 10)]) h17)
  (oFieldAddr 0 t3 h15 fun t27 h18 =>
  oSt 1 t27 a1 h18 fun _ h19 =>
  oLdN 2 t3 h19 fun t28 h20 =>
  oFieldAddr 1 t3 h20 fun t29 h21 =>
  oLd1 t29 h21 fun t30 h22 =>
  C_catenaryref11_From [t30, a2] h22 fun t32 h23 =>
  ((oLdN 2 t3 h22 (fun v' _ => v' = t28) → oLdN 2 t3 h23 (fun v' _ => v' = t28)) ∧ True) ∧
  oSt 2 t6 t28 h23 fun _ h24 =>
  ((oLd1 t29 h23 (fun v' _ => v' = t30) → oLd1 t29 h24 (fun v' _ => v' = t30)) ∧ True) ∧
  oLdN 2 t6 h24 fun r3 _ =>
  K (.tuple #[r3, t32, (Go.Value.int Go.IntKind.i64 0)]) h24))
theorem ga_catenaryref11_Prepare (Qv : Post) (a0 a1 a2 : Value) (h : Hp) : aw Try.prog O_catenaryref11_Prepare (bodyC Try.f42) Qv [a0, a1, a2, undef, undef, undef, undef, undef, undef, undef, undef, undef, undef, undef, undef, undef, undef, undef, undef, undef, undef, undef, undef, undef, undef, undef, undef, undef, undef, undef, undef, undef, undef] h = (oBox a0 h fun t3 h1 =>
  oAlloc #[.int .u64 0, .slice none 0 0] h1 fun t6 h2 =>
  C_catenaryref07_Is [a1] h2 fun t10 h3 =>
  oNot t10 h3 fun t11 h4 =>
  oGuard t11 false (fun K => K a2 h4) h4 fun t13 h5 =>
  oGuard t11 false (fun K => oBin .lss t13 (Go.Value.int Go.IntKind.i64 0) h5 K) h5 fun t14 h6 =>
  oPick t11 (Go.Value.bool true) t14 h6 fun t15 h7 =>
  oGuard t15 false (fun K => K a2 h7) h7 fun t17 h8 =>
  oGuard t15 false (fun K => oBin .gtr t17 (Go.Value.int Go.IntKind.i64 512) h8 K) h8 fun t18 h9 =>
  oPick t15 (Go.Value.bool true) t18 h9 fun t19 h10 =>
  oIf t19
  (oLdN 2 t3 h10 fun t20 h11 =>
  oSt 2 t6 t20 h11 fun _ h12 =>
  (qSeq (aw Try.prog O_catenaryref11_Prepare K_catenaryref11_Prepare_0 Qv) Qv) .ret [a0, a1, a2, t3, undef, undef, t6, (Go.Value.slice none 0 0), (Go.Value.int Go.IntKind.i64 1), a1, t10, t11, t11, t13, t14, t15, t15, t17, t18, t19, t20, undef, undef, undef, undef, undef, undef, undef, undef, undef, undef, undef, undef] h12)
  (oFieldAddr 0 t3 h10 fun t22 h13 =>
  oLd1 t22 h13 fun t23 h14 =>
  oBin .lss a1 t23 h14 fun t24 h15 =>
  oIf t24
  (oLdN 2 t3 h15 fun t25 h16 =>
  oSt 2 t6 t25 h16 fun _ h17 =>
  (qSeq (aw Try.prog O_catenaryref11_Prepare K_catenaryref11_Prepare_1 Qv) Qv) .ret [a0, a1, a2, t3, undef, undef, t6, (Go.Value.slice none 0 0), (Go.Value.int Go.IntKind.i64 10), a1, t10, t11, t11, t13, t14, t15, t15, t17, t18, t19, undef, a1, t22, t23, t24, t25, undef, undef, undef, undef, undef, undef, undef] h17)
  (oFieldAddr 0 t3 h15 fun t27 h18 =>
  oSt 1 t27 a1 h18 fun _ h19 =>
  oLdN 2 t3 h19 fun t28 h20 =>
  oFieldAddr 1 t3 h20 fun t29 h21 =>
  oLd1 t29 h21 fun t30 h22 =>
  C_catenaryref11_From [t30, a2] h22 fun t32 h23 =>
  ((oLdN 2 t3 h22 (fun v' _ => v' = t28) → oLdN 2 t3 h23 (fun v' _ => v' = t28)) ∧ True) ∧
  oSt 2 t6 t28 h23 fun _ h24 =>
  ((oLd1 t29 h23 (fun v' _ => v' = t30) → oLd1 t29 h24 (fun v' _ => v' = t30)) ∧ True) ∧
  Qv .ret [a0, a1, a2, t3, undef, undef, t6, t32, (Go.Value.int Go.IntKind.i64 0), a1, t10, t11, t11, t13, t14, t15, t15, t17, t18, t19, undef, a1, t22, t23, t24, undef, a1, t27, t28, t29, t30, a2, t32] h24))) := by kernel_rfl
theorem gb_catenaryref11_Prepare (a0 a1 a2 : Value) (h : Hp) (K : Kont) : (oBox a0 h fun t3 h1 =>
  oAlloc #[.int .u64 0, .slice none 0 0] h1 fun t6 h2 =>
  C_catenaryref07_Is [a1] h2 fun t10 h3 =>
  oNot t10 h3 fun t11 h4 =>
  oGuard t11 false (fun K => K a2 h4) h4 fun t13 h5 =>
  oGuard t11 false (fun K => oBin .lss t13 (Go.Value.int Go.IntKind.i64 0) h5 K) h5 fun t14 h6 =>
  oPick t11 (Go.Value.bool true) t14 h6 fun t15 h7 =>
  oGuard t15 false (fun K => K a2 h7) h7 fun t17 h8 =>
  oGuard t15 false (fun K => oBin .gtr t17 (Go.Value.int Go.IntKind.i64 512) h8 K) h8 fun t18 h9 =>
  oPick t15 (Go.Value.bool true) t18 h9 fun t19 h10 =>
  oIf t19
  (oLdN 2 t3 h10 fun t20 h11 =>
  oSt 2 t6 t20 h11 fun _ h12 =>
  (qSeq (aw Try.prog O_catenaryref11_Prepare K_catenaryref11_Prepare_0 (qTop Try.prog Try.f42 K)) (qTop Try.prog Try.f42 K)) .ret [a0, a1, a2, t3, undef, undef, t6, (Go.Value.slice none 0 0), (Go.Value.int Go.IntKind.i64 1), a1, t10, t11, t11, t13, t14, t15, t15, t17, t18, t19, t20, undef, undef, undef, undef, undef, undef, undef, undef, undef, undef, undef, undef] h12)
  (oFieldAddr 0 t3 h10 fun t22 h13 =>
  oLd1 t22 h13 fun t23 h14 =>
  oBin .lss a1 t23 h14 fun t24 h15 =>
  oIf t24
  (oLdN 2 t3 h15 fun t25 h16 =>
  oSt 2 t6 t25 h16 fun _ h17 =>
  (qSeq (aw Try.prog O_catenaryref11_Prepare K_catenaryref11_Prepare_1 (qTop Try.prog Try.f42 K)) (qTop Try.prog Try.f42 K)) .ret [a0, a1, a2, t3, undef, undef, t6, (Go.Value.slice none 0 0), (Go.Value.int Go.IntKind.i64 10), a1, t10, t11, t11, t13, t14, t15, t15, t17, t18, t19, undef, a1, t22, t23, t24, t25, undef, undef, undef, undef, undef, undef, undef] h17)
  (oFieldAddr 0 t3 h15 fun t27 h18 =>
  oSt 1 t27 a1 h18 fun _ h19 =>
  oLdN 2 t3 h19 fun t28 h20 =>
  oFieldAddr 1 t3 h20 fun t29 h21 =>
  oLd1 t29 h21 fun t30 h22 =>
  C_catenaryref11_From [t30, a2] h22 fun t32 h23 =>
  ((oLdN 2 t3 h22 (fun v' _ => v' = t28) → oLdN 2 t3 h23 (fun v' _ => v' = t28)) ∧ True) ∧
  oSt 2 t6 t28 h23 fun _ h24 =>
  ((oLd1 t29 h23 (fun v' _ => v' = t30) → oLd1 t29 h24 (fun v' _ => v' = t30)) ∧ True) ∧
  (qTop Try.prog Try.f42 K) .ret [a0, a1, a2, t3, undef, undef, t6, t32, (Go.Value.int Go.IntKind.i64 0), a1, t10, t11, t11, t13, t14, t15, t15, t17, t18, t19, undef, a1, t22, t23, t24, undef, a1, t27, t28, t29, t30, a2, t32] h24))) = G_catenaryref11_Prepare a0 a1 a2 h K := by kernel_rfl
theorem gc_catenaryref11_Prepare (a0 a1 a2 : Value) (h : Hp) (K : Kont) : abody Try.prog O_catenaryref11_Prepare Try.f42 (bodyC Try.f42) [a0, a1, a2] h K = aw Try.prog O_catenaryref11_Prepare (bodyC Try.f42) (qTop Try.prog Try.f42 K) [a0, a1, a2, undef, undef, undef, undef, undef, undef, undef, undef, undef, undef, undef, undef, undef, undef, undef, undef, undef, undef, undef, undef, undef, undef, undef, undef, undef, undef, undef, undef, undef, undef] h := by kernel_rfl
theorem eq_catenaryref11_Prepare (a0 a1 a2 : Value) (h : Hp) (K : Kont) : abody Try.prog O_catenaryref11_Prepare Try.f42 (bodyC Try.f42) [a0, a1, a2] h K = G_catenaryref11_Prepare a0 a1 a2 h K := (gc_catenaryref11_Prepare a0 a1 a2 h K).trans ((ga_catenaryref11_Prepare _ a0 a1 a2 h).trans (gb_catenaryref11_Prepare a0 a1 a2 h K))
theorem ok_catenaryref11_Prepare {a0 a1 a2 : Value} {h : Hp} {K : Kont} (hk : G_catenaryref11_Prepare a0 a1 a2 h K) : C_catenaryref11_Prepare [a0, a1, a2] h K := ac_of_body prog_mixed (fn := Try.f42) Try.func42 (c := bodyC Try.f42) (by kernel_rfl) ((eq_catenaryref11_Prepare a0 a1 a2 h K).mpr hk)

end Go.Proofs.Ytdolepapmpcpiaa
