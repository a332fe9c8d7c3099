/- What functions of the program ask of the seen heap (written by a program of this proof, vgen.py). -/
import Derived.Test.YtdolepapmpcpiaaFC
import Derived.Test.YtdolepapmpcpiaaProg
namespace Go.Proofs.Ytdolepapmpcpiaa
open Go
set_option linter.unusedSectionVars false
variable [Base]
set_option linter.unusedVariables false
set_option maxRecDepth 100000

/-! ### catenary/catenarylaw11.AcceptPlays: function 3 -/
def O_catenarylaw11_AcceptPlays : Od := [(6, (.one 0 true (.one 1 true (.one 2 true (.one 3 true (.one 4 true (.one 5 true (.both 6 10 (.one 7 true (.one 8 true (.one 9 true (.one 10 false (.one 11 false (.one 12 true .nil)))))) (.one 6 false (.one 7 true (.one 8 true (.one 9 true (.one 11 false (.one 12 true .nil)))))))))))))), (9, (.one 0 true (.one 1 true (.one 2 true (.one 3 true (.one 4 true (.one 5 true (.one 6 true (.both 7 11 (.one 8 true (.one 9 true (.one 10 true (.one 11 false (.one 12 false (.one 13 true .nil)))))) (.one 7 false (.one 8 true (.one 9 true (.one 10 true (.one 12 false (.one 13 true .nil))))))))))))))), (10, (.one 0 true (.one 1 true (.one 2 true (.one 3 true (.one 5 true (.one 6 true (.one 4 false (.one 7 true (.one 8 true (.one 9 true (.one 10 true (.one 12 true (.one 13 true (.one 14 true (.one 11 false (.one 15 true (.one 16 true (.one 17 true (.one 18 true (.one 19 true (.one 20 true (.one 21 true (.one 22 true (.one 23 true (.one 24 true (.one 25 true (.one 26 true .nil)))))))))))))))))))))))))))), (12, (.one 0 true (.one 1 true (.one 3 true (.one 4 true (.one 5 true (.one 2 false (.one 6 false (.one 7 false (.one 8 true .nil))))))))))]
noncomputable def K_catenarylaw11_AcceptPlays_0 : Code := (cI (cB (cA (cB (cB (cB (bodyC Try.f3)))))))
noncomputable def K_catenarylaw11_AcceptPlays_1 : Code := (cB (cB (cB (cB (bodyC Try.f3)))))
def Q_catenarylaw11_AcceptPlays_0 (K : Kont) : Post := qSeq (aw Try.prog O_catenarylaw11_AcceptPlays K_catenarylaw11_AcceptPlays_1 (qTop Try.prog Try.f3 K)) (qTop Try.prog Try.f3 K)
def Q_catenarylaw11_AcceptPlays_1 (K : Kont) : Post := qBlk 0 (Q_catenarylaw11_AcceptPlays_0 K)
def E_catenarylaw11_AcceptPlays_1 (v0 : Value) (v1 : Value) (v5 : Value) (v6 : Value) (v7 : Value) (d : Nat → Value) : List Value := [v0, v1, d 2, d 3, d 4, v5, v6, v7, d 8, d 9, d 10, d 11, d 12, d 13, d 14, d 15, d 16, d 17, d 18, d 19, d 20, d 21, d 22, d 23, d 24, d 25, d 26, d 27, d 28, d 29, d 30, d 31, d 32, d 33, d 34, d 35, d 36, d 37, d 38, d 39, d 40, d 41, d 42, d 43, d 44, d 45, d 46, d 47, d 48, d 49, d 50, d 51, d 52, d 53, d 54, d 55, d 56, d 57, d 58, d 59, d 60, d 61, d 62, d 63, d 64, d 65, d 66, d 67, d 68, d 69, d 70, d 71, d 72, d 73, d 74, d 75, d 76, d 77, d 78, d 79, d 80, d 81, d 82, d 83, d 84, d 85, d 86, d 87, d 88, d 89, d 90, d 91, d 92, d 93, d 94]
def G_catenarylaw11_AcceptPlays_1 (K : Kont) (v0 : Value) (v1 : Value) (v5 : Value) (v6 : Value) (v7 : Value) (d : Nat → Value) (h : Hp) : Prop := aw Try.prog O_catenarylaw11_AcceptPlays K_catenarylaw11_AcceptPlays_0 (Q_catenarylaw11_AcceptPlays_1 K) (E_catenarylaw11_AcceptPlays_1 v0 v1 v5 v6 v7 d) h
def Q_catenarylaw11_AcceptPlays_2 (K : Kont) (s0 : Self) : Post := qSeq s0 (Q_catenarylaw11_AcceptPlays_1 K)
noncomputable def K_catenarylaw11_AcceptPlays_2 : Code := (cI (cI (cB (cA (cB (cB (cB (bodyC Try.f3))))))))
noncomputable def K_catenarylaw11_AcceptPlays_3 : Code := (cI (cA (cB (cI (cI (cB (cA (cB (cB (cB (bodyC Try.f3)))))))))))
noncomputable def K_catenarylaw11_AcceptPlays_4 : Code := (cB (cB (cI (cI (cB (cA (cB (cB (cB (bodyC Try.f3))))))))))
def Q_catenarylaw11_AcceptPlays_3 (K : Kont) (s0 : Self) : Post := qSeq (aw Try.prog O_catenarylaw11_AcceptPlays K_catenarylaw11_AcceptPlays_4 (Q_catenarylaw11_AcceptPlays_2 K s0)) (Q_catenarylaw11_AcceptPlays_2 K s0)
def Q_catenarylaw11_AcceptPlays_4 (K : Kont) (s0 : Self) : Post := qBlk 1 (Q_catenarylaw11_AcceptPlays_3 K s0)
def E_catenarylaw11_AcceptPlays_2 (v0 : Value) (v1 : Value) (v5 : Value) (v6 : Value) (v7 : Value) (d : Nat → Value) : List Value := [v0, v1, d 2, d 3, d 4, v5, v6, v7, d 8, d 9, d 10, d 11, d 12, d 13, d 14, d 15, d 16, d 17, d 18, d 19, d 20, d 21, d 22, d 23, d 24, d 25, d 26, d 27, d 28, d 29, d 30, d 31, d 32, d 33, d 34, d 35, d 36, d 37, d 38, d 39, d 40, d 41, d 42, d 43, d 44, d 45, d 46, d 47, d 48, d 49, d 50, d 51, d 52, d 53, d 54, d 55, d 56, d 57, d 58, d 59, d 60, d 61, d 62, d 63, d 64, d 65, d 66, d 67, d 68, d 69, d 70, d 71, d 72, d 73, d 74, d 75, d 76, d 77, d 78, d 79, d 80, d 81, d 82, d 83, d 84, d 85, d 86, d 87, d 88, d 89, d 90, d 91, d 92, d 93, d 94]
def G_catenarylaw11_AcceptPlays_2 (K : Kont) (s0 : Self) (v0 : Value) (v1 : Value) (v5 : Value) (v6 : Value) (v7 : Value) (d : Nat → Value) (h : Hp) : Prop := aw Try.prog O_catenarylaw11_AcceptPlays K_catenarylaw11_AcceptPlays_3 (Q_catenarylaw11_AcceptPlays_4 K s0) (E_catenarylaw11_AcceptPlays_2 v0 v1 v5 v6 v7 d) h
noncomputable def K_catenarylaw11_AcceptPlays_5 : Code := (cB (cI (cI (cB (cA (cB (cB (cB (bodyC Try.f3)))))))))
noncomputable def K_catenarylaw11_AcceptPlays_6 : Code := (cB (cI (cA (cB (cI (cI (cB (cA (cB (cB (cB (bodyC Try.f3))))))))))))
def E_catenarylaw11_AcceptPlays_3 (v0 : Value) (v1 : Value) (v5 : Value) (v6 : Value) (v7 : Value) (v8 : Value) (v9 : Value) (d : Nat → Value) : List Value := [v0, v1, d 2, d 3, d 4, v5, v6, v7, v8, v9, d 10, d 11, d 12, d 13, d 14, d 15, d 16, d 17, d 18, d 19, d 20, d 21, d 22, d 23, d 24, d 25, d 26, d 27, d 28, d 29, d 30, d 31, d 32, d 33, d 34, d 35, d 36, d 37, d 38, d 39, d 40, d 41, d 42, d 43, d 44, d 45, d 46, d 47, d 48, d 49, d 50, d 51, d 52, d 53, d 54, d 55, d 56, d 57, d 58, d 59, d 60, d 61, d 62, d 63, d 64, d 65, d 66, d 67, d 68, d 69, d 70, d 71, d 72, d 73, d 74, d 75, d 76, d 77, d 78, d 79, d 80, d 81, d 82, d 83, d 84, d 85, d 86, d 87, d 88, d 89, d 90, d 91, d 92, d 93, d 94]
def G_catenarylaw11_AcceptPlays_3 (K : Kont) (s0 : Self) (v0 : Value) (v1 : Value) (v5 : Value) (v6 : Value) (v7 : Value) (v8 : Value) (v9 : Value) (d : Nat → Value) (h : Hp) : Prop := aw Try.prog O_catenarylaw11_AcceptPlays K_catenarylaw11_AcceptPlays_6 (Q_catenarylaw11_AcceptPlays_4 K s0) (E_catenarylaw11_AcceptPlays_3 v0 v1 v5 v6 v7 v8 v9 d) h
noncomputable def K_catenarylaw11_AcceptPlays_7 : Code := (cB (cB (cB (cI (cA (cB (cI (cI (cB (cA (cB (cB (cB (bodyC Try.f3))))))))))))))
def E_catenarylaw11_AcceptPlays_4 (v0 : Value) (v1 : Value) (v5 : Value) (v6 : Value) (v7 : Value) (v9 : Value) (v10 : Value) (v11 : Value) (d : Nat → Value) : List Value := [v0, v1, d 2, d 3, d 4, v5, v6, v7, d 8, v9, v10, v11, d 12, d 13, d 14, d 15, d 16, d 17, d 18, d 19, d 20, d 21, d 22, d 23, d 24, d 25, d 26, d 27, d 28, d 29, d 30, d 31, d 32, d 33, d 34, d 35, d 36, d 37, d 38, d 39, d 40, d 41, d 42, d 43, d 44, d 45, d 46, d 47, d 48, d 49, d 50, d 51, d 52, d 53, d 54, d 55, d 56, d 57, d 58, d 59, d 60, d 61, d 62, d 63, d 64, d 65, d 66, d 67, d 68, d 69, d 70, d 71, d 72, d 73, d 74, d 75, d 76, d 77, d 78, d 79, d 80, d 81, d 82, d 83, d 84, d 85, d 86, d 87, d 88, d 89, d 90, d 91, d 92, d 93, d 94]
def G_catenarylaw11_AcceptPlays_4 (K : Kont) (s0 : Self) (v0 : Value) (v1 : Value) (v5 : Value) (v6 : Value) (v7 : Value) (v9 : Value) (v10 : Value) (v11 : Value) (d : Nat → Value) (h : Hp) : Prop := aw Try.prog O_catenarylaw11_AcceptPlays K_catenarylaw11_AcceptPlays_7 (Q_catenarylaw11_AcceptPlays_4 K s0) (E_catenarylaw11_AcceptPlays_4 v0 v1 v5 v6 v7 v9 v10 v11 d) h
noncomputable def K_catenarylaw11_AcceptPlays_8 : Code := (cB (cB (cB (cB (cI (cA (cB (cI (cI (cB (cA (cB (cB (cB (bodyC Try.f3)))))))))))))))
def E_catenarylaw11_AcceptPlays_5 (v0 : Value) (v1 : Value) (v5 : Value) (v6 : Value) (v7 : Value) (v9 : Value) (v10 : Value) (v11 : Value) (v12 : Value) (v13 : Value) (d : Nat → Value) : List Value := [v0, v1, d 2, d 3, d 4, v5, v6, v7, d 8, v9, v10, v11, v12, v13, d 14, d 15, d 16, d 17, d 18, d 19, d 20, d 21, d 22, d 23, d 24, d 25, d 26, d 27, d 28, d 29, d 30, d 31, d 32, d 33, d 34, d 35, d 36, d 37, d 38, d 39, d 40, d 41, d 42, d 43, d 44, d 45, d 46, d 47, d 48, d 49, d 50, d 51, d 52, d 53, d 54, d 55, d 56, d 57, d 58, d 59, d 60, d 61, d 62, d 63, d 64, d 65, d 66, d 67, d 68, d 69, d 70, d 71, d 72, d 73, d 74, d 75, d 76, d 77, d 78, d 79, d 80, d 81, d 82, d 83, d 84, d 85, d 86, d 87, d 88, d 89, d 90, d 91, d 92, d 93, d 94]
def G_catenarylaw11_AcceptPlays_5 (K : Kont) (s0 : Self) (v0 : Value) (v1 : Value) (v5 : Value) (v6 : Value) (v7 : Value) (v9 : Value) (v10 : Value) (v11 : Value) (v12 : Value) (v13 : Value) (d : Nat → Value) (h : Hp) : Prop := aw Try.prog O_catenarylaw11_AcceptPlays K_catenarylaw11_AcceptPlays_8 (Q_catenarylaw11_AcceptPlays_4 K s0) (E_catenarylaw11_AcceptPlays_5 v0 v1 v5 v6 v7 v9 v10 v11 v12 v13 d) h
noncomputable def K_catenarylaw11_AcceptPlays_9 : Code := (cB (cB (cB (cB (cB (cI (cA (cB (cI (cI (cB (cA (cB (cB (cB (bodyC Try.f3))))))))))))))))
def G_catenarylaw11_AcceptPlays (a0 a1 : Value) (h : Hp) (K : Kont) : Prop :=
  C_accept_New [] h fun t14 h1 =>
  oBuild #[.int .u64 0, .slice none 0 0] [] h1 fun t15 h2 =>
  oAlloc #[.int .u64 0, .slice none 0 0] h2 fun t6 h3 =>
  oSt 2 t6 t15 h3 fun _ h4 =>
  G_catenarylaw11_AcceptPlays_1 K a0 a1 t14 t6 (Go.Value.int Go.IntKind.i64 0) (dl [a0, a1, undef, undef, (Go.Value.bool false), t14, t6, (Go.Value.int Go.IntKind.i64 0), undef, undef, undef, undef, undef, undef, t14, t15, undef, undef, undef, undef, undef, undef, undef, undef, undef, undef, undef, undef, undef, undef, undef, undef, undef, undef, undef, undef, undef, undef, undef, undef, undef, undef, undef, undef, undef, undef, undef, undef, undef, undef, undef, undef, undef, undef, undef, undef, undef, undef, undef, undef, undef, undef, undef, undef, undef, undef, undef, undef, undef, undef, undef, undef, undef, undef, undef, undef, undef, undef, undef, undef, undef, undef, undef, undef, undef, undef, undef, undef, undef, undef, undef, undef, undef, undef, undef]) h4
theorem ga_catenarylaw11_AcceptPlays (Qv : Post) (a0 a1 : Value) (h : Hp) : aw Try.prog O_catenarylaw11_AcceptPlays (bodyC Try.f3) Qv [a0, a1, undef, undef, undef, undef, undef, undef, undef, undef, undef, undef, undef, undef, undef, undef, undef, undef, undef, undef, undef, undef, undef, undef, undef, undef, undef, undef, undef, undef, undef, undef, undef, undef, undef, undef, undef, undef, undef, undef, undef, undef, undef, undef, undef, undef, undef, undef, undef, undef, undef, undef, undef, undef, undef, undef, undef, undef, undef, undef, undef, undef, undef, undef, undef, undef, undef, undef, undef, undef, undef, undef, undef, undef, undef, undef, undef, undef, undef, undef, undef, undef, undef, undef, undef, undef, undef, undef, undef, undef, undef, undef, undef, undef, undef] h = (C_accept_New [] h fun t14 h1 =>
  oBuild #[.int .u64 0, .slice none 0 0] [] h1 fun t15 h2 =>
  oAlloc #[.int .u64 0, .slice none 0 0] h2 fun t6 h3 =>
  oSt 2 t6 t15 h3 fun _ h4 =>
  aw Try.prog O_catenarylaw11_AcceptPlays K_catenarylaw11_AcceptPlays_0 (qBlk 0 (qSeq (aw Try.prog O_catenarylaw11_AcceptPlays K_catenarylaw11_AcceptPlays_1 Qv) Qv)) [a0, a1, undef, undef, (Go.Value.bool false), t14, t6, (Go.Value.int Go.IntKind.i64 0), undef, undef, undef, undef, undef, undef, t14, t15, undef, undef, undef, undef, undef, undef, undef, undef, undef, undef, undef, undef, undef, undef, undef, undef, undef, undef, undef, undef, undef, undef, undef, undef, undef, undef, undef, undef, undef, undef, undef, undef, undef, undef, undef, undef, undef, undef, undef, undef, undef, undef, undef, undef, undef, undef, undef, undef, undef, undef, undef, undef, undef, undef, undef, undef, undef, undef, undef, undef, undef, undef, undef, undef, undef, undef, undef, undef, undef, undef, undef, undef, undef, undef, undef, undef, undef, undef, undef] h4) := by kernel_rfl
theorem gb_catenarylaw11_AcceptPlays (a0 a1 : Value) (h : Hp) (K : Kont) : (C_accept_New [] h fun t14 h1 =>
  oBuild #[.int .u64 0, .slice none 0 0] [] h1 fun t15 h2 =>
  oAlloc #[.int .u64 0, .slice none 0 0] h2 fun t6 h3 =>
  oSt 2 t6 t15 h3 fun _ h4 =>
  aw Try.prog O_catenarylaw11_AcceptPlays K_catenarylaw11_AcceptPlays_0 (qBlk 0 (qSeq (aw Try.prog O_catenarylaw11_AcceptPlays K_catenarylaw11_AcceptPlays_1 (qTop Try.prog Try.f3 K)) (qTop Try.prog Try.f3 K))) [a0, a1, undef, undef, (Go.Value.bool false), t14, t6, (Go.Value.int Go.IntKind.i64 0), undef, undef, undef, undef, undef, undef, t14, t15, undef, undef, undef, undef, undef, undef, undef, undef, undef, undef, undef, undef, undef, undef, undef, undef, undef, undef, undef, undef, undef, undef, undef, undef, undef, undef, undef, undef, undef, undef, undef, undef, undef, undef, undef, undef, undef, undef, undef, undef, undef, undef, undef, undef, undef, undef, undef, undef, undef, undef, undef, undef, undef, undef, undef, undef, undef, undef, undef, undef, undef, undef, undef, undef, undef, undef, undef, undef, undef, undef, undef, undef, undef, undef, undef, undef, undef, undef, undef] h4) = G_catenarylaw11_AcceptPlays a0 a1 h K := by kernel_rfl
theorem gc_catenarylaw11_AcceptPlays (a0 a1 : Value) (h : Hp) (K : Kont) : abody Try.prog O_catenarylaw11_AcceptPlays Try.f3 (bodyC Try.f3) [a0, a1] h K = aw Try.prog O_catenarylaw11_AcceptPlays (bodyC Try.f3) (qTop Try.prog Try.f3 K) [a0, a1, undef, undef, undef, undef, undef, undef, undef, undef, undef, undef, undef, undef, undef, undef, undef, undef, undef, undef, undef, undef, undef, undef, undef, undef, undef, undef, undef, undef, undef, undef, undef, undef, undef, undef, undef, undef, undef, undef, undef, undef, undef, undef, undef, undef, undef, undef, undef, undef, undef, undef, undef, undef, undef, undef, undef, undef, undef, undef, undef, undef, undef, undef, undef, undef, undef, undef, undef, undef, undef, undef, undef, undef, undef, undef, undef, undef, undef, undef, undef, undef, undef, undef, undef, undef, undef, undef, undef, undef, undef, undef, undef, undef, undef] h := by kernel_rfl
theorem eq_catenarylaw11_AcceptPlays (a0 a1 : Value) (h : Hp) (K : Kont) : abody Try.prog O_catenarylaw11_AcceptPlays Try.f3 (bodyC Try.f3) [a0, a1] h K = G_catenarylaw11_AcceptPlays a0 a1 h K := (gc_catenarylaw11_AcceptPlays a0 a1 h K).trans ((ga_catenarylaw11_AcceptPlays _ a0 a1 h).trans (gb_catenarylaw11_AcceptPlays a0 a1 h K))
theorem ok_catenarylaw11_AcceptPlays {a0 a1 : Value} {h : Hp} {K : Kont} (hk : G_catenarylaw11_AcceptPlays a0 a1 h K) : C_catenarylaw11_AcceptPlays [a0, a1] h K := ac_of_body prog_mixed (fn := Try.f3) Try.func3 (c := bodyC Try.f3) (by kernel_rfl) ((eq_catenarylaw11_AcceptPlays a0 a1 h K).mpr hk)
def B_catenarylaw11_AcceptPlays_1 (K : Kont) (s0 : Self) (v0 : Value) (v1 : Value) (v5 : Value) (v6 : Value) (v7 : Value) (d : Nat → Value) (h : Hp) : Prop :=
  oLen 0 v0 h fun t18 h1 =>
  oBin .lss v7 t18 h1 fun t19 h2 =>
  oGuard t19 true (fun K => K v7 h2) h2 fun t21 h3 =>
  oGuard t19 true (fun K => oBin .lss t21 (Go.Value.int Go.IntKind.i64 60) h3 K) h3 fun t22 h4 =>
  oPick t19 t22 (Go.Value.bool false) h4 fun t23 h5 =>
  oIf t23
  (G_catenarylaw11_AcceptPlays_2 K s0 v0 v1 v5 v6 v7 (dl [v0, v1, (d 2), (d 3), (d 4), v5, v6, v7, (d 8), (d 9), (d 10), (d 11), (d 12), (d 13), (d 14), (d 15), v7, v0, t18, t19, t19, t21, t22, t23, (d 24), (d 25), (d 26), (d 27), (d 28), (d 29), (d 30), (d 31), (d 32), (d 33), (d 34), (d 35), (d 36), (d 37), (d 38), (d 39), (d 40), (d 41), (d 42), (d 43), (d 44), (d 45), (d 46), (d 47), (d 48), (d 49), (d 50), (d 51), (d 52), (d 53), (d 54), (d 55), (d 56), (d 57), (d 58), (d 59), (d 60), (d 61), (d 62), (d 63), (d 64), (d 65), (d 66), (d 67), (d 68), (d 69), (d 70), (d 71), (d 72), (d 73), (d 74), (d 75), (d 76), (d 77), (d 78), (d 79), (d 80), (d 81), (d 82), (d 83), (d 84), (d 85), (d 86), (d 87), (d 88), (d 89), (d 90), (d 91), (d 92), (d 93), (d 94)]) h5)
  (C_catenarylaw11_awake [] h5 fun t94 h6 =>
  K t94 h6)
theorem ga_catenarylaw11_AcceptPlays_1 (Qv : Post) (v0 : Value) (v1 : Value) (v5 : Value) (v6 : Value) (v7 : Value) (d : Nat → Value) (h : Hp) : aw Try.prog O_catenarylaw11_AcceptPlays K_catenarylaw11_AcceptPlays_2 Qv (E_catenarylaw11_AcceptPlays_1 v0 v1 v5 v6 v7 d) h = (oLen 0 v0 h fun t18 h1 =>
  oBin .lss v7 t18 h1 fun t19 h2 =>
  oGuard t19 true (fun K => K v7 h2) h2 fun t21 h3 =>
  oGuard t19 true (fun K => oBin .lss t21 (Go.Value.int Go.IntKind.i64 60) h3 K) h3 fun t22 h4 =>
  oPick t19 t22 (Go.Value.bool false) h4 fun t23 h5 =>
  oIf t23
  (aw Try.prog O_catenarylaw11_AcceptPlays K_catenarylaw11_AcceptPlays_3 (qBlk 1 (qSeq (aw Try.prog O_catenarylaw11_AcceptPlays K_catenarylaw11_AcceptPlays_4 Qv) Qv)) [v0, v1, (d 2), (d 3), (d 4), v5, v6, v7, (d 8), (d 9), (d 10), (d 11), (d 12), (d 13), (d 14), (d 15), v7, v0, t18, t19, t19, t21, t22, t23, (d 24), (d 25), (d 26), (d 27), (d 28), (d 29), (d 30), (d 31), (d 32), (d 33), (d 34), (d 35), (d 36), (d 37), (d 38), (d 39), (d 40), (d 41), (d 42), (d 43), (d 44), (d 45), (d 46), (d 47), (d 48), (d 49), (d 50), (d 51), (d 52), (d 53), (d 54), (d 55), (d 56), (d 57), (d 58), (d 59), (d 60), (d 61), (d 62), (d 63), (d 64), (d 65), (d 66), (d 67), (d 68), (d 69), (d 70), (d 71), (d 72), (d 73), (d 74), (d 75), (d 76), (d 77), (d 78), (d 79), (d 80), (d 81), (d 82), (d 83), (d 84), (d 85), (d 86), (d 87), (d 88), (d 89), (d 90), (d 91), (d 92), (d 93), (d 94)] h5)
  ((qSeq (aw Try.prog O_catenarylaw11_AcceptPlays K_catenarylaw11_AcceptPlays_5 Qv) Qv) (.exit 0) [v0, v1, (d 2), (d 3), (d 4), v5, v6, v7, (d 8), (d 9), (d 10), (d 11), (d 12), (d 13), (d 14), (d 15), v7, v0, t18, t19, t19, t21, t22, t23, (d 24), (d 25), (d 26), (d 27), (d 28), (d 29), (d 30), (d 31), (d 32), (d 33), (d 34), (d 35), (d 36), (d 37), (d 38), (d 39), (d 40), (d 41), (d 42), (d 43), (d 44), (d 45), (d 46), (d 47), (d 48), (d 49), (d 50), (d 51), (d 52), (d 53), (d 54), (d 55), (d 56), (d 57), (d 58), (d 59), (d 60), (d 61), (d 62), (d 63), (d 64), (d 65), (d 66), (d 67), (d 68), (d 69), (d 70), (d 71), (d 72), (d 73), (d 74), (d 75), (d 76), (d 77), (d 78), (d 79), (d 80), (d 81), (d 82), (d 83), (d 84), (d 85), (d 86), (d 87), (d 88), (d 89), (d 90), (d 91), (d 92), (d 93), (d 94)] h5)) := by kernel_rfl
theorem gb_catenarylaw11_AcceptPlays_1 (K : Kont) (s0 : Self) (v0 : Value) (v1 : Value) (v5 : Value) (v6 : Value) (v7 : Value) (d : Nat → Value) (h : Hp) : (oLen 0 v0 h fun t18 h1 =>
  oBin .lss v7 t18 h1 fun t19 h2 =>
  oGuard t19 true (fun K => K v7 h2) h2 fun t21 h3 =>
  oGuard t19 true (fun K => oBin .lss t21 (Go.Value.int Go.IntKind.i64 60) h3 K) h3 fun t22 h4 =>
  oPick t19 t22 (Go.Value.bool false) h4 fun t23 h5 =>
  oIf t23
  (aw Try.prog O_catenarylaw11_AcceptPlays K_catenarylaw11_AcceptPlays_3 (qBlk 1 (qSeq (aw Try.prog O_catenarylaw11_AcceptPlays K_catenarylaw11_AcceptPlays_4 (Q_catenarylaw11_AcceptPlays_2 K s0)) (Q_catenarylaw11_AcceptPlays_2 K s0))) [v0, v1, (d 2), (d 3), (d 4), v5, v6, v7, (d 8), (d 9), (d 10), (d 11), (d 12), (d 13), (d 14), (d 15), v7, v0, t18, t19, t19, t21, t22, t23, (d 24), (d 25), (d 26), (d 27), (d 28), (d 29), (d 30), (d 31), (d 32), (d 33), (d 34), (d 35), (d 36), (d 37), (d 38), (d 39), (d 40), (d 41), (d 42), (d 43), (d 44), (d 45), (d 46), (d 47), (d 48), (d 49), (d 50), (d 51), (d 52), (d 53), (d 54), (d 55), (d 56), (d 57), (d 58), (d 59), (d 60), (d 61), (d 62), (d 63), (d 64), (d 65), (d 66), (d 67), (d 68), (d 69), (d 70), (d 71), (d 72), (d 73), (d 74), (d 75), (d 76), (d 77), (d 78), (d 79), (d 80), (d 81), (d 82), (d 83), (d 84), (d 85), (d 86), (d 87), (d 88), (d 89), (d 90), (d 91), (d 92), (d 93), (d 94)] h5)
  ((qSeq (aw Try.prog O_catenarylaw11_AcceptPlays K_catenarylaw11_AcceptPlays_5 (Q_catenarylaw11_AcceptPlays_2 K s0)) (Q_catenarylaw11_AcceptPlays_2 K s0)) (.exit 0) [v0, v1, (d 2), (d 3), (d 4), v5, v6, v7, (d 8), (d 9), (d 10), (d 11), (d 12), (d 13), (d 14), (d 15), v7, v0, t18, t19, t19, t21, t22, t23, (d 24), (d 25), (d 26), (d 27), (d 28), (d 29), (d 30), (d 31), (d 32), (d 33), (d 34), (d 35), (d 36), (d 37), (d 38), (d 39), (d 40), (d 41), (d 42), (d 43), (d 44), (d 45), (d 46), (d 47), (d 48), (d 49), (d 50), (d 51), (d 52), (d 53), (d 54), (d 55), (d 56), (d 57), (d 58), (d 59), (d 60), (d 61), (d 62), (d 63), (d 64), (d 65), (d 66), (d 67), (d 68), (d 69), (d 70), (d 71), (d 72), (d 73), (d 74), (d 75), (d 76), (d 77), (d 78), (d 79), (d 80), (d 81), (d 82), (d 83), (d 84), (d 85), (d 86), (d 87), (d 88), (d 89), (d 90), (d 91), (d 92), (d 93), (d 94)] h5)) = B_catenarylaw11_AcceptPlays_1 K s0 v0 v1 v5 v6 v7 d h := by kernel_rfl
theorem beq_catenarylaw11_AcceptPlays_1 (K : Kont) (s0 : Self) (v0 : Value) (v1 : Value) (v5 : Value) (v6 : Value) (v7 : Value) (d : Nat → Value) (h : Hp) : aw Try.prog O_catenarylaw11_AcceptPlays K_catenarylaw11_AcceptPlays_2 (Q_catenarylaw11_AcceptPlays_2 K s0) (E_catenarylaw11_AcceptPlays_1 v0 v1 v5 v6 v7 d) h = B_catenarylaw11_AcceptPlays_1 K s0 v0 v1 v5 v6 v7 d h := (ga_catenarylaw11_AcceptPlays_1 _ v0 v1 v5 v6 v7 d h).trans (gb_catenarylaw11_AcceptPlays_1 K s0 v0 v1 v5 v6 v7 d h)
theorem rule_catenarylaw11_AcceptPlays_1 {K : Kont} {v0 : Value} {v1 : Value} {v5 : Value} {v6 : Value} (Inv : Value → Hp → Prop) (μ : Value → Hp → Nat)
    (step : ∀ (s0 : Self) (v7 : Value) (d : Nat → Value) (h : Hp), Inv v7 h → (∀ (v7' : Value) (d' : Nat → Value) (h' : Hp), Inv v7' h' → μ v7' h' < μ v7 h → s0 (E_catenarylaw11_AcceptPlays_1 v0 v1 v5 v6 v7' d') h') → B_catenarylaw11_AcceptPlays_1 K s0 v0 v1 v5 v6 v7 d h) (v7 : Value) (d : Nat → Value) (h : Hp) (hi : Inv v7 h) : G_catenarylaw11_AcceptPlays_1 K v0 v1 v5 v6 v7 d h :=
  oLoop_rule (α := Value × (Nat → Value)) (fun x => E_catenarylaw11_AcceptPlays_1 v0 v1 v5 v6 x.1 x.2) (fun x h => Inv x.1 h) (fun x h => μ x.1 h)
    (fun self x h hx hs => (beq_catenarylaw11_AcceptPlays_1 K self v0 v1 v5 v6 x.1 x.2 h).mpr (step self x.1 x.2 h hx (fun v7' d' h' h1 h2 => hs ⟨v7', d'⟩ h' h1 h2))) ⟨v7, d⟩ h hi
def R_catenarylaw11_AcceptPlays_2 (K : Kont) (s0 : Self) (v0 : Value) (v1 : Value) (v5 : Value) (v6 : Value) (v7 : Value) (d : Nat → Value) (h : Hp) : Prop :=
  oLdN 2 v6 h fun t28 h1 =>
  oIdxS 7 v0 v7 h1 fun t31 h2 =>
  oLdN 7 t31 h2 fun t32 h3 =>
  (C_catenarylaw11_step [v5, t28, t32] h3 fun t33 h4 =>
  (True) ∧
  oExtract t33 0 h4 fun t34 h5 =>
  oExtract t33 1 h5 fun t35 h6 =>
  oAlloc #[.int .u64 0, .slice none 0 0] h6 fun t8 h7 =>
  ((oLdN 7 t31 h6 (fun v' _ => v' = t32) → oLdN 7 t31 h7 (fun v' _ => v' = t32)) ∧ (oLdN 2 v6 h6 (fun v' _ => v' = t28) → oLdN 2 v6 h7 (fun v' _ => v' = t28)) ∧ True) ∧
  oSt 2 t8 t34 h7 fun _ h8 =>
  (True) ∧
  G_catenarylaw11_AcceptPlays_3 K s0 v0 v1 v5 v6 v7 t8 t35 (dl [v0, v1, (d 2), (d 3), (d 4), v5, v6, v7, t8, t35, (d 10), (d 11), (d 12), (d 13), (d 14), (d 15), (d 16), (d 17), (d 18), (d 19), (d 20), (d 21), (d 22), (d 23), (d 24), (d 25), t33, v5, t28, v0, v7, t31, t32, t33, t34, t35, (d 36), (d 37), (d 38), (d 39), (d 40), (d 41), (d 42), (d 43), (d 44), (d 45), (d 46), (d 47), (d 48), (d 49), (d 50), (d 51), (d 52), (d 53), (d 54), (d 55), (d 56), (d 57), (d 58), (d 59), (d 60), (d 61), (d 62), (d 63), (d 64), (d 65), (d 66), (d 67), (d 68), (d 69), (d 70), (d 71), (d 72), (d 73), (d 74), (d 75), (d 76), (d 77), (d 78), (d 79), (d 80), (d 81), (d 82), (d 83), (d 84), (d 85), (d 86), (d 87), (d 88), (d 89), (d 90), (d 91), (d 92), (d 93), (d 94)]) h8) ∧
  (oAlloc #[.int .u64 0, .slice none 0 0] h3 fun t8_1 h9 =>
  ((oLdN 7 t31 h3 (fun v' _ => v' = t32) → oLdN 7 t31 h9 (fun v' _ => v' = t32)) ∧ (oLdN 2 v6 h3 (fun v' _ => v' = t28) → oLdN 2 v6 h9 (fun v' _ => v' = t28)) ∧ True) ∧
  C_catenarylaw11_step [v5, t28, t32] h9 fun t33_2 h10 =>
  (True) ∧
  oExtract t33_2 0 h10 fun t34_3 h11 =>
  oExtract t33_2 1 h11 fun t35_4 h12 =>
  oSt 2 t8_1 t34_3 h12 fun _ h13 =>
  (True) ∧
  G_catenarylaw11_AcceptPlays_3 K s0 v0 v1 v5 v6 v7 t8_1 t35_4 (dl [v0, v1, (d 2), (d 3), (d 4), v5, v6, v7, t8_1, t35_4, (d 10), (d 11), (d 12), (d 13), (d 14), (d 15), (d 16), (d 17), (d 18), (d 19), (d 20), (d 21), (d 22), (d 23), (d 24), (d 25), t33_2, v5, t28, v0, v7, t31, t32, t33_2, t34_3, t35_4, (d 36), (d 37), (d 38), (d 39), (d 40), (d 41), (d 42), (d 43), (d 44), (d 45), (d 46), (d 47), (d 48), (d 49), (d 50), (d 51), (d 52), (d 53), (d 54), (d 55), (d 56), (d 57), (d 58), (d 59), (d 60), (d 61), (d 62), (d 63), (d 64), (d 65), (d 66), (d 67), (d 68), (d 69), (d 70), (d 71), (d 72), (d 73), (d 74), (d 75), (d 76), (d 77), (d 78), (d 79), (d 80), (d 81), (d 82), (d 83), (d 84), (d 85), (d 86), (d 87), (d 88), (d 89), (d 90), (d 91), (d 92), (d 93), (d 94)]) h13)
theorem ga_catenarylaw11_AcceptPlays_2 (Qv : Post) (v0 : Value) (v1 : Value) (v5 : Value) (v6 : Value) (v7 : Value) (d : Nat → Value) (h : Hp) : aw Try.prog O_catenarylaw11_AcceptPlays K_catenarylaw11_AcceptPlays_3 Qv (E_catenarylaw11_AcceptPlays_2 v0 v1 v5 v6 v7 d) h = (oLdN 2 v6 h fun t28 h1 =>
  oIdxS 7 v0 v7 h1 fun t31 h2 =>
  oLdN 7 t31 h2 fun t32 h3 =>
  (C_catenarylaw11_step [v5, t28, t32] h3 fun t33 h4 =>
  (True) ∧
  oExtract t33 0 h4 fun t34 h5 =>
  oExtract t33 1 h5 fun t35 h6 =>
  oAlloc #[.int .u64 0, .slice none 0 0] h6 fun t8 h7 =>
  ((oLdN 7 t31 h6 (fun v' _ => v' = t32) → oLdN 7 t31 h7 (fun v' _ => v' = t32)) ∧ (oLdN 2 v6 h6 (fun v' _ => v' = t28) → oLdN 2 v6 h7 (fun v' _ => v' = t28)) ∧ True) ∧
  oSt 2 t8 t34 h7 fun _ h8 =>
  (True) ∧
  (qSeq (aw Try.prog O_catenarylaw11_AcceptPlays K_catenarylaw11_AcceptPlays_6 Qv) Qv) .normal [v0, v1, (d 2), (d 3), (d 4), v5, v6, v7, t8, t35, (d 10), (d 11), (d 12), (d 13), (d 14), (d 15), (d 16), (d 17), (d 18), (d 19), (d 20), (d 21), (d 22), (d 23), (d 24), (d 25), t33, v5, t28, v0, v7, t31, t32, t33, t34, t35, (d 36), (d 37), (d 38), (d 39), (d 40), (d 41), (d 42), (d 43), (d 44), (d 45), (d 46), (d 47), (d 48), (d 49), (d 50), (d 51), (d 52), (d 53), (d 54), (d 55), (d 56), (d 57), (d 58), (d 59), (d 60), (d 61), (d 62), (d 63), (d 64), (d 65), (d 66), (d 67), (d 68), (d 69), (d 70), (d 71), (d 72), (d 73), (d 74), (d 75), (d 76), (d 77), (d 78), (d 79), (d 80), (d 81), (d 82), (d 83), (d 84), (d 85), (d 86), (d 87), (d 88), (d 89), (d 90), (d 91), (d 92), (d 93), (d 94)] h8) ∧
  (oAlloc #[.int .u64 0, .slice none 0 0] h3 fun t8_5 h9 =>
  ((oLdN 7 t31 h3 (fun v' _ => v' = t32) → oLdN 7 t31 h9 (fun v' _ => v' = t32)) ∧ (oLdN 2 v6 h3 (fun v' _ => v' = t28) → oLdN 2 v6 h9 (fun v' _ => v' = t28)) ∧ True) ∧
  C_catenarylaw11_step [v5, t28, t32] h9 fun t33_6 h10 =>
  (True) ∧
  oExtract t33_6 0 h10 fun t34_7 h11 =>
  oExtract t33_6 1 h11 fun t35_8 h12 =>
  oSt 2 t8_5 t34_7 h12 fun _ h13 =>
  (True) ∧
  (qSeq (aw Try.prog O_catenarylaw11_AcceptPlays K_catenarylaw11_AcceptPlays_6 Qv) Qv) .normal [v0, v1, (d 2), (d 3), (d 4), v5, v6, v7, t8_5, t35_8, (d 10), (d 11), (d 12), (d 13), (d 14), (d 15), (d 16), (d 17), (d 18), (d 19), (d 20), (d 21), (d 22), (d 23), (d 24), (d 25), t33_6, v5, t28, v0, v7, t31, t32, t33_6, t34_7, t35_8, (d 36), (d 37), (d 38), (d 39), (d 40), (d 41), (d 42), (d 43), (d 44), (d 45), (d 46), (d 47), (d 48), (d 49), (d 50), (d 51), (d 52), (d 53), (d 54), (d 55), (d 56), (d 57), (d 58), (d 59), (d 60), (d 61), (d 62), (d 63), (d 64), (d 65), (d 66), (d 67), (d 68), (d 69), (d 70), (d 71), (d 72), (d 73), (d 74), (d 75), (d 76), (d 77), (d 78), (d 79), (d 80), (d 81), (d 82), (d 83), (d 84), (d 85), (d 86), (d 87), (d 88), (d 89), (d 90), (d 91), (d 92), (d 93), (d 94)] h13)) := by kernel_rfl
theorem gb_catenarylaw11_AcceptPlays_2 (K : Kont) (s0 : Self) (v0 : Value) (v1 : Value) (v5 : Value) (v6 : Value) (v7 : Value) (d : Nat → Value) (h : Hp) : (oLdN 2 v6 h fun t28 h1 =>
  oIdxS 7 v0 v7 h1 fun t31 h2 =>
  oLdN 7 t31 h2 fun t32 h3 =>
  (C_catenarylaw11_step [v5, t28, t32] h3 fun t33 h4 =>
  (True) ∧
  oExtract t33 0 h4 fun t34 h5 =>
  oExtract t33 1 h5 fun t35 h6 =>
  oAlloc #[.int .u64 0, .slice none 0 0] h6 fun t8 h7 =>
  ((oLdN 7 t31 h6 (fun v' _ => v' = t32) → oLdN 7 t31 h7 (fun v' _ => v' = t32)) ∧ (oLdN 2 v6 h6 (fun v' _ => v' = t28) → oLdN 2 v6 h7 (fun v' _ => v' = t28)) ∧ True) ∧
  oSt 2 t8 t34 h7 fun _ h8 =>
  (True) ∧
  (qSeq (aw Try.prog O_catenarylaw11_AcceptPlays K_catenarylaw11_AcceptPlays_6 (Q_catenarylaw11_AcceptPlays_4 K s0)) (Q_catenarylaw11_AcceptPlays_4 K s0)) .normal [v0, v1, (d 2), (d 3), (d 4), v5, v6, v7, t8, t35, (d 10), (d 11), (d 12), (d 13), (d 14), (d 15), (d 16), (d 17), (d 18), (d 19), (d 20), (d 21), (d 22), (d 23), (d 24), (d 25), t33, v5, t28, v0, v7, t31, t32, t33, t34, t35, (d 36), (d 37), (d 38), (d 39), (d 40), (d 41), (d 42), (d 43), (d 44), (d 45), (d 46), (d 47), (d 48), (d 49), (d 50), (d 51), (d 52), (d 53), (d 54), (d 55), (d 56), (d 57), (d 58), (d 59), (d 60), (d 61), (d 62), (d 63), (d 64), (d 65), (d 66), (d 67), (d 68), (d 69), (d 70), (d 71), (d 72), (d 73), (d 74), (d 75), (d 76), (d 77), (d 78), (d 79), (d 80), (d 81), (d 82), (d 83), (d 84), (d 85), (d 86), (d 87), (d 88), (d 89), (d 90), (d 91), (d 92), (d 93), (d 94)] h8) ∧
  (oAlloc #[.int .u64 0, .slice none 0 0] h3 fun t8_5 h9 =>
  ((oLdN 7 t31 h3 (fun v' _ => v' = t32) → oLdN 7 t31 h9 (fun v' _ => v' = t32)) ∧ (oLdN 2 v6 h3 (fun v' _ => v' = t28) → oLdN 2 v6 h9 (fun v' _ => v' = t28)) ∧ True) ∧
  C_catenarylaw11_step [v5, t28, t32] h9 fun t33_6 h10 =>
  (True) ∧
  oExtract t33_6 0 h10 fun t34_7 h11 =>
  oExtract t33_6 1 h11 fun t35_8 h12 =>
  oSt 2 t8_5 t34_7 h12 fun _ h13 =>
  (True) ∧
  (qSeq (aw Try.prog O_catenarylaw11_AcceptPlays K_catenarylaw11_AcceptPlays_6 (Q_catenarylaw11_AcceptPlays_4 K s0)) (Q_catenarylaw11_AcceptPlays_4 K s0)) .normal [v0, v1, (d 2), (d 3), (d 4), v5, v6, v7, t8_5, t35_8, (d 10), (d 11), (d 12), (d 13), (d 14), (d 15), (d 16), (d 17), (d 18), (d 19), (d 20), (d 21), (d 22), (d 23), (d 24), (d 25), t33_6, v5, t28, v0, v7, t31, t32, t33_6, t34_7, t35_8, (d 36), (d 37), (d 38), (d 39), (d 40), (d 41), (d 42), (d 43), (d 44), (d 45), (d 46), (d 47), (d 48), (d 49), (d 50), (d 51), (d 52), (d 53), (d 54), (d 55), (d 56), (d 57), (d 58), (d 59), (d 60), (d 61), (d 62), (d 63), (d 64), (d 65), (d 66), (d 67), (d 68), (d 69), (d 70), (d 71), (d 72), (d 73), (d 74), (d 75), (d 76), (d 77), (d 78), (d 79), (d 80), (d 81), (d 82), (d 83), (d 84), (d 85), (d 86), (d 87), (d 88), (d 89), (d 90), (d 91), (d 92), (d 93), (d 94)] h13)) = R_catenarylaw11_AcceptPlays_2 K s0 v0 v1 v5 v6 v7 d h := by kernel_rfl
theorem req_catenarylaw11_AcceptPlays_2 (K : Kont) (s0 : Self) (v0 : Value) (v1 : Value) (v5 : Value) (v6 : Value) (v7 : Value) (d : Nat → Value) (h : Hp) : G_catenarylaw11_AcceptPlays_2 K s0 v0 v1 v5 v6 v7 d h = R_catenarylaw11_AcceptPlays_2 K s0 v0 v1 v5 v6 v7 d h := (ga_catenarylaw11_AcceptPlays_2 _ v0 v1 v5 v6 v7 d h).trans (gb_catenarylaw11_AcceptPlays_2 K s0 v0 v1 v5 v6 v7 d h)
def R_catenarylaw11_AcceptPlays_3 (K : Kont) (s0 : Self) (v0 : Value) (v1 : Value) (v5 : Value) (v6 : Value) (v7 : Value) (v8 : Value) (v9 : Value) (d : Nat → Value) (h : Hp) : Prop :=
  oLdN 2 v8 h fun t36 h1 =>
  oSt 2 v6 t36 h1 fun _ h2 =>
  oIdxS 7 v0 v7 h2 fun t41 h3 =>
  oFieldAddr 2 t41 h3 fun t42 h4 =>
  oLd1 t42 h4 fun t43 h5 =>
  C_accept_Acceptor_Vote [v5, t43] h5 fun t44 h6 =>
  oExtract t44 0 h6 fun t45 h7 =>
  oExtract t44 1 h7 fun t46 h8 =>
  oAlloc #[.int .i64 0, .int .u64 0, .int .i64 0, .int .i64 0, .int .u64 0, .int .i64 0] h8 fun t10 h9 =>
  oSt 6 t10 t45 h9 fun _ h10 =>
  G_catenarylaw11_AcceptPlays_4 K s0 v0 v1 v5 v6 v7 v9 t10 t46 (dl [v0, v1, (d 2), (d 3), (d 4), v5, v6, v7, v8, v9, t10, t46, (d 12), (d 13), (d 14), (d 15), (d 16), (d 17), (d 18), (d 19), (d 20), (d 21), (d 22), (d 23), (d 24), (d 25), (d 26), (d 27), (d 28), (d 29), (d 30), (d 31), (d 32), (d 33), (d 34), (d 35), t36, t44, v5, v0, v7, t41, t42, t43, t44, t45, t46, (d 47), (d 48), (d 49), (d 50), (d 51), (d 52), (d 53), (d 54), (d 55), (d 56), (d 57), (d 58), (d 59), (d 60), (d 61), (d 62), (d 63), (d 64), (d 65), (d 66), (d 67), (d 68), (d 69), (d 70), (d 71), (d 72), (d 73), (d 74), (d 75), (d 76), (d 77), (d 78), (d 79), (d 80), (d 81), (d 82), (d 83), (d 84), (d 85), (d 86), (d 87), (d 88), (d 89), (d 90), (d 91), (d 92), (d 93), (d 94)]) h10
theorem ga_catenarylaw11_AcceptPlays_3 (Qv : Post) (v0 : Value) (v1 : Value) (v5 : Value) (v6 : Value) (v7 : Value) (v8 : Value) (v9 : Value) (d : Nat → Value) (h : Hp) : aw Try.prog O_catenarylaw11_AcceptPlays K_catenarylaw11_AcceptPlays_6 Qv (E_catenarylaw11_AcceptPlays_3 v0 v1 v5 v6 v7 v8 v9 d) h = (oLdN 2 v8 h fun t36 h1 =>
  oSt 2 v6 t36 h1 fun _ h2 =>
  oIdxS 7 v0 v7 h2 fun t41 h3 =>
  oFieldAddr 2 t41 h3 fun t42 h4 =>
  oLd1 t42 h4 fun t43 h5 =>
  C_accept_Acceptor_Vote [v5, t43] h5 fun t44 h6 =>
  oExtract t44 0 h6 fun t45 h7 =>
  oExtract t44 1 h7 fun t46 h8 =>
  oAlloc #[.int .i64 0, .int .u64 0, .int .i64 0, .int .i64 0, .int .u64 0, .int .i64 0] h8 fun t10 h9 =>
  oSt 6 t10 t45 h9 fun _ h10 =>
  (qSeq (aw Try.prog O_catenarylaw11_AcceptPlays K_catenarylaw11_AcceptPlays_7 Qv) Qv) .normal [v0, v1, (d 2), (d 3), (d 4), v5, v6, v7, v8, v9, t10, t46, (d 12), (d 13), (d 14), (d 15), (d 16), (d 17), (d 18), (d 19), (d 20), (d 21), (d 22), (d 23), (d 24), (d 25), (d 26), (d 27), (d 28), (d 29), (d 30), (d 31), (d 32), (d 33), (d 34), (d 35), t36, t44, v5, v0, v7, t41, t42, t43, t44, t45, t46, (d 47), (d 48), (d 49), (d 50), (d 51), (d 52), (d 53), (d 54), (d 55), (d 56), (d 57), (d 58), (d 59), (d 60), (d 61), (d 62), (d 63), (d 64), (d 65), (d 66), (d 67), (d 68), (d 69), (d 70), (d 71), (d 72), (d 73), (d 74), (d 75), (d 76), (d 77), (d 78), (d 79), (d 80), (d 81), (d 82), (d 83), (d 84), (d 85), (d 86), (d 87), (d 88), (d 89), (d 90), (d 91), (d 92), (d 93), (d 94)] h10) := by kernel_rfl
theorem gb_catenarylaw11_AcceptPlays_3 (K : Kont) (s0 : Self) (v0 : Value) (v1 : Value) (v5 : Value) (v6 : Value) (v7 : Value) (v8 : Value) (v9 : Value) (d : Nat → Value) (h : Hp) : (oLdN 2 v8 h fun t36 h1 =>
  oSt 2 v6 t36 h1 fun _ h2 =>
  oIdxS 7 v0 v7 h2 fun t41 h3 =>
  oFieldAddr 2 t41 h3 fun t42 h4 =>
  oLd1 t42 h4 fun t43 h5 =>
  C_accept_Acceptor_Vote [v5, t43] h5 fun t44 h6 =>
  oExtract t44 0 h6 fun t45 h7 =>
  oExtract t44 1 h7 fun t46 h8 =>
  oAlloc #[.int .i64 0, .int .u64 0, .int .i64 0, .int .i64 0, .int .u64 0, .int .i64 0] h8 fun t10 h9 =>
  oSt 6 t10 t45 h9 fun _ h10 =>
  (qSeq (aw Try.prog O_catenarylaw11_AcceptPlays K_catenarylaw11_AcceptPlays_7 (Q_catenarylaw11_AcceptPlays_4 K s0)) (Q_catenarylaw11_AcceptPlays_4 K s0)) .normal [v0, v1, (d 2), (d 3), (d 4), v5, v6, v7, v8, v9, t10, t46, (d 12), (d 13), (d 14), (d 15), (d 16), (d 17), (d 18), (d 19), (d 20), (d 21), (d 22), (d 23), (d 24), (d 25), (d 26), (d 27), (d 28), (d 29), (d 30), (d 31), (d 32), (d 33), (d 34), (d 35), t36, t44, v5, v0, v7, t41, t42, t43, t44, t45, t46, (d 47), (d 48), (d 49), (d 50), (d 51), (d 52), (d 53), (d 54), (d 55), (d 56), (d 57), (d 58), (d 59), (d 60), (d 61), (d 62), (d 63), (d 64), (d 65), (d 66), (d 67), (d 68), (d 69), (d 70), (d 71), (d 72), (d 73), (d 74), (d 75), (d 76), (d 77), (d 78), (d 79), (d 80), (d 81), (d 82), (d 83), (d 84), (d 85), (d 86), (d 87), (d 88), (d 89), (d 90), (d 91), (d 92), (d 93), (d 94)] h10) = R_catenarylaw11_AcceptPlays_3 K s0 v0 v1 v5 v6 v7 v8 v9 d h := by kernel_rfl
theorem req_catenarylaw11_AcceptPlays_3 (K : Kont) (s0 : Self) (v0 : Value) (v1 : Value) (v5 : Value) (v6 : Value) (v7 : Value) (v8 : Value) (v9 : Value) (d : Nat → Value) (h : Hp) : G_catenarylaw11_AcceptPlays_3 K s0 v0 v1 v5 v6 v7 v8 v9 d h = R_catenarylaw11_AcceptPlays_3 K s0 v0 v1 v5 v6 v7 v8 v9 d h := (ga_catenarylaw11_AcceptPlays_3 _ v0 v1 v5 v6 v7 v8 v9 d h).trans (gb_catenarylaw11_AcceptPlays_3 K s0 v0 v1 v5 v6 v7 v8 v9 d h)
def R_catenarylaw11_AcceptPlays_4 (K : Kont) (s0 : Self) (v0 : Value) (v1 : Value) (v5 : Value) (v6 : Value) (v7 : Value) (v9 : Value) (v10 : Value) (v11 : Value) (d : Nat → Value) (h : Hp) : Prop :=
  oFieldAddr 1 v6 h fun t48 h1 =>
  oLd1 t48 h1 fun t49 h2 =>
  oIdxS 7 v0 v7 h2 fun t52 h3 =>
  oFieldAddr 2 t52 h3 fun t53 h4 =>
  oLd1 t53 h4 fun t54 h5 =>
  (C_catenaryref11_At [t49, t54] h5 fun t55 h6 =>
  (True) ∧
  oExtract t55 0 h6 fun t56 h7 =>
  oExtract t55 1 h7 fun t57 h8 =>
  oAlloc #[.int .i64 0, .int .u64 0, .int .i64 0, .int .i64 0, .int .u64 0, .int .i64 0] h8 fun t12 h9 =>
  ((oLd1 t53 h8 (fun v' _ => v' = t54) → oLd1 t53 h9 (fun v' _ => v' = t54)) ∧ (oLd1 t48 h8 (fun v' _ => v' = t49) → oLd1 t48 h9 (fun v' _ => v' = t49)) ∧ True) ∧
  oSt 6 t12 t56 h9 fun _ h10 =>
  (True) ∧
  G_catenarylaw11_AcceptPlays_5 K s0 v0 v1 v5 v6 v7 v9 v10 v11 t12 t57 (dl [v0, v1, (d 2), (d 3), (d 4), v5, v6, v7, (d 8), v9, v10, v11, t12, t57, (d 14), (d 15), (d 16), (d 17), (d 18), (d 19), (d 20), (d 21), (d 22), (d 23), (d 24), (d 25), (d 26), (d 27), (d 28), (d 29), (d 30), (d 31), (d 32), (d 33), (d 34), (d 35), (d 36), (d 37), (d 38), (d 39), (d 40), (d 41), (d 42), (d 43), (d 44), (d 45), (d 46), t55, t48, t49, v0, v7, t52, t53, t54, t55, t56, t57, (d 58), (d 59), (d 60), (d 61), (d 62), (d 63), (d 64), (d 65), (d 66), (d 67), (d 68), (d 69), (d 70), (d 71), (d 72), (d 73), (d 74), (d 75), (d 76), (d 77), (d 78), (d 79), (d 80), (d 81), (d 82), (d 83), (d 84), (d 85), (d 86), (d 87), (d 88), (d 89), (d 90), (d 91), (d 92), (d 93), (d 94)]) h10) ∧
  (oAlloc #[.int .i64 0, .int .u64 0, .int .i64 0, .int .i64 0, .int .u64 0, .int .i64 0] h5 fun t12_9 h11 =>
  ((oLd1 t53 h5 (fun v' _ => v' = t54) → oLd1 t53 h11 (fun v' _ => v' = t54)) ∧ (oLd1 t48 h5 (fun v' _ => v' = t49) → oLd1 t48 h11 (fun v' _ => v' = t49)) ∧ True) ∧
  C_catenaryref11_At [t49, t54] h11 fun t55_10 h12 =>
  (True) ∧
  oExtract t55_10 0 h12 fun t56_11 h13 =>
  oExtract t55_10 1 h13 fun t57_12 h14 =>
  oSt 6 t12_9 t56_11 h14 fun _ h15 =>
  (True) ∧
  G_catenarylaw11_AcceptPlays_5 K s0 v0 v1 v5 v6 v7 v9 v10 v11 t12_9 t57_12 (dl [v0, v1, (d 2), (d 3), (d 4), v5, v6, v7, (d 8), v9, v10, v11, t12_9, t57_12, (d 14), (d 15), (d 16), (d 17), (d 18), (d 19), (d 20), (d 21), (d 22), (d 23), (d 24), (d 25), (d 26), (d 27), (d 28), (d 29), (d 30), (d 31), (d 32), (d 33), (d 34), (d 35), (d 36), (d 37), (d 38), (d 39), (d 40), (d 41), (d 42), (d 43), (d 44), (d 45), (d 46), t55_10, t48, t49, v0, v7, t52, t53, t54, t55_10, t56_11, t57_12, (d 58), (d 59), (d 60), (d 61), (d 62), (d 63), (d 64), (d 65), (d 66), (d 67), (d 68), (d 69), (d 70), (d 71), (d 72), (d 73), (d 74), (d 75), (d 76), (d 77), (d 78), (d 79), (d 80), (d 81), (d 82), (d 83), (d 84), (d 85), (d 86), (d 87), (d 88), (d 89), (d 90), (d 91), (d 92), (d 93), (d 94)]) h15)
theorem ga_catenarylaw11_AcceptPlays_4 (Qv : Post) (v0 : Value) (v1 : Value) (v5 : Value) (v6 : Value) (v7 : Value) (v9 : Value) (v10 : Value) (v11 : Value) (d : Nat → Value) (h : Hp) : aw Try.prog O_catenarylaw11_AcceptPlays K_catenarylaw11_AcceptPlays_7 Qv (E_catenarylaw11_AcceptPlays_4 v0 v1 v5 v6 v7 v9 v10 v11 d) h = (oFieldAddr 1 v6 h fun t48 h1 =>
  oLd1 t48 h1 fun t49 h2 =>
  oIdxS 7 v0 v7 h2 fun t52 h3 =>
  oFieldAddr 2 t52 h3 fun t53 h4 =>
  oLd1 t53 h4 fun t54 h5 =>
  (C_catenaryref11_At [t49, t54] h5 fun t55 h6 =>
  (True) ∧
  oExtract t55 0 h6 fun t56 h7 =>
  oExtract t55 1 h7 fun t57 h8 =>
  oAlloc #[.int .i64 0, .int .u64 0, .int .i64 0, .int .i64 0, .int .u64 0, .int .i64 0] h8 fun t12 h9 =>
  ((oLd1 t53 h8 (fun v' _ => v' = t54) → oLd1 t53 h9 (fun v' _ => v' = t54)) ∧ (oLd1 t48 h8 (fun v' _ => v' = t49) → oLd1 t48 h9 (fun v' _ => v' = t49)) ∧ True) ∧
  oSt 6 t12 t56 h9 fun _ h10 =>
  (True) ∧
  (qSeq (aw Try.prog O_catenarylaw11_AcceptPlays K_catenarylaw11_AcceptPlays_8 Qv) Qv) .normal [v0, v1, (d 2), (d 3), (d 4), v5, v6, v7, (d 8), v9, v10, v11, t12, t57, (d 14), (d 15), (d 16), (d 17), (d 18), (d 19), (d 20), (d 21), (d 22), (d 23), (d 24), (d 25), (d 26), (d 27), (d 28), (d 29), (d 30), (d 31), (d 32), (d 33), (d 34), (d 35), (d 36), (d 37), (d 38), (d 39), (d 40), (d 41), (d 42), (d 43), (d 44), (d 45), (d 46), t55, t48, t49, v0, v7, t52, t53, t54, t55, t56, t57, (d 58), (d 59), (d 60), (d 61), (d 62), (d 63), (d 64), (d 65), (d 66), (d 67), (d 68), (d 69), (d 70), (d 71), (d 72), (d 73), (d 74), (d 75), (d 76), (d 77), (d 78), (d 79), (d 80), (d 81), (d 82), (d 83), (d 84), (d 85), (d 86), (d 87), (d 88), (d 89), (d 90), (d 91), (d 92), (d 93), (d 94)] h10) ∧
  (oAlloc #[.int .i64 0, .int .u64 0, .int .i64 0, .int .i64 0, .int .u64 0, .int .i64 0] h5 fun t12_13 h11 =>
  ((oLd1 t53 h5 (fun v' _ => v' = t54) → oLd1 t53 h11 (fun v' _ => v' = t54)) ∧ (oLd1 t48 h5 (fun v' _ => v' = t49) → oLd1 t48 h11 (fun v' _ => v' = t49)) ∧ True) ∧
  C_catenaryref11_At [t49, t54] h11 fun t55_14 h12 =>
  (True) ∧
  oExtract t55_14 0 h12 fun t56_15 h13 =>
  oExtract t55_14 1 h13 fun t57_16 h14 =>
  oSt 6 t12_13 t56_15 h14 fun _ h15 =>
  (True) ∧
  (qSeq (aw Try.prog O_catenarylaw11_AcceptPlays K_catenarylaw11_AcceptPlays_8 Qv) Qv) .normal [v0, v1, (d 2), (d 3), (d 4), v5, v6, v7, (d 8), v9, v10, v11, t12_13, t57_16, (d 14), (d 15), (d 16), (d 17), (d 18), (d 19), (d 20), (d 21), (d 22), (d 23), (d 24), (d 25), (d 26), (d 27), (d 28), (d 29), (d 30), (d 31), (d 32), (d 33), (d 34), (d 35), (d 36), (d 37), (d 38), (d 39), (d 40), (d 41), (d 42), (d 43), (d 44), (d 45), (d 46), t55_14, t48, t49, v0, v7, t52, t53, t54, t55_14, t56_15, t57_16, (d 58), (d 59), (d 60), (d 61), (d 62), (d 63), (d 64), (d 65), (d 66), (d 67), (d 68), (d 69), (d 70), (d 71), (d 72), (d 73), (d 74), (d 75), (d 76), (d 77), (d 78), (d 79), (d 80), (d 81), (d 82), (d 83), (d 84), (d 85), (d 86), (d 87), (d 88), (d 89), (d 90), (d 91), (d 92), (d 93), (d 94)] h15)) := by kernel_rfl
theorem gb_catenarylaw11_AcceptPlays_4 (K : Kont) (s0 : Self) (v0 : Value) (v1 : Value) (v5 : Value) (v6 : Value) (v7 : Value) (v9 : Value) (v10 : Value) (v11 : Value) (d : Nat → Value) (h : Hp) : (oFieldAddr 1 v6 h fun t48 h1 =>
  oLd1 t48 h1 fun t49 h2 =>
  oIdxS 7 v0 v7 h2 fun t52 h3 =>
  oFieldAddr 2 t52 h3 fun t53 h4 =>
  oLd1 t53 h4 fun t54 h5 =>
  (C_catenaryref11_At [t49, t54] h5 fun t55 h6 =>
  (True) ∧
  oExtract t55 0 h6 fun t56 h7 =>
  oExtract t55 1 h7 fun t57 h8 =>
  oAlloc #[.int .i64 0, .int .u64 0, .int .i64 0, .int .i64 0, .int .u64 0, .int .i64 0] h8 fun t12 h9 =>
  ((oLd1 t53 h8 (fun v' _ => v' = t54) → oLd1 t53 h9 (fun v' _ => v' = t54)) ∧ (oLd1 t48 h8 (fun v' _ => v' = t49) → oLd1 t48 h9 (fun v' _ => v' = t49)) ∧ True) ∧
  oSt 6 t12 t56 h9 fun _ h10 =>
  (True) ∧
  (qSeq (aw Try.prog O_catenarylaw11_AcceptPlays K_catenarylaw11_AcceptPlays_8 (Q_catenarylaw11_AcceptPlays_4 K s0)) (Q_catenarylaw11_AcceptPlays_4 K s0)) .normal [v0, v1, (d 2), (d 3), (d 4), v5, v6, v7, (d 8), v9, v10, v11, t12, t57, (d 14), (d 15), (d 16), (d 17), (d 18), (d 19), (d 20), (d 21), (d 22), (d 23), (d 24), (d 25), (d 26), (d 27), (d 28), (d 29), (d 30), (d 31), (d 32), (d 33), (d 34), (d 35), (d 36), (d 37), (d 38), (d 39), (d 40), (d 41), (d 42), (d 43), (d 44), (d 45), (d 46), t55, t48, t49, v0, v7, t52, t53, t54, t55, t56, t57, (d 58), (d 59), (d 60), (d 61), (d 62), (d 63), (d 64), (d 65), (d 66), (d 67), (d 68), (d 69), (d 70), (d 71), (d 72), (d 73), (d 74), (d 75), (d 76), (d 77), (d 78), (d 79), (d 80), (d 81), (d 82), (d 83), (d 84), (d 85), (d 86), (d 87), (d 88), (d 89), (d 90), (d 91), (d 92), (d 93), (d 94)] h10) ∧
  (oAlloc #[.int .i64 0, .int .u64 0, .int .i64 0, .int .i64 0, .int .u64 0, .int .i64 0] h5 fun t12_13 h11 =>
  ((oLd1 t53 h5 (fun v' _ => v' = t54) → oLd1 t53 h11 (fun v' _ => v' = t54)) ∧ (oLd1 t48 h5 (fun v' _ => v' = t49) → oLd1 t48 h11 (fun v' _ => v' = t49)) ∧ True) ∧
  C_catenaryref11_At [t49, t54] h11 fun t55_14 h12 =>
  (True) ∧
  oExtract t55_14 0 h12 fun t56_15 h13 =>
  oExtract t55_14 1 h13 fun t57_16 h14 =>
  oSt 6 t12_13 t56_15 h14 fun _ h15 =>
  (True) ∧
  (qSeq (aw Try.prog O_catenarylaw11_AcceptPlays K_catenarylaw11_AcceptPlays_8 (Q_catenarylaw11_AcceptPlays_4 K s0)) (Q_catenarylaw11_AcceptPlays_4 K s0)) .normal [v0, v1, (d 2), (d 3), (d 4), v5, v6, v7, (d 8), v9, v10, v11, t12_13, t57_16, (d 14), (d 15), (d 16), (d 17), (d 18), (d 19), (d 20), (d 21), (d 22), (d 23), (d 24), (d 25), (d 26), (d 27), (d 28), (d 29), (d 30), (d 31), (d 32), (d 33), (d 34), (d 35), (d 36), (d 37), (d 38), (d 39), (d 40), (d 41), (d 42), (d 43), (d 44), (d 45), (d 46), t55_14, t48, t49, v0, v7, t52, t53, t54, t55_14, t56_15, t57_16, (d 58), (d 59), (d 60), (d 61), (d 62), (d 63), (d 64), (d 65), (d 66), (d 67), (d 68), (d 69), (d 70), (d 71), (d 72), (d 73), (d 74), (d 75), (d 76), (d 77), (d 78), (d 79), (d 80), (d 81), (d 82), (d 83), (d 84), (d 85), (d 86), (d 87), (d 88), (d 89), (d 90), (d 91), (d 92), (d 93), (d 94)] h15)) = R_catenarylaw11_AcceptPlays_4 K s0 v0 v1 v5 v6 v7 v9 v10 v11 d h := by kernel_rfl
theorem req_catenarylaw11_AcceptPlays_4 (K : Kont) (s0 : Self) (v0 : Value) (v1 : Value) (v5 : Value) (v6 : Value) (v7 : Value) (v9 : Value) (v10 : Value) (v11 : Value) (d : Nat → Value) (h : Hp) : G_catenarylaw11_AcceptPlays_4 K s0 v0 v1 v5 v6 v7 v9 v10 v11 d h = R_catenarylaw11_AcceptPlays_4 K s0 v0 v1 v5 v6 v7 v9 v10 v11 d h := (ga_catenarylaw11_AcceptPlays_4 _ v0 v1 v5 v6 v7 v9 v10 v11 d h).trans (gb_catenarylaw11_AcceptPlays_4 K s0 v0 v1 v5 v6 v7 v9 v10 v11 d h)
def R_catenarylaw11_AcceptPlays_5 (K : Kont) (s0 : Self) (v0 : Value) (v1 : Value) (v5 : Value) (v6 : Value) (v7 : Value) (v9 : Value) (v10 : Value) (v11 : Value) (v12 : Value) (v13 : Value) (d : Nat → Value) (h : Hp) : Prop :=
  oNot v9 h fun t59 h1 =>
  oGuard t59 false (fun K => K v5 h1) h1 fun t61 h2 =>
  oGuard t59 false (fun K => oFieldAddr 0 v6 h2 K) h2 fun t63 h3 =>
  oGuard t59 false (fun K => oLd1 t63 h3 K) h3 fun t64 h4 =>
  oGuard t59 false (fun K => C_accept_Acceptor_Promised [t61] h4 K) h4 fun t62 h5 =>
  ((oGuardH t59 false (oLd1 t63 h4 (fun v' _ => v' = t64)) → oGuardH t59 false (oLd1 t63 h5 (fun v' _ => v' = t64))) ∧ True) ∧
  oGuard t59 false (fun K => oBin .neq t62 t64 h5 K) h5 fun t65 h6 =>
  oPick t59 (Go.Value.bool true) t65 h6 fun t66 h7 =>
  oGuard t66 false (fun K => K v5 h7) h7 fun t68 h8 =>
  oGuard t66 false (fun K => oFieldAddr 1 v6 h8 K) h8 fun t70 h9 =>
  oGuard t66 false (fun K => oLd1 t70 h9 K) h9 fun t71 h10 =>
  oGuard t66 false (fun K => oLen 0 t71 h10 K) h10 fun t72 h11 =>
  oGuard t66 false (fun K => C_accept_Acceptor_Len [t68] h11 K) h11 fun t69 h12 =>
  ((oGuardH t66 false (oLen 0 t71 h11 (fun v' _ => v' = t72)) → oGuardH t66 false (oLen 0 t71 h12 (fun v' _ => v' = t72))) ∧ (oGuardH t66 false (oLd1 t70 h11 (fun v' _ => v' = t71)) → oGuardH t66 false (oLd1 t70 h12 (fun v' _ => v' = t71))) ∧ (oGuardH t59 false (oLd1 t63 h11 (fun v' _ => v' = t64)) → oGuardH t59 false (oLd1 t63 h12 (fun v' _ => v' = t64))) ∧ True) ∧
  oGuard t66 false (fun K => oBin .neq t69 t72 h12 K) h12 fun t73 h13 =>
  oPick t66 (Go.Value.bool true) t73 h13 fun t74 h14 =>
  oGuard t74 false (fun K => oLdN 6 v10 h14 K) h14 fun t76 h15 =>
  oGuard t74 false (fun K => oLdN 6 v12 h15 K) h15 fun t77 h16 =>
  oGuard t74 false (fun K => oEq 4 true (some [(0, (.int .i64)), (1, (.int .u64)), (2, (.int .i64)), (3, (.int .i64)), (4, (.int .u64)), (5, (.int .i64))]) t76 t77 h16 K) h16 fun t78 h17 =>
  oPick t74 (Go.Value.bool true) t78 h17 fun t79 h18 =>
  oGuard t79 false (fun K => K v11 h18) h18 fun t81 h19 =>
  oGuard t79 false (fun K => K v13 h19) h19 fun t82 h20 =>
  oGuard t79 false (fun K => oEq 0 true none t81 t82 h20 K) h20 fun t83 h21 =>
  oPick t79 (Go.Value.bool true) t83 h21 fun t84 h22 =>
  oIf t84
  (K (Go.Value.bool false) h22)
  (oFieldAddr 1 v6 h22 fun t88 h23 =>
  oLd1 t88 h23 fun t89 h24 =>
  C_accept_Acceptor_Votes [v5, v1] h24 fun t87 h25 =>
  ((oLd1 t88 h24 (fun v' _ => v' = t89) → oLd1 t88 h25 (fun v' _ => v' = t89)) ∧ True) ∧
  C_catenaryref11_From [t89, v1] h25 fun t91 h26 =>
  (True) ∧
  C_catenaryref10_SameVotes [t87, t91] h26 fun t92 h27 =>
  ((oLd1 t88 h26 (fun v' _ => v' = t89) → oLd1 t88 h27 (fun v' _ => v' = t89)) ∧ True) ∧
  oNot t92 h27 fun t93 h28 =>
  oIf t93
  (K (Go.Value.bool false) h28)
  (oBin .add v7 (Go.Value.int Go.IntKind.i64 1) h28 fun t25 h29 =>
  s0 (E_catenarylaw11_AcceptPlays_1 v0 v1 v5 v6 t25 (dl [v0, v1, (d 2), (d 3), (d 4), v5, v6, t25, (d 8), v9, v10, v11, v12, v13, (d 14), (d 15), (d 16), (d 17), (d 18), (d 19), (d 20), (d 21), (d 22), (d 23), v7, t25, (d 26), (d 27), (d 28), (d 29), (d 30), (d 31), (d 32), (d 33), (d 34), (d 35), (d 36), (d 37), (d 38), (d 39), (d 40), (d 41), (d 42), (d 43), (d 44), (d 45), (d 46), (d 47), (d 48), (d 49), (d 50), (d 51), (d 52), (d 53), (d 54), (d 55), (d 56), (d 57), v9, t59, t59, t61, t62, t63, t64, t65, t66, t66, t68, t69, t70, t71, t72, t73, t74, t74, t76, t77, t78, t79, t79, t81, t82, t83, t84, v5, v1, t87, t88, t89, v1, t91, t92, t93, (d 94)])) h29))
theorem ga_catenarylaw11_AcceptPlays_5 (Qv : Post) (v0 : Value) (v1 : Value) (v5 : Value) (v6 : Value) (v7 : Value) (v9 : Value) (v10 : Value) (v11 : Value) (v12 : Value) (v13 : Value) (d : Nat → Value) (h : Hp) : aw Try.prog O_catenarylaw11_AcceptPlays K_catenarylaw11_AcceptPlays_8 Qv (E_catenarylaw11_AcceptPlays_5 v0 v1 v5 v6 v7 v9 v10 v11 v12 v13 d) h = (oNot v9 h fun t59 h1 =>
  oGuard t59 false (fun K => K v5 h1) h1 fun t61 h2 =>
  oGuard t59 false (fun K => oFieldAddr 0 v6 h2 K) h2 fun t63 h3 =>
  oGuard t59 false (fun K => oLd1 t63 h3 K) h3 fun t64 h4 =>
  oGuard t59 false (fun K => C_accept_Acceptor_Promised [t61] h4 K) h4 fun t62 h5 =>
  ((oGuardH t59 false (oLd1 t63 h4 (fun v' _ => v' = t64)) → oGuardH t59 false (oLd1 t63 h5 (fun v' _ => v' = t64))) ∧ True) ∧
  oGuard t59 false (fun K => oBin .neq t62 t64 h5 K) h5 fun t65 h6 =>
  oPick t59 (Go.Value.bool true) t65 h6 fun t66 h7 =>
  oGuard t66 false (fun K => K v5 h7) h7 fun t68 h8 =>
  oGuard t66 false (fun K => oFieldAddr 1 v6 h8 K) h8 fun t70 h9 =>
  oGuard t66 false (fun K => oLd1 t70 h9 K) h9 fun t71 h10 =>
  oGuard t66 false (fun K => oLen 0 t71 h10 K) h10 fun t72 h11 =>
  oGuard t66 false (fun K => C_accept_Acceptor_Len [t68] h11 K) h11 fun t69 h12 =>
  ((oGuardH t66 false (oLen 0 t71 h11 (fun v' _ => v' = t72)) → oGuardH t66 false (oLen 0 t71 h12 (fun v' _ => v' = t72))) ∧ (oGuardH t66 false (oLd1 t70 h11 (fun v' _ => v' = t71)) → oGuardH t66 false (oLd1 t70 h12 (fun v' _ => v' = t71))) ∧ (oGuardH t59 false (oLd1 t63 h11 (fun v' _ => v' = t64)) → oGuardH t59 false (oLd1 t63 h12 (fun v' _ => v' = t64))) ∧ True) ∧
  oGuard t66 false (fun K => oBin .neq t69 t72 h12 K) h12 fun t73 h13 =>
  oPick t66 (Go.Value.bool true) t73 h13 fun t74 h14 =>
  oGuard t74 false (fun K => oLdN 6 v10 h14 K) h14 fun t76 h15 =>
  oGuard t74 false (fun K => oLdN 6 v12 h15 K) h15 fun t77 h16 =>
  oGuard t74 false (fun K => oEq 4 true (some [(0, (.int .i64)), (1, (.int .u64)), (2, (.int .i64)), (3, (.int .i64)), (4, (.int .u64)), (5, (.int .i64))]) t76 t77 h16 K) h16 fun t78 h17 =>
  oPick t74 (Go.Value.bool true) t78 h17 fun t79 h18 =>
  oGuard t79 false (fun K => K v11 h18) h18 fun t81 h19 =>
  oGuard t79 false (fun K => K v13 h19) h19 fun t82 h20 =>
  oGuard t79 false (fun K => oEq 0 true none t81 t82 h20 K) h20 fun t83 h21 =>
  oPick t79 (Go.Value.bool true) t83 h21 fun t84 h22 =>
  oIf t84
  ((qSeq (aw Try.prog O_catenarylaw11_AcceptPlays K_catenarylaw11_AcceptPlays_9 Qv) Qv) .ret [v0, v1, (d 2), (d 3), (Go.Value.bool false), v5, v6, v7, (d 8), v9, v10, v11, v12, v13, (d 14), (d 15), (d 16), (d 17), (d 18), (d 19), (d 20), (d 21), (d 22), (d 23), (d 24), (d 25), (d 26), (d 27), (d 28), (d 29), (d 30), (d 31), (d 32), (d 33), (d 34), (d 35), (d 36), (d 37), (d 38), (d 39), (d 40), (d 41), (d 42), (d 43), (d 44), (d 45), (d 46), (d 47), (d 48), (d 49), (d 50), (d 51), (d 52), (d 53), (d 54), (d 55), (d 56), (d 57), v9, t59, t59, t61, t62, t63, t64, t65, t66, t66, t68, t69, t70, t71, t72, t73, t74, t74, t76, t77, t78, t79, t79, t81, t82, t83, t84, (d 85), (d 86), (d 87), (d 88), (d 89), (d 90), (d 91), (d 92), (d 93), (d 94)] h22)
  (oFieldAddr 1 v6 h22 fun t88 h23 =>
  oLd1 t88 h23 fun t89 h24 =>
  C_accept_Acceptor_Votes [v5, v1] h24 fun t87 h25 =>
  ((oLd1 t88 h24 (fun v' _ => v' = t89) → oLd1 t88 h25 (fun v' _ => v' = t89)) ∧ True) ∧
  C_catenaryref11_From [t89, v1] h25 fun t91 h26 =>
  (True) ∧
  C_catenaryref10_SameVotes [t87, t91] h26 fun t92 h27 =>
  ((oLd1 t88 h26 (fun v' _ => v' = t89) → oLd1 t88 h27 (fun v' _ => v' = t89)) ∧ True) ∧
  oNot t92 h27 fun t93 h28 =>
  oIf t93
  (Qv .ret [v0, v1, (d 2), (d 3), (Go.Value.bool false), v5, v6, v7, (d 8), v9, v10, v11, v12, v13, (d 14), (d 15), (d 16), (d 17), (d 18), (d 19), (d 20), (d 21), (d 22), (d 23), (d 24), (d 25), (d 26), (d 27), (d 28), (d 29), (d 30), (d 31), (d 32), (d 33), (d 34), (d 35), (d 36), (d 37), (d 38), (d 39), (d 40), (d 41), (d 42), (d 43), (d 44), (d 45), (d 46), (d 47), (d 48), (d 49), (d 50), (d 51), (d 52), (d 53), (d 54), (d 55), (d 56), (d 57), v9, t59, t59, t61, t62, t63, t64, t65, t66, t66, t68, t69, t70, t71, t72, t73, t74, t74, t76, t77, t78, t79, t79, t81, t82, t83, t84, v5, v1, t87, t88, t89, v1, t91, t92, t93, (d 94)] h28)
  (Qv .normal [v0, v1, (d 2), (d 3), (d 4), v5, v6, v7, (d 8), v9, v10, v11, v12, v13, (d 14), (d 15), (d 16), (d 17), (d 18), (d 19), (d 20), (d 21), (d 22), (d 23), (d 24), (d 25), (d 26), (d 27), (d 28), (d 29), (d 30), (d 31), (d 32), (d 33), (d 34), (d 35), (d 36), (d 37), (d 38), (d 39), (d 40), (d 41), (d 42), (d 43), (d 44), (d 45), (d 46), (d 47), (d 48), (d 49), (d 50), (d 51), (d 52), (d 53), (d 54), (d 55), (d 56), (d 57), v9, t59, t59, t61, t62, t63, t64, t65, t66, t66, t68, t69, t70, t71, t72, t73, t74, t74, t76, t77, t78, t79, t79, t81, t82, t83, t84, v5, v1, t87, t88, t89, v1, t91, t92, t93, (d 94)] h28))) := by kernel_rfl
theorem gb_catenarylaw11_AcceptPlays_5 (K : Kont) (s0 : Self) (v0 : Value) (v1 : Value) (v5 : Value) (v6 : Value) (v7 : Value) (v9 : Value) (v10 : Value) (v11 : Value) (v12 : Value) (v13 : Value) (d : Nat → Value) (h : Hp) : (oNot v9 h fun t59 h1 =>
  oGuard t59 false (fun K => K v5 h1) h1 fun t61 h2 =>
  oGuard t59 false (fun K => oFieldAddr 0 v6 h2 K) h2 fun t63 h3 =>
  oGuard t59 false (fun K => oLd1 t63 h3 K) h3 fun t64 h4 =>
  oGuard t59 false (fun K => C_accept_Acceptor_Promised [t61] h4 K) h4 fun t62 h5 =>
  ((oGuardH t59 false (oLd1 t63 h4 (fun v' _ => v' = t64)) → oGuardH t59 false (oLd1 t63 h5 (fun v' _ => v' = t64))) ∧ True) ∧
  oGuard t59 false (fun K => oBin .neq t62 t64 h5 K) h5 fun t65 h6 =>
  oPick t59 (Go.Value.bool true) t65 h6 fun t66 h7 =>
  oGuard t66 false (fun K => K v5 h7) h7 fun t68 h8 =>
  oGuard t66 false (fun K => oFieldAddr 1 v6 h8 K) h8 fun t70 h9 =>
  oGuard t66 false (fun K => oLd1 t70 h9 K) h9 fun t71 h10 =>
  oGuard t66 false (fun K => oLen 0 t71 h10 K) h10 fun t72 h11 =>
  oGuard t66 false (fun K => C_accept_Acceptor_Len [t68] h11 K) h11 fun t69 h12 =>
  ((oGuardH t66 false (oLen 0 t71 h11 (fun v' _ => v' = t72)) → oGuardH t66 false (oLen 0 t71 h12 (fun v' _ => v' = t72))) ∧ (oGuardH t66 false (oLd1 t70 h11 (fun v' _ => v' = t71)) → oGuardH t66 false (oLd1 t70 h12 (fun v' _ => v' = t71))) ∧ (oGuardH t59 false (oLd1 t63 h11 (fun v' _ => v' = t64)) → oGuardH t59 false (oLd1 t63 h12 (fun v' _ => v' = t64))) ∧ True) ∧
  oGuard t66 false (fun K => oBin .neq t69 t72 h12 K) h12 fun t73 h13 =>
  oPick t66 (Go.Value.bool true) t73 h13 fun t74 h14 =>
  oGuard t74 false (fun K => oLdN 6 v10 h14 K) h14 fun t76 h15 =>
  oGuard t74 false (fun K => oLdN 6 v12 h15 K) h15 fun t77 h16 =>
  oGuard t74 false (fun K => oEq 4 true (some [(0, (.int .i64)), (1, (.int .u64)), (2, (.int .i64)), (3, (.int .i64)), (4, (.int .u64)), (5, (.int .i64))]) t76 t77 h16 K) h16 fun t78 h17 =>
  oPick t74 (Go.Value.bool true) t78 h17 fun t79 h18 =>
  oGuard t79 false (fun K => K v11 h18) h18 fun t81 h19 =>
  oGuard t79 false (fun K => K v13 h19) h19 fun t82 h20 =>
  oGuard t79 false (fun K => oEq 0 true none t81 t82 h20 K) h20 fun t83 h21 =>
  oPick t79 (Go.Value.bool true) t83 h21 fun t84 h22 =>
  oIf t84
  ((qSeq (aw Try.prog O_catenarylaw11_AcceptPlays K_catenarylaw11_AcceptPlays_9 (Q_catenarylaw11_AcceptPlays_4 K s0)) (Q_catenarylaw11_AcceptPlays_4 K s0)) .ret [v0, v1, (d 2), (d 3), (Go.Value.bool false), v5, v6, v7, (d 8), v9, v10, v11, v12, v13, (d 14), (d 15), (d 16), (d 17), (d 18), (d 19), (d 20), (d 21), (d 22), (d 23), (d 24), (d 25), (d 26), (d 27), (d 28), (d 29), (d 30), (d 31), (d 32), (d 33), (d 34), (d 35), (d 36), (d 37), (d 38), (d 39), (d 40), (d 41), (d 42), (d 43), (d 44), (d 45), (d 46), (d 47), (d 48), (d 49), (d 50), (d 51), (d 52), (d 53), (d 54), (d 55), (d 56), (d 57), v9, t59, t59, t61, t62, t63, t64, t65, t66, t66, t68, t69, t70, t71, t72, t73, t74, t74, t76, t77, t78, t79, t79, t81, t82, t83, t84, (d 85), (d 86), (d 87), (d 88), (d 89), (d 90), (d 91), (d 92), (d 93), (d 94)] h22)
  (oFieldAddr 1 v6 h22 fun t88 h23 =>
  oLd1 t88 h23 fun t89 h24 =>
  C_accept_Acceptor_Votes [v5, v1] h24 fun t87 h25 =>
  ((oLd1 t88 h24 (fun v' _ => v' = t89) → oLd1 t88 h25 (fun v' _ => v' = t89)) ∧ True) ∧
  C_catenaryref11_From [t89, v1] h25 fun t91 h26 =>
  (True) ∧
  C_catenaryref10_SameVotes [t87, t91] h26 fun t92 h27 =>
  ((oLd1 t88 h26 (fun v' _ => v' = t89) → oLd1 t88 h27 (fun v' _ => v' = t89)) ∧ True) ∧
  oNot t92 h27 fun t93 h28 =>
  oIf t93
  ((Q_catenarylaw11_AcceptPlays_4 K s0) .ret [v0, v1, (d 2), (d 3), (Go.Value.bool false), v5, v6, v7, (d 8), v9, v10, v11, v12, v13, (d 14), (d 15), (d 16), (d 17), (d 18), (d 19), (d 20), (d 21), (d 22), (d 23), (d 24), (d 25), (d 26), (d 27), (d 28), (d 29), (d 30), (d 31), (d 32), (d 33), (d 34), (d 35), (d 36), (d 37), (d 38), (d 39), (d 40), (d 41), (d 42), (d 43), (d 44), (d 45), (d 46), (d 47), (d 48), (d 49), (d 50), (d 51), (d 52), (d 53), (d 54), (d 55), (d 56), (d 57), v9, t59, t59, t61, t62, t63, t64, t65, t66, t66, t68, t69, t70, t71, t72, t73, t74, t74, t76, t77, t78, t79, t79, t81, t82, t83, t84, v5, v1, t87, t88, t89, v1, t91, t92, t93, (d 94)] h28)
  ((Q_catenarylaw11_AcceptPlays_4 K s0) .normal [v0, v1, (d 2), (d 3), (d 4), v5, v6, v7, (d 8), v9, v10, v11, v12, v13, (d 14), (d 15), (d 16), (d 17), (d 18), (d 19), (d 20), (d 21), (d 22), (d 23), (d 24), (d 25), (d 26), (d 27), (d 28), (d 29), (d 30), (d 31), (d 32), (d 33), (d 34), (d 35), (d 36), (d 37), (d 38), (d 39), (d 40), (d 41), (d 42), (d 43), (d 44), (d 45), (d 46), (d 47), (d 48), (d 49), (d 50), (d 51), (d 52), (d 53), (d 54), (d 55), (d 56), (d 57), v9, t59, t59, t61, t62, t63, t64, t65, t66, t66, t68, t69, t70, t71, t72, t73, t74, t74, t76, t77, t78, t79, t79, t81, t82, t83, t84, v5, v1, t87, t88, t89, v1, t91, t92, t93, (d 94)] h28))) = R_catenarylaw11_AcceptPlays_5 K s0 v0 v1 v5 v6 v7 v9 v10 v11 v12 v13 d h := by kernel_rfl
theorem req_catenarylaw11_AcceptPlays_5 (K : Kont) (s0 : Self) (v0 : Value) (v1 : Value) (v5 : Value) (v6 : Value) (v7 : Value) (v9 : Value) (v10 : Value) (v11 : Value) (v12 : Value) (v13 : Value) (d : Nat → Value) (h : Hp) : G_catenarylaw11_AcceptPlays_5 K s0 v0 v1 v5 v6 v7 v9 v10 v11 v12 v13 d h = R_catenarylaw11_AcceptPlays_5 K s0 v0 v1 v5 v6 v7 v9 v10 v11 v12 v13 d h := (ga_catenarylaw11_AcceptPlays_5 _ v0 v1 v5 v6 v7 v9 v10 v11 v12 v13 d h).trans (gb_catenarylaw11_AcceptPlays_5 K s0 v0 v1 v5 v6 v7 v9 v10 v11 v12 v13 d h)

end Go.Proofs.Ytdolepapmpcpiaa
