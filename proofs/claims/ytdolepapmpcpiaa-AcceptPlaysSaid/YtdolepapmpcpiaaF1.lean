/- What functions of the program ask of the seen heap (written by a program of this proof, vgen.py). -/
import Derived.Test.YtdolepapmpcpiaaFC
import Derived.Test.YtdolepapmpcpiaaProg
namespace Go.Proofs.Ytdolepapmpcpiaa
open Go
set_option linter.unusedSectionVars false
variable [Base]
set_option linter.unusedVariables false
set_option maxRecDepth 100000

/-! ### catenary/catenarylaw11.AcceptRises: function 4 -/
def O_catenarylaw11_AcceptRises : Od := [(8, (.one 0 true (.one 1 true (.one 2 true (.one 3 true (.one 4 true (.one 5 true (.one 6 true (.one 7 true (.one 8 true (.one 9 true (.one 10 true (.one 11 false .nil))))))))))))), (9, (.one 0 true (.one 1 true (.one 2 true (.one 3 true (.one 4 true (.one 5 true (.one 6 true (.one 7 true (.one 8 true (.one 9 true (.one 10 true (.one 11 true (.one 12 true (.one 13 true (.one 14 true (.one 15 true (.one 16 false .nil)))))))))))))))))), (16, (.one 0 true (.one 1 true (.one 2 true (.one 3 true (.one 4 true (.one 5 true (.one 6 true (.one 7 true (.one 8 true (.one 9 true (.one 10 true (.one 11 true (.one 12 true (.one 13 true (.one 14 true (.one 15 true (.one 16 true (.one 17 true (.one 18 true (.one 19 true (.one 20 true (.one 21 true (.one 22 true (.one 23 true (.one 24 true (.one 25 true (.one 26 true (.one 27 true (.one 28 false (.one 29 true (.one 30 true (.one 31 true (.one 32 true .nil))))))))))))))))))))))))))))))))))]
noncomputable def K_catenarylaw11_AcceptRises_0 : Code := (cI (cB (cA (cB (cB (bodyC Try.f4))))))
noncomputable def K_catenarylaw11_AcceptRises_1 : Code := (cB (cB (cB (bodyC Try.f4))))
def Q_catenarylaw11_AcceptRises_0 (K : Kont) : Post := qSeq (aw Try.prog O_catenarylaw11_AcceptRises K_catenarylaw11_AcceptRises_1 (qTop Try.prog Try.f4 K)) (qTop Try.prog Try.f4 K)
def Q_catenarylaw11_AcceptRises_1 (K : Kont) : Post := qBlk 0 (Q_catenarylaw11_AcceptRises_0 K)
def E_catenarylaw11_AcceptRises_1 (v0 : Value) (v3 : Value) (v4 : Value) (d : Nat → Value) : List Value := [v0, d 1, d 2, v3, v4, d 5, d 6, d 7, d 8, d 9, d 10, d 11, d 12, d 13, d 14, d 15, d 16, d 17, d 18, d 19, d 20, d 21, d 22, d 23, d 24, d 25, d 26, d 27, d 28, d 29, d 30, d 31, d 32, d 33, d 34, d 35, d 36, d 37, d 38, d 39, d 40, d 41, d 42, d 43, d 44, d 45, d 46, d 47, d 48, d 49, d 50, d 51, d 52, d 53, d 54, d 55, d 56, d 57, d 58, d 59, d 60, d 61, d 62, d 63, d 64, d 65, d 66, d 67, d 68, d 69, d 70, d 71, d 72, d 73, d 74, d 75, d 76, d 77, d 78, d 79, d 80, d 81, d 82, d 83, d 84, d 85, d 86, d 87, d 88, d 89, d 90, d 91, d 92, d 93, d 94, d 95, d 96, d 97, d 98, d 99, d 100, d 101, d 102, d 103, d 104, d 105, d 106, d 107, d 108, d 109, d 110, d 111, d 112, d 113]
def G_catenarylaw11_AcceptRises_1 (K : Kont) (v0 : Value) (v3 : Value) (v4 : Value) (d : Nat → Value) (h : Hp) : Prop := aw Try.prog O_catenarylaw11_AcceptRises K_catenarylaw11_AcceptRises_0 (Q_catenarylaw11_AcceptRises_1 K) (E_catenarylaw11_AcceptRises_1 v0 v3 v4 d) h
def Q_catenarylaw11_AcceptRises_2 (K : Kont) (s0 : Self) : Post := qSeq s0 (Q_catenarylaw11_AcceptRises_1 K)
noncomputable def K_catenarylaw11_AcceptRises_2 : Code := (cI (cI (cB (cA (cB (cB (bodyC Try.f4)))))))
noncomputable def K_catenarylaw11_AcceptRises_3 : Code := (cB (cB (cB (cI (cA (cB (cI (cI (cB (cA (cB (cB (bodyC Try.f4)))))))))))))
noncomputable def K_catenarylaw11_AcceptRises_4 : Code := (cB (cB (cI (cI (cB (cA (cB (cB (bodyC Try.f4)))))))))
def Q_catenarylaw11_AcceptRises_3 (K : Kont) (s0 : Self) : Post := qSeq (aw Try.prog O_catenarylaw11_AcceptRises K_catenarylaw11_AcceptRises_4 (Q_catenarylaw11_AcceptRises_2 K s0)) (Q_catenarylaw11_AcceptRises_2 K s0)
def Q_catenarylaw11_AcceptRises_4 (K : Kont) (s0 : Self) : Post := qBlk 1 (Q_catenarylaw11_AcceptRises_3 K s0)
def E_catenarylaw11_AcceptRises_2 (v0 : Value) (v3 : Value) (v4 : Value) (v5 : Value) (v6 : Value) (d : Nat → Value) : List Value := [v0, d 1, d 2, v3, v4, v5, v6, d 7, d 8, d 9, d 10, d 11, d 12, d 13, d 14, d 15, d 16, d 17, d 18, d 19, d 20, d 21, d 22, d 23, d 24, d 25, d 26, d 27, d 28, d 29, d 30, d 31, d 32, d 33, d 34, d 35, d 36, d 37, d 38, d 39, d 40, d 41, d 42, d 43, d 44, d 45, d 46, d 47, d 48, d 49, d 50, d 51, d 52, d 53, d 54, d 55, d 56, d 57, d 58, d 59, d 60, d 61, d 62, d 63, d 64, d 65, d 66, d 67, d 68, d 69, d 70, d 71, d 72, d 73, d 74, d 75, d 76, d 77, d 78, d 79, d 80, d 81, d 82, d 83, d 84, d 85, d 86, d 87, d 88, d 89, d 90, d 91, d 92, d 93, d 94, d 95, d 96, d 97, d 98, d 99, d 100, d 101, d 102, d 103, d 104, d 105, d 106, d 107, d 108, d 109, d 110, d 111, d 112, d 113]
def G_catenarylaw11_AcceptRises_2 (K : Kont) (s0 : Self) (v0 : Value) (v3 : Value) (v4 : Value) (v5 : Value) (v6 : Value) (d : Nat → Value) (h : Hp) : Prop := aw Try.prog O_catenarylaw11_AcceptRises K_catenarylaw11_AcceptRises_3 (Q_catenarylaw11_AcceptRises_4 K s0) (E_catenarylaw11_AcceptRises_2 v0 v3 v4 v5 v6 d) h
noncomputable def K_catenarylaw11_AcceptRises_5 : Code := (cB (cI (cI (cB (cA (cB (cB (bodyC Try.f4))))))))
noncomputable def K_catenarylaw11_AcceptRises_6 : Code := (cI (cB (cB (cB (cB (cB (cI (cA (cB (cI (cI (cB (cA (cB (cB (bodyC Try.f4))))))))))))))))
def Q_catenarylaw11_AcceptRises_5 (K : Kont) (s0 : Self) : Post := qBlk 2 (Q_catenarylaw11_AcceptRises_4 K s0)
def E_catenarylaw11_AcceptRises_3 (v0 : Value) (v3 : Value) (v4 : Value) (v5 : Value) (v6 : Value) (v7 : Value) (d : Nat → Value) : List Value := [v0, d 1, d 2, v3, v4, v5, v6, v7, d 8, d 9, d 10, d 11, d 12, d 13, d 14, d 15, d 16, d 17, d 18, d 19, d 20, d 21, d 22, d 23, d 24, d 25, d 26, d 27, d 28, d 29, d 30, d 31, d 32, d 33, d 34, d 35, d 36, d 37, d 38, d 39, d 40, d 41, d 42, d 43, d 44, d 45, d 46, d 47, d 48, d 49, d 50, d 51, d 52, d 53, d 54, d 55, d 56, d 57, d 58, d 59, d 60, d 61, d 62, d 63, d 64, d 65, d 66, d 67, d 68, d 69, d 70, d 71, d 72, d 73, d 74, d 75, d 76, d 77, d 78, d 79, d 80, d 81, d 82, d 83, d 84, d 85, d 86, d 87, d 88, d 89, d 90, d 91, d 92, d 93, d 94, d 95, d 96, d 97, d 98, d 99, d 100, d 101, d 102, d 103, d 104, d 105, d 106, d 107, d 108, d 109, d 110, d 111, d 112, d 113]
def G_catenarylaw11_AcceptRises_3 (K : Kont) (s0 : Self) (v0 : Value) (v3 : Value) (v4 : Value) (v5 : Value) (v6 : Value) (v7 : Value) (d : Nat → Value) (h : Hp) : Prop := aw Try.prog O_catenarylaw11_AcceptRises K_catenarylaw11_AcceptRises_6 (Q_catenarylaw11_AcceptRises_5 K s0) (E_catenarylaw11_AcceptRises_3 v0 v3 v4 v5 v6 v7 d) h
noncomputable def K_catenarylaw11_AcceptRises_7 : Code := (cB (cB (cB (cB (cI (cA (cB (cI (cI (cB (cA (cB (cB (bodyC Try.f4))))))))))))))
def Q_catenarylaw11_AcceptRises_6 (K : Kont) (s0 : Self) (s1 : Self) : Post := qSeq s1 (Q_catenarylaw11_AcceptRises_5 K s0)
noncomputable def K_catenarylaw11_AcceptRises_8 : Code := (cI (cI (cB (cB (cB (cB (cB (cI (cA (cB (cI (cI (cB (cA (cB (cB (bodyC Try.f4)))))))))))))))))
noncomputable def K_catenarylaw11_AcceptRises_9 : Code := (cB (cB (cI (cI (cB (cB (cB (cB (cB (cI (cA (cB (cI (cI (cB (cA (cB (cB (bodyC Try.f4)))))))))))))))))))
noncomputable def K_catenarylaw11_AcceptRises_10 : Code := (cB (cI (cI (cB (cB (cB (cB (cB (cI (cA (cB (cI (cI (cB (cA (cB (cB (bodyC Try.f4))))))))))))))))))
def G_catenarylaw11_AcceptRises (a0 : Value) (h : Hp) (K : Kont) : Prop :=
  C_accept_New [] h fun t10 h1 =>
  G_catenarylaw11_AcceptRises_1 K a0 t10 (Go.Value.int Go.IntKind.i64 0) (dl [a0, undef, (Go.Value.bool false), t10, (Go.Value.int Go.IntKind.i64 0), undef, undef, undef, undef, undef, t10, undef, undef, undef, undef, undef, undef, undef, undef, undef, undef, undef, undef, undef, undef, undef, undef, undef, undef, undef, undef, undef, undef, undef, undef, undef, undef, undef, undef, undef, undef, undef, undef, undef, undef, undef, undef, undef, undef, undef, undef, undef, undef, undef, undef, undef, undef, undef, undef, undef, undef, undef, undef, undef, undef, undef, undef, undef, undef, undef, undef, undef, undef, undef, undef, undef, undef, undef, undef, undef, undef, undef, undef, undef, undef, undef, undef, undef, undef, undef, undef, undef, undef, undef, undef, undef, undef, undef, undef, undef, undef, undef, undef, undef, undef, undef, undef, undef, undef, undef, undef, undef, undef, undef]) h1
theorem ga_catenarylaw11_AcceptRises (Qv : Post) (a0 : Value) (h : Hp) : aw Try.prog O_catenarylaw11_AcceptRises (bodyC Try.f4) Qv [a0, undef, undef, undef, undef, undef, undef, undef, undef, undef, undef, undef, undef, undef, undef, undef, undef, undef, undef, undef, undef, undef, undef, undef, undef, undef, undef, undef, undef, undef, undef, undef, undef, undef, undef, undef, undef, undef, undef, undef, undef, undef, undef, undef, undef, undef, undef, undef, undef, undef, undef, undef, undef, undef, undef, undef, undef, undef, undef, undef, undef, undef, undef, undef, undef, undef, undef, undef, undef, undef, undef, undef, undef, undef, undef, undef, undef, undef, undef, undef, undef, undef, undef, undef, undef, undef, undef, undef, undef, undef, undef, undef, undef, undef, undef, undef, undef, undef, undef, undef, undef, undef, undef, undef, undef, undef, undef, undef, undef, undef, undef, undef, undef, undef] h = (C_accept_New [] h fun t10 h1 =>
  aw Try.prog O_catenarylaw11_AcceptRises K_catenarylaw11_AcceptRises_0 (qBlk 0 (qSeq (aw Try.prog O_catenarylaw11_AcceptRises K_catenarylaw11_AcceptRises_1 Qv) Qv)) [a0, undef, (Go.Value.bool false), t10, (Go.Value.int Go.IntKind.i64 0), undef, undef, undef, undef, undef, t10, undef, undef, undef, undef, undef, undef, undef, undef, undef, undef, undef, undef, undef, undef, undef, undef, undef, undef, undef, undef, undef, undef, undef, undef, undef, undef, undef, undef, undef, undef, undef, undef, undef, undef, undef, undef, undef, undef, undef, undef, undef, undef, undef, undef, undef, undef, undef, undef, undef, undef, undef, undef, undef, undef, undef, undef, undef, undef, undef, undef, undef, undef, undef, undef, undef, undef, undef, undef, undef, undef, undef, undef, undef, undef, undef, undef, undef, undef, undef, undef, undef, undef, undef, undef, undef, undef, undef, undef, undef, undef, undef, undef, undef, undef, undef, undef, undef, undef, undef, undef, undef, undef, undef] h1) := by kernel_rfl
theorem gb_catenarylaw11_AcceptRises (a0 : Value) (h : Hp) (K : Kont) : (C_accept_New [] h fun t10 h1 =>
  aw Try.prog O_catenarylaw11_AcceptRises K_catenarylaw11_AcceptRises_0 (qBlk 0 (qSeq (aw Try.prog O_catenarylaw11_AcceptRises K_catenarylaw11_AcceptRises_1 (qTop Try.prog Try.f4 K)) (qTop Try.prog Try.f4 K))) [a0, undef, (Go.Value.bool false), t10, (Go.Value.int Go.IntKind.i64 0), undef, undef, undef, undef, undef, t10, undef, undef, undef, undef, undef, undef, undef, undef, undef, undef, undef, undef, undef, undef, undef, undef, undef, undef, undef, undef, undef, undef, undef, undef, undef, undef, undef, undef, undef, undef, undef, undef, undef, undef, undef, undef, undef, undef, undef, undef, undef, undef, undef, undef, undef, undef, undef, undef, undef, undef, undef, undef, undef, undef, undef, undef, undef, undef, undef, undef, undef, undef, undef, undef, undef, undef, undef, undef, undef, undef, undef, undef, undef, undef, undef, undef, undef, undef, undef, undef, undef, undef, undef, undef, undef, undef, undef, undef, undef, undef, undef, undef, undef, undef, undef, undef, undef, undef, undef, undef, undef, undef, undef] h1) = G_catenarylaw11_AcceptRises a0 h K := by kernel_rfl
theorem gc_catenarylaw11_AcceptRises (a0 : Value) (h : Hp) (K : Kont) : abody Try.prog O_catenarylaw11_AcceptRises Try.f4 (bodyC Try.f4) [a0] h K = aw Try.prog O_catenarylaw11_AcceptRises (bodyC Try.f4) (qTop Try.prog Try.f4 K) [a0, undef, undef, undef, undef, undef, undef, undef, undef, undef, undef, undef, undef, undef, undef, undef, undef, undef, undef, undef, undef, undef, undef, undef, undef, undef, undef, undef, undef, undef, undef, undef, undef, undef, undef, undef, undef, undef, undef, undef, undef, undef, undef, undef, undef, undef, undef, undef, undef, undef, undef, undef, undef, undef, undef, undef, undef, undef, undef, undef, undef, undef, undef, undef, undef, undef, undef, undef, undef, undef, undef, undef, undef, undef, undef, undef, undef, undef, undef, undef, undef, undef, undef, undef, undef, undef, undef, undef, undef, undef, undef, undef, undef, undef, undef, undef, undef, undef, undef, undef, undef, undef, undef, undef, undef, undef, undef, undef, undef, undef, undef, undef, undef, undef] h := by kernel_rfl
theorem eq_catenarylaw11_AcceptRises (a0 : Value) (h : Hp) (K : Kont) : abody Try.prog O_catenarylaw11_AcceptRises Try.f4 (bodyC Try.f4) [a0] h K = G_catenarylaw11_AcceptRises a0 h K := (gc_catenarylaw11_AcceptRises a0 h K).trans ((ga_catenarylaw11_AcceptRises _ a0 h).trans (gb_catenarylaw11_AcceptRises a0 h K))
theorem ok_catenarylaw11_AcceptRises {a0 : Value} {h : Hp} {K : Kont} (hk : G_catenarylaw11_AcceptRises a0 h K) : C_catenarylaw11_AcceptRises [a0] h K := ac_of_body prog_mixed (fn := Try.f4) Try.func4 (c := bodyC Try.f4) (by kernel_rfl) ((eq_catenarylaw11_AcceptRises a0 h K).mpr hk)
def B_catenarylaw11_AcceptRises_1 (K : Kont) (s0 : Self) (v0 : Value) (v3 : Value) (v4 : Value) (d : Nat → Value) (h : Hp) : Prop :=
  oLen 0 v0 h fun t13 h1 =>
  oBin .lss v4 t13 h1 fun t14 h2 =>
  oGuard t14 true (fun K => K v4 h2) h2 fun t16 h3 =>
  oGuard t14 true (fun K => oBin .lss t16 (Go.Value.int Go.IntKind.i64 60) h3 K) h3 fun t17 h4 =>
  oPick t14 t17 (Go.Value.bool false) h4 fun t18 h5 =>
  oIf t18
  (C_accept_Acceptor_Promised [v3] h5 fun t22 h6 =>
  C_accept_Acceptor_Votes [v3, (Go.Value.int Go.IntKind.i64 0)] h6 fun t24 h7 =>
  oIdxS 7 v0 v4 h7 fun t27 h8 =>
  oFieldAddr 0 t27 h8 fun t28 h9 =>
  oLd1 t28 h9 fun t29 h10 =>
  oBin .eql t29 (Go.Value.int Go.IntKind.i64 0) h10 fun t30 h11 =>
  oIf t30
  (oIdxS 7 v0 v4 h11 fun t34 h12 =>
  oFieldAddr 1 t34 h12 fun t35 h13 =>
  oLd1 t35 h13 fun t36 h14 =>
  oIdxS 7 v0 v4 h14 fun t39 h15 =>
  oFieldAddr 2 t39 h15 fun t40 h16 =>
  oLd1 t40 h16 fun t41 h17 =>
  C_accept_Acceptor_Prepare [v3, t36, t41] h17 fun t42 h18 =>
  (True) ∧
  G_catenarylaw11_AcceptRises_2 K s0 v0 v3 v4 t22 t24 (dl [v0, (d 1), (d 2), v3, v4, t22, t24, (d 7), (d 8), (d 9), (d 10), v4, v0, t13, t14, t14, t16, t17, t18, (d 19), (d 20), v3, t22, v3, t24, v0, v4, t27, t28, t29, t30, v3, v0, v4, t34, t35, t36, v0, v4, t39, t40, t41, t42, (d 43), (d 44), (d 45), (d 46), (d 47), (d 48), (d 49), (d 50), (d 51), (d 52), (d 53), (d 54), (d 55), (d 56), (d 57), (d 58), (d 59), (d 60), (d 61), (d 62), (d 63), (d 64), (d 65), (d 66), (d 67), (d 68), (d 69), (d 70), (d 71), (d 72), (d 73), (d 74), (d 75), (d 76), (d 77), (d 78), (d 79), (d 80), (d 81), (d 82), (d 83), (d 84), (d 85), (d 86), (d 87), (d 88), (d 89), (d 90), (d 91), (d 92), (d 93), (d 94), (d 95), (d 96), (d 97), (d 98), (d 99), (d 100), (d 101), (d 102), (d 103), (d 104), (d 105), (d 106), (d 107), (d 108), (d 109), (d 110), (d 111), (d 112), (d 113)]) h18)
  (oIdxS 7 v0 v4 h11 fun t46 h19 =>
  oFieldAddr 1 t46 h19 fun t47 h20 =>
  oLd1 t47 h20 fun t48 h21 =>
  oIdxS 7 v0 v4 h21 fun t51 h22 =>
  oFieldAddr 2 t51 h22 fun t52 h23 =>
  oLd1 t52 h23 fun t53 h24 =>
  oIdxS 7 v0 v4 h24 fun t56 h25 =>
  oFieldAddr 3 t56 h25 fun t57 h26 =>
  oLdN 4 t57 h26 fun t58 h27 =>
  C_accept_Acceptor_Accept [v3, t48, t53, t58] h27 fun t59 h28 =>
  (True) ∧
  G_catenarylaw11_AcceptRises_2 K s0 v0 v3 v4 t22 t24 (dl [v0, (d 1), (d 2), v3, v4, t22, t24, (d 7), (d 8), (d 9), (d 10), v4, v0, t13, t14, t14, t16, t17, t18, (d 19), (d 20), v3, t22, v3, t24, v0, v4, t27, t28, t29, t30, (d 31), (d 32), (d 33), (d 34), (d 35), (d 36), (d 37), (d 38), (d 39), (d 40), (d 41), (d 42), v3, v0, v4, t46, t47, t48, v0, v4, t51, t52, t53, v0, v4, t56, t57, t58, t59, (d 60), (d 61), (d 62), (d 63), (d 64), (d 65), (d 66), (d 67), (d 68), (d 69), (d 70), (d 71), (d 72), (d 73), (d 74), (d 75), (d 76), (d 77), (d 78), (d 79), (d 80), (d 81), (d 82), (d 83), (d 84), (d 85), (d 86), (d 87), (d 88), (d 89), (d 90), (d 91), (d 92), (d 93), (d 94), (d 95), (d 96), (d 97), (d 98), (d 99), (d 100), (d 101), (d 102), (d 103), (d 104), (d 105), (d 106), (d 107), (d 108), (d 109), (d 110), (d 111), (d 112), (d 113)]) h28))
  (C_catenarylaw11_awake [] h5 fun t113 h29 =>
  K t113 h29)
theorem ga_catenarylaw11_AcceptRises_1 (Qv : Post) (v0 : Value) (v3 : Value) (v4 : Value) (d : Nat → Value) (h : Hp) : aw Try.prog O_catenarylaw11_AcceptRises K_catenarylaw11_AcceptRises_2 Qv (E_catenarylaw11_AcceptRises_1 v0 v3 v4 d) h = (oLen 0 v0 h fun t13 h1 =>
  oBin .lss v4 t13 h1 fun t14 h2 =>
  oGuard t14 true (fun K => K v4 h2) h2 fun t16 h3 =>
  oGuard t14 true (fun K => oBin .lss t16 (Go.Value.int Go.IntKind.i64 60) h3 K) h3 fun t17 h4 =>
  oPick t14 t17 (Go.Value.bool false) h4 fun t18 h5 =>
  oIf t18
  (C_accept_Acceptor_Promised [v3] h5 fun t22 h6 =>
  C_accept_Acceptor_Votes [v3, (Go.Value.int Go.IntKind.i64 0)] h6 fun t24 h7 =>
  oIdxS 7 v0 v4 h7 fun t27 h8 =>
  oFieldAddr 0 t27 h8 fun t28 h9 =>
  oLd1 t28 h9 fun t29 h10 =>
  oBin .eql t29 (Go.Value.int Go.IntKind.i64 0) h10 fun t30 h11 =>
  oIf t30
  (oIdxS 7 v0 v4 h11 fun t34 h12 =>
  oFieldAddr 1 t34 h12 fun t35 h13 =>
  oLd1 t35 h13 fun t36 h14 =>
  oIdxS 7 v0 v4 h14 fun t39 h15 =>
  oFieldAddr 2 t39 h15 fun t40 h16 =>
  oLd1 t40 h16 fun t41 h17 =>
  C_accept_Acceptor_Prepare [v3, t36, t41] h17 fun t42 h18 =>
  (True) ∧
  (qSeq (aw Try.prog O_catenarylaw11_AcceptRises K_catenarylaw11_AcceptRises_3 (qBlk 1 (qSeq (aw Try.prog O_catenarylaw11_AcceptRises K_catenarylaw11_AcceptRises_4 Qv) Qv))) (qBlk 1 (qSeq (aw Try.prog O_catenarylaw11_AcceptRises K_catenarylaw11_AcceptRises_4 Qv) Qv))) .normal [v0, (d 1), (d 2), v3, v4, t22, t24, (d 7), (d 8), (d 9), (d 10), v4, v0, t13, t14, t14, t16, t17, t18, (d 19), (d 20), v3, t22, v3, t24, v0, v4, t27, t28, t29, t30, v3, v0, v4, t34, t35, t36, v0, v4, t39, t40, t41, t42, (d 43), (d 44), (d 45), (d 46), (d 47), (d 48), (d 49), (d 50), (d 51), (d 52), (d 53), (d 54), (d 55), (d 56), (d 57), (d 58), (d 59), (d 60), (d 61), (d 62), (d 63), (d 64), (d 65), (d 66), (d 67), (d 68), (d 69), (d 70), (d 71), (d 72), (d 73), (d 74), (d 75), (d 76), (d 77), (d 78), (d 79), (d 80), (d 81), (d 82), (d 83), (d 84), (d 85), (d 86), (d 87), (d 88), (d 89), (d 90), (d 91), (d 92), (d 93), (d 94), (d 95), (d 96), (d 97), (d 98), (d 99), (d 100), (d 101), (d 102), (d 103), (d 104), (d 105), (d 106), (d 107), (d 108), (d 109), (d 110), (d 111), (d 112), (d 113)] h18)
  (oIdxS 7 v0 v4 h11 fun t46 h19 =>
  oFieldAddr 1 t46 h19 fun t47 h20 =>
  oLd1 t47 h20 fun t48 h21 =>
  oIdxS 7 v0 v4 h21 fun t51 h22 =>
  oFieldAddr 2 t51 h22 fun t52 h23 =>
  oLd1 t52 h23 fun t53 h24 =>
  oIdxS 7 v0 v4 h24 fun t56 h25 =>
  oFieldAddr 3 t56 h25 fun t57 h26 =>
  oLdN 4 t57 h26 fun t58 h27 =>
  C_accept_Acceptor_Accept [v3, t48, t53, t58] h27 fun t59 h28 =>
  (True) ∧
  (qSeq (aw Try.prog O_catenarylaw11_AcceptRises K_catenarylaw11_AcceptRises_3 (qBlk 1 (qSeq (aw Try.prog O_catenarylaw11_AcceptRises K_catenarylaw11_AcceptRises_4 Qv) Qv))) (qBlk 1 (qSeq (aw Try.prog O_catenarylaw11_AcceptRises K_catenarylaw11_AcceptRises_4 Qv) Qv))) .normal [v0, (d 1), (d 2), v3, v4, t22, t24, (d 7), (d 8), (d 9), (d 10), v4, v0, t13, t14, t14, t16, t17, t18, (d 19), (d 20), v3, t22, v3, t24, v0, v4, t27, t28, t29, t30, (d 31), (d 32), (d 33), (d 34), (d 35), (d 36), (d 37), (d 38), (d 39), (d 40), (d 41), (d 42), v3, v0, v4, t46, t47, t48, v0, v4, t51, t52, t53, v0, v4, t56, t57, t58, t59, (d 60), (d 61), (d 62), (d 63), (d 64), (d 65), (d 66), (d 67), (d 68), (d 69), (d 70), (d 71), (d 72), (d 73), (d 74), (d 75), (d 76), (d 77), (d 78), (d 79), (d 80), (d 81), (d 82), (d 83), (d 84), (d 85), (d 86), (d 87), (d 88), (d 89), (d 90), (d 91), (d 92), (d 93), (d 94), (d 95), (d 96), (d 97), (d 98), (d 99), (d 100), (d 101), (d 102), (d 103), (d 104), (d 105), (d 106), (d 107), (d 108), (d 109), (d 110), (d 111), (d 112), (d 113)] h28))
  ((qSeq (aw Try.prog O_catenarylaw11_AcceptRises K_catenarylaw11_AcceptRises_5 Qv) Qv) (.exit 0) [v0, (d 1), (d 2), v3, v4, (d 5), (d 6), (d 7), (d 8), (d 9), (d 10), v4, v0, t13, t14, t14, t16, t17, t18, (d 19), (d 20), (d 21), (d 22), (d 23), (d 24), (d 25), (d 26), (d 27), (d 28), (d 29), (d 30), (d 31), (d 32), (d 33), (d 34), (d 35), (d 36), (d 37), (d 38), (d 39), (d 40), (d 41), (d 42), (d 43), (d 44), (d 45), (d 46), (d 47), (d 48), (d 49), (d 50), (d 51), (d 52), (d 53), (d 54), (d 55), (d 56), (d 57), (d 58), (d 59), (d 60), (d 61), (d 62), (d 63), (d 64), (d 65), (d 66), (d 67), (d 68), (d 69), (d 70), (d 71), (d 72), (d 73), (d 74), (d 75), (d 76), (d 77), (d 78), (d 79), (d 80), (d 81), (d 82), (d 83), (d 84), (d 85), (d 86), (d 87), (d 88), (d 89), (d 90), (d 91), (d 92), (d 93), (d 94), (d 95), (d 96), (d 97), (d 98), (d 99), (d 100), (d 101), (d 102), (d 103), (d 104), (d 105), (d 106), (d 107), (d 108), (d 109), (d 110), (d 111), (d 112), (d 113)] h5)) := by kernel_rfl
theorem gb_catenarylaw11_AcceptRises_1 (K : Kont) (s0 : Self) (v0 : Value) (v3 : Value) (v4 : Value) (d : Nat → Value) (h : Hp) : (oLen 0 v0 h fun t13 h1 =>
  oBin .lss v4 t13 h1 fun t14 h2 =>
  oGuard t14 true (fun K => K v4 h2) h2 fun t16 h3 =>
  oGuard t14 true (fun K => oBin .lss t16 (Go.Value.int Go.IntKind.i64 60) h3 K) h3 fun t17 h4 =>
  oPick t14 t17 (Go.Value.bool false) h4 fun t18 h5 =>
  oIf t18
  (C_accept_Acceptor_Promised [v3] h5 fun t22 h6 =>
  C_accept_Acceptor_Votes [v3, (Go.Value.int Go.IntKind.i64 0)] h6 fun t24 h7 =>
  oIdxS 7 v0 v4 h7 fun t27 h8 =>
  oFieldAddr 0 t27 h8 fun t28 h9 =>
  oLd1 t28 h9 fun t29 h10 =>
  oBin .eql t29 (Go.Value.int Go.IntKind.i64 0) h10 fun t30 h11 =>
  oIf t30
  (oIdxS 7 v0 v4 h11 fun t34 h12 =>
  oFieldAddr 1 t34 h12 fun t35 h13 =>
  oLd1 t35 h13 fun t36 h14 =>
  oIdxS 7 v0 v4 h14 fun t39 h15 =>
  oFieldAddr 2 t39 h15 fun t40 h16 =>
  oLd1 t40 h16 fun t41 h17 =>
  C_accept_Acceptor_Prepare [v3, t36, t41] h17 fun t42 h18 =>
  (True) ∧
  (qSeq (aw Try.prog O_catenarylaw11_AcceptRises K_catenarylaw11_AcceptRises_3 (qBlk 1 (qSeq (aw Try.prog O_catenarylaw11_AcceptRises K_catenarylaw11_AcceptRises_4 (Q_catenarylaw11_AcceptRises_2 K s0)) (Q_catenarylaw11_AcceptRises_2 K s0)))) (qBlk 1 (qSeq (aw Try.prog O_catenarylaw11_AcceptRises K_catenarylaw11_AcceptRises_4 (Q_catenarylaw11_AcceptRises_2 K s0)) (Q_catenarylaw11_AcceptRises_2 K s0)))) .normal [v0, (d 1), (d 2), v3, v4, t22, t24, (d 7), (d 8), (d 9), (d 10), v4, v0, t13, t14, t14, t16, t17, t18, (d 19), (d 20), v3, t22, v3, t24, v0, v4, t27, t28, t29, t30, v3, v0, v4, t34, t35, t36, v0, v4, t39, t40, t41, t42, (d 43), (d 44), (d 45), (d 46), (d 47), (d 48), (d 49), (d 50), (d 51), (d 52), (d 53), (d 54), (d 55), (d 56), (d 57), (d 58), (d 59), (d 60), (d 61), (d 62), (d 63), (d 64), (d 65), (d 66), (d 67), (d 68), (d 69), (d 70), (d 71), (d 72), (d 73), (d 74), (d 75), (d 76), (d 77), (d 78), (d 79), (d 80), (d 81), (d 82), (d 83), (d 84), (d 85), (d 86), (d 87), (d 88), (d 89), (d 90), (d 91), (d 92), (d 93), (d 94), (d 95), (d 96), (d 97), (d 98), (d 99), (d 100), (d 101), (d 102), (d 103), (d 104), (d 105), (d 106), (d 107), (d 108), (d 109), (d 110), (d 111), (d 112), (d 113)] h18)
  (oIdxS 7 v0 v4 h11 fun t46 h19 =>
  oFieldAddr 1 t46 h19 fun t47 h20 =>
  oLd1 t47 h20 fun t48 h21 =>
  oIdxS 7 v0 v4 h21 fun t51 h22 =>
  oFieldAddr 2 t51 h22 fun t52 h23 =>
  oLd1 t52 h23 fun t53 h24 =>
  oIdxS 7 v0 v4 h24 fun t56 h25 =>
  oFieldAddr 3 t56 h25 fun t57 h26 =>
  oLdN 4 t57 h26 fun t58 h27 =>
  C_accept_Acceptor_Accept [v3, t48, t53, t58] h27 fun t59 h28 =>
  (True) ∧
  (qSeq (aw Try.prog O_catenarylaw11_AcceptRises K_catenarylaw11_AcceptRises_3 (qBlk 1 (qSeq (aw Try.prog O_catenarylaw11_AcceptRises K_catenarylaw11_AcceptRises_4 (Q_catenarylaw11_AcceptRises_2 K s0)) (Q_catenarylaw11_AcceptRises_2 K s0)))) (qBlk 1 (qSeq (aw Try.prog O_catenarylaw11_AcceptRises K_catenarylaw11_AcceptRises_4 (Q_catenarylaw11_AcceptRises_2 K s0)) (Q_catenarylaw11_AcceptRises_2 K s0)))) .normal [v0, (d 1), (d 2), v3, v4, t22, t24, (d 7), (d 8), (d 9), (d 10), v4, v0, t13, t14, t14, t16, t17, t18, (d 19), (d 20), v3, t22, v3, t24, v0, v4, t27, t28, t29, t30, (d 31), (d 32), (d 33), (d 34), (d 35), (d 36), (d 37), (d 38), (d 39), (d 40), (d 41), (d 42), v3, v0, v4, t46, t47, t48, v0, v4, t51, t52, t53, v0, v4, t56, t57, t58, t59, (d 60), (d 61), (d 62), (d 63), (d 64), (d 65), (d 66), (d 67), (d 68), (d 69), (d 70), (d 71), (d 72), (d 73), (d 74), (d 75), (d 76), (d 77), (d 78), (d 79), (d 80), (d 81), (d 82), (d 83), (d 84), (d 85), (d 86), (d 87), (d 88), (d 89), (d 90), (d 91), (d 92), (d 93), (d 94), (d 95), (d 96), (d 97), (d 98), (d 99), (d 100), (d 101), (d 102), (d 103), (d 104), (d 105), (d 106), (d 107), (d 108), (d 109), (d 110), (d 111), (d 112), (d 113)] h28))
  ((qSeq (aw Try.prog O_catenarylaw11_AcceptRises K_catenarylaw11_AcceptRises_5 (Q_catenarylaw11_AcceptRises_2 K s0)) (Q_catenarylaw11_AcceptRises_2 K s0)) (.exit 0) [v0, (d 1), (d 2), v3, v4, (d 5), (d 6), (d 7), (d 8), (d 9), (d 10), v4, v0, t13, t14, t14, t16, t17, t18, (d 19), (d 20), (d 21), (d 22), (d 23), (d 24), (d 25), (d 26), (d 27), (d 28), (d 29), (d 30), (d 31), (d 32), (d 33), (d 34), (d 35), (d 36), (d 37), (d 38), (d 39), (d 40), (d 41), (d 42), (d 43), (d 44), (d 45), (d 46), (d 47), (d 48), (d 49), (d 50), (d 51), (d 52), (d 53), (d 54), (d 55), (d 56), (d 57), (d 58), (d 59), (d 60), (d 61), (d 62), (d 63), (d 64), (d 65), (d 66), (d 67), (d 68), (d 69), (d 70), (d 71), (d 72), (d 73), (d 74), (d 75), (d 76), (d 77), (d 78), (d 79), (d 80), (d 81), (d 82), (d 83), (d 84), (d 85), (d 86), (d 87), (d 88), (d 89), (d 90), (d 91), (d 92), (d 93), (d 94), (d 95), (d 96), (d 97), (d 98), (d 99), (d 100), (d 101), (d 102), (d 103), (d 104), (d 105), (d 106), (d 107), (d 108), (d 109), (d 110), (d 111), (d 112), (d 113)] h5)) = B_catenarylaw11_AcceptRises_1 K s0 v0 v3 v4 d h := by kernel_rfl
theorem beq_catenarylaw11_AcceptRises_1 (K : Kont) (s0 : Self) (v0 : Value) (v3 : Value) (v4 : Value) (d : Nat → Value) (h : Hp) : aw Try.prog O_catenarylaw11_AcceptRises K_catenarylaw11_AcceptRises_2 (Q_catenarylaw11_AcceptRises_2 K s0) (E_catenarylaw11_AcceptRises_1 v0 v3 v4 d) h = B_catenarylaw11_AcceptRises_1 K s0 v0 v3 v4 d h := (ga_catenarylaw11_AcceptRises_1 _ v0 v3 v4 d h).trans (gb_catenarylaw11_AcceptRises_1 K s0 v0 v3 v4 d h)
theorem rule_catenarylaw11_AcceptRises_1 {K : Kont} {v0 : Value} {v3 : Value} (Inv : Value → Hp → Prop) (μ : Value → Hp → Nat)
    (step : ∀ (s0 : Self) (v4 : Value) (d : Nat → Value) (h : Hp), Inv v4 h → (∀ (v4' : Value) (d' : Nat → Value) (h' : Hp), Inv v4' h' → μ v4' h' < μ v4 h → s0 (E_catenarylaw11_AcceptRises_1 v0 v3 v4' d') h') → B_catenarylaw11_AcceptRises_1 K s0 v0 v3 v4 d h) (v4 : Value) (d : Nat → Value) (h : Hp) (hi : Inv v4 h) : G_catenarylaw11_AcceptRises_1 K v0 v3 v4 d h :=
  oLoop_rule (α := Value × (Nat → Value)) (fun x => E_catenarylaw11_AcceptRises_1 v0 v3 x.1 x.2) (fun x h => Inv x.1 h) (fun x h => μ x.1 h)
    (fun self x h hx hs => (beq_catenarylaw11_AcceptRises_1 K self v0 v3 x.1 x.2 h).mpr (step self x.1 x.2 h hx (fun v4' d' h' h1 h2 => hs ⟨v4', d'⟩ h' h1 h2))) ⟨v4, d⟩ h hi
def R_catenarylaw11_AcceptRises_2 (K : Kont) (s0 : Self) (v0 : Value) (v3 : Value) (v4 : Value) (v5 : Value) (v6 : Value) (d : Nat → Value) (h : Hp) : Prop :=
  C_accept_Acceptor_Promised [v3] h fun t61 h1 =>
  oBin .lss t61 v5 h1 fun t63 h2 =>
  oIf t63
  (K (Go.Value.bool false) h2)
  (G_catenarylaw11_AcceptRises_3 K s0 v0 v3 v4 v5 v6 (Go.Value.int Go.IntKind.i64 0) (dl [v0, (d 1), (d 2), v3, v4, v5, v6, (Go.Value.int Go.IntKind.i64 0), (d 8), (d 9), (d 10), (d 11), (d 12), (d 13), (d 14), (d 15), (d 16), (d 17), (d 18), (d 19), (d 20), (d 21), (d 22), (d 23), (d 24), (d 25), (d 26), (d 27), (d 28), (d 29), (d 30), (d 31), (d 32), (d 33), (d 34), (d 35), (d 36), (d 37), (d 38), (d 39), (d 40), (d 41), (d 42), (d 43), (d 44), (d 45), (d 46), (d 47), (d 48), (d 49), (d 50), (d 51), (d 52), (d 53), (d 54), (d 55), (d 56), (d 57), (d 58), (d 59), v3, t61, v5, t63, (d 64), (d 65), (d 66), (d 67), (d 68), (d 69), (d 70), (d 71), (d 72), (d 73), (d 74), (d 75), (d 76), (d 77), (d 78), (d 79), (d 80), (d 81), (d 82), (d 83), (d 84), (d 85), (d 86), (d 87), (d 88), (d 89), (d 90), (d 91), (d 92), (d 93), (d 94), (d 95), (d 96), (d 97), (d 98), (d 99), (d 100), (d 101), (d 102), (d 103), (d 104), (d 105), (d 106), (d 107), (d 108), (d 109), (d 110), (d 111), (d 112), (d 113)]) h2)
theorem ga_catenarylaw11_AcceptRises_2 (Qv : Post) (v0 : Value) (v3 : Value) (v4 : Value) (v5 : Value) (v6 : Value) (d : Nat → Value) (h : Hp) : aw Try.prog O_catenarylaw11_AcceptRises K_catenarylaw11_AcceptRises_3 Qv (E_catenarylaw11_AcceptRises_2 v0 v3 v4 v5 v6 d) h = (C_accept_Acceptor_Promised [v3] h fun t61 h1 =>
  oBin .lss t61 v5 h1 fun t63 h2 =>
  oIf t63
  ((qSeq (aw Try.prog O_catenarylaw11_AcceptRises K_catenarylaw11_AcceptRises_7 Qv) Qv) .ret [v0, (d 1), (Go.Value.bool false), v3, v4, v5, v6, (d 7), (d 8), (d 9), (d 10), (d 11), (d 12), (d 13), (d 14), (d 15), (d 16), (d 17), (d 18), (d 19), (d 20), (d 21), (d 22), (d 23), (d 24), (d 25), (d 26), (d 27), (d 28), (d 29), (d 30), (d 31), (d 32), (d 33), (d 34), (d 35), (d 36), (d 37), (d 38), (d 39), (d 40), (d 41), (d 42), (d 43), (d 44), (d 45), (d 46), (d 47), (d 48), (d 49), (d 50), (d 51), (d 52), (d 53), (d 54), (d 55), (d 56), (d 57), (d 58), (d 59), v3, t61, v5, t63, (d 64), (d 65), (d 66), (d 67), (d 68), (d 69), (d 70), (d 71), (d 72), (d 73), (d 74), (d 75), (d 76), (d 77), (d 78), (d 79), (d 80), (d 81), (d 82), (d 83), (d 84), (d 85), (d 86), (d 87), (d 88), (d 89), (d 90), (d 91), (d 92), (d 93), (d 94), (d 95), (d 96), (d 97), (d 98), (d 99), (d 100), (d 101), (d 102), (d 103), (d 104), (d 105), (d 106), (d 107), (d 108), (d 109), (d 110), (d 111), (d 112), (d 113)] h2)
  (aw Try.prog O_catenarylaw11_AcceptRises K_catenarylaw11_AcceptRises_6 (qBlk 2 Qv) [v0, (d 1), (d 2), v3, v4, v5, v6, (Go.Value.int Go.IntKind.i64 0), (d 8), (d 9), (d 10), (d 11), (d 12), (d 13), (d 14), (d 15), (d 16), (d 17), (d 18), (d 19), (d 20), (d 21), (d 22), (d 23), (d 24), (d 25), (d 26), (d 27), (d 28), (d 29), (d 30), (d 31), (d 32), (d 33), (d 34), (d 35), (d 36), (d 37), (d 38), (d 39), (d 40), (d 41), (d 42), (d 43), (d 44), (d 45), (d 46), (d 47), (d 48), (d 49), (d 50), (d 51), (d 52), (d 53), (d 54), (d 55), (d 56), (d 57), (d 58), (d 59), v3, t61, v5, t63, (d 64), (d 65), (d 66), (d 67), (d 68), (d 69), (d 70), (d 71), (d 72), (d 73), (d 74), (d 75), (d 76), (d 77), (d 78), (d 79), (d 80), (d 81), (d 82), (d 83), (d 84), (d 85), (d 86), (d 87), (d 88), (d 89), (d 90), (d 91), (d 92), (d 93), (d 94), (d 95), (d 96), (d 97), (d 98), (d 99), (d 100), (d 101), (d 102), (d 103), (d 104), (d 105), (d 106), (d 107), (d 108), (d 109), (d 110), (d 111), (d 112), (d 113)] h2)) := by kernel_rfl
theorem gb_catenarylaw11_AcceptRises_2 (K : Kont) (s0 : Self) (v0 : Value) (v3 : Value) (v4 : Value) (v5 : Value) (v6 : Value) (d : Nat → Value) (h : Hp) : (C_accept_Acceptor_Promised [v3] h fun t61 h1 =>
  oBin .lss t61 v5 h1 fun t63 h2 =>
  oIf t63
  ((qSeq (aw Try.prog O_catenarylaw11_AcceptRises K_catenarylaw11_AcceptRises_7 (Q_catenarylaw11_AcceptRises_4 K s0)) (Q_catenarylaw11_AcceptRises_4 K s0)) .ret [v0, (d 1), (Go.Value.bool false), v3, v4, v5, v6, (d 7), (d 8), (d 9), (d 10), (d 11), (d 12), (d 13), (d 14), (d 15), (d 16), (d 17), (d 18), (d 19), (d 20), (d 21), (d 22), (d 23), (d 24), (d 25), (d 26), (d 27), (d 28), (d 29), (d 30), (d 31), (d 32), (d 33), (d 34), (d 35), (d 36), (d 37), (d 38), (d 39), (d 40), (d 41), (d 42), (d 43), (d 44), (d 45), (d 46), (d 47), (d 48), (d 49), (d 50), (d 51), (d 52), (d 53), (d 54), (d 55), (d 56), (d 57), (d 58), (d 59), v3, t61, v5, t63, (d 64), (d 65), (d 66), (d 67), (d 68), (d 69), (d 70), (d 71), (d 72), (d 73), (d 74), (d 75), (d 76), (d 77), (d 78), (d 79), (d 80), (d 81), (d 82), (d 83), (d 84), (d 85), (d 86), (d 87), (d 88), (d 89), (d 90), (d 91), (d 92), (d 93), (d 94), (d 95), (d 96), (d 97), (d 98), (d 99), (d 100), (d 101), (d 102), (d 103), (d 104), (d 105), (d 106), (d 107), (d 108), (d 109), (d 110), (d 111), (d 112), (d 113)] h2)
  (aw Try.prog O_catenarylaw11_AcceptRises K_catenarylaw11_AcceptRises_6 (qBlk 2 (Q_catenarylaw11_AcceptRises_4 K s0)) [v0, (d 1), (d 2), v3, v4, v5, v6, (Go.Value.int Go.IntKind.i64 0), (d 8), (d 9), (d 10), (d 11), (d 12), (d 13), (d 14), (d 15), (d 16), (d 17), (d 18), (d 19), (d 20), (d 21), (d 22), (d 23), (d 24), (d 25), (d 26), (d 27), (d 28), (d 29), (d 30), (d 31), (d 32), (d 33), (d 34), (d 35), (d 36), (d 37), (d 38), (d 39), (d 40), (d 41), (d 42), (d 43), (d 44), (d 45), (d 46), (d 47), (d 48), (d 49), (d 50), (d 51), (d 52), (d 53), (d 54), (d 55), (d 56), (d 57), (d 58), (d 59), v3, t61, v5, t63, (d 64), (d 65), (d 66), (d 67), (d 68), (d 69), (d 70), (d 71), (d 72), (d 73), (d 74), (d 75), (d 76), (d 77), (d 78), (d 79), (d 80), (d 81), (d 82), (d 83), (d 84), (d 85), (d 86), (d 87), (d 88), (d 89), (d 90), (d 91), (d 92), (d 93), (d 94), (d 95), (d 96), (d 97), (d 98), (d 99), (d 100), (d 101), (d 102), (d 103), (d 104), (d 105), (d 106), (d 107), (d 108), (d 109), (d 110), (d 111), (d 112), (d 113)] h2)) = R_catenarylaw11_AcceptRises_2 K s0 v0 v3 v4 v5 v6 d h := by kernel_rfl
theorem req_catenarylaw11_AcceptRises_2 (K : Kont) (s0 : Self) (v0 : Value) (v3 : Value) (v4 : Value) (v5 : Value) (v6 : Value) (d : Nat → Value) (h : Hp) : G_catenarylaw11_AcceptRises_2 K s0 v0 v3 v4 v5 v6 d h = R_catenarylaw11_AcceptRises_2 K s0 v0 v3 v4 v5 v6 d h := (ga_catenarylaw11_AcceptRises_2 _ v0 v3 v4 v5 v6 d h).trans (gb_catenarylaw11_AcceptRises_2 K s0 v0 v3 v4 v5 v6 d h)
def B_catenarylaw11_AcceptRises_3 (K : Kont) (s0 : Self) (s1 : Self) (v0 : Value) (v3 : Value) (v4 : Value) (v5 : Value) (v6 : Value) (v7 : Value) (d : Nat → Value) (h : Hp) : Prop :=
  oLen 0 v6 h fun t66 h1 =>
  oBin .lss v7 t66 h1 fun t67 h2 =>
  oIf t67
  (oIdxS 6 v6 v7 h2 fun t74 h3 =>
  oFieldAddr 0 t74 h3 fun t75 h4 =>
  oLd1 t75 h4 fun t76 h5 =>
  C_accept_Acceptor_Vote [v3, t76] h5 fun t77 h6 =>
  oExtract t77 0 h6 fun t78 h7 =>
  oExtract t77 1 h7 fun t79 h8 =>
  oAlloc #[.int .i64 0, .int .u64 0, .int .i64 0, .int .i64 0, .int .u64 0, .int .i64 0] h8 fun t8 h9 =>
  oSt 6 t8 t78 h9 fun _ h10 =>
  oNot t79 h10 fun t81 h11 =>
  oGuard t81 false (fun K => oLdN 6 t8 h11 K) h11 fun t83 h12 =>
  oGuard t81 false (fun K => K v6 h12) h12 fun t84 h13 =>
  oGuard t81 false (fun K => K v7 h13) h13 fun t85 h14 =>
  oGuard t81 false (fun K => oIdxS 6 t84 t85 h14 K) h14 fun t86 h15 =>
  oGuard t81 false (fun K => oLdN 6 t86 h15 K) h15 fun t87 h16 =>
  oGuard t81 false (fun K => oEq 4 true (some [(0, (.int .i64)), (1, (.int .u64)), (2, (.int .i64)), (3, (.int .i64)), (4, (.int .u64)), (5, (.int .i64))]) t83 t87 h16 K) h16 fun t88 h17 =>
  oGuard t81 false (fun K => K t88 h17) h17 fun t89 h18 =>
  oGuard t89 true (fun K => oFieldAddr 1 t8 h18 K) h18 fun t90 h19 =>
  oGuard t89 true (fun K => oLd1 t90 h19 K) h19 fun t91 h20 =>
  oGuard t89 true (fun K => K v6 h20) h20 fun t92 h21 =>
  oGuard t89 true (fun K => K v7 h21) h21 fun t93 h22 =>
  oGuard t89 true (fun K => oIdxS 6 t92 t93 h22 K) h22 fun t94 h23 =>
  oGuard t89 true (fun K => oFieldAddr 1 t94 h23 K) h23 fun t95 h24 =>
  oGuard t89 true (fun K => oLd1 t95 h24 K) h24 fun t96 h25 =>
  oGuard t89 true (fun K => oBin .lss t91 t96 h25 K) h25 fun t97 h26 =>
  oGuard t89 true (fun K => K t97 h26) h26 fun t98 h27 =>
  oGuard t98 false (fun K => oFieldAddr 1 t8 h27 K) h27 fun t99 h28 =>
  oGuard t98 false (fun K => oLd1 t99 h28 K) h28 fun t100 h29 =>
  oGuard t98 false (fun K => K v5 h29) h29 fun t101 h30 =>
  oGuard t98 false (fun K => oBin .lss t100 t101 h30 K) h30 fun t102 h31 =>
  oGuard t89 true (fun K => oPick t98 (Go.Value.bool true) t102 h31 K) h31 fun t103 h32 =>
  oGuard t89 true (fun K => K t103 h32) h32 fun t104 h33 =>
  oGuard t104 false (fun K => oFieldAddr 1 t8 h33 K) h33 fun t105 h34 =>
  oGuard t104 false (fun K => oLd1 t105 h34 K) h34 fun t106 h35 =>
  oGuard t104 false (fun K => K v3 h35) h35 fun t107 h36 =>
  oGuard t104 false (fun K => C_accept_Acceptor_Promised [t107] h36 K) h36 fun t108 h37 =>
  ((oGuardH t104 false (oLd1 t105 h36 (fun v' _ => v' = t106)) → oGuardH t104 false (oLd1 t105 h37 (fun v' _ => v' = t106))) ∧ (oGuardH t98 false (oLd1 t99 h36 (fun v' _ => v' = t100)) → oGuardH t98 false (oLd1 t99 h37 (fun v' _ => v' = t100))) ∧ (oGuardH t89 true (oLd1 t95 h36 (fun v' _ => v' = t96)) → oGuardH t89 true (oLd1 t95 h37 (fun v' _ => v' = t96))) ∧ (oGuardH t89 true (oLd1 t90 h36 (fun v' _ => v' = t91)) → oGuardH t89 true (oLd1 t90 h37 (fun v' _ => v' = t91))) ∧ (oGuardH t81 false (oLdN 6 t86 h36 (fun v' _ => v' = t87)) → oGuardH t81 false (oLdN 6 t86 h37 (fun v' _ => v' = t87))) ∧ (oGuardH t81 false (oLdN 6 t8 h36 (fun v' _ => v' = t83)) → oGuardH t81 false (oLdN 6 t8 h37 (fun v' _ => v' = t83))) ∧ True) ∧
  oGuard t104 false (fun K => oBin .gtr t106 t108 h37 K) h37 fun t109 h38 =>
  oGuard t89 true (fun K => oPick t104 (Go.Value.bool true) t109 h38 K) h38 fun t110 h39 =>
  oGuard t81 false (fun K => oPick t89 t110 (Go.Value.bool false) h39 K) h39 fun t111 h40 =>
  oPick t81 (Go.Value.bool true) t111 h40 fun t112 h41 =>
  oIf t112
  (K (Go.Value.bool false) h41)
  (oBin .add v7 (Go.Value.int Go.IntKind.i64 1) h41 fun t69 h42 =>
  s1 (E_catenarylaw11_AcceptRises_3 v0 v3 v4 v5 v6 t69 (dl [v0, (d 1), (d 2), v3, v4, v5, v6, t69, t8, t79, (d 10), (d 11), (d 12), (d 13), (d 14), (d 15), (d 16), (d 17), (d 18), (d 19), (d 20), (d 21), (d 22), (d 23), (d 24), (d 25), (d 26), (d 27), (d 28), (d 29), (d 30), (d 31), (d 32), (d 33), (d 34), (d 35), (d 36), (d 37), (d 38), (d 39), (d 40), (d 41), (d 42), (d 43), (d 44), (d 45), (d 46), (d 47), (d 48), (d 49), (d 50), (d 51), (d 52), (d 53), (d 54), (d 55), (d 56), (d 57), (d 58), (d 59), (d 60), (d 61), (d 62), (d 63), v7, v6, t66, t67, v7, t69, t77, v3, v6, v7, t74, t75, t76, t77, t78, t79, t79, t81, t81, t83, t84, t85, t86, t87, t88, t89, t90, t91, t92, t93, t94, t95, t96, t97, t98, t99, t100, t101, t102, t103, t104, t105, t106, t107, t108, t109, t110, t111, t112, (d 113)])) h42))
  (oBin .add v4 (Go.Value.int Go.IntKind.i64 1) h2 fun t20 h43 =>
  s0 (E_catenarylaw11_AcceptRises_1 v0 v3 t20 (dl [v0, (d 1), (d 2), v3, t20, v5, v6, v7, (d 8), (d 9), (d 10), (d 11), (d 12), (d 13), (d 14), (d 15), (d 16), (d 17), (d 18), v4, t20, (d 21), (d 22), (d 23), (d 24), (d 25), (d 26), (d 27), (d 28), (d 29), (d 30), (d 31), (d 32), (d 33), (d 34), (d 35), (d 36), (d 37), (d 38), (d 39), (d 40), (d 41), (d 42), (d 43), (d 44), (d 45), (d 46), (d 47), (d 48), (d 49), (d 50), (d 51), (d 52), (d 53), (d 54), (d 55), (d 56), (d 57), (d 58), (d 59), (d 60), (d 61), (d 62), (d 63), v7, v6, t66, t67, (d 68), (d 69), (d 70), (d 71), (d 72), (d 73), (d 74), (d 75), (d 76), (d 77), (d 78), (d 79), (d 80), (d 81), (d 82), (d 83), (d 84), (d 85), (d 86), (d 87), (d 88), (d 89), (d 90), (d 91), (d 92), (d 93), (d 94), (d 95), (d 96), (d 97), (d 98), (d 99), (d 100), (d 101), (d 102), (d 103), (d 104), (d 105), (d 106), (d 107), (d 108), (d 109), (d 110), (d 111), (d 112), (d 113)])) h43)
theorem ga_catenarylaw11_AcceptRises_3 (Qv : Post) (v0 : Value) (v3 : Value) (v4 : Value) (v5 : Value) (v6 : Value) (v7 : Value) (d : Nat → Value) (h : Hp) : aw Try.prog O_catenarylaw11_AcceptRises K_catenarylaw11_AcceptRises_8 Qv (E_catenarylaw11_AcceptRises_3 v0 v3 v4 v5 v6 v7 d) h = (oLen 0 v6 h fun t66 h1 =>
  oBin .lss v7 t66 h1 fun t67 h2 =>
  oIf t67
  (oIdxS 6 v6 v7 h2 fun t74 h3 =>
  oFieldAddr 0 t74 h3 fun t75 h4 =>
  oLd1 t75 h4 fun t76 h5 =>
  C_accept_Acceptor_Vote [v3, t76] h5 fun t77 h6 =>
  oExtract t77 0 h6 fun t78 h7 =>
  oExtract t77 1 h7 fun t79 h8 =>
  oAlloc #[.int .i64 0, .int .u64 0, .int .i64 0, .int .i64 0, .int .u64 0, .int .i64 0] h8 fun t8 h9 =>
  oSt 6 t8 t78 h9 fun _ h10 =>
  oNot t79 h10 fun t81 h11 =>
  oGuard t81 false (fun K => oLdN 6 t8 h11 K) h11 fun t83 h12 =>
  oGuard t81 false (fun K => K v6 h12) h12 fun t84 h13 =>
  oGuard t81 false (fun K => K v7 h13) h13 fun t85 h14 =>
  oGuard t81 false (fun K => oIdxS 6 t84 t85 h14 K) h14 fun t86 h15 =>
  oGuard t81 false (fun K => oLdN 6 t86 h15 K) h15 fun t87 h16 =>
  oGuard t81 false (fun K => oEq 4 true (some [(0, (.int .i64)), (1, (.int .u64)), (2, (.int .i64)), (3, (.int .i64)), (4, (.int .u64)), (5, (.int .i64))]) t83 t87 h16 K) h16 fun t88 h17 =>
  oGuard t81 false (fun K => K t88 h17) h17 fun t89 h18 =>
  oGuard t89 true (fun K => oFieldAddr 1 t8 h18 K) h18 fun t90 h19 =>
  oGuard t89 true (fun K => oLd1 t90 h19 K) h19 fun t91 h20 =>
  oGuard t89 true (fun K => K v6 h20) h20 fun t92 h21 =>
  oGuard t89 true (fun K => K v7 h21) h21 fun t93 h22 =>
  oGuard t89 true (fun K => oIdxS 6 t92 t93 h22 K) h22 fun t94 h23 =>
  oGuard t89 true (fun K => oFieldAddr 1 t94 h23 K) h23 fun t95 h24 =>
  oGuard t89 true (fun K => oLd1 t95 h24 K) h24 fun t96 h25 =>
  oGuard t89 true (fun K => oBin .lss t91 t96 h25 K) h25 fun t97 h26 =>
  oGuard t89 true (fun K => K t97 h26) h26 fun t98 h27 =>
  oGuard t98 false (fun K => oFieldAddr 1 t8 h27 K) h27 fun t99 h28 =>
  oGuard t98 false (fun K => oLd1 t99 h28 K) h28 fun t100 h29 =>
  oGuard t98 false (fun K => K v5 h29) h29 fun t101 h30 =>
  oGuard t98 false (fun K => oBin .lss t100 t101 h30 K) h30 fun t102 h31 =>
  oGuard t89 true (fun K => oPick t98 (Go.Value.bool true) t102 h31 K) h31 fun t103 h32 =>
  oGuard t89 true (fun K => K t103 h32) h32 fun t104 h33 =>
  oGuard t104 false (fun K => oFieldAddr 1 t8 h33 K) h33 fun t105 h34 =>
  oGuard t104 false (fun K => oLd1 t105 h34 K) h34 fun t106 h35 =>
  oGuard t104 false (fun K => K v3 h35) h35 fun t107 h36 =>
  oGuard t104 false (fun K => C_accept_Acceptor_Promised [t107] h36 K) h36 fun t108 h37 =>
  ((oGuardH t104 false (oLd1 t105 h36 (fun v' _ => v' = t106)) → oGuardH t104 false (oLd1 t105 h37 (fun v' _ => v' = t106))) ∧ (oGuardH t98 false (oLd1 t99 h36 (fun v' _ => v' = t100)) → oGuardH t98 false (oLd1 t99 h37 (fun v' _ => v' = t100))) ∧ (oGuardH t89 true (oLd1 t95 h36 (fun v' _ => v' = t96)) → oGuardH t89 true (oLd1 t95 h37 (fun v' _ => v' = t96))) ∧ (oGuardH t89 true (oLd1 t90 h36 (fun v' _ => v' = t91)) → oGuardH t89 true (oLd1 t90 h37 (fun v' _ => v' = t91))) ∧ (oGuardH t81 false (oLdN 6 t86 h36 (fun v' _ => v' = t87)) → oGuardH t81 false (oLdN 6 t86 h37 (fun v' _ => v' = t87))) ∧ (oGuardH t81 false (oLdN 6 t8 h36 (fun v' _ => v' = t83)) → oGuardH t81 false (oLdN 6 t8 h37 (fun v' _ => v' = t83))) ∧ True) ∧
  oGuard t104 false (fun K => oBin .gtr t106 t108 h37 K) h37 fun t109 h38 =>
  oGuard t89 true (fun K => oPick t104 (Go.Value.bool true) t109 h38 K) h38 fun t110 h39 =>
  oGuard t81 false (fun K => oPick t89 t110 (Go.Value.bool false) h39 K) h39 fun t111 h40 =>
  oPick t81 (Go.Value.bool true) t111 h40 fun t112 h41 =>
  oIf t112
  ((qBlk 3 (qSeq (aw Try.prog O_catenarylaw11_AcceptRises K_catenarylaw11_AcceptRises_9 Qv) Qv)) .ret [v0, (d 1), (Go.Value.bool false), v3, v4, v5, v6, v7, t8, t79, (d 10), (d 11), (d 12), (d 13), (d 14), (d 15), (d 16), (d 17), (d 18), (d 19), (d 20), (d 21), (d 22), (d 23), (d 24), (d 25), (d 26), (d 27), (d 28), (d 29), (d 30), (d 31), (d 32), (d 33), (d 34), (d 35), (d 36), (d 37), (d 38), (d 39), (d 40), (d 41), (d 42), (d 43), (d 44), (d 45), (d 46), (d 47), (d 48), (d 49), (d 50), (d 51), (d 52), (d 53), (d 54), (d 55), (d 56), (d 57), (d 58), (d 59), (d 60), (d 61), (d 62), (d 63), v7, v6, t66, t67, (d 68), (d 69), t77, v3, v6, v7, t74, t75, t76, t77, t78, t79, t79, t81, t81, t83, t84, t85, t86, t87, t88, t89, t90, t91, t92, t93, t94, t95, t96, t97, t98, t99, t100, t101, t102, t103, t104, t105, t106, t107, t108, t109, t110, t111, t112, (d 113)] h41)
  (oBin .add v7 (Go.Value.int Go.IntKind.i64 1) h41 fun t69 h42 =>
  Qv .normal [v0, (d 1), (d 2), v3, v4, v5, v6, t69, t8, t79, (d 10), (d 11), (d 12), (d 13), (d 14), (d 15), (d 16), (d 17), (d 18), (d 19), (d 20), (d 21), (d 22), (d 23), (d 24), (d 25), (d 26), (d 27), (d 28), (d 29), (d 30), (d 31), (d 32), (d 33), (d 34), (d 35), (d 36), (d 37), (d 38), (d 39), (d 40), (d 41), (d 42), (d 43), (d 44), (d 45), (d 46), (d 47), (d 48), (d 49), (d 50), (d 51), (d 52), (d 53), (d 54), (d 55), (d 56), (d 57), (d 58), (d 59), (d 60), (d 61), (d 62), (d 63), v7, v6, t66, t67, v7, t69, t77, v3, v6, v7, t74, t75, t76, t77, t78, t79, t79, t81, t81, t83, t84, t85, t86, t87, t88, t89, t90, t91, t92, t93, t94, t95, t96, t97, t98, t99, t100, t101, t102, t103, t104, t105, t106, t107, t108, t109, t110, t111, t112, (d 113)] h42))
  ((qSeq (aw Try.prog O_catenarylaw11_AcceptRises K_catenarylaw11_AcceptRises_10 Qv) Qv) (.exit 2) [v0, (d 1), (d 2), v3, v4, v5, v6, v7, (d 8), (d 9), (d 10), (d 11), (d 12), (d 13), (d 14), (d 15), (d 16), (d 17), (d 18), (d 19), (d 20), (d 21), (d 22), (d 23), (d 24), (d 25), (d 26), (d 27), (d 28), (d 29), (d 30), (d 31), (d 32), (d 33), (d 34), (d 35), (d 36), (d 37), (d 38), (d 39), (d 40), (d 41), (d 42), (d 43), (d 44), (d 45), (d 46), (d 47), (d 48), (d 49), (d 50), (d 51), (d 52), (d 53), (d 54), (d 55), (d 56), (d 57), (d 58), (d 59), (d 60), (d 61), (d 62), (d 63), v7, v6, t66, t67, (d 68), (d 69), (d 70), (d 71), (d 72), (d 73), (d 74), (d 75), (d 76), (d 77), (d 78), (d 79), (d 80), (d 81), (d 82), (d 83), (d 84), (d 85), (d 86), (d 87), (d 88), (d 89), (d 90), (d 91), (d 92), (d 93), (d 94), (d 95), (d 96), (d 97), (d 98), (d 99), (d 100), (d 101), (d 102), (d 103), (d 104), (d 105), (d 106), (d 107), (d 108), (d 109), (d 110), (d 111), (d 112), (d 113)] h2)) := by kernel_rfl
theorem gb_catenarylaw11_AcceptRises_3 (K : Kont) (s0 : Self) (s1 : Self) (v0 : Value) (v3 : Value) (v4 : Value) (v5 : Value) (v6 : Value) (v7 : Value) (d : Nat → Value) (h : Hp) : (oLen 0 v6 h fun t66 h1 =>
  oBin .lss v7 t66 h1 fun t67 h2 =>
  oIf t67
  (oIdxS 6 v6 v7 h2 fun t74 h3 =>
  oFieldAddr 0 t74 h3 fun t75 h4 =>
  oLd1 t75 h4 fun t76 h5 =>
  C_accept_Acceptor_Vote [v3, t76] h5 fun t77 h6 =>
  oExtract t77 0 h6 fun t78 h7 =>
  oExtract t77 1 h7 fun t79 h8 =>
  oAlloc #[.int .i64 0, .int .u64 0, .int .i64 0, .int .i64 0, .int .u64 0, .int .i64 0] h8 fun t8 h9 =>
  oSt 6 t8 t78 h9 fun _ h10 =>
  oNot t79 h10 fun t81 h11 =>
  oGuard t81 false (fun K => oLdN 6 t8 h11 K) h11 fun t83 h12 =>
  oGuard t81 false (fun K => K v6 h12) h12 fun t84 h13 =>
  oGuard t81 false (fun K => K v7 h13) h13 fun t85 h14 =>
  oGuard t81 false (fun K => oIdxS 6 t84 t85 h14 K) h14 fun t86 h15 =>
  oGuard t81 false (fun K => oLdN 6 t86 h15 K) h15 fun t87 h16 =>
  oGuard t81 false (fun K => oEq 4 true (some [(0, (.int .i64)), (1, (.int .u64)), (2, (.int .i64)), (3, (.int .i64)), (4, (.int .u64)), (5, (.int .i64))]) t83 t87 h16 K) h16 fun t88 h17 =>
  oGuard t81 false (fun K => K t88 h17) h17 fun t89 h18 =>
  oGuard t89 true (fun K => oFieldAddr 1 t8 h18 K) h18 fun t90 h19 =>
  oGuard t89 true (fun K => oLd1 t90 h19 K) h19 fun t91 h20 =>
  oGuard t89 true (fun K => K v6 h20) h20 fun t92 h21 =>
  oGuard t89 true (fun K => K v7 h21) h21 fun t93 h22 =>
  oGuard t89 true (fun K => oIdxS 6 t92 t93 h22 K) h22 fun t94 h23 =>
  oGuard t89 true (fun K => oFieldAddr 1 t94 h23 K) h23 fun t95 h24 =>
  oGuard t89 true (fun K => oLd1 t95 h24 K) h24 fun t96 h25 =>
  oGuard t89 true (fun K => oBin .lss t91 t96 h25 K) h25 fun t97 h26 =>
  oGuard t89 true (fun K => K t97 h26) h26 fun t98 h27 =>
  oGuard t98 false (fun K => oFieldAddr 1 t8 h27 K) h27 fun t99 h28 =>
  oGuard t98 false (fun K => oLd1 t99 h28 K) h28 fun t100 h29 =>
  oGuard t98 false (fun K => K v5 h29) h29 fun t101 h30 =>
  oGuard t98 false (fun K => oBin .lss t100 t101 h30 K) h30 fun t102 h31 =>
  oGuard t89 true (fun K => oPick t98 (Go.Value.bool true) t102 h31 K) h31 fun t103 h32 =>
  oGuard t89 true (fun K => K t103 h32) h32 fun t104 h33 =>
  oGuard t104 false (fun K => oFieldAddr 1 t8 h33 K) h33 fun t105 h34 =>
  oGuard t104 false (fun K => oLd1 t105 h34 K) h34 fun t106 h35 =>
  oGuard t104 false (fun K => K v3 h35) h35 fun t107 h36 =>
  oGuard t104 false (fun K => C_accept_Acceptor_Promised [t107] h36 K) h36 fun t108 h37 =>
  ((oGuardH t104 false (oLd1 t105 h36 (fun v' _ => v' = t106)) → oGuardH t104 false (oLd1 t105 h37 (fun v' _ => v' = t106))) ∧ (oGuardH t98 false (oLd1 t99 h36 (fun v' _ => v' = t100)) → oGuardH t98 false (oLd1 t99 h37 (fun v' _ => v' = t100))) ∧ (oGuardH t89 true (oLd1 t95 h36 (fun v' _ => v' = t96)) → oGuardH t89 true (oLd1 t95 h37 (fun v' _ => v' = t96))) ∧ (oGuardH t89 true (oLd1 t90 h36 (fun v' _ => v' = t91)) → oGuardH t89 true (oLd1 t90 h37 (fun v' _ => v' = t91))) ∧ (oGuardH t81 false (oLdN 6 t86 h36 (fun v' _ => v' = t87)) → oGuardH t81 false (oLdN 6 t86 h37 (fun v' _ => v' = t87))) ∧ (oGuardH t81 false (oLdN 6 t8 h36 (fun v' _ => v' = t83)) → oGuardH t81 false (oLdN 6 t8 h37 (fun v' _ => v' = t83))) ∧ True) ∧
  oGuard t104 false (fun K => oBin .gtr t106 t108 h37 K) h37 fun t109 h38 =>
  oGuard t89 true (fun K => oPick t104 (Go.Value.bool true) t109 h38 K) h38 fun t110 h39 =>
  oGuard t81 false (fun K => oPick t89 t110 (Go.Value.bool false) h39 K) h39 fun t111 h40 =>
  oPick t81 (Go.Value.bool true) t111 h40 fun t112 h41 =>
  oIf t112
  ((qBlk 3 (qSeq (aw Try.prog O_catenarylaw11_AcceptRises K_catenarylaw11_AcceptRises_9 (Q_catenarylaw11_AcceptRises_6 K s0 s1)) (Q_catenarylaw11_AcceptRises_6 K s0 s1))) .ret [v0, (d 1), (Go.Value.bool false), v3, v4, v5, v6, v7, t8, t79, (d 10), (d 11), (d 12), (d 13), (d 14), (d 15), (d 16), (d 17), (d 18), (d 19), (d 20), (d 21), (d 22), (d 23), (d 24), (d 25), (d 26), (d 27), (d 28), (d 29), (d 30), (d 31), (d 32), (d 33), (d 34), (d 35), (d 36), (d 37), (d 38), (d 39), (d 40), (d 41), (d 42), (d 43), (d 44), (d 45), (d 46), (d 47), (d 48), (d 49), (d 50), (d 51), (d 52), (d 53), (d 54), (d 55), (d 56), (d 57), (d 58), (d 59), (d 60), (d 61), (d 62), (d 63), v7, v6, t66, t67, (d 68), (d 69), t77, v3, v6, v7, t74, t75, t76, t77, t78, t79, t79, t81, t81, t83, t84, t85, t86, t87, t88, t89, t90, t91, t92, t93, t94, t95, t96, t97, t98, t99, t100, t101, t102, t103, t104, t105, t106, t107, t108, t109, t110, t111, t112, (d 113)] h41)
  (oBin .add v7 (Go.Value.int Go.IntKind.i64 1) h41 fun t69 h42 =>
  (Q_catenarylaw11_AcceptRises_6 K s0 s1) .normal [v0, (d 1), (d 2), v3, v4, v5, v6, t69, t8, t79, (d 10), (d 11), (d 12), (d 13), (d 14), (d 15), (d 16), (d 17), (d 18), (d 19), (d 20), (d 21), (d 22), (d 23), (d 24), (d 25), (d 26), (d 27), (d 28), (d 29), (d 30), (d 31), (d 32), (d 33), (d 34), (d 35), (d 36), (d 37), (d 38), (d 39), (d 40), (d 41), (d 42), (d 43), (d 44), (d 45), (d 46), (d 47), (d 48), (d 49), (d 50), (d 51), (d 52), (d 53), (d 54), (d 55), (d 56), (d 57), (d 58), (d 59), (d 60), (d 61), (d 62), (d 63), v7, v6, t66, t67, v7, t69, t77, v3, v6, v7, t74, t75, t76, t77, t78, t79, t79, t81, t81, t83, t84, t85, t86, t87, t88, t89, t90, t91, t92, t93, t94, t95, t96, t97, t98, t99, t100, t101, t102, t103, t104, t105, t106, t107, t108, t109, t110, t111, t112, (d 113)] h42))
  ((qSeq (aw Try.prog O_catenarylaw11_AcceptRises K_catenarylaw11_AcceptRises_10 (Q_catenarylaw11_AcceptRises_6 K s0 s1)) (Q_catenarylaw11_AcceptRises_6 K s0 s1)) (.exit 2) [v0, (d 1), (d 2), v3, v4, v5, v6, v7, (d 8), (d 9), (d 10), (d 11), (d 12), (d 13), (d 14), (d 15), (d 16), (d 17), (d 18), (d 19), (d 20), (d 21), (d 22), (d 23), (d 24), (d 25), (d 26), (d 27), (d 28), (d 29), (d 30), (d 31), (d 32), (d 33), (d 34), (d 35), (d 36), (d 37), (d 38), (d 39), (d 40), (d 41), (d 42), (d 43), (d 44), (d 45), (d 46), (d 47), (d 48), (d 49), (d 50), (d 51), (d 52), (d 53), (d 54), (d 55), (d 56), (d 57), (d 58), (d 59), (d 60), (d 61), (d 62), (d 63), v7, v6, t66, t67, (d 68), (d 69), (d 70), (d 71), (d 72), (d 73), (d 74), (d 75), (d 76), (d 77), (d 78), (d 79), (d 80), (d 81), (d 82), (d 83), (d 84), (d 85), (d 86), (d 87), (d 88), (d 89), (d 90), (d 91), (d 92), (d 93), (d 94), (d 95), (d 96), (d 97), (d 98), (d 99), (d 100), (d 101), (d 102), (d 103), (d 104), (d 105), (d 106), (d 107), (d 108), (d 109), (d 110), (d 111), (d 112), (d 113)] h2)) = B_catenarylaw11_AcceptRises_3 K s0 s1 v0 v3 v4 v5 v6 v7 d h := by kernel_rfl
theorem beq_catenarylaw11_AcceptRises_3 (K : Kont) (s0 : Self) (s1 : Self) (v0 : Value) (v3 : Value) (v4 : Value) (v5 : Value) (v6 : Value) (v7 : Value) (d : Nat → Value) (h : Hp) : aw Try.prog O_catenarylaw11_AcceptRises K_catenarylaw11_AcceptRises_8 (Q_catenarylaw11_AcceptRises_6 K s0 s1) (E_catenarylaw11_AcceptRises_3 v0 v3 v4 v5 v6 v7 d) h = B_catenarylaw11_AcceptRises_3 K s0 s1 v0 v3 v4 v5 v6 v7 d h := (ga_catenarylaw11_AcceptRises_3 _ v0 v3 v4 v5 v6 v7 d h).trans (gb_catenarylaw11_AcceptRises_3 K s0 s1 v0 v3 v4 v5 v6 v7 d h)
theorem rule_catenarylaw11_AcceptRises_3 {K : Kont} {s0 : Self} {v0 : Value} {v3 : Value} {v4 : Value} {v5 : Value} {v6 : Value} (Inv : Value → Hp → Prop) (μ : Value → Hp → Nat)
    (step : ∀ (s1 : Self) (v7 : Value) (d : Nat → Value) (h : Hp), Inv v7 h → (∀ (v7' : Value) (d' : Nat → Value) (h' : Hp), Inv v7' h' → μ v7' h' < μ v7 h → s1 (E_catenarylaw11_AcceptRises_3 v0 v3 v4 v5 v6 v7' d') h') → B_catenarylaw11_AcceptRises_3 K s0 s1 v0 v3 v4 v5 v6 v7 d h) (v7 : Value) (d : Nat → Value) (h : Hp) (hi : Inv v7 h) : G_catenarylaw11_AcceptRises_3 K s0 v0 v3 v4 v5 v6 v7 d h :=
  oLoop_rule (α := Value × (Nat → Value)) (fun x => E_catenarylaw11_AcceptRises_3 v0 v3 v4 v5 v6 x.1 x.2) (fun x h => Inv x.1 h) (fun x h => μ x.1 h)
    (fun self x h hx hs => (beq_catenarylaw11_AcceptRises_3 K s0 self v0 v3 v4 v5 v6 x.1 x.2 h).mpr (step self x.1 x.2 h hx (fun v7' d' h' h1 h2 => hs ⟨v7', d'⟩ h' h1 h2))) ⟨v7, d⟩ h hi

end Go.Proofs.Ytdolepapmpcpiaa
