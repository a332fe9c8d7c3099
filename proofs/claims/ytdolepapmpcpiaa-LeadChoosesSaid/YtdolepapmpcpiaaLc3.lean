/- Lemmas for the theorem of the last text; no condition. -/
import Derived.Test.YtdolepapmpcpiaaLc0
import Derived.Test.YtdolepapmpcpiaaLc1
import Derived.Test.YtdolepapmpcpiaaLc2
import Derived.Test.YtdolepapmpcpiaaProg
/- What functions of the program ask of the seen heap (written by a program of this proof, vgen.py). -/
namespace Go.Proofs.Ytdolepapmpcpiaa
open Go
set_option linter.unusedSectionVars false
variable [Base]
set_option linter.unusedVariables false
set_option maxRecDepth 100000

/-! ### catenary/catenarylaw13.LeadChooses: function 7 -/
def O_l13_LeadChooses : Od := [(22, (.one 0 true (.one 1 true (.one 2 true (.one 3 true (.one 4 true (.one 5 true (.one 6 true (.one 7 true (.one 8 true (.one 9 true (.one 10 true (.one 11 true (.one 12 true (.one 13 true (.one 14 true (.one 15 true (.one 16 true (.one 17 true (.one 18 true (.one 19 true (.one 20 true (.one 21 true (.one 22 true (.one 23 true (.one 24 true (.one 25 true (.one 26 true (.one 27 true (.one 28 true (.one 29 true (.one 30 true .nil))))))))))))))))))))))))))))))))]
noncomputable def K_l13_LeadChooses_0 : Code := (cI (cB (cA (cB (cB (cB (cB (cB (bodyC Try.f7)))))))))
noncomputable def K_l13_LeadChooses_1 : Code := (cB (cB (cB (cB (cB (cB (bodyC Try.f7)))))))
def Q_l13_LeadChooses_0 (K : Kont) : Post := qSeq (aw Try.prog O_l13_LeadChooses K_l13_LeadChooses_1 (qTop Try.prog Try.f7 K)) (qTop Try.prog Try.f7 K)
def Q_l13_LeadChooses_1 (K : Kont) : Post := qBlk 0 (Q_l13_LeadChooses_0 K)
def E_l13_LeadChooses_1 (v1 : Value) (v2 : Value) (v7 : Value) (v9 : Value) (v11 : Value) (v12 : Value) (d : Nat → Value) : List Value := [d 0, v1, v2, d 3, d 4, d 5, d 6, v7, d 8, v9, d 10, v11, v12, d 13, d 14, d 15, d 16, d 17, d 18, d 19, d 20, d 21, d 22, d 23, d 24, d 25, d 26, d 27, d 28, d 29, d 30, d 31, d 32, d 33, d 34, d 35, d 36, d 37, d 38, d 39, d 40, d 41, d 42, d 43, d 44, d 45, d 46, d 47, d 48, d 49, d 50, d 51, d 52, d 53, d 54, d 55, d 56, d 57, d 58, d 59, d 60, d 61, d 62, d 63, d 64, d 65, d 66, d 67, d 68, d 69, d 70, d 71, d 72, d 73, d 74, d 75, d 76, d 77, d 78, d 79, d 80, d 81, d 82, d 83, d 84, d 85, d 86, d 87, d 88, d 89, d 90, d 91, d 92, d 93, d 94, d 95, d 96, d 97, d 98, d 99, d 100, d 101, d 102, d 103, d 104, d 105, d 106, d 107, d 108, d 109, d 110, d 111, d 112, d 113, d 114, d 115, d 116, d 117, d 118, d 119, d 120, d 121, d 122, d 123, d 124, d 125, d 126, d 127, d 128, d 129, d 130, d 131, d 132, d 133, d 134, d 135, d 136, d 137, d 138, d 139, d 140, d 141]
def G_l13_LeadChooses_1 (K : Kont) (v1 : Value) (v2 : Value) (v7 : Value) (v9 : Value) (v11 : Value) (v12 : Value) (d : Nat → Value) (h : Hp) : Prop := aw Try.prog O_l13_LeadChooses K_l13_LeadChooses_0 (Q_l13_LeadChooses_1 K) (E_l13_LeadChooses_1 v1 v2 v7 v9 v11 v12 d) h
noncomputable def K_l13_LeadChooses_2 : Code := (cB (cB (bodyC Try.f7)))
def Q_l13_LeadChooses_2 (K : Kont) (s0 : Self) : Post := qSeq s0 (Q_l13_LeadChooses_1 K)
noncomputable def K_l13_LeadChooses_3 : Code := (cI (cI (cB (cA (cB (cB (cB (cB (cB (bodyC Try.f7))))))))))
noncomputable def K_l13_LeadChooses_4 : Code := (cI (cB (cA (cB (cB (cB (cB (cB (cB (bodyC Try.f7))))))))))
noncomputable def K_l13_LeadChooses_5 : Code := (cB (cB (cB (cB (cB (cB (cB (bodyC Try.f7))))))))
def Q_l13_LeadChooses_3 (K : Kont) : Post := qSeq (aw Try.prog O_l13_LeadChooses K_l13_LeadChooses_5 (qTop Try.prog Try.f7 K)) (qTop Try.prog Try.f7 K)
def Q_l13_LeadChooses_4 (K : Kont) : Post := qBlk 2 (Q_l13_LeadChooses_3 K)
def E_l13_LeadChooses_2 (v1 : Value) (v2 : Value) (v7 : Value) (v9 : Value) (v11 : Value) (v15 : Value) (d : Nat → Value) : List Value := [d 0, v1, v2, d 3, d 4, d 5, d 6, v7, d 8, v9, d 10, v11, d 12, d 13, d 14, v15, d 16, d 17, d 18, d 19, d 20, d 21, d 22, d 23, d 24, d 25, d 26, d 27, d 28, d 29, d 30, d 31, d 32, d 33, d 34, d 35, d 36, d 37, d 38, d 39, d 40, d 41, d 42, d 43, d 44, d 45, d 46, d 47, d 48, d 49, d 50, d 51, d 52, d 53, d 54, d 55, d 56, d 57, d 58, d 59, d 60, d 61, d 62, d 63, d 64, d 65, d 66, d 67, d 68, d 69, d 70, d 71, d 72, d 73, d 74, d 75, d 76, d 77, d 78, d 79, d 80, d 81, d 82, d 83, d 84, d 85, d 86, d 87, d 88, d 89, d 90, d 91, d 92, d 93, d 94, d 95, d 96, d 97, d 98, d 99, d 100, d 101, d 102, d 103, d 104, d 105, d 106, d 107, d 108, d 109, d 110, d 111, d 112, d 113, d 114, d 115, d 116, d 117, d 118, d 119, d 120, d 121, d 122, d 123, d 124, d 125, d 126, d 127, d 128, d 129, d 130, d 131, d 132, d 133, d 134, d 135, d 136, d 137, d 138, d 139, d 140, d 141]
def G_l13_LeadChooses_2 (K : Kont) (v1 : Value) (v2 : Value) (v7 : Value) (v9 : Value) (v11 : Value) (v15 : Value) (d : Nat → Value) (h : Hp) : Prop := aw Try.prog O_l13_LeadChooses K_l13_LeadChooses_4 (Q_l13_LeadChooses_4 K) (E_l13_LeadChooses_2 v1 v2 v7 v9 v11 v15 d) h
noncomputable def K_l13_LeadChooses_6 : Code := (cB (cB (cI (cI (cB (cA (cB (cB (cB (cB (cB (bodyC Try.f7))))))))))))
noncomputable def K_l13_LeadChooses_7 : Code := (cB (cI (cI (cB (cA (cB (cB (cB (cB (cB (bodyC Try.f7)))))))))))
def Q_l13_LeadChooses_5 (K : Kont) (s0 : Self) : Post := qSeq s0 (Q_l13_LeadChooses_4 K)
noncomputable def K_l13_LeadChooses_8 : Code := (cI (cI (cB (cA (cB (cB (cB (cB (cB (cB (bodyC Try.f7)))))))))))
noncomputable def K_l13_LeadChooses_9 : Code := (cB (cB (cI (cI (cB (cA (cB (cB (cB (cB (cB (cB (bodyC Try.f7)))))))))))))
def E_l13_LeadChooses_3 (v1 : Value) (v2 : Value) (v7 : Value) (v9 : Value) (v11 : Value) (v15 : Value) (d : Nat → Value) : List Value := [d 0, v1, v2, d 3, d 4, d 5, d 6, v7, d 8, v9, d 10, v11, d 12, d 13, d 14, v15, d 16, d 17, d 18, d 19, d 20, d 21, d 22, d 23, d 24, d 25, d 26, d 27, d 28, d 29, d 30, d 31, d 32, d 33, d 34, d 35, d 36, d 37, d 38, d 39, d 40, d 41, d 42, d 43, d 44, d 45, d 46, d 47, d 48, d 49, d 50, d 51, d 52, d 53, d 54, d 55, d 56, d 57, d 58, d 59, d 60, d 61, d 62, d 63, d 64, d 65, d 66, d 67, d 68, d 69, d 70, d 71, d 72, d 73, d 74, d 75, d 76, d 77, d 78, d 79, d 80, d 81, d 82, d 83, d 84, d 85, d 86, d 87, d 88, d 89, d 90, d 91, d 92, d 93, d 94, d 95, d 96, d 97, d 98, d 99, d 100, d 101, d 102, d 103, d 104, d 105, d 106, d 107, d 108, d 109, d 110, d 111, d 112, d 113, d 114, d 115, d 116, d 117, d 118, d 119, d 120, d 121, d 122, d 123, d 124, d 125, d 126, d 127, d 128, d 129, d 130, d 131, d 132, d 133, d 134, d 135, d 136, d 137, d 138, d 139, d 140, d 141]
def G_l13_LeadChooses_3 (K : Kont) (s0 : Self) (v1 : Value) (v2 : Value) (v7 : Value) (v9 : Value) (v11 : Value) (v15 : Value) (d : Nat → Value) (h : Hp) : Prop := aw Try.prog O_l13_LeadChooses K_l13_LeadChooses_9 (Q_l13_LeadChooses_5 K s0) (E_l13_LeadChooses_3 v1 v2 v7 v9 v11 v15 d) h
noncomputable def K_l13_LeadChooses_10 : Code := (cI (cB (cB (cB (cB (cI (cA (cB (cI (cI (cB (cA (cB (cB (cB (cB (cB (cB (bodyC Try.f7)))))))))))))))))))
def Q_l13_LeadChooses_6 (K : Kont) (s0 : Self) : Post := qSeq (aw Try.prog O_l13_LeadChooses K_l13_LeadChooses_9 (Q_l13_LeadChooses_5 K s0)) (Q_l13_LeadChooses_5 K s0)
def Q_l13_LeadChooses_7 (K : Kont) (s0 : Self) : Post := qBlk 3 (Q_l13_LeadChooses_6 K s0)
def Q_l13_LeadChooses_8 (K : Kont) (s0 : Self) : Post := qBlk 4 (Q_l13_LeadChooses_7 K s0)
def E_l13_LeadChooses_4 (v1 : Value) (v2 : Value) (v7 : Value) (v9 : Value) (v11 : Value) (v15 : Value) (v16 : Value) (v17 : Value) (v19 : Value) (d : Nat → Value) : List Value := [d 0, v1, v2, d 3, d 4, d 5, d 6, v7, d 8, v9, d 10, v11, d 12, d 13, d 14, v15, v16, v17, d 18, v19, d 20, d 21, d 22, d 23, d 24, d 25, d 26, d 27, d 28, d 29, d 30, d 31, d 32, d 33, d 34, d 35, d 36, d 37, d 38, d 39, d 40, d 41, d 42, d 43, d 44, d 45, d 46, d 47, d 48, d 49, d 50, d 51, d 52, d 53, d 54, d 55, d 56, d 57, d 58, d 59, d 60, d 61, d 62, d 63, d 64, d 65, d 66, d 67, d 68, d 69, d 70, d 71, d 72, d 73, d 74, d 75, d 76, d 77, d 78, d 79, d 80, d 81, d 82, d 83, d 84, d 85, d 86, d 87, d 88, d 89, d 90, d 91, d 92, d 93, d 94, d 95, d 96, d 97, d 98, d 99, d 100, d 101, d 102, d 103, d 104, d 105, d 106, d 107, d 108, d 109, d 110, d 111, d 112, d 113, d 114, d 115, d 116, d 117, d 118, d 119, d 120, d 121, d 122, d 123, d 124, d 125, d 126, d 127, d 128, d 129, d 130, d 131, d 132, d 133, d 134, d 135, d 136, d 137, d 138, d 139, d 140, d 141]
def G_l13_LeadChooses_4 (K : Kont) (s0 : Self) (v1 : Value) (v2 : Value) (v7 : Value) (v9 : Value) (v11 : Value) (v15 : Value) (v16 : Value) (v17 : Value) (v19 : Value) (d : Nat → Value) (h : Hp) : Prop := aw Try.prog O_l13_LeadChooses K_l13_LeadChooses_10 (Q_l13_LeadChooses_8 K s0) (E_l13_LeadChooses_4 v1 v2 v7 v9 v11 v15 v16 v17 v19 d) h
noncomputable def K_l13_LeadChooses_11 : Code := (cB (cB (cB (cI (cA (cB (cI (cI (cB (cA (cB (cB (cB (cB (cB (cB (bodyC Try.f7)))))))))))))))))
noncomputable def K_l13_LeadChooses_12 : Code := (cB (cI (cI (cB (cA (cB (cB (cB (cB (cB (cB (bodyC Try.f7))))))))))))
def Q_l13_LeadChooses_9 (K : Kont) (s0 : Self) (s1 : Self) : Post := qSeq s1 (Q_l13_LeadChooses_8 K s0)
noncomputable def K_l13_LeadChooses_13 : Code := (cI (cI (cB (cB (cB (cB (cI (cA (cB (cI (cI (cB (cA (cB (cB (cB (cB (cB (cB (bodyC Try.f7))))))))))))))))))))
noncomputable def K_l13_LeadChooses_14 : Code := (cB (cB (cI (cI (cB (cB (cB (cB (cI (cA (cB (cI (cI (cB (cA (cB (cB (cB (cB (cB (cB (bodyC Try.f7))))))))))))))))))))))
noncomputable def K_l13_LeadChooses_15 : Code := (cB (cI (cI (cB (cB (cB (cB (cI (cA (cB (cI (cI (cB (cA (cB (cB (cB (cB (cB (cB (bodyC Try.f7)))))))))))))))))))))
def G_l13_LeadChooses (a0 a1 a2 : Value) (h : Hp) (K : Kont) : Prop :=
  C_r13_Right [a0, a1] h fun t24 h1 =>
  oNot t24 h1 fun t25 h2 =>
  oGuard t25 false (fun K => K a2 h2) h2 fun t27 h3 =>
  oGuard t25 false (fun K => oLen 0 t27 h3 K) h3 fun t28 h4 =>
  oGuard t25 false (fun K => oBin .gtr t28 (Value.int .i64 60) h4 K) h4 fun t29 h5 =>
  oPick t25 (Value.bool true) t29 h5 fun t30 h6 =>
  oIf t30
  (C_l13_awake [] h6 fun t31 h7 =>
  K t31 h7)
  (C_lead_New [a0, a1] h6 fun t35 h8 =>
  oExtract t35 0 h8 fun t36 h9 =>
  oExtract t35 1 h9 fun t37 h10 =>
  C_lead_Lead_Start [t36, (Value.int .u64 0), (Value.int .i64 0)] h10 fun t40 h11 =>
  oExtract t40 0 h11 fun t41 h12 =>
  oExtract t40 1 h12 fun t42 h13 =>
  oBin .quo a1 (Value.int .i64 2) h13 fun t44 h14 =>
  oBin .add t44 (Value.int .i64 1) h14 fun t45 h15 =>
  G_l13_LeadChooses_1 K a1 a2 t36 t41 t45 (Value.int .i64 1) (ud [(0, a0), (6, (Value.bool false)), (8, t37), (10, t42), (22, a0), (23, a1), (24, t24), (25, t25), (26, t25), (27, t27), (28, t28), (29, t29), (30, t30), (32, t35), (33, a0), (34, a1), (35, t35), (36, t36), (37, t37), (38, t40), (39, t36), (40, t40), (41, t41), (42, t42), (43, a1), (44, t44), (45, t45)] dz) h15)
def E0_l13_LeadChooses (a0 a1 a2 : Value) : List Value := [a0, a1, a2, undef, undef, undef, undef, undef, undef, undef, undef, undef, undef, undef, undef, undef, undef, undef, undef, undef, undef, undef, undef, undef, undef, undef, undef, undef, undef, undef, undef, undef, undef, undef, undef, undef, undef, undef, undef, undef, undef, undef, undef, undef, undef, undef, undef, undef, undef, undef, undef, undef, undef, undef, undef, undef, undef, undef, undef, undef, undef, undef, undef, undef, undef, undef, undef, undef, undef, undef, undef, undef, undef, undef, undef, undef, undef, undef, undef, undef, undef, undef, undef, undef, undef, undef, undef, undef, undef, undef, undef, undef, undef, undef, undef, undef, undef, undef, undef, undef, undef, undef, undef, undef, undef, undef, undef, undef, undef, undef, undef, undef, undef, undef, undef, undef, undef, undef, undef, undef, undef, undef, undef, undef, undef, undef, undef, undef, undef, undef, undef, undef, undef, undef, undef, undef, undef, undef, undef, undef, undef, undef]
def X_l13_LeadChooses (Qv : Post) (a0 a1 a2 : Value) (h : Hp) : Prop :=
  C_r13_Right [a0, a1] h fun t24 h1 =>
  oNot t24 h1 fun t25 h2 =>
  oGuard t25 false (fun K => K a2 h2) h2 fun t27 h3 =>
  oGuard t25 false (fun K => oLen 0 t27 h3 K) h3 fun t28 h4 =>
  oGuard t25 false (fun K => oBin .gtr t28 (Value.int .i64 60) h4 K) h4 fun t29 h5 =>
  oPick t25 (Value.bool true) t29 h5 fun t30 h6 =>
  oIf t30
  (C_l13_awake [] h6 fun t31 h7 =>
  (qSeq (aw Try.prog O_l13_LeadChooses K_l13_LeadChooses_2 Qv) Qv) .ret (ul (E0_l13_LeadChooses a0 a1 a2) [(6, t31), (22, a0), (23, a1), (24, t24), (25, t25), (26, t25), (27, t27), (28, t28), (29, t29), (30, t30), (31, t31)]) h7)
  (C_lead_New [a0, a1] h6 fun t35 h8 =>
  oExtract t35 0 h8 fun t36 h9 =>
  oExtract t35 1 h9 fun t37 h10 =>
  C_lead_Lead_Start [t36, (Value.int .u64 0), (Value.int .i64 0)] h10 fun t40 h11 =>
  oExtract t40 0 h11 fun t41 h12 =>
  oExtract t40 1 h12 fun t42 h13 =>
  oBin .quo a1 (Value.int .i64 2) h13 fun t44 h14 =>
  oBin .add t44 (Value.int .i64 1) h14 fun t45 h15 =>
  aw Try.prog O_l13_LeadChooses K_l13_LeadChooses_0 (qBlk 0 (qSeq (aw Try.prog O_l13_LeadChooses K_l13_LeadChooses_1 Qv) Qv)) (ul (E0_l13_LeadChooses a0 a1 a2) [(6, (Value.bool false)), (7, t36), (8, t37), (9, t41), (10, t42), (11, t45), (12, (Value.int .i64 1)), (22, a0), (23, a1), (24, t24), (25, t25), (26, t25), (27, t27), (28, t28), (29, t29), (30, t30), (32, t35), (33, a0), (34, a1), (35, t35), (36, t36), (37, t37), (38, t40), (39, t36), (40, t40), (41, t41), (42, t42), (43, a1), (44, t44), (45, t45)]) h15)
theorem ga_l13_LeadChooses (Qv : Post) (a0 a1 a2 : Value) (h : Hp) : aw Try.prog O_l13_LeadChooses (bodyC Try.f7) Qv (E0_l13_LeadChooses a0 a1 a2) h = X_l13_LeadChooses Qv a0 a1 a2 h := by kernel_rfl
theorem gb_l13_LeadChooses (a0 a1 a2 : Value) (h : Hp) (K : Kont) : X_l13_LeadChooses (qTop Try.prog Try.f7 K) a0 a1 a2 h = G_l13_LeadChooses a0 a1 a2 h K := by kernel_rfl
theorem gc_l13_LeadChooses (a0 a1 a2 : Value) (h : Hp) (K : Kont) : abody Try.prog O_l13_LeadChooses Try.f7 (bodyC Try.f7) [a0, a1, a2] h K = aw Try.prog O_l13_LeadChooses (bodyC Try.f7) (qTop Try.prog Try.f7 K) (E0_l13_LeadChooses a0 a1 a2) h := by kernel_rfl
theorem eq_l13_LeadChooses (a0 a1 a2 : Value) (h : Hp) (K : Kont) : abody Try.prog O_l13_LeadChooses Try.f7 (bodyC Try.f7) [a0, a1, a2] h K = G_l13_LeadChooses a0 a1 a2 h K := (gc_l13_LeadChooses a0 a1 a2 h K).trans ((ga_l13_LeadChooses _ a0 a1 a2 h).trans (gb_l13_LeadChooses a0 a1 a2 h K))
theorem ok_l13_LeadChooses {a0 a1 a2 : Value} {h : Hp} {K : Kont} (hk : G_l13_LeadChooses a0 a1 a2 h K) : C_l13_LeadChooses [a0, a1, a2] h K := ac_of_body prog_mixed (fn := Try.f7) Try.func7 (c := bodyC Try.f7) (by kernel_rfl) ((eq_l13_LeadChooses a0 a1 a2 h K).mpr hk)
def B_l13_LeadChooses_1 (K : Kont) (s0 : Self) (v1 : Value) (v2 : Value) (v7 : Value) (v9 : Value) (v11 : Value) (v12 : Value) (d : Nat → Value) (h : Hp) : Prop :=
  oBin .leq v12 v11 h fun t48 h1 =>
  oIf t48
  (C_lead_Lead_Promise [v7, v9, v12, (Value.slice none 0 0)] h1 fun t55 h2 =>
  oExtract t55 0 h2 fun t56 h3 =>
  oExtract t55 1 h3 fun t57 h4 =>
  oBin .eql v12 v11 h4 fun t61 h5 =>
  oEq 0 true none t57 t61 h5 fun t62 h6 =>
  oGuard t62 false (fun K => K t56 h6) h6 fun t64 h7 =>
  oGuard t62 false (fun K => oLen 0 t64 h7 K) h7 fun t65 h8 =>
  oGuard t62 false (fun K => oBin .neq t65 (Value.int .i64 0) h8 K) h8 fun t66 h9 =>
  oPick t62 (Value.bool true) t66 h9 fun t67 h10 =>
  oIf t67
  (K (Value.bool false) h10)
  (oBin .add v12 (Value.int .i64 1) h10 fun t50 h11 =>
  s0 (E_l13_LeadChooses_1 v1 v2 v7 v9 v11 t50 (ud [(13, t56), (14, t57), (46, v12), (47, v11), (48, t48), (49, v12), (50, t50), (51, t55), (52, v7), (53, v9), (54, v12), (55, t55), (56, t56), (57, t57), (58, t57), (59, v12), (60, v11), (61, t61), (62, t62), (63, t62), (64, t64), (65, t65), (66, t66), (67, t67)] d)) h11))
  (G_l13_LeadChooses_2 K v1 v2 v7 v9 v11 (Value.int .i64 0) (ud [(12, v12), (46, v12), (47, v11), (48, t48)] d) h1)
def X_l13_LeadChooses_1 (Qv : Post) (v1 : Value) (v2 : Value) (v7 : Value) (v9 : Value) (v11 : Value) (v12 : Value) (d : Nat → Value) (h : Hp) : Prop :=
  oBin .leq v12 v11 h fun t48 h1 =>
  oIf t48
  (C_lead_Lead_Promise [v7, v9, v12, (Value.slice none 0 0)] h1 fun t55 h2 =>
  oExtract t55 0 h2 fun t56 h3 =>
  oExtract t55 1 h3 fun t57 h4 =>
  oBin .eql v12 v11 h4 fun t61 h5 =>
  oEq 0 true none t57 t61 h5 fun t62 h6 =>
  oGuard t62 false (fun K => K t56 h6) h6 fun t64 h7 =>
  oGuard t62 false (fun K => oLen 0 t64 h7 K) h7 fun t65 h8 =>
  oGuard t62 false (fun K => oBin .neq t65 (Value.int .i64 0) h8 K) h8 fun t66 h9 =>
  oPick t62 (Value.bool true) t66 h9 fun t67 h10 =>
  oIf t67
  ((qBlk 1 (qSeq (aw Try.prog O_l13_LeadChooses K_l13_LeadChooses_6 Qv) Qv)) .ret (ul (E_l13_LeadChooses_1 v1 v2 v7 v9 v11 v12 d) [(6, (Value.bool false)), (13, t56), (14, t57), (46, v12), (47, v11), (48, t48), (51, t55), (52, v7), (53, v9), (54, v12), (55, t55), (56, t56), (57, t57), (58, t57), (59, v12), (60, v11), (61, t61), (62, t62), (63, t62), (64, t64), (65, t65), (66, t66), (67, t67)]) h10)
  (oBin .add v12 (Value.int .i64 1) h10 fun t50 h11 =>
  Qv .normal (ul (E_l13_LeadChooses_1 v1 v2 v7 v9 v11 v12 d) [(12, t50), (13, t56), (14, t57), (46, v12), (47, v11), (48, t48), (49, v12), (50, t50), (51, t55), (52, v7), (53, v9), (54, v12), (55, t55), (56, t56), (57, t57), (58, t57), (59, v12), (60, v11), (61, t61), (62, t62), (63, t62), (64, t64), (65, t65), (66, t66), (67, t67)]) h11))
  ((qSeq (aw Try.prog O_l13_LeadChooses K_l13_LeadChooses_7 Qv) Qv) (.exit 0) (ul (E_l13_LeadChooses_1 v1 v2 v7 v9 v11 v12 d) [(46, v12), (47, v11), (48, t48)]) h1)
theorem ga_l13_LeadChooses_1 (Qv : Post) (v1 : Value) (v2 : Value) (v7 : Value) (v9 : Value) (v11 : Value) (v12 : Value) (d : Nat → Value) (h : Hp) : aw Try.prog O_l13_LeadChooses K_l13_LeadChooses_3 Qv (E_l13_LeadChooses_1 v1 v2 v7 v9 v11 v12 d) h = X_l13_LeadChooses_1 Qv v1 v2 v7 v9 v11 v12 d h := by kernel_rfl
theorem gb_l13_LeadChooses_1 (K : Kont) (s0 : Self) (v1 : Value) (v2 : Value) (v7 : Value) (v9 : Value) (v11 : Value) (v12 : Value) (d : Nat → Value) (h : Hp) : X_l13_LeadChooses_1 (Q_l13_LeadChooses_2 K s0) v1 v2 v7 v9 v11 v12 d h = B_l13_LeadChooses_1 K s0 v1 v2 v7 v9 v11 v12 d h := by kernel_rfl
theorem beq_l13_LeadChooses_1 (K : Kont) (s0 : Self) (v1 : Value) (v2 : Value) (v7 : Value) (v9 : Value) (v11 : Value) (v12 : Value) (d : Nat → Value) (h : Hp) : aw Try.prog O_l13_LeadChooses K_l13_LeadChooses_3 (Q_l13_LeadChooses_2 K s0) (E_l13_LeadChooses_1 v1 v2 v7 v9 v11 v12 d) h = B_l13_LeadChooses_1 K s0 v1 v2 v7 v9 v11 v12 d h := (ga_l13_LeadChooses_1 _ v1 v2 v7 v9 v11 v12 d h).trans (gb_l13_LeadChooses_1 K s0 v1 v2 v7 v9 v11 v12 d h)
theorem rule_l13_LeadChooses_1 {K : Kont} {v1 : Value} {v2 : Value} {v7 : Value} {v9 : Value} {v11 : Value} (Inv : Value → Hp → Prop) (μ : Value → Hp → Nat)
    (step : ∀ (s0 : Self) (v12 : Value) (d : Nat → Value) (h : Hp), Inv v12 h → (∀ (v12' : Value) (d' : Nat → Value) (h' : Hp), Inv v12' h' → μ v12' h' < μ v12 h → s0 (E_l13_LeadChooses_1 v1 v2 v7 v9 v11 v12' d') h') → B_l13_LeadChooses_1 K s0 v1 v2 v7 v9 v11 v12 d h) (v12 : Value) (d : Nat → Value) (h : Hp) (hi : Inv v12 h) : G_l13_LeadChooses_1 K v1 v2 v7 v9 v11 v12 d h :=
  oLoop_rule (α := Value × (Nat → Value)) (fun x => E_l13_LeadChooses_1 v1 v2 v7 v9 v11 x.1 x.2) (fun x h => Inv x.1 h) (fun x h => μ x.1 h)
    (fun self x h hx hs => (beq_l13_LeadChooses_1 K self v1 v2 v7 v9 v11 x.1 x.2 h).mpr (step self x.1 x.2 h hx (fun v12' d' h' h1 h2 => hs ⟨v12', d'⟩ h' h1 h2))) ⟨v12, d⟩ h hi
def B_l13_LeadChooses_2 (K : Kont) (s0 : Self) (v1 : Value) (v2 : Value) (v7 : Value) (v9 : Value) (v11 : Value) (v15 : Value) (d : Nat → Value) (h : Hp) : Prop :=
  oLen 0 v2 h fun t70 h1 =>
  oBin .lss v15 t70 h1 fun t71 h2 =>
  oIf t71
  (C_lead_Lead_Next [v7] h2 fun t75 h3 =>
  oIdxS 4 v2 v15 h3 fun t80 h4 =>
  oLdN 4 t80 h4 fun t81 h5 =>
  C_lead_Lead_Propose [v7, t81] h5 fun t82 h6 =>
  oExtract t82 0 h6 fun t83 h7 =>
  oExtract t82 1 h7 fun t84 h8 =>
  oAlloc #[.int .i64 0, .int .u64 0, .int .i64 0, .int .i64 0, .int .u64 0, .int .i64 0] h8 fun t17 h9 =>
  oSt 6 t17 t83 h9 fun _ h10 =>
  oBin .neq t84 (Value.int .i64 0) h10 fun t86 h11 =>
  oIf t86
  (G_l13_LeadChooses_3 K s0 v1 v2 v7 v9 v11 v15 (ud [(16, t75), (17, t17), (18, t84), (68, v15), (69, v2), (70, t70), (71, t71), (74, v7), (75, t75), (76, t82), (77, v7), (78, v2), (79, v15), (80, t80), (81, t81), (82, t82), (83, t83), (84, t84), (85, t84), (86, t86)] d) h11)
  (G_l13_LeadChooses_4 K s0 v1 v2 v7 v9 v11 v15 t75 t17 v1 (ud [(18, t84), (68, v15), (69, v2), (70, t70), (71, t71), (74, v7), (75, t75), (76, t82), (77, v7), (78, v2), (79, v15), (80, t80), (81, t81), (82, t82), (83, t83), (84, t84), (85, t84), (86, t86), (87, v1)] d) h11))
  (C_lead_Lead_Open [v7] h2 fun t136 h12 =>
  oLen 0 t136 h12 fun t137 h13 =>
  oBin .eql t137 (Value.int .i64 0) h13 fun t138 h14 =>
  oGuard t138 true (fun K => C_l13_awake [] h14 K) h14 fun t140 h15 =>
  oPick t138 t140 (Value.bool false) h15 fun t141 h16 =>
  K t141 h16)
def X_l13_LeadChooses_2 (Qv : Post) (v1 : Value) (v2 : Value) (v7 : Value) (v9 : Value) (v11 : Value) (v15 : Value) (d : Nat → Value) (h : Hp) : Prop :=
  oLen 0 v2 h fun t70 h1 =>
  oBin .lss v15 t70 h1 fun t71 h2 =>
  oIf t71
  (C_lead_Lead_Next [v7] h2 fun t75 h3 =>
  oIdxS 4 v2 v15 h3 fun t80 h4 =>
  oLdN 4 t80 h4 fun t81 h5 =>
  C_lead_Lead_Propose [v7, t81] h5 fun t82 h6 =>
  oExtract t82 0 h6 fun t83 h7 =>
  oExtract t82 1 h7 fun t84 h8 =>
  oAlloc #[.int .i64 0, .int .u64 0, .int .i64 0, .int .i64 0, .int .u64 0, .int .i64 0] h8 fun t17 h9 =>
  oSt 6 t17 t83 h9 fun _ h10 =>
  oBin .neq t84 (Value.int .i64 0) h10 fun t86 h11 =>
  oIf t86
  ((qSeq (aw Try.prog O_l13_LeadChooses K_l13_LeadChooses_11 (qBlk 3 (qSeq (aw Try.prog O_l13_LeadChooses K_l13_LeadChooses_9 Qv) Qv))) (qBlk 3 (qSeq (aw Try.prog O_l13_LeadChooses K_l13_LeadChooses_9 Qv) Qv))) (.exit 3) (ul (E_l13_LeadChooses_2 v1 v2 v7 v9 v11 v15 d) [(16, t75), (17, t17), (18, t84), (68, v15), (69, v2), (70, t70), (71, t71), (74, v7), (75, t75), (76, t82), (77, v7), (78, v2), (79, v15), (80, t80), (81, t81), (82, t82), (83, t83), (84, t84), (85, t84), (86, t86)]) h11)
  (aw Try.prog O_l13_LeadChooses K_l13_LeadChooses_10 (qBlk 4 (qBlk 3 (qSeq (aw Try.prog O_l13_LeadChooses K_l13_LeadChooses_9 Qv) Qv))) (ul (E_l13_LeadChooses_2 v1 v2 v7 v9 v11 v15 d) [(16, t75), (17, t17), (18, t84), (19, v1), (68, v15), (69, v2), (70, t70), (71, t71), (74, v7), (75, t75), (76, t82), (77, v7), (78, v2), (79, v15), (80, t80), (81, t81), (82, t82), (83, t83), (84, t84), (85, t84), (86, t86), (87, v1)]) h11))
  ((qSeq (aw Try.prog O_l13_LeadChooses K_l13_LeadChooses_12 Qv) Qv) (.exit 2) (ul (E_l13_LeadChooses_2 v1 v2 v7 v9 v11 v15 d) [(68, v15), (69, v2), (70, t70), (71, t71)]) h2)
theorem ga_l13_LeadChooses_2 (Qv : Post) (v1 : Value) (v2 : Value) (v7 : Value) (v9 : Value) (v11 : Value) (v15 : Value) (d : Nat → Value) (h : Hp) : aw Try.prog O_l13_LeadChooses K_l13_LeadChooses_8 Qv (E_l13_LeadChooses_2 v1 v2 v7 v9 v11 v15 d) h = X_l13_LeadChooses_2 Qv v1 v2 v7 v9 v11 v15 d h := by kernel_rfl
theorem gb_l13_LeadChooses_2 (K : Kont) (s0 : Self) (v1 : Value) (v2 : Value) (v7 : Value) (v9 : Value) (v11 : Value) (v15 : Value) (d : Nat → Value) (h : Hp) : X_l13_LeadChooses_2 (Q_l13_LeadChooses_5 K s0) v1 v2 v7 v9 v11 v15 d h = B_l13_LeadChooses_2 K s0 v1 v2 v7 v9 v11 v15 d h := by kernel_rfl
theorem beq_l13_LeadChooses_2 (K : Kont) (s0 : Self) (v1 : Value) (v2 : Value) (v7 : Value) (v9 : Value) (v11 : Value) (v15 : Value) (d : Nat → Value) (h : Hp) : aw Try.prog O_l13_LeadChooses K_l13_LeadChooses_8 (Q_l13_LeadChooses_5 K s0) (E_l13_LeadChooses_2 v1 v2 v7 v9 v11 v15 d) h = B_l13_LeadChooses_2 K s0 v1 v2 v7 v9 v11 v15 d h := (ga_l13_LeadChooses_2 _ v1 v2 v7 v9 v11 v15 d h).trans (gb_l13_LeadChooses_2 K s0 v1 v2 v7 v9 v11 v15 d h)
theorem rule_l13_LeadChooses_2 {K : Kont} {v1 : Value} {v2 : Value} {v7 : Value} {v9 : Value} {v11 : Value} (Inv : Value → Hp → Prop) (μ : Value → Hp → Nat)
    (step : ∀ (s0 : Self) (v15 : Value) (d : Nat → Value) (h : Hp), Inv v15 h → (∀ (v15' : Value) (d' : Nat → Value) (h' : Hp), Inv v15' h' → μ v15' h' < μ v15 h → s0 (E_l13_LeadChooses_2 v1 v2 v7 v9 v11 v15' d') h') → B_l13_LeadChooses_2 K s0 v1 v2 v7 v9 v11 v15 d h) (v15 : Value) (d : Nat → Value) (h : Hp) (hi : Inv v15 h) : G_l13_LeadChooses_2 K v1 v2 v7 v9 v11 v15 d h :=
  oLoop_rule (α := Value × (Nat → Value)) (fun x => E_l13_LeadChooses_2 v1 v2 v7 v9 v11 x.1 x.2) (fun x h => Inv x.1 h) (fun x h => μ x.1 h)
    (fun self x h hx hs => (beq_l13_LeadChooses_2 K self v1 v2 v7 v9 v11 x.1 x.2 h).mpr (step self x.1 x.2 h hx (fun v15' d' h' h1 h2 => hs ⟨v15', d'⟩ h' h1 h2))) ⟨v15, d⟩ h hi
def R_l13_LeadChooses_3 (K : Kont) (s0 : Self) (v1 : Value) (v2 : Value) (v7 : Value) (v9 : Value) (v11 : Value) (v15 : Value) (d : Nat → Value) (h : Hp) : Prop :=
  oBin .add v15 (Value.int .i64 1) h fun t73 h1 =>
  s0 (E_l13_LeadChooses_2 v1 v2 v7 v9 v11 t73 (ud [(72, v15), (73, t73)] d)) h1
def X_l13_LeadChooses_3 (Qv : Post) (v1 : Value) (v2 : Value) (v7 : Value) (v9 : Value) (v11 : Value) (v15 : Value) (d : Nat → Value) (h : Hp) : Prop :=
  oBin .add v15 (Value.int .i64 1) h fun t73 h1 =>
  Qv .normal (ul (E_l13_LeadChooses_3 v1 v2 v7 v9 v11 v15 d) [(15, t73), (72, v15), (73, t73)]) h1
theorem ga_l13_LeadChooses_3 (Qv : Post) (v1 : Value) (v2 : Value) (v7 : Value) (v9 : Value) (v11 : Value) (v15 : Value) (d : Nat → Value) (h : Hp) : aw Try.prog O_l13_LeadChooses K_l13_LeadChooses_9 Qv (E_l13_LeadChooses_3 v1 v2 v7 v9 v11 v15 d) h = X_l13_LeadChooses_3 Qv v1 v2 v7 v9 v11 v15 d h := by kernel_rfl
theorem gb_l13_LeadChooses_3 (K : Kont) (s0 : Self) (v1 : Value) (v2 : Value) (v7 : Value) (v9 : Value) (v11 : Value) (v15 : Value) (d : Nat → Value) (h : Hp) : X_l13_LeadChooses_3 (Q_l13_LeadChooses_5 K s0) v1 v2 v7 v9 v11 v15 d h = R_l13_LeadChooses_3 K s0 v1 v2 v7 v9 v11 v15 d h := by kernel_rfl
theorem req_l13_LeadChooses_3 (K : Kont) (s0 : Self) (v1 : Value) (v2 : Value) (v7 : Value) (v9 : Value) (v11 : Value) (v15 : Value) (d : Nat → Value) (h : Hp) : G_l13_LeadChooses_3 K s0 v1 v2 v7 v9 v11 v15 d h = R_l13_LeadChooses_3 K s0 v1 v2 v7 v9 v11 v15 d h := (ga_l13_LeadChooses_3 _ v1 v2 v7 v9 v11 v15 d h).trans (gb_l13_LeadChooses_3 K s0 v1 v2 v7 v9 v11 v15 d h)
def B_l13_LeadChooses_4 (K : Kont) (s0 : Self) (s1 : Self) (v1 : Value) (v2 : Value) (v7 : Value) (v9 : Value) (v11 : Value) (v15 : Value) (v16 : Value) (v17 : Value) (v19 : Value) (d : Nat → Value) (h : Hp) : Prop :=
  oBin .sub v1 v11 h fun t91 h1 =>
  oBin .gtr v19 t91 h1 fun t92 h2 =>
  oIf t92
  (oFieldAddr 0 v17 h2 fun t98 h3 =>
  oLd1 t98 h3 fun t99 h4 =>
  C_lead_Lead_Accepted [v7, v9, t99, v19] h4 fun t101 h5 =>
  oExtract t101 0 h5 fun t102 h6 =>
  oExtract t101 1 h6 fun t103 h7 =>
  oAlloc #[.int .i64 0, .int .u64 0, .int .i64 0, .int .i64 0, .int .u64 0, .int .i64 0] h7 fun t20 h8 =>
  oSt 6 t20 t102 h8 fun _ h9 =>
  oBin .sub v1 v11 h9 fun t108 h10 =>
  oBin .add t108 (Value.int .i64 1) h10 fun t109 h11 =>
  oBin .eql v19 t109 h11 fun t110 h12 =>
  oEq 0 true none t103 t110 h12 fun t111 h13 =>
  oGuard t111 false (fun K => K t103 h13) h13 fun t113 h14 =>
  oGuard t111 false (fun K => K t113 h14) h14 fun t114 h15 =>
  oGuard t114 true (fun K => oLdN 6 t20 h15 K) h15 fun t115 h16 =>
  oGuard t114 true (fun K => oLdN 6 v17 h16 K) h16 fun t116 h17 =>
  oGuard t114 true (fun K => oEq 4 true (some [(0, (.int .i64)), (1, (.int .u64)), (2, (.int .i64)), (3, (.int .i64)), (4, (.int .u64)), (5, (.int .i64))]) t115 t116 h17 K) h17 fun t117 h18 =>
  oGuard t114 true (fun K => K t117 h18) h18 fun t118 h19 =>
  oGuard t118 false (fun K => oFieldAddr 0 v17 h19 K) h19 fun t119 h20 =>
  oGuard t118 false (fun K => oLd1 t119 h20 K) h20 fun t120 h21 =>
  oGuard t118 false (fun K => K v16 h21) h21 fun t121 h22 =>
  oGuard t118 false (fun K => oBin .neq t120 t121 h22 K) h22 fun t122 h23 =>
  oGuard t114 true (fun K => oPick t118 (Value.bool true) t122 h23 K) h23 fun t123 h24 =>
  oGuard t114 true (fun K => K t123 h24) h24 fun t124 h25 =>
  oGuard t124 false (fun K => oFieldAddr 2 v17 h25 K) h25 fun t125 h26 =>
  oGuard t124 false (fun K => oLdN 4 t125 h26 K) h26 fun t126 h27 =>
  oGuard t124 false (fun K => K v2 h27) h27 fun t127 h28 =>
  oGuard t124 false (fun K => K v15 h28) h28 fun t128 h29 =>
  oGuard t124 false (fun K => oIdxS 4 t127 t128 h29 K) h29 fun t129 h30 =>
  oGuard t124 false (fun K => oLdN 4 t129 h30 K) h30 fun t130 h31 =>
  oGuard t124 false (fun K => oEq 4 true (some [(0, (.int .i64)), (1, (.int .i64)), (2, (.int .u64)), (3, (.int .i64))]) t126 t130 h31 K) h31 fun t131 h32 =>
  oGuard t114 true (fun K => oPick t124 (Value.bool true) t131 h32 K) h32 fun t132 h33 =>
  oGuard t111 false (fun K => oPick t114 t132 (Value.bool false) h33 K) h33 fun t133 h34 =>
  oPick t111 (Value.bool true) t133 h34 fun t134 h35 =>
  oIf t134
  (K (Value.bool false) h35)
  (oBin .sub v19 (Value.int .i64 1) h35 fun t94 h36 =>
  s1 (E_l13_LeadChooses_4 v1 v2 v7 v9 v11 v15 v16 v17 t94 (ud [(20, t20), (21, t103), (88, v19), (89, v1), (90, v11), (91, t91), (92, t92), (93, v19), (94, t94), (95, t101), (96, v7), (97, v9), (98, t98), (99, t99), (100, v19), (101, t101), (102, t102), (103, t103), (104, t103), (105, v19), (106, v1), (107, v11), (108, t108), (109, t109), (110, t110), (111, t111), (112, t111), (113, t113), (114, t114), (115, t115), (116, t116), (117, t117), (118, t118), (119, t119), (120, t120), (121, t121), (122, t122), (123, t123), (124, t124), (125, t125), (126, t126), (127, t127), (128, t128), (129, t129), (130, t130), (131, t131), (132, t132), (133, t133), (134, t134)] d)) h36))
  (G_l13_LeadChooses_3 K s0 v1 v2 v7 v9 v11 v15 (ud [(16, v16), (17, v17), (19, v19), (88, v19), (89, v1), (90, v11), (91, t91), (92, t92)] d) h2)
def X_l13_LeadChooses_4 (Qv : Post) (v1 : Value) (v2 : Value) (v7 : Value) (v9 : Value) (v11 : Value) (v15 : Value) (v16 : Value) (v17 : Value) (v19 : Value) (d : Nat → Value) (h : Hp) : Prop :=
  oBin .sub v1 v11 h fun t91 h1 =>
  oBin .gtr v19 t91 h1 fun t92 h2 =>
  oIf t92
  (oFieldAddr 0 v17 h2 fun t98 h3 =>
  oLd1 t98 h3 fun t99 h4 =>
  C_lead_Lead_Accepted [v7, v9, t99, v19] h4 fun t101 h5 =>
  oExtract t101 0 h5 fun t102 h6 =>
  oExtract t101 1 h6 fun t103 h7 =>
  oAlloc #[.int .i64 0, .int .u64 0, .int .i64 0, .int .i64 0, .int .u64 0, .int .i64 0] h7 fun t20 h8 =>
  oSt 6 t20 t102 h8 fun _ h9 =>
  oBin .sub v1 v11 h9 fun t108 h10 =>
  oBin .add t108 (Value.int .i64 1) h10 fun t109 h11 =>
  oBin .eql v19 t109 h11 fun t110 h12 =>
  oEq 0 true none t103 t110 h12 fun t111 h13 =>
  oGuard t111 false (fun K => K t103 h13) h13 fun t113 h14 =>
  oGuard t111 false (fun K => K t113 h14) h14 fun t114 h15 =>
  oGuard t114 true (fun K => oLdN 6 t20 h15 K) h15 fun t115 h16 =>
  oGuard t114 true (fun K => oLdN 6 v17 h16 K) h16 fun t116 h17 =>
  oGuard t114 true (fun K => oEq 4 true (some [(0, (.int .i64)), (1, (.int .u64)), (2, (.int .i64)), (3, (.int .i64)), (4, (.int .u64)), (5, (.int .i64))]) t115 t116 h17 K) h17 fun t117 h18 =>
  oGuard t114 true (fun K => K t117 h18) h18 fun t118 h19 =>
  oGuard t118 false (fun K => oFieldAddr 0 v17 h19 K) h19 fun t119 h20 =>
  oGuard t118 false (fun K => oLd1 t119 h20 K) h20 fun t120 h21 =>
  oGuard t118 false (fun K => K v16 h21) h21 fun t121 h22 =>
  oGuard t118 false (fun K => oBin .neq t120 t121 h22 K) h22 fun t122 h23 =>
  oGuard t114 true (fun K => oPick t118 (Value.bool true) t122 h23 K) h23 fun t123 h24 =>
  oGuard t114 true (fun K => K t123 h24) h24 fun t124 h25 =>
  oGuard t124 false (fun K => oFieldAddr 2 v17 h25 K) h25 fun t125 h26 =>
  oGuard t124 false (fun K => oLdN 4 t125 h26 K) h26 fun t126 h27 =>
  oGuard t124 false (fun K => K v2 h27) h27 fun t127 h28 =>
  oGuard t124 false (fun K => K v15 h28) h28 fun t128 h29 =>
  oGuard t124 false (fun K => oIdxS 4 t127 t128 h29 K) h29 fun t129 h30 =>
  oGuard t124 false (fun K => oLdN 4 t129 h30 K) h30 fun t130 h31 =>
  oGuard t124 false (fun K => oEq 4 true (some [(0, (.int .i64)), (1, (.int .i64)), (2, (.int .u64)), (3, (.int .i64))]) t126 t130 h31 K) h31 fun t131 h32 =>
  oGuard t114 true (fun K => oPick t124 (Value.bool true) t131 h32 K) h32 fun t132 h33 =>
  oGuard t111 false (fun K => oPick t114 t132 (Value.bool false) h33 K) h33 fun t133 h34 =>
  oPick t111 (Value.bool true) t133 h34 fun t134 h35 =>
  oIf t134
  ((qBlk 5 (qSeq (aw Try.prog O_l13_LeadChooses K_l13_LeadChooses_14 Qv) Qv)) .ret (ul (E_l13_LeadChooses_4 v1 v2 v7 v9 v11 v15 v16 v17 v19 d) [(6, (Value.bool false)), (20, t20), (21, t103), (88, v19), (89, v1), (90, v11), (91, t91), (92, t92), (95, t101), (96, v7), (97, v9), (98, t98), (99, t99), (100, v19), (101, t101), (102, t102), (103, t103), (104, t103), (105, v19), (106, v1), (107, v11), (108, t108), (109, t109), (110, t110), (111, t111), (112, t111), (113, t113), (114, t114), (115, t115), (116, t116), (117, t117), (118, t118), (119, t119), (120, t120), (121, t121), (122, t122), (123, t123), (124, t124), (125, t125), (126, t126), (127, t127), (128, t128), (129, t129), (130, t130), (131, t131), (132, t132), (133, t133), (134, t134)]) h35)
  (oBin .sub v19 (Value.int .i64 1) h35 fun t94 h36 =>
  Qv .normal (ul (E_l13_LeadChooses_4 v1 v2 v7 v9 v11 v15 v16 v17 v19 d) [(19, t94), (20, t20), (21, t103), (88, v19), (89, v1), (90, v11), (91, t91), (92, t92), (93, v19), (94, t94), (95, t101), (96, v7), (97, v9), (98, t98), (99, t99), (100, v19), (101, t101), (102, t102), (103, t103), (104, t103), (105, v19), (106, v1), (107, v11), (108, t108), (109, t109), (110, t110), (111, t111), (112, t111), (113, t113), (114, t114), (115, t115), (116, t116), (117, t117), (118, t118), (119, t119), (120, t120), (121, t121), (122, t122), (123, t123), (124, t124), (125, t125), (126, t126), (127, t127), (128, t128), (129, t129), (130, t130), (131, t131), (132, t132), (133, t133), (134, t134)]) h36))
  ((qSeq (aw Try.prog O_l13_LeadChooses K_l13_LeadChooses_15 Qv) Qv) (.exit 4) (ul (E_l13_LeadChooses_4 v1 v2 v7 v9 v11 v15 v16 v17 v19 d) [(88, v19), (89, v1), (90, v11), (91, t91), (92, t92)]) h2)
theorem ga_l13_LeadChooses_4 (Qv : Post) (v1 : Value) (v2 : Value) (v7 : Value) (v9 : Value) (v11 : Value) (v15 : Value) (v16 : Value) (v17 : Value) (v19 : Value) (d : Nat → Value) (h : Hp) : aw Try.prog O_l13_LeadChooses K_l13_LeadChooses_13 Qv (E_l13_LeadChooses_4 v1 v2 v7 v9 v11 v15 v16 v17 v19 d) h = X_l13_LeadChooses_4 Qv v1 v2 v7 v9 v11 v15 v16 v17 v19 d h := by kernel_rfl
theorem gb_l13_LeadChooses_4 (K : Kont) (s0 : Self) (s1 : Self) (v1 : Value) (v2 : Value) (v7 : Value) (v9 : Value) (v11 : Value) (v15 : Value) (v16 : Value) (v17 : Value) (v19 : Value) (d : Nat → Value) (h : Hp) : X_l13_LeadChooses_4 (Q_l13_LeadChooses_9 K s0 s1) v1 v2 v7 v9 v11 v15 v16 v17 v19 d h = B_l13_LeadChooses_4 K s0 s1 v1 v2 v7 v9 v11 v15 v16 v17 v19 d h := by kernel_rfl
theorem beq_l13_LeadChooses_4 (K : Kont) (s0 : Self) (s1 : Self) (v1 : Value) (v2 : Value) (v7 : Value) (v9 : Value) (v11 : Value) (v15 : Value) (v16 : Value) (v17 : Value) (v19 : Value) (d : Nat → Value) (h : Hp) : aw Try.prog O_l13_LeadChooses K_l13_LeadChooses_13 (Q_l13_LeadChooses_9 K s0 s1) (E_l13_LeadChooses_4 v1 v2 v7 v9 v11 v15 v16 v17 v19 d) h = B_l13_LeadChooses_4 K s0 s1 v1 v2 v7 v9 v11 v15 v16 v17 v19 d h := (ga_l13_LeadChooses_4 _ v1 v2 v7 v9 v11 v15 v16 v17 v19 d h).trans (gb_l13_LeadChooses_4 K s0 s1 v1 v2 v7 v9 v11 v15 v16 v17 v19 d h)
theorem rule_l13_LeadChooses_4 {K : Kont} {s0 : Self} {v1 : Value} {v2 : Value} {v7 : Value} {v9 : Value} {v11 : Value} {v15 : Value} {v16 : Value} {v17 : Value} (Inv : Value → Hp → Prop) (μ : Value → Hp → Nat)
    (step : ∀ (s1 : Self) (v19 : Value) (d : Nat → Value) (h : Hp), Inv v19 h → (∀ (v19' : Value) (d' : Nat → Value) (h' : Hp), Inv v19' h' → μ v19' h' < μ v19 h → s1 (E_l13_LeadChooses_4 v1 v2 v7 v9 v11 v15 v16 v17 v19' d') h') → B_l13_LeadChooses_4 K s0 s1 v1 v2 v7 v9 v11 v15 v16 v17 v19 d h) (v19 : Value) (d : Nat → Value) (h : Hp) (hi : Inv v19 h) : G_l13_LeadChooses_4 K s0 v1 v2 v7 v9 v11 v15 v16 v17 v19 d h :=
  oLoop_rule (α := Value × (Nat → Value)) (fun x => E_l13_LeadChooses_4 v1 v2 v7 v9 v11 v15 v16 v17 x.1 x.2) (fun x h => Inv x.1 h) (fun x h => μ x.1 h)
    (fun self x h hx hs => (beq_l13_LeadChooses_4 K s0 self v1 v2 v7 v9 v11 v15 v16 v17 x.1 x.2 h).mpr (step self x.1 x.2 h hx (fun v19' d' h' h1 h2 => hs ⟨v19', d'⟩ h' h1 h2))) ⟨v19, d⟩ h hi

end Go.Proofs.Ytdolepapmpcpiaa

/- What functions of the program ask of the seen heap (written by a program of this proof, vgen.py). -/
namespace Go.Proofs.Ytdolepapmpcpiaa
open Go
set_option linter.unusedSectionVars false
variable [Base]
set_option linter.unusedVariables false
set_option maxRecDepth 100000

/-! ### catenary/catenarylaw13.LeadNil: function 9 -/
def O_l13_LeadNil : Od := []
def G_l13_LeadNil (a0 : Value) (h : Hp) (K : Kont) : Prop :=
  oBox a0 h fun t1 h1 =>
  oFieldAddr 2 t1 h1 fun t14 h2 =>
  oLd1 t14 h2 fun t15 h3 =>
  oFieldAddr 3 t1 h3 fun t16 h4 =>
  oLd1 t16 h4 fun t17 h5 =>
  C_lead_Lead_Start [(Value.pointer none), t15, t17] h5 fun t18 h6 =>
  oExtract t18 0 h6 fun t19 h7 =>
  oExtract t18 1 h7 fun t20 h8 =>
  oFieldAddr 2 t1 h8 fun t23 h9 =>
  oLd1 t23 h9 fun t24 h10 =>
  oFieldAddr 4 t1 h10 fun t25 h11 =>
  oLd1 t25 h11 fun t26 h12 =>
  oFieldAddr 5 t1 h12 fun t27 h13 =>
  oLd1 t27 h13 fun t28 h14 =>
  C_lead_Lead_Promise [(Value.pointer none), t24, t26, t28] h14 fun t29 h15 =>
  oExtract t29 0 h15 fun t30 h16 =>
  oExtract t29 1 h16 fun t31 h17 =>
  oFieldAddr 6 t1 h17 fun t34 h18 =>
  oLdN 4 t34 h18 fun t35 h19 =>
  C_lead_Lead_Propose [(Value.pointer none), t35] h19 fun t36 h20 =>
  oExtract t36 0 h20 fun t37 h21 =>
  oExtract t36 1 h21 fun t38 h22 =>
  oAlloc #[.int .i64 0, .int .u64 0, .int .i64 0, .int .i64 0, .int .u64 0, .int .i64 0] h22 fun t8 h23 =>
  oSt 6 t8 t37 h23 fun _ h24 =>
  oFieldAddr 2 t1 h24 fun t41 h25 =>
  oLd1 t41 h25 fun t42 h26 =>
  oFieldAddr 3 t1 h26 fun t43 h27 =>
  oLd1 t43 h27 fun t44 h28 =>
  oFieldAddr 4 t1 h28 fun t45 h29 =>
  oLd1 t45 h29 fun t46 h30 =>
  C_lead_Lead_Accepted [(Value.pointer none), t42, t44, t46] h30 fun t47 h31 =>
  oExtract t47 0 h31 fun t48 h32 =>
  oExtract t47 1 h32 fun t49 h33 =>
  oAlloc #[.int .i64 0, .int .u64 0, .int .i64 0, .int .i64 0, .int .u64 0, .int .i64 0] h33 fun t10 h34 =>
  oSt 6 t10 t48 h34 fun _ h35 =>
  oBin .eql t19 (Value.int .u64 0) h35 fun t51 h36 =>
  oGuard t51 true (fun K => K t20 h36) h36 fun t53 h37 =>
  oGuard t51 true (fun K => oBin .eql t53 (Value.int .i64 2) h37 K) h37 fun t54 h38 =>
  oPick t51 t54 (Value.bool false) h38 fun t55 h39 =>
  oGuard t55 true (fun K => K t30 h39) h39 fun t57 h40 =>
  oGuard t55 true (fun K => oLen 0 t57 h40 K) h40 fun t58 h41 =>
  oGuard t55 true (fun K => oBin .eql t58 (Value.int .i64 0) h41 K) h41 fun t59 h42 =>
  oPick t55 t59 (Value.bool false) h42 fun t60 h43 =>
  oGuard t60 true (fun K => K t31 h43) h43 fun t62 h44 =>
  oGuard t60 true (fun K => oNot t62 h44 K) h44 fun t63 h45 =>
  oPick t60 t63 (Value.bool false) h45 fun t64 h46 =>
  oGuard t64 true (fun K => oLdN 6 t8 h46 K) h46 fun t66 h47 =>
  oGuard t64 true (fun K => oBuild #[.int .i64 0, .int .u64 0, .int .i64 0, .int .i64 0, .int .u64 0, .int .i64 0] [] h47 K) h47 fun t67 h48 =>
  oGuard t64 true (fun K => oEq 4 false (some [(0, (.int .i64)), (1, (.int .u64)), (2, (.int .i64)), (3, (.int .i64)), (4, (.int .u64)), (5, (.int .i64))]) t66 t67 h48 K) h48 fun t68 h49 =>
  oPick t64 t68 (Value.bool false) h49 fun t69 h50 =>
  oGuard t69 true (fun K => K t38 h50) h50 fun t71 h51 =>
  oGuard t69 true (fun K => oBin .eql t71 (Value.int .i64 2) h51 K) h51 fun t72 h52 =>
  oPick t69 t72 (Value.bool false) h52 fun t73 h53 =>
  oGuard t73 true (fun K => oLdN 6 t10 h53 K) h53 fun t75 h54 =>
  oGuard t73 true (fun K => oBuild #[.int .i64 0, .int .u64 0, .int .i64 0, .int .i64 0, .int .u64 0, .int .i64 0] [] h54 K) h54 fun t76 h55 =>
  oGuard t73 true (fun K => oEq 4 false (some [(0, (.int .i64)), (1, (.int .u64)), (2, (.int .i64)), (3, (.int .i64)), (4, (.int .u64)), (5, (.int .i64))]) t75 t76 h55 K) h55 fun t77 h56 =>
  oPick t73 t77 (Value.bool false) h56 fun t78 h57 =>
  oGuard t78 true (fun K => K t49 h57) h57 fun t80 h58 =>
  oGuard t78 true (fun K => oNot t80 h58 K) h58 fun t81 h59 =>
  oPick t78 t81 (Value.bool false) h59 fun t82 h60 =>
  oGuard t82 true (fun K => K (Value.pointer none) h60) h60 fun t84 h61 =>
  oGuard t82 true (fun K => oFieldAddr 2 t1 h61 K) h61 fun t85 h62 =>
  oGuard t82 true (fun K => oLd1 t85 h62 K) h62 fun t86 h63 =>
  oGuard t82 true (fun K => C_lead_Lead_Refuse [t84, t86] h63 K) h63 fun t87 h64 =>
  oGuard t82 true (fun K => oNot t87 h64 K) h64 fun t88 h65 =>
  oPick t82 t88 (Value.bool false) h65 fun t89 h66 =>
  oGuard t89 true (fun K => K (Value.pointer none) h66) h66 fun t91 h67 =>
  oGuard t89 true (fun K => C_lead_Lead_Open [t91] h67 K) h67 fun t92 h68 =>
  oGuard t89 true (fun K => oLen 0 t92 h68 K) h68 fun t93 h69 =>
  oGuard t89 true (fun K => oBin .eql t93 (Value.int .i64 0) h69 K) h69 fun t94 h70 =>
  oPick t89 t94 (Value.bool false) h70 fun t95 h71 =>
  oGuard t95 true (fun K => K (Value.pointer none) h71) h71 fun t97 h72 =>
  oGuard t95 true (fun K => C_lead_Lead_State [t97] h72 K) h72 fun t98 h73 =>
  oGuard t95 true (fun K => oBin .eql t98 (Value.int .i64 0) h73 K) h73 fun t99 h74 =>
  oPick t95 t99 (Value.bool false) h74 fun t100 h75 =>
  oGuard t100 true (fun K => K (Value.pointer none) h75) h75 fun t102 h76 =>
  oGuard t100 true (fun K => C_lead_Lead_Ballot [t102] h76 K) h76 fun t103 h77 =>
  oGuard t100 true (fun K => oBin .eql t103 (Value.int .u64 0) h77 K) h77 fun t104 h78 =>
  oPick t100 t104 (Value.bool false) h78 fun t105 h79 =>
  oGuard t105 true (fun K => K (Value.pointer none) h79) h79 fun t107 h80 =>
  oGuard t105 true (fun K => C_lead_Lead_From [t107] h80 K) h80 fun t108 h81 =>
  oGuard t105 true (fun K => oBin .eql t108 (Value.int .i64 0) h81 K) h81 fun t109 h82 =>
  oPick t105 t109 (Value.bool false) h82 fun t110 h83 =>
  oGuard t110 true (fun K => K (Value.pointer none) h83) h83 fun t112 h84 =>
  oGuard t110 true (fun K => C_lead_Lead_Next [t112] h84 K) h84 fun t113 h85 =>
  oGuard t110 true (fun K => oBin .eql t113 (Value.int .i64 0) h85 K) h85 fun t114 h86 =>
  oPick t110 t114 (Value.bool false) h86 fun t115 h87 =>
  oGuard t115 true (fun K => C_l13_awake [] h87 K) h87 fun t117 h88 =>
  oPick t115 t117 (Value.bool false) h88 fun t118 h89 =>
  K t118 h89
def E0_l13_LeadNil (a0 : Value) : List Value := [a0, undef, undef, undef, undef, undef, undef, undef, undef, undef, undef, undef, undef, undef, undef, undef, undef, undef, undef, undef, undef, undef, undef, undef, undef, undef, undef, undef, undef, undef, undef, undef, undef, undef, undef, undef, undef, undef, undef, undef, undef, undef, undef, undef, undef, undef, undef, undef, undef, undef, undef, undef, undef, undef, undef, undef, undef, undef, undef, undef, undef, undef, undef, undef, undef, undef, undef, undef, undef, undef, undef, undef, undef, undef, undef, undef, undef, undef, undef, undef, undef, undef, undef, undef, undef, undef, undef, undef, undef, undef, undef, undef, undef, undef, undef, undef, undef, undef, undef, undef, undef, undef, undef, undef, undef, undef, undef, undef, undef, undef, undef, undef, undef, undef, undef, undef, undef, undef, undef]
def X_l13_LeadNil (Qv : Post) (a0 : Value) (h : Hp) : Prop :=
  oBox a0 h fun t1 h1 =>
  oFieldAddr 2 t1 h1 fun t14 h2 =>
  oLd1 t14 h2 fun t15 h3 =>
  oFieldAddr 3 t1 h3 fun t16 h4 =>
  oLd1 t16 h4 fun t17 h5 =>
  C_lead_Lead_Start [(Value.pointer none), t15, t17] h5 fun t18 h6 =>
  oExtract t18 0 h6 fun t19 h7 =>
  oExtract t18 1 h7 fun t20 h8 =>
  oFieldAddr 2 t1 h8 fun t23 h9 =>
  oLd1 t23 h9 fun t24 h10 =>
  oFieldAddr 4 t1 h10 fun t25 h11 =>
  oLd1 t25 h11 fun t26 h12 =>
  oFieldAddr 5 t1 h12 fun t27 h13 =>
  oLd1 t27 h13 fun t28 h14 =>
  C_lead_Lead_Promise [(Value.pointer none), t24, t26, t28] h14 fun t29 h15 =>
  oExtract t29 0 h15 fun t30 h16 =>
  oExtract t29 1 h16 fun t31 h17 =>
  oFieldAddr 6 t1 h17 fun t34 h18 =>
  oLdN 4 t34 h18 fun t35 h19 =>
  C_lead_Lead_Propose [(Value.pointer none), t35] h19 fun t36 h20 =>
  oExtract t36 0 h20 fun t37 h21 =>
  oExtract t36 1 h21 fun t38 h22 =>
  oAlloc #[.int .i64 0, .int .u64 0, .int .i64 0, .int .i64 0, .int .u64 0, .int .i64 0] h22 fun t8 h23 =>
  oSt 6 t8 t37 h23 fun _ h24 =>
  oFieldAddr 2 t1 h24 fun t41 h25 =>
  oLd1 t41 h25 fun t42 h26 =>
  oFieldAddr 3 t1 h26 fun t43 h27 =>
  oLd1 t43 h27 fun t44 h28 =>
  oFieldAddr 4 t1 h28 fun t45 h29 =>
  oLd1 t45 h29 fun t46 h30 =>
  C_lead_Lead_Accepted [(Value.pointer none), t42, t44, t46] h30 fun t47 h31 =>
  oExtract t47 0 h31 fun t48 h32 =>
  oExtract t47 1 h32 fun t49 h33 =>
  oAlloc #[.int .i64 0, .int .u64 0, .int .i64 0, .int .i64 0, .int .u64 0, .int .i64 0] h33 fun t10 h34 =>
  oSt 6 t10 t48 h34 fun _ h35 =>
  oBin .eql t19 (Value.int .u64 0) h35 fun t51 h36 =>
  oGuard t51 true (fun K => K t20 h36) h36 fun t53 h37 =>
  oGuard t51 true (fun K => oBin .eql t53 (Value.int .i64 2) h37 K) h37 fun t54 h38 =>
  oPick t51 t54 (Value.bool false) h38 fun t55 h39 =>
  oGuard t55 true (fun K => K t30 h39) h39 fun t57 h40 =>
  oGuard t55 true (fun K => oLen 0 t57 h40 K) h40 fun t58 h41 =>
  oGuard t55 true (fun K => oBin .eql t58 (Value.int .i64 0) h41 K) h41 fun t59 h42 =>
  oPick t55 t59 (Value.bool false) h42 fun t60 h43 =>
  oGuard t60 true (fun K => K t31 h43) h43 fun t62 h44 =>
  oGuard t60 true (fun K => oNot t62 h44 K) h44 fun t63 h45 =>
  oPick t60 t63 (Value.bool false) h45 fun t64 h46 =>
  oGuard t64 true (fun K => oLdN 6 t8 h46 K) h46 fun t66 h47 =>
  oGuard t64 true (fun K => oBuild #[.int .i64 0, .int .u64 0, .int .i64 0, .int .i64 0, .int .u64 0, .int .i64 0] [] h47 K) h47 fun t67 h48 =>
  oGuard t64 true (fun K => oEq 4 false (some [(0, (.int .i64)), (1, (.int .u64)), (2, (.int .i64)), (3, (.int .i64)), (4, (.int .u64)), (5, (.int .i64))]) t66 t67 h48 K) h48 fun t68 h49 =>
  oPick t64 t68 (Value.bool false) h49 fun t69 h50 =>
  oGuard t69 true (fun K => K t38 h50) h50 fun t71 h51 =>
  oGuard t69 true (fun K => oBin .eql t71 (Value.int .i64 2) h51 K) h51 fun t72 h52 =>
  oPick t69 t72 (Value.bool false) h52 fun t73 h53 =>
  oGuard t73 true (fun K => oLdN 6 t10 h53 K) h53 fun t75 h54 =>
  oGuard t73 true (fun K => oBuild #[.int .i64 0, .int .u64 0, .int .i64 0, .int .i64 0, .int .u64 0, .int .i64 0] [] h54 K) h54 fun t76 h55 =>
  oGuard t73 true (fun K => oEq 4 false (some [(0, (.int .i64)), (1, (.int .u64)), (2, (.int .i64)), (3, (.int .i64)), (4, (.int .u64)), (5, (.int .i64))]) t75 t76 h55 K) h55 fun t77 h56 =>
  oPick t73 t77 (Value.bool false) h56 fun t78 h57 =>
  oGuard t78 true (fun K => K t49 h57) h57 fun t80 h58 =>
  oGuard t78 true (fun K => oNot t80 h58 K) h58 fun t81 h59 =>
  oPick t78 t81 (Value.bool false) h59 fun t82 h60 =>
  oGuard t82 true (fun K => K (Value.pointer none) h60) h60 fun t84 h61 =>
  oGuard t82 true (fun K => oFieldAddr 2 t1 h61 K) h61 fun t85 h62 =>
  oGuard t82 true (fun K => oLd1 t85 h62 K) h62 fun t86 h63 =>
  oGuard t82 true (fun K => C_lead_Lead_Refuse [t84, t86] h63 K) h63 fun t87 h64 =>
  oGuard t82 true (fun K => oNot t87 h64 K) h64 fun t88 h65 =>
  oPick t82 t88 (Value.bool false) h65 fun t89 h66 =>
  oGuard t89 true (fun K => K (Value.pointer none) h66) h66 fun t91 h67 =>
  oGuard t89 true (fun K => C_lead_Lead_Open [t91] h67 K) h67 fun t92 h68 =>
  oGuard t89 true (fun K => oLen 0 t92 h68 K) h68 fun t93 h69 =>
  oGuard t89 true (fun K => oBin .eql t93 (Value.int .i64 0) h69 K) h69 fun t94 h70 =>
  oPick t89 t94 (Value.bool false) h70 fun t95 h71 =>
  oGuard t95 true (fun K => K (Value.pointer none) h71) h71 fun t97 h72 =>
  oGuard t95 true (fun K => C_lead_Lead_State [t97] h72 K) h72 fun t98 h73 =>
  oGuard t95 true (fun K => oBin .eql t98 (Value.int .i64 0) h73 K) h73 fun t99 h74 =>
  oPick t95 t99 (Value.bool false) h74 fun t100 h75 =>
  oGuard t100 true (fun K => K (Value.pointer none) h75) h75 fun t102 h76 =>
  oGuard t100 true (fun K => C_lead_Lead_Ballot [t102] h76 K) h76 fun t103 h77 =>
  oGuard t100 true (fun K => oBin .eql t103 (Value.int .u64 0) h77 K) h77 fun t104 h78 =>
  oPick t100 t104 (Value.bool false) h78 fun t105 h79 =>
  oGuard t105 true (fun K => K (Value.pointer none) h79) h79 fun t107 h80 =>
  oGuard t105 true (fun K => C_lead_Lead_From [t107] h80 K) h80 fun t108 h81 =>
  oGuard t105 true (fun K => oBin .eql t108 (Value.int .i64 0) h81 K) h81 fun t109 h82 =>
  oPick t105 t109 (Value.bool false) h82 fun t110 h83 =>
  oGuard t110 true (fun K => K (Value.pointer none) h83) h83 fun t112 h84 =>
  oGuard t110 true (fun K => C_lead_Lead_Next [t112] h84 K) h84 fun t113 h85 =>
  oGuard t110 true (fun K => oBin .eql t113 (Value.int .i64 0) h85 K) h85 fun t114 h86 =>
  oPick t110 t114 (Value.bool false) h86 fun t115 h87 =>
  oGuard t115 true (fun K => C_l13_awake [] h87 K) h87 fun t117 h88 =>
  oPick t115 t117 (Value.bool false) h88 fun t118 h89 =>
  Qv .ret (ul (E0_l13_LeadNil a0) [(1, t1), (2, t118), (3, (Value.pointer none)), (4, t19), (5, t20), (6, t30), (7, t31), (8, t8), (9, t38), (10, t10), (11, t49), (12, t18), (13, (Value.pointer none)), (14, t14), (15, t15), (16, t16), (17, t17), (18, t18), (19, t19), (20, t20), (21, t29), (22, (Value.pointer none)), (23, t23), (24, t24), (25, t25), (26, t26), (27, t27), (28, t28), (29, t29), (30, t30), (31, t31), (32, t36), (33, (Value.pointer none)), (34, t34), (35, t35), (36, t36), (37, t37), (38, t38), (39, t47), (40, (Value.pointer none)), (41, t41), (42, t42), (43, t43), (44, t44), (45, t45), (46, t46), (47, t47), (48, t48), (49, t49), (50, t19), (51, t51), (52, t51), (53, t53), (54, t54), (55, t55), (56, t55), (57, t57), (58, t58), (59, t59), (60, t60), (61, t60), (62, t62), (63, t63), (64, t64), (65, t64), (66, t66), (67, t67), (68, t68), (69, t69), (70, t69), (71, t71), (72, t72), (73, t73), (74, t73), (75, t75), (76, t76), (77, t77), (78, t78), (79, t78), (80, t80), (81, t81), (82, t82), (83, t82), (84, t84), (85, t85), (86, t86), (87, t87), (88, t88), (89, t89), (90, t89), (91, t91), (92, t92), (93, t93), (94, t94), (95, t95), (96, t95), (97, t97), (98, t98), (99, t99), (100, t100), (101, t100), (102, t102), (103, t103), (104, t104), (105, t105), (106, t105), (107, t107), (108, t108), (109, t109), (110, t110), (111, t110), (112, t112), (113, t113), (114, t114), (115, t115), (116, t115), (117, t117), (118, t118)]) h89
theorem ga_l13_LeadNil (Qv : Post) (a0 : Value) (h : Hp) : aw Try.prog O_l13_LeadNil (bodyC Try.f9) Qv (E0_l13_LeadNil a0) h = X_l13_LeadNil Qv a0 h := by kernel_rfl
theorem gb_l13_LeadNil (a0 : Value) (h : Hp) (K : Kont) : X_l13_LeadNil (qTop Try.prog Try.f9 K) a0 h = G_l13_LeadNil a0 h K := by kernel_rfl
theorem gc_l13_LeadNil (a0 : Value) (h : Hp) (K : Kont) : abody Try.prog O_l13_LeadNil Try.f9 (bodyC Try.f9) [a0] h K = aw Try.prog O_l13_LeadNil (bodyC Try.f9) (qTop Try.prog Try.f9 K) (E0_l13_LeadNil a0) h := by kernel_rfl
theorem eq_l13_LeadNil (a0 : Value) (h : Hp) (K : Kont) : abody Try.prog O_l13_LeadNil Try.f9 (bodyC Try.f9) [a0] h K = G_l13_LeadNil a0 h K := (gc_l13_LeadNil a0 h K).trans ((ga_l13_LeadNil _ a0 h).trans (gb_l13_LeadNil a0 h K))
theorem ok_l13_LeadNil {a0 : Value} {h : Hp} {K : Kont} (hk : G_l13_LeadNil a0 h K) : C_l13_LeadNil [a0] h K := ac_of_body prog_mixed (fn := Try.f9) Try.func9 (c := bodyC Try.f9) (by kernel_rfl) ((eq_l13_LeadNil a0 h K).mpr hk)

end Go.Proofs.Ytdolepapmpcpiaa

/- What functions of the program ask of the seen heap (written by a program of this proof, vgen.py). -/
namespace Go.Proofs.Ytdolepapmpcpiaa
open Go
set_option linter.unusedSectionVars false
variable [Base]
set_option linter.unusedVariables false
set_option maxRecDepth 100000

end Go.Proofs.Ytdolepapmpcpiaa

/- What functions of the program ask of the seen heap (written by a program of this proof, vgen.py). -/
namespace Go.Proofs.Ytdolepapmpcpiaa
open Go
set_option linter.unusedSectionVars false
variable [Base]
set_option linter.unusedVariables false
set_option maxRecDepth 100000

/-! ### catenary/accept.New: function 11 -/
def O_accept_New : Od := []
def G_accept_New (h : Hp) (K : Kont) : Prop :=
  oMakeMap h fun t1 h1 =>
  oBuild #[.int .u64 0, .map none] [(1, 1, t1)] h1 fun t2 h2 =>
  oBox t2 h2 fun t3 h3 =>
  K t3 h3
def E0_accept_New : List Value := [undef, undef, undef, undef]
def X_accept_New (Qv : Post) (h : Hp) : Prop :=
  oMakeMap h fun t1 h1 =>
  oBuild #[.int .u64 0, .map none] [(1, 1, t1)] h1 fun t2 h2 =>
  oBox t2 h2 fun t3 h3 =>
  Qv .ret (ul (E0_accept_New) [(0, t3), (1, t1), (2, t2), (3, t3)]) h3
theorem ga_accept_New (Qv : Post) (h : Hp) : aw Try.prog O_accept_New (bodyC Try.f11) Qv (E0_accept_New) h = X_accept_New Qv  h := by kernel_rfl
theorem gb_accept_New (h : Hp) (K : Kont) : X_accept_New (qTop Try.prog Try.f11 K)  h = G_accept_New  h K := by kernel_rfl
theorem gc_accept_New (h : Hp) (K : Kont) : abody Try.prog O_accept_New Try.f11 (bodyC Try.f11) [] h K = aw Try.prog O_accept_New (bodyC Try.f11) (qTop Try.prog Try.f11 K) (E0_accept_New) h := by kernel_rfl
theorem eq_accept_New (h : Hp) (K : Kont) : abody Try.prog O_accept_New Try.f11 (bodyC Try.f11) [] h K = G_accept_New  h K := (gc_accept_New  h K).trans ((ga_accept_New _  h).trans (gb_accept_New  h K))
theorem ok_accept_New {h : Hp} {K : Kont} (hk : G_accept_New  h K) : C_accept_New [] h K := ac_of_body prog_mixed (fn := Try.f11) Try.func11 (c := bodyC Try.f11) (by kernel_rfl) ((eq_accept_New  h K).mpr hk)

/-! ### (*catenary/accept.Acceptor).Vote: function 13 -/
def O_accept_Acceptor_Vote : Od := []
noncomputable def K_accept_Acceptor_Vote_0 : Code := (cB (cB (bodyC Try.f13)))
def G_accept_Acceptor_Vote (a0 a1 : Value) (h : Hp) (K : Kont) : Prop :=
  oAlloc #[.int .i64 0, .int .u64 0, .int .i64 0, .int .i64 0, .int .u64 0, .int .i64 0] h fun t4 h1 =>
  oEq 1 false none a0 (Value.pointer none) h1 fun t9 h2 =>
  oIf t9
  (oBuild #[.int .i64 0, .int .u64 0, .int .i64 0, .int .i64 0, .int .u64 0, .int .i64 0] [] h2 fun t10 h3 =>
  oSt 6 t4 t10 h3 fun _ h4 =>
  oLdN 6 t4 h4 fun r1 _ =>
  K (.tuple #[r1, (Value.bool false)]) h4)
  (oNilCheck a0 h2 fun t13 h5 =>
  oFieldAddr 1 t13 h5 fun t14 h6 =>
  oLd1 t14 h6 fun t15 h7 =>
  oLookup (.int .i64) (.agg #[.int .i64 0, .int .u64 0, .int .i64 0, .int .i64 0, .int .u64 0, .int .i64 0]) t15 a1 true h7 fun t17 h8 =>
  oExtract t17 0 h8 fun t18 h9 =>
  oExtract t17 1 h9 fun t19 h10 =>
  oAlloc #[.int .i64 0, .int .u64 0, .int .i64 0, .int .i64 0, .int .u64 0, .int .i64 0] h10 fun t6 h11 =>
  oSt 6 t6 t18 h11 fun _ h12 =>
  oLdN 6 t6 h12 fun t20 h13 =>
  oSt 6 t4 t20 h13 fun _ h14 =>
  oLdN 6 t4 h14 fun r2 _ =>
  K (.tuple #[r2, t19]) h14)
def E0_accept_Acceptor_Vote (a0 a1 : Value) : List Value := [a0, a1, undef, undef, undef, undef, undef, undef, undef, undef, undef, undef, undef, undef, undef, undef, undef, undef, undef, undef, undef, undef]
def X_accept_Acceptor_Vote (Qv : Post) (a0 a1 : Value) (h : Hp) : Prop :=
  oAlloc #[.int .i64 0, .int .u64 0, .int .i64 0, .int .i64 0, .int .u64 0, .int .i64 0] h fun t4 h1 =>
  oEq 1 false none a0 (Value.pointer none) h1 fun t9 h2 =>
  oIf t9
  (oBuild #[.int .i64 0, .int .u64 0, .int .i64 0, .int .i64 0, .int .u64 0, .int .i64 0] [] h2 fun t10 h3 =>
  oSt 6 t4 t10 h3 fun _ h4 =>
  (qSeq (aw Try.prog O_accept_Acceptor_Vote K_accept_Acceptor_Vote_0 Qv) Qv) .ret (ul (E0_accept_Acceptor_Vote a0 a1) [(4, t4), (5, (Value.bool false)), (8, a0), (9, t9), (10, t10)]) h4)
  (oNilCheck a0 h2 fun t13 h5 =>
  oFieldAddr 1 t13 h5 fun t14 h6 =>
  oLd1 t14 h6 fun t15 h7 =>
  oLookup (.int .i64) (.agg #[.int .i64 0, .int .u64 0, .int .i64 0, .int .i64 0, .int .u64 0, .int .i64 0]) t15 a1 true h7 fun t17 h8 =>
  oExtract t17 0 h8 fun t18 h9 =>
  oExtract t17 1 h9 fun t19 h10 =>
  oAlloc #[.int .i64 0, .int .u64 0, .int .i64 0, .int .i64 0, .int .u64 0, .int .i64 0] h10 fun t6 h11 =>
  oSt 6 t6 t18 h11 fun _ h12 =>
  oLdN 6 t6 h12 fun t20 h13 =>
  oSt 6 t4 t20 h13 fun _ h14 =>
  Qv .ret (ul (E0_accept_Acceptor_Vote a0 a1) [(4, t4), (5, t19), (6, t6), (7, t19), (8, a0), (9, t9), (11, t17), (12, a0), (13, t13), (14, t14), (15, t15), (16, a1), (17, t17), (18, t18), (19, t19), (20, t20), (21, t19)]) h14)
theorem ga_accept_Acceptor_Vote (Qv : Post) (a0 a1 : Value) (h : Hp) : aw Try.prog O_accept_Acceptor_Vote (bodyC Try.f13) Qv (E0_accept_Acceptor_Vote a0 a1) h = X_accept_Acceptor_Vote Qv a0 a1 h := by kernel_rfl
theorem gb_accept_Acceptor_Vote (a0 a1 : Value) (h : Hp) (K : Kont) : X_accept_Acceptor_Vote (qTop Try.prog Try.f13 K) a0 a1 h = G_accept_Acceptor_Vote a0 a1 h K := by kernel_rfl
theorem gc_accept_Acceptor_Vote (a0 a1 : Value) (h : Hp) (K : Kont) : abody Try.prog O_accept_Acceptor_Vote Try.f13 (bodyC Try.f13) [a0, a1] h K = aw Try.prog O_accept_Acceptor_Vote (bodyC Try.f13) (qTop Try.prog Try.f13 K) (E0_accept_Acceptor_Vote a0 a1) h := by kernel_rfl
theorem eq_accept_Acceptor_Vote (a0 a1 : Value) (h : Hp) (K : Kont) : abody Try.prog O_accept_Acceptor_Vote Try.f13 (bodyC Try.f13) [a0, a1] h K = G_accept_Acceptor_Vote a0 a1 h K := (gc_accept_Acceptor_Vote a0 a1 h K).trans ((ga_accept_Acceptor_Vote _ a0 a1 h).trans (gb_accept_Acceptor_Vote a0 a1 h K))
theorem ok_accept_Acceptor_Vote {a0 a1 : Value} {h : Hp} {K : Kont} (hk : G_accept_Acceptor_Vote a0 a1 h K) : C_accept_Acceptor_Vote [a0, a1] h K := ac_of_body prog_mixed (fn := Try.f13) Try.func13 (c := bodyC Try.f13) (by kernel_rfl) ((eq_accept_Acceptor_Vote a0 a1 h K).mpr hk)

/-! ### catenary/catenaryref11.At: function 14 -/
def O_r11_At : Od := []
noncomputable def K_r11_At_0 : Code := (cI (cB (cA (cB (bodyC Try.f14)))))
noncomputable def K_r11_At_1 : Code := (cB (cB (bodyC Try.f14)))
def Q_r11_At_0 (K : Kont) : Post := qSeq (aw Try.prog O_r11_At K_r11_At_1 (qTop Try.prog Try.f14 K)) (qTop Try.prog Try.f14 K)
def Q_r11_At_1 (K : Kont) : Post := qBlk 0 (Q_r11_At_0 K)
def E_r11_At_1 (v0 : Value) (v1 : Value) (v4 : Value) (v6 : Value) (d : Nat → Value) : List Value := [v0, v1, d 2, d 3, v4, d 5, v6, d 7, d 8, d 9, d 10, d 11, d 12, d 13, d 14, d 15, d 16, d 17, d 18, d 19, d 20, d 21, d 22, d 23, d 24]
def G_r11_At_1 (K : Kont) (v0 : Value) (v1 : Value) (v4 : Value) (v6 : Value) (d : Nat → Value) (h : Hp) : Prop := aw Try.prog O_r11_At K_r11_At_0 (Q_r11_At_1 K) (E_r11_At_1 v0 v1 v4 v6 d) h
def Q_r11_At_2 (K : Kont) (s0 : Self) : Post := qSeq s0 (Q_r11_At_1 K)
noncomputable def K_r11_At_2 : Code := (cI (cI (cB (cA (cB (bodyC Try.f14))))))
noncomputable def K_r11_At_3 : Code := (cB (cB (cI (cI (cB (cA (cB (bodyC Try.f14))))))))
noncomputable def K_r11_At_4 : Code := (cB (cI (cI (cB (cA (cB (bodyC Try.f14)))))))
def G_r11_At (a0 a1 : Value) (h : Hp) (K : Kont) : Prop :=
  oAlloc #[.int .i64 0, .int .u64 0, .int .i64 0, .int .i64 0, .int .u64 0, .int .i64 0] h fun t4 h1 =>
  G_r11_At_1 K a0 a1 t4 (Value.int .i64 0) (ud [(5, (Value.bool false))] dz) h1
def E0_r11_At (a0 a1 : Value) : List Value := [a0, a1, undef, undef, undef, undef, undef, undef, undef, undef, undef, undef, undef, undef, undef, undef, undef, undef, undef, undef, undef, undef, undef, undef, undef]
def X_r11_At (Qv : Post) (a0 a1 : Value) (h : Hp) : Prop :=
  oAlloc #[.int .i64 0, .int .u64 0, .int .i64 0, .int .i64 0, .int .u64 0, .int .i64 0] h fun t4 h1 =>
  aw Try.prog O_r11_At K_r11_At_0 (qBlk 0 (qSeq (aw Try.prog O_r11_At K_r11_At_1 Qv) Qv)) (ul (E0_r11_At a0 a1) [(4, t4), (5, (Value.bool false)), (6, (Value.int .i64 0))]) h1
theorem ga_r11_At (Qv : Post) (a0 a1 : Value) (h : Hp) : aw Try.prog O_r11_At (bodyC Try.f14) Qv (E0_r11_At a0 a1) h = X_r11_At Qv a0 a1 h := by kernel_rfl
theorem gb_r11_At (a0 a1 : Value) (h : Hp) (K : Kont) : X_r11_At (qTop Try.prog Try.f14 K) a0 a1 h = G_r11_At a0 a1 h K := by kernel_rfl
theorem gc_r11_At (a0 a1 : Value) (h : Hp) (K : Kont) : abody Try.prog O_r11_At Try.f14 (bodyC Try.f14) [a0, a1] h K = aw Try.prog O_r11_At (bodyC Try.f14) (qTop Try.prog Try.f14 K) (E0_r11_At a0 a1) h := by kernel_rfl
theorem eq_r11_At (a0 a1 : Value) (h : Hp) (K : Kont) : abody Try.prog O_r11_At Try.f14 (bodyC Try.f14) [a0, a1] h K = G_r11_At a0 a1 h K := (gc_r11_At a0 a1 h K).trans ((ga_r11_At _ a0 a1 h).trans (gb_r11_At a0 a1 h K))
theorem ok_r11_At {a0 a1 : Value} {h : Hp} {K : Kont} (hk : G_r11_At a0 a1 h K) : C_r11_At [a0, a1] h K := ac_of_body prog_mixed (fn := Try.f14) Try.func14 (c := bodyC Try.f14) (by kernel_rfl) ((eq_r11_At a0 a1 h K).mpr hk)
def B_r11_At_1 (K : Kont) (s0 : Self) (v0 : Value) (v1 : Value) (v4 : Value) (v6 : Value) (d : Nat → Value) (h : Hp) : Prop :=
  oLen 0 v0 h fun t9 h1 =>
  oBin .lss v6 t9 h1 fun t10 h2 =>
  oIf t10
  (oIdxS 6 v0 v6 h2 fun t15 h3 =>
  oFieldAddr 0 t15 h3 fun t16 h4 =>
  oLd1 t16 h4 fun t17 h5 =>
  oBin .eql t17 v1 h5 fun t19 h6 =>
  oIf t19
  (oIdxS 6 v0 v6 h6 fun t22 h7 =>
  oLdN 6 t22 h7 fun t23 h8 =>
  oSt 6 v4 t23 h8 fun _ h9 =>
  oLdN 6 v4 h9 fun r1 _ =>
  K (.tuple #[r1, (Value.bool true)]) h9)
  (oBin .add v6 (Value.int .i64 1) h6 fun t12 h10 =>
  s0 (E_r11_At_1 v0 v1 v4 t12 (ud [(7, v6), (8, v0), (9, t9), (10, t10), (11, v6), (12, t12), (13, v0), (14, v6), (15, t15), (16, t16), (17, t17), (18, v1), (19, t19)] d)) h10))
  (oBuild #[.int .i64 0, .int .u64 0, .int .i64 0, .int .i64 0, .int .u64 0, .int .i64 0] [] h2 fun t24 h11 =>
  oSt 6 v4 t24 h11 fun _ h12 =>
  oLdN 6 v4 h12 fun r2 _ =>
  K (.tuple #[r2, (Value.bool false)]) h12)
def X_r11_At_1 (Qv : Post) (v0 : Value) (v1 : Value) (v4 : Value) (v6 : Value) (d : Nat → Value) (h : Hp) : Prop :=
  oLen 0 v0 h fun t9 h1 =>
  oBin .lss v6 t9 h1 fun t10 h2 =>
  oIf t10
  (oIdxS 6 v0 v6 h2 fun t15 h3 =>
  oFieldAddr 0 t15 h3 fun t16 h4 =>
  oLd1 t16 h4 fun t17 h5 =>
  oBin .eql t17 v1 h5 fun t19 h6 =>
  oIf t19
  (oIdxS 6 v0 v6 h6 fun t22 h7 =>
  oLdN 6 t22 h7 fun t23 h8 =>
  oSt 6 v4 t23 h8 fun _ h9 =>
  (qBlk 1 (qSeq (aw Try.prog O_r11_At K_r11_At_3 Qv) Qv)) .ret (ul (E_r11_At_1 v0 v1 v4 v6 d) [(5, (Value.bool true)), (7, v6), (8, v0), (9, t9), (10, t10), (13, v0), (14, v6), (15, t15), (16, t16), (17, t17), (18, v1), (19, t19), (20, v0), (21, v6), (22, t22), (23, t23)]) h9)
  (oBin .add v6 (Value.int .i64 1) h6 fun t12 h10 =>
  Qv .normal (ul (E_r11_At_1 v0 v1 v4 v6 d) [(6, t12), (7, v6), (8, v0), (9, t9), (10, t10), (11, v6), (12, t12), (13, v0), (14, v6), (15, t15), (16, t16), (17, t17), (18, v1), (19, t19)]) h10))
  ((qSeq (aw Try.prog O_r11_At K_r11_At_4 Qv) Qv) (.exit 0) (ul (E_r11_At_1 v0 v1 v4 v6 d) [(7, v6), (8, v0), (9, t9), (10, t10)]) h2)
theorem ga_r11_At_1 (Qv : Post) (v0 : Value) (v1 : Value) (v4 : Value) (v6 : Value) (d : Nat → Value) (h : Hp) : aw Try.prog O_r11_At K_r11_At_2 Qv (E_r11_At_1 v0 v1 v4 v6 d) h = X_r11_At_1 Qv v0 v1 v4 v6 d h := by kernel_rfl
theorem gb_r11_At_1 (K : Kont) (s0 : Self) (v0 : Value) (v1 : Value) (v4 : Value) (v6 : Value) (d : Nat → Value) (h : Hp) : X_r11_At_1 (Q_r11_At_2 K s0) v0 v1 v4 v6 d h = B_r11_At_1 K s0 v0 v1 v4 v6 d h := by kernel_rfl
theorem beq_r11_At_1 (K : Kont) (s0 : Self) (v0 : Value) (v1 : Value) (v4 : Value) (v6 : Value) (d : Nat → Value) (h : Hp) : aw Try.prog O_r11_At K_r11_At_2 (Q_r11_At_2 K s0) (E_r11_At_1 v0 v1 v4 v6 d) h = B_r11_At_1 K s0 v0 v1 v4 v6 d h := (ga_r11_At_1 _ v0 v1 v4 v6 d h).trans (gb_r11_At_1 K s0 v0 v1 v4 v6 d h)
theorem rule_r11_At_1 {K : Kont} {v0 : Value} {v1 : Value} {v4 : Value} (Inv : Value → Hp → Prop) (μ : Value → Hp → Nat)
    (step : ∀ (s0 : Self) (v6 : Value) (d : Nat → Value) (h : Hp), Inv v6 h → (∀ (v6' : Value) (d' : Nat → Value) (h' : Hp), Inv v6' h' → μ v6' h' < μ v6 h → s0 (E_r11_At_1 v0 v1 v4 v6' d') h') → B_r11_At_1 K s0 v0 v1 v4 v6 d h) (v6 : Value) (d : Nat → Value) (h : Hp) (hi : Inv v6 h) : G_r11_At_1 K v0 v1 v4 v6 d h :=
  oLoop_rule (α := Value × (Nat → Value)) (fun x => E_r11_At_1 v0 v1 v4 x.1 x.2) (fun x h => Inv x.1 h) (fun x h => μ x.1 h)
    (fun self x h hx hs => (beq_r11_At_1 K self v0 v1 v4 x.1 x.2 h).mpr (step self x.1 x.2 h hx (fun v6' d' h' h1 h2 => hs ⟨v6', d'⟩ h' h1 h2))) ⟨v6, d⟩ h hi

/-! ### (*catenary/accept.Acceptor).Promised: function 15 -/
def O_accept_Acceptor_Promised : Od := []
noncomputable def K_accept_Acceptor_Promised_0 : Code := (cB (cB (bodyC Try.f15)))
def G_accept_Acceptor_Promised (a0 : Value) (h : Hp) (K : Kont) : Prop :=
  oEq 1 false none a0 (Value.pointer none) h fun t4 h1 =>
  oIf t4
  (K (Value.int .u64 0) h1)
  (oNilCheck a0 h1 fun t6 h2 =>
  oFieldAddr 0 t6 h2 fun t7 h3 =>
  oLd1 t7 h3 fun t8 h4 =>
  K t8 h4)
def E0_accept_Acceptor_Promised (a0 : Value) : List Value := [a0, undef, undef, undef, undef, undef, undef, undef, undef]
def X_accept_Acceptor_Promised (Qv : Post) (a0 : Value) (h : Hp) : Prop :=
  oEq 1 false none a0 (Value.pointer none) h fun t4 h1 =>
  oIf t4
  ((qSeq (aw Try.prog O_accept_Acceptor_Promised K_accept_Acceptor_Promised_0 Qv) Qv) .ret (ul (E0_accept_Acceptor_Promised a0) [(2, (Value.int .u64 0)), (3, a0), (4, t4)]) h1)
  (oNilCheck a0 h1 fun t6 h2 =>
  oFieldAddr 0 t6 h2 fun t7 h3 =>
  oLd1 t7 h3 fun t8 h4 =>
  Qv .ret (ul (E0_accept_Acceptor_Promised a0) [(2, t8), (3, a0), (4, t4), (5, a0), (6, t6), (7, t7), (8, t8)]) h4)
theorem ga_accept_Acceptor_Promised (Qv : Post) (a0 : Value) (h : Hp) : aw Try.prog O_accept_Acceptor_Promised (bodyC Try.f15) Qv (E0_accept_Acceptor_Promised a0) h = X_accept_Acceptor_Promised Qv a0 h := by kernel_rfl
theorem gb_accept_Acceptor_Promised (a0 : Value) (h : Hp) (K : Kont) : X_accept_Acceptor_Promised (qTop Try.prog Try.f15 K) a0 h = G_accept_Acceptor_Promised a0 h K := by kernel_rfl
theorem gc_accept_Acceptor_Promised (a0 : Value) (h : Hp) (K : Kont) : abody Try.prog O_accept_Acceptor_Promised Try.f15 (bodyC Try.f15) [a0] h K = aw Try.prog O_accept_Acceptor_Promised (bodyC Try.f15) (qTop Try.prog Try.f15 K) (E0_accept_Acceptor_Promised a0) h := by kernel_rfl
theorem eq_accept_Acceptor_Promised (a0 : Value) (h : Hp) (K : Kont) : abody Try.prog O_accept_Acceptor_Promised Try.f15 (bodyC Try.f15) [a0] h K = G_accept_Acceptor_Promised a0 h K := (gc_accept_Acceptor_Promised a0 h K).trans ((ga_accept_Acceptor_Promised _ a0 h).trans (gb_accept_Acceptor_Promised a0 h K))
theorem ok_accept_Acceptor_Promised {a0 : Value} {h : Hp} {K : Kont} (hk : G_accept_Acceptor_Promised a0 h K) : C_accept_Acceptor_Promised [a0] h K := ac_of_body prog_mixed (fn := Try.f15) Try.func15 (c := bodyC Try.f15) (by kernel_rfl) ((eq_accept_Acceptor_Promised a0 h K).mpr hk)

/-! ### (*catenary/accept.Acceptor).Len: function 16 -/
def O_accept_Acceptor_Len : Od := []
noncomputable def K_accept_Acceptor_Len_0 : Code := (cB (cB (bodyC Try.f16)))
def G_accept_Acceptor_Len (a0 : Value) (h : Hp) (K : Kont) : Prop :=
  oEq 1 false none a0 (Value.pointer none) h fun t4 h1 =>
  oIf t4
  (K (Value.int .i64 0) h1)
  (oNilCheck a0 h1 fun t6 h2 =>
  oFieldAddr 1 t6 h2 fun t7 h3 =>
  oLd1 t7 h3 fun t8 h4 =>
  oLen 2 t8 h4 fun t9 h5 =>
  K t9 h5)
def E0_accept_Acceptor_Len (a0 : Value) : List Value := [a0, undef, undef, undef, undef, undef, undef, undef, undef, undef]
def X_accept_Acceptor_Len (Qv : Post) (a0 : Value) (h : Hp) : Prop :=
  oEq 1 false none a0 (Value.pointer none) h fun t4 h1 =>
  oIf t4
  ((qSeq (aw Try.prog O_accept_Acceptor_Len K_accept_Acceptor_Len_0 Qv) Qv) .ret (ul (E0_accept_Acceptor_Len a0) [(2, (Value.int .i64 0)), (3, a0), (4, t4)]) h1)
  (oNilCheck a0 h1 fun t6 h2 =>
  oFieldAddr 1 t6 h2 fun t7 h3 =>
  oLd1 t7 h3 fun t8 h4 =>
  oLen 2 t8 h4 fun t9 h5 =>
  Qv .ret (ul (E0_accept_Acceptor_Len a0) [(2, t9), (3, a0), (4, t4), (5, a0), (6, t6), (7, t7), (8, t8), (9, t9)]) h5)
theorem ga_accept_Acceptor_Len (Qv : Post) (a0 : Value) (h : Hp) : aw Try.prog O_accept_Acceptor_Len (bodyC Try.f16) Qv (E0_accept_Acceptor_Len a0) h = X_accept_Acceptor_Len Qv a0 h := by kernel_rfl
theorem gb_accept_Acceptor_Len (a0 : Value) (h : Hp) (K : Kont) : X_accept_Acceptor_Len (qTop Try.prog Try.f16 K) a0 h = G_accept_Acceptor_Len a0 h K := by kernel_rfl
theorem gc_accept_Acceptor_Len (a0 : Value) (h : Hp) (K : Kont) : abody Try.prog O_accept_Acceptor_Len Try.f16 (bodyC Try.f16) [a0] h K = aw Try.prog O_accept_Acceptor_Len (bodyC Try.f16) (qTop Try.prog Try.f16 K) (E0_accept_Acceptor_Len a0) h := by kernel_rfl
theorem eq_accept_Acceptor_Len (a0 : Value) (h : Hp) (K : Kont) : abody Try.prog O_accept_Acceptor_Len Try.f16 (bodyC Try.f16) [a0] h K = G_accept_Acceptor_Len a0 h K := (gc_accept_Acceptor_Len a0 h K).trans ((ga_accept_Acceptor_Len _ a0 h).trans (gb_accept_Acceptor_Len a0 h K))
theorem ok_accept_Acceptor_Len {a0 : Value} {h : Hp} {K : Kont} (hk : G_accept_Acceptor_Len a0 h K) : C_accept_Acceptor_Len [a0] h K := ac_of_body prog_mixed (fn := Try.f16) Try.func16 (c := bodyC Try.f16) (by kernel_rfl) ((eq_accept_Acceptor_Len a0 h K).mpr hk)

/-! ### catenary/catenaryref10.SameVotes: function 17 -/
def O_r10_SameVotes : Od := [(6, (.one 0 true (.one 1 true (.one 2 true (.one 3 true (.one 4 true (.one 5 true (.one 6 true (.one 7 true (.one 8 true .nil))))))))))]
noncomputable def K_r10_SameVotes_0 : Code := (cI (cB (cA (cB (cB (bodyC Try.f17))))))
noncomputable def K_r10_SameVotes_1 : Code := (cB (cB (cB (bodyC Try.f17))))
def Q_r10_SameVotes_0 (K : Kont) : Post := qSeq (aw Try.prog O_r10_SameVotes K_r10_SameVotes_1 (qTop Try.prog Try.f17 K)) (qTop Try.prog Try.f17 K)
def Q_r10_SameVotes_1 (K : Kont) : Post := qBlk 0 (Q_r10_SameVotes_0 K)
def E_r10_SameVotes_1 (v0 : Value) (v1 : Value) (v5 : Value) (d : Nat → Value) : List Value := [v0, v1, d 2, d 3, d 4, v5, d 6, d 7, d 8, d 9, d 10, d 11, d 12, d 13, d 14, d 15, d 16, d 17, d 18, d 19, d 20, d 21, d 22, d 23, d 24, d 25]
def G_r10_SameVotes_1 (K : Kont) (v0 : Value) (v1 : Value) (v5 : Value) (d : Nat → Value) (h : Hp) : Prop := aw Try.prog O_r10_SameVotes K_r10_SameVotes_0 (Q_r10_SameVotes_1 K) (E_r10_SameVotes_1 v0 v1 v5 d) h
noncomputable def K_r10_SameVotes_2 : Code := (cB (cB (bodyC Try.f17)))
def Q_r10_SameVotes_2 (K : Kont) (s0 : Self) : Post := qSeq s0 (Q_r10_SameVotes_1 K)
noncomputable def K_r10_SameVotes_3 : Code := (cI (cI (cB (cA (cB (cB (bodyC Try.f17)))))))
noncomputable def K_r10_SameVotes_4 : Code := (cB (cB (cI (cI (cB (cA (cB (cB (bodyC Try.f17)))))))))
noncomputable def K_r10_SameVotes_5 : Code := (cB (cI (cI (cB (cA (cB (cB (bodyC Try.f17))))))))
def G_r10_SameVotes (a0 a1 : Value) (h : Hp) (K : Kont) : Prop :=
  oLen 0 a0 h fun t7 h1 =>
  oLen 0 a1 h1 fun t9 h2 =>
  oBin .neq t7 t9 h2 fun t10 h3 =>
  oIf t10
  (K (Value.bool false) h3)
  (G_r10_SameVotes_1 K a0 a1 (Value.int .i64 0) (ud [(4, (Value.bool false)), (6, a0), (7, t7), (8, a1), (9, t9), (10, t10)] dz) h3)
def E0_r10_SameVotes (a0 a1 : Value) : List Value := [a0, a1, undef, undef, undef, undef, undef, undef, undef, undef, undef, undef, undef, undef, undef, undef, undef, undef, undef, undef, undef, undef, undef, undef, undef, undef]
def X_r10_SameVotes (Qv : Post) (a0 a1 : Value) (h : Hp) : Prop :=
  oLen 0 a0 h fun t7 h1 =>
  oLen 0 a1 h1 fun t9 h2 =>
  oBin .neq t7 t9 h2 fun t10 h3 =>
  oIf t10
  ((qSeq (aw Try.prog O_r10_SameVotes K_r10_SameVotes_2 Qv) Qv) .ret (ul (E0_r10_SameVotes a0 a1) [(4, (Value.bool false)), (6, a0), (7, t7), (8, a1), (9, t9), (10, t10)]) h3)
  (aw Try.prog O_r10_SameVotes K_r10_SameVotes_0 (qBlk 0 (qSeq (aw Try.prog O_r10_SameVotes K_r10_SameVotes_1 Qv) Qv)) (ul (E0_r10_SameVotes a0 a1) [(4, (Value.bool false)), (5, (Value.int .i64 0)), (6, a0), (7, t7), (8, a1), (9, t9), (10, t10)]) h3)
theorem ga_r10_SameVotes (Qv : Post) (a0 a1 : Value) (h : Hp) : aw Try.prog O_r10_SameVotes (bodyC Try.f17) Qv (E0_r10_SameVotes a0 a1) h = X_r10_SameVotes Qv a0 a1 h := by kernel_rfl
theorem gb_r10_SameVotes (a0 a1 : Value) (h : Hp) (K : Kont) : X_r10_SameVotes (qTop Try.prog Try.f17 K) a0 a1 h = G_r10_SameVotes a0 a1 h K := by kernel_rfl
theorem gc_r10_SameVotes (a0 a1 : Value) (h : Hp) (K : Kont) : abody Try.prog O_r10_SameVotes Try.f17 (bodyC Try.f17) [a0, a1] h K = aw Try.prog O_r10_SameVotes (bodyC Try.f17) (qTop Try.prog Try.f17 K) (E0_r10_SameVotes a0 a1) h := by kernel_rfl
theorem eq_r10_SameVotes (a0 a1 : Value) (h : Hp) (K : Kont) : abody Try.prog O_r10_SameVotes Try.f17 (bodyC Try.f17) [a0, a1] h K = G_r10_SameVotes a0 a1 h K := (gc_r10_SameVotes a0 a1 h K).trans ((ga_r10_SameVotes _ a0 a1 h).trans (gb_r10_SameVotes a0 a1 h K))
theorem ok_r10_SameVotes {a0 a1 : Value} {h : Hp} {K : Kont} (hk : G_r10_SameVotes a0 a1 h K) : C_r10_SameVotes [a0, a1] h K := ac_of_body prog_mixed (fn := Try.f17) Try.func17 (c := bodyC Try.f17) (by kernel_rfl) ((eq_r10_SameVotes a0 a1 h K).mpr hk)
def B_r10_SameVotes_1 (K : Kont) (s0 : Self) (v0 : Value) (v1 : Value) (v5 : Value) (d : Nat → Value) (h : Hp) : Prop :=
  oLen 0 v0 h fun t13 h1 =>
  oBin .lss v5 t13 h1 fun t14 h2 =>
  oIf t14
  (oIdxS 6 v0 v5 h2 fun t19 h3 =>
  oLdN 6 t19 h3 fun t20 h4 =>
  oIdxS 6 v1 v5 h4 fun t23 h5 =>
  oLdN 6 t23 h5 fun t24 h6 =>
  oEq 4 true (some [(0, (.int .i64)), (1, (.int .u64)), (2, (.int .i64)), (3, (.int .i64)), (4, (.int .u64)), (5, (.int .i64))]) t20 t24 h6 fun t25 h7 =>
  oIf t25
  (K (Value.bool false) h7)
  (oBin .add v5 (Value.int .i64 1) h7 fun t16 h8 =>
  s0 (E_r10_SameVotes_1 v0 v1 t16 (ud [(11, v5), (12, v0), (13, t13), (14, t14), (15, v5), (16, t16), (17, v0), (18, v5), (19, t19), (20, t20), (21, v1), (22, v5), (23, t23), (24, t24), (25, t25)] d)) h8))
  (K (Value.bool true) h2)
def X_r10_SameVotes_1 (Qv : Post) (v0 : Value) (v1 : Value) (v5 : Value) (d : Nat → Value) (h : Hp) : Prop :=
  oLen 0 v0 h fun t13 h1 =>
  oBin .lss v5 t13 h1 fun t14 h2 =>
  oIf t14
  (oIdxS 6 v0 v5 h2 fun t19 h3 =>
  oLdN 6 t19 h3 fun t20 h4 =>
  oIdxS 6 v1 v5 h4 fun t23 h5 =>
  oLdN 6 t23 h5 fun t24 h6 =>
  oEq 4 true (some [(0, (.int .i64)), (1, (.int .u64)), (2, (.int .i64)), (3, (.int .i64)), (4, (.int .u64)), (5, (.int .i64))]) t20 t24 h6 fun t25 h7 =>
  oIf t25
  ((qBlk 1 (qSeq (aw Try.prog O_r10_SameVotes K_r10_SameVotes_4 Qv) Qv)) .ret (ul (E_r10_SameVotes_1 v0 v1 v5 d) [(4, (Value.bool false)), (11, v5), (12, v0), (13, t13), (14, t14), (17, v0), (18, v5), (19, t19), (20, t20), (21, v1), (22, v5), (23, t23), (24, t24), (25, t25)]) h7)
  (oBin .add v5 (Value.int .i64 1) h7 fun t16 h8 =>
  Qv .normal (ul (E_r10_SameVotes_1 v0 v1 v5 d) [(5, t16), (11, v5), (12, v0), (13, t13), (14, t14), (15, v5), (16, t16), (17, v0), (18, v5), (19, t19), (20, t20), (21, v1), (22, v5), (23, t23), (24, t24), (25, t25)]) h8))
  ((qSeq (aw Try.prog O_r10_SameVotes K_r10_SameVotes_5 Qv) Qv) (.exit 0) (ul (E_r10_SameVotes_1 v0 v1 v5 d) [(11, v5), (12, v0), (13, t13), (14, t14)]) h2)
theorem ga_r10_SameVotes_1 (Qv : Post) (v0 : Value) (v1 : Value) (v5 : Value) (d : Nat → Value) (h : Hp) : aw Try.prog O_r10_SameVotes K_r10_SameVotes_3 Qv (E_r10_SameVotes_1 v0 v1 v5 d) h = X_r10_SameVotes_1 Qv v0 v1 v5 d h := by kernel_rfl
theorem gb_r10_SameVotes_1 (K : Kont) (s0 : Self) (v0 : Value) (v1 : Value) (v5 : Value) (d : Nat → Value) (h : Hp) : X_r10_SameVotes_1 (Q_r10_SameVotes_2 K s0) v0 v1 v5 d h = B_r10_SameVotes_1 K s0 v0 v1 v5 d h := by kernel_rfl
theorem beq_r10_SameVotes_1 (K : Kont) (s0 : Self) (v0 : Value) (v1 : Value) (v5 : Value) (d : Nat → Value) (h : Hp) : aw Try.prog O_r10_SameVotes K_r10_SameVotes_3 (Q_r10_SameVotes_2 K s0) (E_r10_SameVotes_1 v0 v1 v5 d) h = B_r10_SameVotes_1 K s0 v0 v1 v5 d h := (ga_r10_SameVotes_1 _ v0 v1 v5 d h).trans (gb_r10_SameVotes_1 K s0 v0 v1 v5 d h)
theorem rule_r10_SameVotes_1 {K : Kont} {v0 : Value} {v1 : Value} (Inv : Value → Hp → Prop) (μ : Value → Hp → Nat)
    (step : ∀ (s0 : Self) (v5 : Value) (d : Nat → Value) (h : Hp), Inv v5 h → (∀ (v5' : Value) (d' : Nat → Value) (h' : Hp), Inv v5' h' → μ v5' h' < μ v5 h → s0 (E_r10_SameVotes_1 v0 v1 v5' d') h') → B_r10_SameVotes_1 K s0 v0 v1 v5 d h) (v5 : Value) (d : Nat → Value) (h : Hp) (hi : Inv v5 h) : G_r10_SameVotes_1 K v0 v1 v5 d h :=
  oLoop_rule (α := Value × (Nat → Value)) (fun x => E_r10_SameVotes_1 v0 v1 x.1 x.2) (fun x h => Inv x.1 h) (fun x h => μ x.1 h)
    (fun self x h hx hs => (beq_r10_SameVotes_1 K self v0 v1 x.1 x.2 h).mpr (step self x.1 x.2 h hx (fun v5' d' h' h1 h2 => hs ⟨v5', d'⟩ h' h1 h2))) ⟨v5, d⟩ h hi

/-! ### (*catenary/accept.Acceptor).Votes: function 18 -/
def O_accept_Acceptor_Votes : Od := []
noncomputable def K_accept_Acceptor_Votes_0 : Code := (cB (cB (bodyC Try.f18)))
def G_accept_Acceptor_Votes (a0 a1 : Value) (h : Hp) (K : Kont) : Prop :=
  oEq 1 false none a0 (Value.pointer none) h fun t6 h1 =>
  oIf t6
  (K (Value.slice none 0 0) h1)
  (oNilCheck a0 h1 fun t8 h2 =>
  oFieldAddr 1 t8 h2 fun t9 h3 =>
  oLd1 t9 h3 fun t10 h4 =>
  C_accept_rising [t10, a1] h4 fun t12 h5 =>
  K t12 h5)
def E0_accept_Acceptor_Votes (a0 a1 : Value) : List Value := [a0, a1, undef, undef, undef, undef, undef, undef, undef, undef, undef, undef, undef]
def X_accept_Acceptor_Votes (Qv : Post) (a0 a1 : Value) (h : Hp) : Prop :=
  oEq 1 false none a0 (Value.pointer none) h fun t6 h1 =>
  oIf t6
  ((qSeq (aw Try.prog O_accept_Acceptor_Votes K_accept_Acceptor_Votes_0 Qv) Qv) .ret (ul (E0_accept_Acceptor_Votes a0 a1) [(4, (Value.slice none 0 0)), (5, a0), (6, t6)]) h1)
  (oNilCheck a0 h1 fun t8 h2 =>
  oFieldAddr 1 t8 h2 fun t9 h3 =>
  oLd1 t9 h3 fun t10 h4 =>
  C_accept_rising [t10, a1] h4 fun t12 h5 =>
  Qv .ret (ul (E0_accept_Acceptor_Votes a0 a1) [(4, t12), (5, a0), (6, t6), (7, a0), (8, t8), (9, t9), (10, t10), (11, a1), (12, t12)]) h5)
theorem ga_accept_Acceptor_Votes (Qv : Post) (a0 a1 : Value) (h : Hp) : aw Try.prog O_accept_Acceptor_Votes (bodyC Try.f18) Qv (E0_accept_Acceptor_Votes a0 a1) h = X_accept_Acceptor_Votes Qv a0 a1 h := by kernel_rfl
theorem gb_accept_Acceptor_Votes (a0 a1 : Value) (h : Hp) (K : Kont) : X_accept_Acceptor_Votes (qTop Try.prog Try.f18 K) a0 a1 h = G_accept_Acceptor_Votes a0 a1 h K := by kernel_rfl
theorem gc_accept_Acceptor_Votes (a0 a1 : Value) (h : Hp) (K : Kont) : abody Try.prog O_accept_Acceptor_Votes Try.f18 (bodyC Try.f18) [a0, a1] h K = aw Try.prog O_accept_Acceptor_Votes (bodyC Try.f18) (qTop Try.prog Try.f18 K) (E0_accept_Acceptor_Votes a0 a1) h := by kernel_rfl
theorem eq_accept_Acceptor_Votes (a0 a1 : Value) (h : Hp) (K : Kont) : abody Try.prog O_accept_Acceptor_Votes Try.f18 (bodyC Try.f18) [a0, a1] h K = G_accept_Acceptor_Votes a0 a1 h K := (gc_accept_Acceptor_Votes a0 a1 h K).trans ((ga_accept_Acceptor_Votes _ a0 a1 h).trans (gb_accept_Acceptor_Votes a0 a1 h K))
theorem ok_accept_Acceptor_Votes {a0 a1 : Value} {h : Hp} {K : Kont} (hk : G_accept_Acceptor_Votes a0 a1 h K) : C_accept_Acceptor_Votes [a0, a1] h K := ac_of_body prog_mixed (fn := Try.f18) Try.func18 (c := bodyC Try.f18) (by kernel_rfl) ((eq_accept_Acceptor_Votes a0 a1 h K).mpr hk)

/-! ### catenary/catenaryref11.From: function 19 -/
def O_r11_From : Od := []
noncomputable def K_r11_From_0 : Code := (cI (cB (cA (cB (cB (bodyC Try.f19))))))
noncomputable def K_r11_From_1 : Code := (cB (cB (cB (bodyC Try.f19))))
def Q_r11_From_0 (K : Kont) : Post := qSeq (aw Try.prog O_r11_From K_r11_From_1 (qTop Try.prog Try.f19 K)) (qTop Try.prog Try.f19 K)
def Q_r11_From_1 (K : Kont) : Post := qBlk 0 (Q_r11_From_0 K)
def E_r11_From_1 (v0 : Value) (v1 : Value) (v5 : Value) (v6 : Value) (d : Nat → Value) : List Value := [v0, v1, d 2, d 3, d 4, v5, v6, d 7, d 8, d 9, d 10, d 11, d 12, d 13, d 14, d 15, d 16, d 17, d 18, d 19, d 20, d 21, d 22, d 23, d 24, d 25, d 26, d 27]
def G_r11_From_1 (K : Kont) (v0 : Value) (v1 : Value) (v5 : Value) (v6 : Value) (d : Nat → Value) (h : Hp) : Prop := aw Try.prog O_r11_From K_r11_From_0 (Q_r11_From_1 K) (E_r11_From_1 v0 v1 v5 v6 d) h
def Q_r11_From_2 (K : Kont) (s0 : Self) : Post := qSeq s0 (Q_r11_From_1 K)
noncomputable def K_r11_From_2 : Code := (cI (cI (cB (cA (cB (cB (bodyC Try.f19)))))))
noncomputable def K_r11_From_3 : Code := (cB (cB (cI (cI (cB (cA (cB (cB (bodyC Try.f19)))))))))
def E_r11_From_2 (v0 : Value) (v1 : Value) (v5 : Value) (v6 : Value) (d : Nat → Value) : List Value := [v0, v1, d 2, d 3, d 4, v5, v6, d 7, d 8, d 9, d 10, d 11, d 12, d 13, d 14, d 15, d 16, d 17, d 18, d 19, d 20, d 21, d 22, d 23, d 24, d 25, d 26, d 27]
def G_r11_From_2 (K : Kont) (s0 : Self) (v0 : Value) (v1 : Value) (v5 : Value) (v6 : Value) (d : Nat → Value) (h : Hp) : Prop := aw Try.prog O_r11_From K_r11_From_3 (Q_r11_From_2 K s0) (E_r11_From_2 v0 v1 v5 v6 d) h
noncomputable def K_r11_From_4 : Code := (cB (cI (cI (cB (cA (cB (cB (bodyC Try.f19))))))))
def G_r11_From (a0 a1 : Value) (h : Hp) (K : Kont) : Prop :=
  G_r11_From_1 K a0 a1 (Value.slice none 0 0) (Value.int .i64 0) (ud [(4, (Value.slice none 0 0))] dz) h
def E0_r11_From (a0 a1 : Value) : List Value := [a0, a1, undef, undef, undef, undef, undef, undef, undef, undef, undef, undef, undef, undef, undef, undef, undef, undef, undef, undef, undef, undef, undef, undef, undef, undef, undef, undef]
def X_r11_From (Qv : Post) (a0 a1 : Value) (h : Hp) : Prop :=
  aw Try.prog O_r11_From K_r11_From_0 (qBlk 0 (qSeq (aw Try.prog O_r11_From K_r11_From_1 Qv) Qv)) (ul (E0_r11_From a0 a1) [(4, (Value.slice none 0 0)), (5, (Value.slice none 0 0)), (6, (Value.int .i64 0))]) h
theorem ga_r11_From (Qv : Post) (a0 a1 : Value) (h : Hp) : aw Try.prog O_r11_From (bodyC Try.f19) Qv (E0_r11_From a0 a1) h = X_r11_From Qv a0 a1 h := by kernel_rfl
theorem gb_r11_From (a0 a1 : Value) (h : Hp) (K : Kont) : X_r11_From (qTop Try.prog Try.f19 K) a0 a1 h = G_r11_From a0 a1 h K := by kernel_rfl
theorem gc_r11_From (a0 a1 : Value) (h : Hp) (K : Kont) : abody Try.prog O_r11_From Try.f19 (bodyC Try.f19) [a0, a1] h K = aw Try.prog O_r11_From (bodyC Try.f19) (qTop Try.prog Try.f19 K) (E0_r11_From a0 a1) h := by kernel_rfl
theorem eq_r11_From (a0 a1 : Value) (h : Hp) (K : Kont) : abody Try.prog O_r11_From Try.f19 (bodyC Try.f19) [a0, a1] h K = G_r11_From a0 a1 h K := (gc_r11_From a0 a1 h K).trans ((ga_r11_From _ a0 a1 h).trans (gb_r11_From a0 a1 h K))
theorem ok_r11_From {a0 a1 : Value} {h : Hp} {K : Kont} (hk : G_r11_From a0 a1 h K) : C_r11_From [a0, a1] h K := ac_of_body prog_mixed (fn := Try.f19) Try.func19 (c := bodyC Try.f19) (by kernel_rfl) ((eq_r11_From a0 a1 h K).mpr hk)
def B_r11_From_1 (K : Kont) (s0 : Self) (v0 : Value) (v1 : Value) (v5 : Value) (v6 : Value) (d : Nat → Value) (h : Hp) : Prop :=
  oLen 0 v0 h fun t9 h1 =>
  oBin .lss v6 t9 h1 fun t10 h2 =>
  oIf t10
  (oIdxS 6 v0 v6 h2 fun t15 h3 =>
  oFieldAddr 0 t15 h3 fun t16 h4 =>
  oLd1 t16 h4 fun t17 h5 =>
  oBin .geq t17 v1 h5 fun t19 h6 =>
  oIf t19
  (oIdxS 6 v0 v6 h6 fun t23 h7 =>
  oLdN 6 t23 h7 fun t24 h8 =>
  oBuildSlice #[.int .i64 0, .int .u64 0, .int .i64 0, .int .i64 0, .int .u64 0, .int .i64 0] 1 [(0 * 6, 6, t24)] h8 fun t25 h9 =>
  oAppend 6 48 #[.int .i64 0, .int .u64 0, .int .i64 0, .int .i64 0, .int .u64 0, .int .i64 0] v5 t25 h9 fun t26 h10 =>
  G_r11_From_2 K s0 v0 v1 t26 v6 (ud [(7, v6), (8, v0), (9, t9), (10, t10), (13, v0), (14, v6), (15, t15), (16, t16), (17, t17), (18, v1), (19, t19), (20, v5), (21, v0), (22, v6), (23, t23), (24, t24), (25, t25), (26, t26)] d) h10)
  (G_r11_From_2 K s0 v0 v1 v5 v6 (ud [(7, v6), (8, v0), (9, t9), (10, t10), (13, v0), (14, v6), (15, t15), (16, t16), (17, t17), (18, v1), (19, t19)] d) h6))
  (K v5 h2)
def X_r11_From_1 (Qv : Post) (v0 : Value) (v1 : Value) (v5 : Value) (v6 : Value) (d : Nat → Value) (h : Hp) : Prop :=
  oLen 0 v0 h fun t9 h1 =>
  oBin .lss v6 t9 h1 fun t10 h2 =>
  oIf t10
  (oIdxS 6 v0 v6 h2 fun t15 h3 =>
  oFieldAddr 0 t15 h3 fun t16 h4 =>
  oLd1 t16 h4 fun t17 h5 =>
  oBin .geq t17 v1 h5 fun t19 h6 =>
  oIf t19
  (oIdxS 6 v0 v6 h6 fun t23 h7 =>
  oLdN 6 t23 h7 fun t24 h8 =>
  oBuildSlice #[.int .i64 0, .int .u64 0, .int .i64 0, .int .i64 0, .int .u64 0, .int .i64 0] 1 [(0 * 6, 6, t24)] h8 fun t25 h9 =>
  oAppend 6 48 #[.int .i64 0, .int .u64 0, .int .i64 0, .int .i64 0, .int .u64 0, .int .i64 0] v5 t25 h9 fun t26 h10 =>
  (qBlk 1 (qSeq (aw Try.prog O_r11_From K_r11_From_3 Qv) Qv)) .normal (ul (E_r11_From_1 v0 v1 v5 v6 d) [(5, t26), (7, v6), (8, v0), (9, t9), (10, t10), (13, v0), (14, v6), (15, t15), (16, t16), (17, t17), (18, v1), (19, t19), (20, v5), (21, v0), (22, v6), (23, t23), (24, t24), (25, t25), (26, t26)]) h10)
  ((qBlk 1 (qSeq (aw Try.prog O_r11_From K_r11_From_3 Qv) Qv)) .normal (ul (E_r11_From_1 v0 v1 v5 v6 d) [(7, v6), (8, v0), (9, t9), (10, t10), (13, v0), (14, v6), (15, t15), (16, t16), (17, t17), (18, v1), (19, t19)]) h6))
  ((qSeq (aw Try.prog O_r11_From K_r11_From_4 Qv) Qv) (.exit 0) (ul (E_r11_From_1 v0 v1 v5 v6 d) [(7, v6), (8, v0), (9, t9), (10, t10)]) h2)
theorem ga_r11_From_1 (Qv : Post) (v0 : Value) (v1 : Value) (v5 : Value) (v6 : Value) (d : Nat → Value) (h : Hp) : aw Try.prog O_r11_From K_r11_From_2 Qv (E_r11_From_1 v0 v1 v5 v6 d) h = X_r11_From_1 Qv v0 v1 v5 v6 d h := by kernel_rfl
theorem gb_r11_From_1 (K : Kont) (s0 : Self) (v0 : Value) (v1 : Value) (v5 : Value) (v6 : Value) (d : Nat → Value) (h : Hp) : X_r11_From_1 (Q_r11_From_2 K s0) v0 v1 v5 v6 d h = B_r11_From_1 K s0 v0 v1 v5 v6 d h := by kernel_rfl
theorem beq_r11_From_1 (K : Kont) (s0 : Self) (v0 : Value) (v1 : Value) (v5 : Value) (v6 : Value) (d : Nat → Value) (h : Hp) : aw Try.prog O_r11_From K_r11_From_2 (Q_r11_From_2 K s0) (E_r11_From_1 v0 v1 v5 v6 d) h = B_r11_From_1 K s0 v0 v1 v5 v6 d h := (ga_r11_From_1 _ v0 v1 v5 v6 d h).trans (gb_r11_From_1 K s0 v0 v1 v5 v6 d h)
theorem rule_r11_From_1 {K : Kont} {v0 : Value} {v1 : Value} (Inv : Value → Value → Hp → Prop) (μ : Value → Value → Hp → Nat)
    (step : ∀ (s0 : Self) (v5 : Value) (v6 : Value) (d : Nat → Value) (h : Hp), Inv v5 v6 h → (∀ (v5' : Value) (v6' : Value) (d' : Nat → Value) (h' : Hp), Inv v5' v6' h' → μ v5' v6' h' < μ v5 v6 h → s0 (E_r11_From_1 v0 v1 v5' v6' d') h') → B_r11_From_1 K s0 v0 v1 v5 v6 d h) (v5 : Value) (v6 : Value) (d : Nat → Value) (h : Hp) (hi : Inv v5 v6 h) : G_r11_From_1 K v0 v1 v5 v6 d h :=
  oLoop_rule (α := Value × Value × (Nat → Value)) (fun x => E_r11_From_1 v0 v1 x.1 x.2.1 x.2.2) (fun x h => Inv x.1 x.2.1 h) (fun x h => μ x.1 x.2.1 h)
    (fun self x h hx hs => (beq_r11_From_1 K self v0 v1 x.1 x.2.1 x.2.2 h).mpr (step self x.1 x.2.1 x.2.2 h hx (fun v5' v6' d' h' h1 h2 => hs ⟨v5', v6', d'⟩ h' h1 h2))) ⟨v5, v6, d⟩ h hi
def R_r11_From_2 (K : Kont) (s0 : Self) (v0 : Value) (v1 : Value) (v5 : Value) (v6 : Value) (d : Nat → Value) (h : Hp) : Prop :=
  oBin .add v6 (Value.int .i64 1) h fun t12 h1 =>
  s0 (E_r11_From_1 v0 v1 v5 t12 (ud [(11, v6), (12, t12)] d)) h1
def X_r11_From_2 (Qv : Post) (v0 : Value) (v1 : Value) (v5 : Value) (v6 : Value) (d : Nat → Value) (h : Hp) : Prop :=
  oBin .add v6 (Value.int .i64 1) h fun t12 h1 =>
  Qv .normal (ul (E_r11_From_2 v0 v1 v5 v6 d) [(6, t12), (11, v6), (12, t12)]) h1
theorem ga_r11_From_2 (Qv : Post) (v0 : Value) (v1 : Value) (v5 : Value) (v6 : Value) (d : Nat → Value) (h : Hp) : aw Try.prog O_r11_From K_r11_From_3 Qv (E_r11_From_2 v0 v1 v5 v6 d) h = X_r11_From_2 Qv v0 v1 v5 v6 d h := by kernel_rfl
theorem gb_r11_From_2 (K : Kont) (s0 : Self) (v0 : Value) (v1 : Value) (v5 : Value) (v6 : Value) (d : Nat → Value) (h : Hp) : X_r11_From_2 (Q_r11_From_2 K s0) v0 v1 v5 v6 d h = R_r11_From_2 K s0 v0 v1 v5 v6 d h := by kernel_rfl
theorem req_r11_From_2 (K : Kont) (s0 : Self) (v0 : Value) (v1 : Value) (v5 : Value) (v6 : Value) (d : Nat → Value) (h : Hp) : G_r11_From_2 K s0 v0 v1 v5 v6 d h = R_r11_From_2 K s0 v0 v1 v5 v6 d h := (ga_r11_From_2 _ v0 v1 v5 v6 d h).trans (gb_r11_From_2 K s0 v0 v1 v5 v6 d h)

/-! ### catenary/catenarylaw11.awake: function 20 -/
def O_l11_awake : Od := []
def G_l11_awake (h : Hp) (K : Kont) : Prop :=
  C_accept_New [] h fun t7 h1 =>
  C_accept_Acceptor_Prepare [t7, (Value.int .u64 9), (Value.int .i64 0)] h1 fun t10 h2 =>
  oExtract t10 0 h2 fun t11 h3 =>
  oExtract t10 1 h3 fun t12 h4 =>
  oBuild #[.int .i64 0, .int .i64 0, .int .u64 0, .int .i64 0] [] h4 fun t14 h5 =>
  C_accept_Acceptor_Accept [t7, (Value.int .u64 17), (Value.int .i64 3), t14] h5 fun t15 h6 =>
  C_accept_Acceptor_Prepare [t7, (Value.int .u64 9), (Value.int .i64 0)] h6 fun t18 h7 =>
  oExtract t18 0 h7 fun t19 h8 =>
  oExtract t18 1 h8 fun t20 h9 =>
  oBin .eql t12 (Value.int .i64 0) h9 fun t22 h10 =>
  oGuard t22 true (fun K => K t15 h10) h10 fun t24 h11 =>
  oGuard t22 true (fun K => oBin .eql t24 (Value.int .i64 0) h11 K) h11 fun t25 h12 =>
  oPick t22 t25 (Value.bool false) h12 fun t26 h13 =>
  oGuard t26 true (fun K => K t20 h13) h13 fun t28 h14 =>
  oGuard t26 true (fun K => oBin .eql t28 (Value.int .i64 10) h14 K) h14 fun t29 h15 =>
  oPick t26 t29 (Value.bool false) h15 fun t30 h16 =>
  oGuard t30 true (fun K => K t7 h16) h16 fun t32 h17 =>
  oGuard t30 true (fun K => C_accept_Acceptor_Promised [t32] h17 K) h17 fun t33 h18 =>
  oGuard t30 true (fun K => oBin .eql t33 (Value.int .u64 17) h18 K) h18 fun t34 h19 =>
  oPick t30 t34 (Value.bool false) h19 fun t35 h20 =>
  oGuard t35 true (fun K => K t7 h20) h20 fun t37 h21 =>
  oGuard t35 true (fun K => C_accept_Acceptor_Len [t37] h21 K) h21 fun t38 h22 =>
  oGuard t35 true (fun K => oBin .eql t38 (Value.int .i64 1) h22 K) h22 fun t39 h23 =>
  oPick t35 t39 (Value.bool false) h23 fun t40 h24 =>
  K t40 h24
def E0_l11_awake : List Value := [undef, undef, undef, undef, undef, undef, undef, undef, undef, undef, undef, undef, undef, undef, undef, undef, undef, undef, undef, undef, undef, undef, undef, undef, undef, undef, undef, undef, undef, undef, undef, undef, undef, undef, undef, undef, undef, undef, undef, undef, undef]
def X_l11_awake (Qv : Post) (h : Hp) : Prop :=
  C_accept_New [] h fun t7 h1 =>
  C_accept_Acceptor_Prepare [t7, (Value.int .u64 9), (Value.int .i64 0)] h1 fun t10 h2 =>
  oExtract t10 0 h2 fun t11 h3 =>
  oExtract t10 1 h3 fun t12 h4 =>
  oBuild #[.int .i64 0, .int .i64 0, .int .u64 0, .int .i64 0] [] h4 fun t14 h5 =>
  C_accept_Acceptor_Accept [t7, (Value.int .u64 17), (Value.int .i64 3), t14] h5 fun t15 h6 =>
  C_accept_Acceptor_Prepare [t7, (Value.int .u64 9), (Value.int .i64 0)] h6 fun t18 h7 =>
  oExtract t18 0 h7 fun t19 h8 =>
  oExtract t18 1 h8 fun t20 h9 =>
  oBin .eql t12 (Value.int .i64 0) h9 fun t22 h10 =>
  oGuard t22 true (fun K => K t15 h10) h10 fun t24 h11 =>
  oGuard t22 true (fun K => oBin .eql t24 (Value.int .i64 0) h11 K) h11 fun t25 h12 =>
  oPick t22 t25 (Value.bool false) h12 fun t26 h13 =>
  oGuard t26 true (fun K => K t20 h13) h13 fun t28 h14 =>
  oGuard t26 true (fun K => oBin .eql t28 (Value.int .i64 10) h14 K) h14 fun t29 h15 =>
  oPick t26 t29 (Value.bool false) h15 fun t30 h16 =>
  oGuard t30 true (fun K => K t7 h16) h16 fun t32 h17 =>
  oGuard t30 true (fun K => C_accept_Acceptor_Promised [t32] h17 K) h17 fun t33 h18 =>
  oGuard t30 true (fun K => oBin .eql t33 (Value.int .u64 17) h18 K) h18 fun t34 h19 =>
  oPick t30 t34 (Value.bool false) h19 fun t35 h20 =>
  oGuard t35 true (fun K => K t7 h20) h20 fun t37 h21 =>
  oGuard t35 true (fun K => C_accept_Acceptor_Len [t37] h21 K) h21 fun t38 h22 =>
  oGuard t35 true (fun K => oBin .eql t38 (Value.int .i64 1) h22 K) h22 fun t39 h23 =>
  oPick t35 t39 (Value.bool false) h23 fun t40 h24 =>
  Qv .ret (ul (E0_l11_awake) [(0, t40), (1, t7), (2, t11), (3, t12), (4, t15), (5, t19), (6, t20), (7, t7), (8, t10), (9, t7), (10, t10), (11, t11), (12, t12), (13, t7), (14, t14), (15, t15), (16, t18), (17, t7), (18, t18), (19, t19), (20, t20), (21, t12), (22, t22), (23, t22), (24, t24), (25, t25), (26, t26), (27, t26), (28, t28), (29, t29), (30, t30), (31, t30), (32, t32), (33, t33), (34, t34), (35, t35), (36, t35), (37, t37), (38, t38), (39, t39), (40, t40)]) h24
theorem ga_l11_awake (Qv : Post) (h : Hp) : aw Try.prog O_l11_awake (bodyC Try.f20) Qv (E0_l11_awake) h = X_l11_awake Qv  h := by kernel_rfl
theorem gb_l11_awake (h : Hp) (K : Kont) : X_l11_awake (qTop Try.prog Try.f20 K)  h = G_l11_awake  h K := by kernel_rfl
theorem gc_l11_awake (h : Hp) (K : Kont) : abody Try.prog O_l11_awake Try.f20 (bodyC Try.f20) [] h K = aw Try.prog O_l11_awake (bodyC Try.f20) (qTop Try.prog Try.f20 K) (E0_l11_awake) h := by kernel_rfl
theorem eq_l11_awake (h : Hp) (K : Kont) : abody Try.prog O_l11_awake Try.f20 (bodyC Try.f20) [] h K = G_l11_awake  h K := (gc_l11_awake  h K).trans ((ga_l11_awake _  h).trans (gb_l11_awake  h K))
theorem ok_l11_awake {h : Hp} {K : Kont} (hk : G_l11_awake  h K) : C_l11_awake [] h K := ac_of_body prog_mixed (fn := Try.f20) Try.func20 (c := bodyC Try.f20) (by kernel_rfl) ((eq_l11_awake  h K).mpr hk)

/-! ### (*catenary/accept.Acceptor).Prepare: function 21 -/
def O_accept_Acceptor_Prepare : Od := []
noncomputable def K_accept_Acceptor_Prepare_0 : Code := (cB (cB (bodyC Try.f21)))
def G_accept_Acceptor_Prepare (a0 a1 a2 : Value) (h : Hp) (K : Kont) : Prop :=
  oEq 1 false none a0 (Value.pointer none) h fun t10 h1 =>
  oIf t10
  (K (.tuple #[(Value.slice none 0 0), (Value.int .i64 2)]) h1)
  (C_ballot_Is [a1] h1 fun t13 h2 =>
  oNot t13 h2 fun t14 h3 =>
  oGuard t14 false (fun K => K a2 h3) h3 fun t16 h4 =>
  oGuard t14 false (fun K => oBin .lss t16 (Value.int .i64 0) h4 K) h4 fun t17 h5 =>
  oPick t14 (Value.bool true) t17 h5 fun t18 h6 =>
  oGuard t18 false (fun K => K a2 h6) h6 fun t20 h7 =>
  oGuard t18 false (fun K => oBin .gtr t20 (Value.int .i64 512) h7 K) h7 fun t21 h8 =>
  oPick t18 (Value.bool true) t21 h8 fun t22 h9 =>
  oIf t22
  (K (.tuple #[(Value.slice none 0 0), (Value.int .i64 1)]) h9)
  (oNilCheck a0 h9 fun t25 h10 =>
  oFieldAddr 0 t25 h10 fun t26 h11 =>
  oLd1 t26 h11 fun t27 h12 =>
  oBin .gtr t27 a1 h12 fun t29 h13 =>
  oIf t29
  (K (.tuple #[(Value.slice none 0 0), (Value.int .i64 10)]) h13)
  (oNilCheck a0 h13 fun t32 h14 =>
  oFieldAddr 0 t32 h14 fun t33 h15 =>
  oSt 1 t33 a1 h15 fun _ h16 =>
  C_accept_Acceptor_Votes [a0, a2] h16 fun t36 h17 =>
  K (.tuple #[t36, (Value.int .i64 0)]) h17)))
def E0_accept_Acceptor_Prepare (a0 a1 a2 : Value) : List Value := [a0, a1, a2, undef, undef, undef, undef, undef, undef, undef, undef, undef, undef, undef, undef, undef, undef, undef, undef, undef, undef, undef, undef, undef, undef, undef, undef, undef, undef, undef, undef, undef, undef, undef, undef, undef, undef]
def X_accept_Acceptor_Prepare (Qv : Post) (a0 a1 a2 : Value) (h : Hp) : Prop :=
  oEq 1 false none a0 (Value.pointer none) h fun t10 h1 =>
  oIf t10
  ((qBlk 0 (qSeq (aw Try.prog O_accept_Acceptor_Prepare K_accept_Acceptor_Prepare_0 Qv) Qv)) .ret (ul (E0_accept_Acceptor_Prepare a0 a1 a2) [(6, (Value.slice none 0 0)), (7, (Value.int .i64 2)), (8, t10), (9, a0), (10, t10)]) h1)
  (C_ballot_Is [a1] h1 fun t13 h2 =>
  oNot t13 h2 fun t14 h3 =>
  oGuard t14 false (fun K => K a2 h3) h3 fun t16 h4 =>
  oGuard t14 false (fun K => oBin .lss t16 (Value.int .i64 0) h4 K) h4 fun t17 h5 =>
  oPick t14 (Value.bool true) t17 h5 fun t18 h6 =>
  oGuard t18 false (fun K => K a2 h6) h6 fun t20 h7 =>
  oGuard t18 false (fun K => oBin .gtr t20 (Value.int .i64 512) h7 K) h7 fun t21 h8 =>
  oPick t18 (Value.bool true) t21 h8 fun t22 h9 =>
  oIf t22
  ((qBlk 0 (qSeq (aw Try.prog O_accept_Acceptor_Prepare K_accept_Acceptor_Prepare_0 Qv) Qv)) .ret (ul (E0_accept_Acceptor_Prepare a0 a1 a2) [(6, (Value.slice none 0 0)), (7, (Value.int .i64 1)), (8, t10), (9, a0), (10, t10), (11, t22), (12, a1), (13, t13), (14, t14), (15, t14), (16, t16), (17, t17), (18, t18), (19, t18), (20, t20), (21, t21), (22, t22)]) h9)
  (oNilCheck a0 h9 fun t25 h10 =>
  oFieldAddr 0 t25 h10 fun t26 h11 =>
  oLd1 t26 h11 fun t27 h12 =>
  oBin .gtr t27 a1 h12 fun t29 h13 =>
  oIf t29
  ((qBlk 0 (qSeq (aw Try.prog O_accept_Acceptor_Prepare K_accept_Acceptor_Prepare_0 Qv) Qv)) .ret (ul (E0_accept_Acceptor_Prepare a0 a1 a2) [(6, (Value.slice none 0 0)), (7, (Value.int .i64 10)), (8, t10), (9, a0), (10, t10), (11, t22), (12, a1), (13, t13), (14, t14), (15, t14), (16, t16), (17, t17), (18, t18), (19, t18), (20, t20), (21, t21), (22, t22), (23, t29), (24, a0), (25, t25), (26, t26), (27, t27), (28, a1), (29, t29)]) h13)
  (oNilCheck a0 h13 fun t32 h14 =>
  oFieldAddr 0 t32 h14 fun t33 h15 =>
  oSt 1 t33 a1 h15 fun _ h16 =>
  C_accept_Acceptor_Votes [a0, a2] h16 fun t36 h17 =>
  Qv .ret (ul (E0_accept_Acceptor_Prepare a0 a1 a2) [(6, t36), (7, (Value.int .i64 0)), (8, t10), (9, a0), (10, t10), (11, t22), (12, a1), (13, t13), (14, t14), (15, t14), (16, t16), (17, t17), (18, t18), (19, t18), (20, t20), (21, t21), (22, t22), (23, t29), (24, a0), (25, t25), (26, t26), (27, t27), (28, a1), (29, t29), (30, a0), (31, a1), (32, t32), (33, t33), (34, a0), (35, a2), (36, t36)]) h17)))
theorem ga_accept_Acceptor_Prepare (Qv : Post) (a0 a1 a2 : Value) (h : Hp) : aw Try.prog O_accept_Acceptor_Prepare (bodyC Try.f21) Qv (E0_accept_Acceptor_Prepare a0 a1 a2) h = X_accept_Acceptor_Prepare Qv a0 a1 a2 h := by kernel_rfl
theorem gb_accept_Acceptor_Prepare (a0 a1 a2 : Value) (h : Hp) (K : Kont) : X_accept_Acceptor_Prepare (qTop Try.prog Try.f21 K) a0 a1 a2 h = G_accept_Acceptor_Prepare a0 a1 a2 h K := by kernel_rfl
theorem gc_accept_Acceptor_Prepare (a0 a1 a2 : Value) (h : Hp) (K : Kont) : abody Try.prog O_accept_Acceptor_Prepare Try.f21 (bodyC Try.f21) [a0, a1, a2] h K = aw Try.prog O_accept_Acceptor_Prepare (bodyC Try.f21) (qTop Try.prog Try.f21 K) (E0_accept_Acceptor_Prepare a0 a1 a2) h := by kernel_rfl
theorem eq_accept_Acceptor_Prepare (a0 a1 a2 : Value) (h : Hp) (K : Kont) : abody Try.prog O_accept_Acceptor_Prepare Try.f21 (bodyC Try.f21) [a0, a1, a2] h K = G_accept_Acceptor_Prepare a0 a1 a2 h K := (gc_accept_Acceptor_Prepare a0 a1 a2 h K).trans ((ga_accept_Acceptor_Prepare _ a0 a1 a2 h).trans (gb_accept_Acceptor_Prepare a0 a1 a2 h K))
theorem ok_accept_Acceptor_Prepare {a0 a1 a2 : Value} {h : Hp} {K : Kont} (hk : G_accept_Acceptor_Prepare a0 a1 a2 h K) : C_accept_Acceptor_Prepare [a0, a1, a2] h K := ac_of_body prog_mixed (fn := Try.f21) Try.func21 (c := bodyC Try.f21) (by kernel_rfl) ((eq_accept_Acceptor_Prepare a0 a1 a2 h K).mpr hk)

end Go.Proofs.Ytdolepapmpcpiaa

