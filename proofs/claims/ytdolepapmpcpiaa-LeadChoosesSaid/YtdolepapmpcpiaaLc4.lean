/- Lemmas for the theorem of the last text; no condition. -/
import Derived.Test.YtdolepapmpcpiaaLc0
import Derived.Test.YtdolepapmpcpiaaLc1
import Derived.Test.YtdolepapmpcpiaaLc2
import Derived.Test.YtdolepapmpcpiaaLc3
import Derived.Test.YtdolepapmpcpiaaProg
/- What functions of the program ask of the seen heap (written by a program of this proof, vgen.py). -/
namespace Go.Proofs.Ytdolepapmpcpiaa
open Go
set_option linter.unusedSectionVars false
variable [Base]
set_option linter.unusedVariables false
set_option maxRecDepth 100000

/-! ### (*catenary/accept.Acceptor).Accept: function 22 -/
def O_accept_Acceptor_Accept : Od := [(11, (.one 0 true (.one 1 true (.one 2 true (.one 3 true (.one 4 true (.one 5 true (.one 6 true (.one 7 true (.one 8 true (.one 9 false .nil)))))))))))]
noncomputable def K_accept_Acceptor_Accept_0 : Code := (cB (cB (bodyC Try.f22)))
noncomputable def K_accept_Acceptor_Accept_1 : Code := (cB (cB (cB (bodyC Try.f22))))
noncomputable def K_accept_Acceptor_Accept_2 : Code := (cB (cB (cB (cB (bodyC Try.f22)))))
def G_accept_Acceptor_Accept (a0 a1 a2 a3 : Value) (h : Hp) (K : Kont) : Prop :=
  oBox a3 h fun t7 h1 =>
  oEq 1 false none a0 (Value.pointer none) h1 fun t12 h2 =>
  oIf t12
  (K (Value.int .i64 2) h2)
  (C_ballot_Is [a1] h2 fun t15 h3 =>
  oNot t15 h3 fun t16 h4 =>
  oGuard t16 false (fun K => K a2 h4) h4 fun t18 h5 =>
  oGuard t16 false (fun K => oBin .lss t18 (Value.int .i64 0) h5 K) h5 fun t19 h6 =>
  oPick t16 (Value.bool true) t19 h6 fun t20 h7 =>
  oGuard t20 false (fun K => K a2 h7) h7 fun t22 h8 =>
  oGuard t20 false (fun K => oBin .geq t22 (Value.int .i64 512) h8 K) h8 fun t23 h9 =>
  oPick t20 (Value.bool true) t23 h9 fun t24 h10 =>
  oIf t24
  (K (Value.int .i64 1) h10)
  (oLdN 4 t7 h10 fun t25 h11 =>
  C_cmds_Check [t25] h11 fun t26 h12 =>
  oBin .neq t26 (Value.int .i64 0) h12 fun t28 h13 =>
  oIf t28
  (K t26 h13)
  (oNilCheck a0 h13 fun t31 h14 =>
  oFieldAddr 0 t31 h14 fun t32 h15 =>
  oLd1 t32 h15 fun t33 h16 =>
  oBin .gtr t33 a1 h16 fun t35 h17 =>
  oIf t35
  (K (Value.int .i64 10) h17)
  (oNilCheck a0 h17 fun t38 h18 =>
  oFieldAddr 0 t38 h18 fun t39 h19 =>
  oSt 1 t39 a1 h19 fun _ h20 =>
  oNilCheck a0 h20 fun t41 h21 =>
  oFieldAddr 1 t41 h21 fun t42 h22 =>
  oLd1 t42 h22 fun t43 h23 =>
  oLdN 4 t7 h23 fun t47 h24 =>
  oBuild #[.int .i64 0, .int .u64 0, .int .i64 0, .int .i64 0, .int .u64 0, .int .i64 0] [(0, 1, a2), (1, 1, a1), (2, 4, t47)] h24 fun t48 h25 =>
  oMapUpdate (.int .i64) t43 a2 t48 h25 fun _ h26 =>
  (True) ∧
  K (Value.int .i64 0) h26))))
def E0_accept_Acceptor_Accept (a0 a1 a2 a3 : Value) : List Value := [a0, a1, a2, a3, undef, undef, undef, undef, undef, undef, undef, undef, undef, undef, undef, undef, undef, undef, undef, undef, undef, undef, undef, undef, undef, undef, undef, undef, undef, undef, undef, undef, undef, undef, undef, undef, undef, undef, undef, undef, undef, undef, undef, undef, undef, undef, undef, undef, undef]
def X_accept_Acceptor_Accept (Qv : Post) (a0 a1 a2 a3 : Value) (h : Hp) : Prop :=
  oBox a3 h fun t7 h1 =>
  oEq 1 false none a0 (Value.pointer none) h1 fun t12 h2 =>
  oIf t12
  ((qBlk 0 (qSeq (aw Try.prog O_accept_Acceptor_Accept K_accept_Acceptor_Accept_0 Qv) Qv)) .ret (ul (E0_accept_Acceptor_Accept a0 a1 a2 a3) [(7, t7), (8, (Value.int .i64 2)), (10, t12), (11, a0), (12, t12)]) h2)
  (C_ballot_Is [a1] h2 fun t15 h3 =>
  oNot t15 h3 fun t16 h4 =>
  oGuard t16 false (fun K => K a2 h4) h4 fun t18 h5 =>
  oGuard t16 false (fun K => oBin .lss t18 (Value.int .i64 0) h5 K) h5 fun t19 h6 =>
  oPick t16 (Value.bool true) t19 h6 fun t20 h7 =>
  oGuard t20 false (fun K => K a2 h7) h7 fun t22 h8 =>
  oGuard t20 false (fun K => oBin .geq t22 (Value.int .i64 512) h8 K) h8 fun t23 h9 =>
  oPick t20 (Value.bool true) t23 h9 fun t24 h10 =>
  oIf t24
  ((qBlk 0 (qSeq (aw Try.prog O_accept_Acceptor_Accept K_accept_Acceptor_Accept_0 Qv) Qv)) .ret (ul (E0_accept_Acceptor_Accept a0 a1 a2 a3) [(7, t7), (8, (Value.int .i64 1)), (10, t12), (11, a0), (12, t12), (13, t24), (14, a1), (15, t15), (16, t16), (17, t16), (18, t18), (19, t19), (20, t20), (21, t20), (22, t22), (23, t23), (24, t24)]) h10)
  (oLdN 4 t7 h10 fun t25 h11 =>
  C_cmds_Check [t25] h11 fun t26 h12 =>
  oBin .neq t26 (Value.int .i64 0) h12 fun t28 h13 =>
  oIf t28
  ((qSeq (aw Try.prog O_accept_Acceptor_Accept K_accept_Acceptor_Accept_1 Qv) Qv) .ret (ul (E0_accept_Acceptor_Accept a0 a1 a2 a3) [(7, t7), (8, t26), (9, t26), (10, t12), (11, a0), (12, t12), (13, t24), (14, a1), (15, t15), (16, t16), (17, t16), (18, t18), (19, t19), (20, t20), (21, t20), (22, t22), (23, t23), (24, t24), (25, t25), (26, t26), (27, t26), (28, t28), (29, t26)]) h13)
  (oNilCheck a0 h13 fun t31 h14 =>
  oFieldAddr 0 t31 h14 fun t32 h15 =>
  oLd1 t32 h15 fun t33 h16 =>
  oBin .gtr t33 a1 h16 fun t35 h17 =>
  oIf t35
  ((qSeq (aw Try.prog O_accept_Acceptor_Accept K_accept_Acceptor_Accept_2 Qv) Qv) .ret (ul (E0_accept_Acceptor_Accept a0 a1 a2 a3) [(7, t7), (8, (Value.int .i64 10)), (9, t26), (10, t12), (11, a0), (12, t12), (13, t24), (14, a1), (15, t15), (16, t16), (17, t16), (18, t18), (19, t19), (20, t20), (21, t20), (22, t22), (23, t23), (24, t24), (25, t25), (26, t26), (27, t26), (28, t28), (30, a0), (31, t31), (32, t32), (33, t33), (34, a1), (35, t35)]) h17)
  (oNilCheck a0 h17 fun t38 h18 =>
  oFieldAddr 0 t38 h18 fun t39 h19 =>
  oSt 1 t39 a1 h19 fun _ h20 =>
  oNilCheck a0 h20 fun t41 h21 =>
  oFieldAddr 1 t41 h21 fun t42 h22 =>
  oLd1 t42 h22 fun t43 h23 =>
  oLdN 4 t7 h23 fun t47 h24 =>
  oBuild #[.int .i64 0, .int .u64 0, .int .i64 0, .int .i64 0, .int .u64 0, .int .i64 0] [(0, 1, a2), (1, 1, a1), (2, 4, t47)] h24 fun t48 h25 =>
  oMapUpdate (.int .i64) t43 a2 t48 h25 fun _ h26 =>
  (True) ∧
  Qv .ret (ul (E0_accept_Acceptor_Accept a0 a1 a2 a3) [(7, t7), (8, (Value.int .i64 0)), (9, t26), (10, t12), (11, a0), (12, t12), (13, t24), (14, a1), (15, t15), (16, t16), (17, t16), (18, t18), (19, t19), (20, t20), (21, t20), (22, t22), (23, t23), (24, t24), (25, t25), (26, t26), (27, t26), (28, t28), (30, a0), (31, t31), (32, t32), (33, t33), (34, a1), (35, t35), (36, a0), (37, a1), (38, t38), (39, t39), (40, a0), (41, t41), (42, t42), (43, t43), (44, a2), (45, a2), (46, a1), (47, t47), (48, t48)]) h26))))
theorem ga_accept_Acceptor_Accept (Qv : Post) (a0 a1 a2 a3 : Value) (h : Hp) : aw Try.prog O_accept_Acceptor_Accept (bodyC Try.f22) Qv (E0_accept_Acceptor_Accept a0 a1 a2 a3) h = X_accept_Acceptor_Accept Qv a0 a1 a2 a3 h := by kernel_rfl
theorem gb_accept_Acceptor_Accept (a0 a1 a2 a3 : Value) (h : Hp) (K : Kont) : X_accept_Acceptor_Accept (qTop Try.prog Try.f22 K) a0 a1 a2 a3 h = G_accept_Acceptor_Accept a0 a1 a2 a3 h K := by kernel_rfl
theorem gc_accept_Acceptor_Accept (a0 a1 a2 a3 : Value) (h : Hp) (K : Kont) : abody Try.prog O_accept_Acceptor_Accept Try.f22 (bodyC Try.f22) [a0, a1, a2, a3] h K = aw Try.prog O_accept_Acceptor_Accept (bodyC Try.f22) (qTop Try.prog Try.f22 K) (E0_accept_Acceptor_Accept a0 a1 a2 a3) h := by kernel_rfl
theorem eq_accept_Acceptor_Accept (a0 a1 a2 a3 : Value) (h : Hp) (K : Kont) : abody Try.prog O_accept_Acceptor_Accept Try.f22 (bodyC Try.f22) [a0, a1, a2, a3] h K = G_accept_Acceptor_Accept a0 a1 a2 a3 h K := (gc_accept_Acceptor_Accept a0 a1 a2 a3 h K).trans ((ga_accept_Acceptor_Accept _ a0 a1 a2 a3 h).trans (gb_accept_Acceptor_Accept a0 a1 a2 a3 h K))
theorem ok_accept_Acceptor_Accept {a0 a1 a2 a3 : Value} {h : Hp} {K : Kont} (hk : G_accept_Acceptor_Accept a0 a1 a2 a3 h K) : C_accept_Acceptor_Accept [a0, a1, a2, a3] h K := ac_of_body prog_mixed (fn := Try.f22) Try.func22 (c := bodyC Try.f22) (by kernel_rfl) ((eq_accept_Acceptor_Accept a0 a1 a2 a3 h K).mpr hk)

/-! ### catenary/accept.Best: function 23 -/
def O_accept_Best : Od := []
noncomputable def K_accept_Best_0 : Code := (cI (cB (cA (cB (cB (bodyC Try.f23))))))
noncomputable def K_accept_Best_1 : Code := (cB (cB (cB (bodyC Try.f23))))
def Q_accept_Best_0 (K : Kont) : Post := qSeq (aw Try.prog O_accept_Best K_accept_Best_1 (qTop Try.prog Try.f23 K)) (qTop Try.prog Try.f23 K)
def Q_accept_Best_1 (K : Kont) : Post := qBlk 0 (Q_accept_Best_0 K)
def E_accept_Best_1 (v3 : Value) (v11 : Value) (v12 : Value) (v13 : Value) (d : Nat → Value) : List Value := [d 0, d 1, d 2, v3, d 4, d 5, d 6, d 7, d 8, d 9, d 10, v11, v12, v13, d 14, d 15, d 16, d 17, d 18, d 19, d 20, d 21, d 22, d 23, d 24, d 25, d 26, d 27, d 28, d 29, d 30, d 31, d 32, d 33, d 34, d 35, d 36, d 37, d 38, d 39, d 40, d 41, d 42, d 43, d 44, d 45, d 46, d 47, d 48, d 49, d 50, d 51, d 52, d 53]
def G_accept_Best_1 (K : Kont) (v3 : Value) (v11 : Value) (v12 : Value) (v13 : Value) (d : Nat → Value) (h : Hp) : Prop := aw Try.prog O_accept_Best K_accept_Best_0 (Q_accept_Best_1 K) (E_accept_Best_1 v3 v11 v12 v13 d) h
def Q_accept_Best_2 (K : Kont) (s0 : Self) : Post := qSeq s0 (Q_accept_Best_1 K)
noncomputable def K_accept_Best_2 : Code := (cI (cI (cB (cA (cB (cB (bodyC Try.f23)))))))
noncomputable def K_accept_Best_3 : Code := (cI (cB (cB (cI (cA (cB (cB (cI (cI (cB (cA (cB (cB (bodyC Try.f23))))))))))))))
noncomputable def K_accept_Best_4 : Code := (cB (cB (cB (cI (cI (cB (cA (cB (cB (bodyC Try.f23))))))))))
def Q_accept_Best_3 (K : Kont) (s0 : Self) : Post := qSeq (aw Try.prog O_accept_Best K_accept_Best_4 (Q_accept_Best_2 K s0)) (Q_accept_Best_2 K s0)
def Q_accept_Best_4 (K : Kont) (s0 : Self) : Post := qBlk 1 (Q_accept_Best_3 K s0)
def Q_accept_Best_5 (K : Kont) (s0 : Self) : Post := qBlk 2 (Q_accept_Best_4 K s0)
def E_accept_Best_2 (v3 : Value) (v11 : Value) (v12 : Value) (v13 : Value) (v17 : Value) (v18 : Value) (v19 : Value) (d : Nat → Value) : List Value := [d 0, d 1, d 2, v3, d 4, d 5, d 6, d 7, d 8, d 9, d 10, v11, v12, v13, d 14, d 15, d 16, v17, v18, v19, d 20, d 21, d 22, d 23, d 24, d 25, d 26, d 27, d 28, d 29, d 30, d 31, d 32, d 33, d 34, d 35, d 36, d 37, d 38, d 39, d 40, d 41, d 42, d 43, d 44, d 45, d 46, d 47, d 48, d 49, d 50, d 51, d 52, d 53]
def G_accept_Best_2 (K : Kont) (s0 : Self) (v3 : Value) (v11 : Value) (v12 : Value) (v13 : Value) (v17 : Value) (v18 : Value) (v19 : Value) (d : Nat → Value) (h : Hp) : Prop := aw Try.prog O_accept_Best K_accept_Best_3 (Q_accept_Best_5 K s0) (E_accept_Best_2 v3 v11 v12 v13 v17 v18 v19 d) h
noncomputable def K_accept_Best_5 : Code := (cB (cB (cI (cI (cB (cA (cB (cB (bodyC Try.f23)))))))))
def Q_accept_Best_6 (K : Kont) (s0 : Self) (s1 : Self) : Post := qSeq s1 (Q_accept_Best_5 K s0)
noncomputable def K_accept_Best_6 : Code := (cI (cI (cB (cB (cI (cA (cB (cB (cI (cI (cB (cA (cB (cB (bodyC Try.f23)))))))))))))))
noncomputable def K_accept_Best_7 : Code := (cB (cB (cB (cI (cI (cB (cB (cI (cA (cB (cB (cI (cI (cB (cA (cB (cB (bodyC Try.f23))))))))))))))))))
def E_accept_Best_3 (v3 : Value) (v11 : Value) (v12 : Value) (v13 : Value) (v17 : Value) (v18 : Value) (v19 : Value) (d : Nat → Value) : List Value := [d 0, d 1, d 2, v3, d 4, d 5, d 6, d 7, d 8, d 9, d 10, v11, v12, v13, d 14, d 15, d 16, v17, v18, v19, d 20, d 21, d 22, d 23, d 24, d 25, d 26, d 27, d 28, d 29, d 30, d 31, d 32, d 33, d 34, d 35, d 36, d 37, d 38, d 39, d 40, d 41, d 42, d 43, d 44, d 45, d 46, d 47, d 48, d 49, d 50, d 51, d 52, d 53]
def G_accept_Best_3 (K : Kont) (s0 : Self) (s1 : Self) (v3 : Value) (v11 : Value) (v12 : Value) (v13 : Value) (v17 : Value) (v18 : Value) (v19 : Value) (d : Nat → Value) (h : Hp) : Prop := aw Try.prog O_accept_Best K_accept_Best_7 (Q_accept_Best_6 K s0 s1) (E_accept_Best_3 v3 v11 v12 v13 v17 v18 v19 d) h
noncomputable def K_accept_Best_8 : Code := (cB (cB (cI (cI (cB (cB (cI (cA (cB (cB (cI (cI (cB (cA (cB (cB (bodyC Try.f23)))))))))))))))))
def G_accept_Best (a0 : Value) (h : Hp) (K : Kont) : Prop :=
  oMakeMap h fun t10 h1 =>
  oLen 0 a0 h1 fun t12 h2 =>
  G_accept_Best_1 K t10 a0 t12 (Value.int .i64 0) (ud [(0, a0), (2, (Value.slice none 0 0)), (10, t10)] dz) h2
def E0_accept_Best (a0 : Value) : List Value := [a0, undef, undef, undef, undef, undef, undef, undef, undef, undef, undef, undef, undef, undef, undef, undef, undef, undef, undef, undef, undef, undef, undef, undef, undef, undef, undef, undef, undef, undef, undef, undef, undef, undef, undef, undef, undef, undef, undef, undef, undef, undef, undef, undef, undef, undef, undef, undef, undef, undef, undef, undef, undef, undef]
def X_accept_Best (Qv : Post) (a0 : Value) (h : Hp) : Prop :=
  oMakeMap h fun t10 h1 =>
  oLen 0 a0 h1 fun t12 h2 =>
  aw Try.prog O_accept_Best K_accept_Best_0 (qBlk 0 (qSeq (aw Try.prog O_accept_Best K_accept_Best_1 Qv) Qv)) (ul (E0_accept_Best a0) [(2, (Value.slice none 0 0)), (3, t10), (10, t10), (11, a0), (12, t12), (13, (Value.int .i64 0))]) h2
theorem ga_accept_Best (Qv : Post) (a0 : Value) (h : Hp) : aw Try.prog O_accept_Best (bodyC Try.f23) Qv (E0_accept_Best a0) h = X_accept_Best Qv a0 h := by kernel_rfl
theorem gb_accept_Best (a0 : Value) (h : Hp) (K : Kont) : X_accept_Best (qTop Try.prog Try.f23 K) a0 h = G_accept_Best a0 h K := by kernel_rfl
theorem gc_accept_Best (a0 : Value) (h : Hp) (K : Kont) : abody Try.prog O_accept_Best Try.f23 (bodyC Try.f23) [a0] h K = aw Try.prog O_accept_Best (bodyC Try.f23) (qTop Try.prog Try.f23 K) (E0_accept_Best a0) h := by kernel_rfl
theorem eq_accept_Best (a0 : Value) (h : Hp) (K : Kont) : abody Try.prog O_accept_Best Try.f23 (bodyC Try.f23) [a0] h K = G_accept_Best a0 h K := (gc_accept_Best a0 h K).trans ((ga_accept_Best _ a0 h).trans (gb_accept_Best a0 h K))
theorem ok_accept_Best {a0 : Value} {h : Hp} {K : Kont} (hk : G_accept_Best a0 h K) : C_accept_Best [a0] h K := ac_of_body prog_mixed (fn := Try.f23) Try.func23 (c := bodyC Try.f23) (by kernel_rfl) ((eq_accept_Best a0 h K).mpr hk)
def B_accept_Best_1 (K : Kont) (s0 : Self) (v3 : Value) (v11 : Value) (v12 : Value) (v13 : Value) (d : Nat → Value) (h : Hp) : Prop :=
  oBin .lss v13 v12 h fun t14 h1 =>
  oIf t14
  (oIdxS 1 v11 v13 h1 fun t15 h2 =>
  oLd1 t15 h2 fun t16 h3 =>
  oLen 0 t16 h3 fun t18 h4 =>
  G_accept_Best_2 K s0 v3 v11 v12 v13 t16 t18 (Value.int .i64 0) (ud [(5, t16), (14, t14), (15, t15), (16, t16)] d) h4)
  (oLen 2 v3 h1 fun t46 h5 =>
  oBin .eql t46 (Value.int .i64 0) h5 fun t47 h6 =>
  oIf t47
  (K (Value.slice none 0 0) h6)
  (C_maps_Keys_map_int_api_Vote_int_api_Vote [v3] h6 fun t50 h7 =>
  C_slices_Collect_int [t50] h7 fun t51 h8 =>
  C_slices_Min_Sint_int [t51] h8 fun t52 h9 =>
  C_accept_rising [v3, t52] h9 fun t53 h10 =>
  K t53 h10))
def X_accept_Best_1 (Qv : Post) (v3 : Value) (v11 : Value) (v12 : Value) (v13 : Value) (d : Nat → Value) (h : Hp) : Prop :=
  oBin .lss v13 v12 h fun t14 h1 =>
  oIf t14
  (oIdxS 1 v11 v13 h1 fun t15 h2 =>
  oLd1 t15 h2 fun t16 h3 =>
  oLen 0 t16 h3 fun t18 h4 =>
  aw Try.prog O_accept_Best K_accept_Best_3 (qBlk 2 (qBlk 1 (qSeq (aw Try.prog O_accept_Best K_accept_Best_4 Qv) Qv))) (ul (E_accept_Best_1 v3 v11 v12 v13 d) [(5, t16), (14, t14), (15, t15), (16, t16), (17, t16), (18, t18), (19, (Value.int .i64 0))]) h4)
  ((qSeq (aw Try.prog O_accept_Best K_accept_Best_5 Qv) Qv) (.exit 0) (ul (E_accept_Best_1 v3 v11 v12 v13 d) [(14, t14)]) h1)
theorem ga_accept_Best_1 (Qv : Post) (v3 : Value) (v11 : Value) (v12 : Value) (v13 : Value) (d : Nat → Value) (h : Hp) : aw Try.prog O_accept_Best K_accept_Best_2 Qv (E_accept_Best_1 v3 v11 v12 v13 d) h = X_accept_Best_1 Qv v3 v11 v12 v13 d h := by kernel_rfl
theorem gb_accept_Best_1 (K : Kont) (s0 : Self) (v3 : Value) (v11 : Value) (v12 : Value) (v13 : Value) (d : Nat → Value) (h : Hp) : X_accept_Best_1 (Q_accept_Best_2 K s0) v3 v11 v12 v13 d h = B_accept_Best_1 K s0 v3 v11 v12 v13 d h := by kernel_rfl
theorem beq_accept_Best_1 (K : Kont) (s0 : Self) (v3 : Value) (v11 : Value) (v12 : Value) (v13 : Value) (d : Nat → Value) (h : Hp) : aw Try.prog O_accept_Best K_accept_Best_2 (Q_accept_Best_2 K s0) (E_accept_Best_1 v3 v11 v12 v13 d) h = B_accept_Best_1 K s0 v3 v11 v12 v13 d h := (ga_accept_Best_1 _ v3 v11 v12 v13 d h).trans (gb_accept_Best_1 K s0 v3 v11 v12 v13 d h)
theorem rule_accept_Best_1 {K : Kont} {v3 : Value} {v11 : Value} {v12 : Value} (Inv : Value → Hp → Prop) (μ : Value → Hp → Nat)
    (step : ∀ (s0 : Self) (v13 : Value) (d : Nat → Value) (h : Hp), Inv v13 h → (∀ (v13' : Value) (d' : Nat → Value) (h' : Hp), Inv v13' h' → μ v13' h' < μ v13 h → s0 (E_accept_Best_1 v3 v11 v12 v13' d') h') → B_accept_Best_1 K s0 v3 v11 v12 v13 d h) (v13 : Value) (d : Nat → Value) (h : Hp) (hi : Inv v13 h) : G_accept_Best_1 K v3 v11 v12 v13 d h :=
  oLoop_rule (α := Value × (Nat → Value)) (fun x => E_accept_Best_1 v3 v11 v12 x.1 x.2) (fun x h => Inv x.1 h) (fun x h => μ x.1 h)
    (fun self x h hx hs => (beq_accept_Best_1 K self v3 v11 v12 x.1 x.2 h).mpr (step self x.1 x.2 h hx (fun v13' d' h' h1 h2 => hs ⟨v13', d'⟩ h' h1 h2))) ⟨v13, d⟩ h hi
def B_accept_Best_2 (K : Kont) (s0 : Self) (s1 : Self) (v3 : Value) (v11 : Value) (v12 : Value) (v13 : Value) (v17 : Value) (v18 : Value) (v19 : Value) (d : Nat → Value) (h : Hp) : Prop :=
  oBin .lss v19 v18 h fun t20 h1 =>
  oIf t20
  (oIdxS 6 v17 v19 h1 fun t21 h2 =>
  oLdN 6 t21 h2 fun t22 h3 =>
  oAlloc #[.int .i64 0, .int .u64 0, .int .i64 0, .int .i64 0, .int .u64 0, .int .i64 0] h3 fun t7 h4 =>
  oSt 6 t7 t22 h4 fun _ h5 =>
  oFieldAddr 0 t7 h5 fun t25 h6 =>
  oLd1 t25 h6 fun t26 h7 =>
  oLookup (.int .i64) (.agg #[.int .i64 0, .int .u64 0, .int .i64 0, .int .i64 0, .int .u64 0, .int .i64 0]) v3 t26 true h7 fun t27 h8 =>
  oExtract t27 0 h8 fun t28 h9 =>
  oExtract t27 1 h9 fun t29 h10 =>
  oAlloc #[.int .i64 0, .int .u64 0, .int .i64 0, .int .i64 0, .int .u64 0, .int .i64 0] h10 fun t8 h11 =>
  oSt 6 t8 t28 h11 fun _ h12 =>
  oNot t29 h12 fun t31 h13 =>
  oGuard t31 false (fun K => oFieldAddr 1 t7 h13 K) h13 fun t33 h14 =>
  oGuard t31 false (fun K => oLd1 t33 h14 K) h14 fun t34 h15 =>
  oGuard t31 false (fun K => oFieldAddr 1 t8 h15 K) h15 fun t35 h16 =>
  oGuard t31 false (fun K => oLd1 t35 h16 K) h16 fun t36 h17 =>
  oGuard t31 false (fun K => oBin .gtr t34 t36 h17 K) h17 fun t37 h18 =>
  oPick t31 (Value.bool true) t37 h18 fun t38 h19 =>
  oIf t38
  (oFieldAddr 0 t7 h19 fun t40 h20 =>
  oLd1 t40 h20 fun t41 h21 =>
  oLdN 6 t7 h21 fun t42 h22 =>
  oMapUpdate (.int .i64) v3 t41 t42 h22 fun _ h23 =>
  G_accept_Best_3 K s0 s1 v3 v11 v12 v13 v17 v18 v19 (ud [(7, t7), (8, t8), (9, t29), (20, t20), (21, t21), (22, t22), (23, t27), (24, v3), (25, t25), (26, t26), (27, t27), (28, t28), (29, t29), (30, t29), (31, t31), (32, t31), (33, t33), (34, t34), (35, t35), (36, t36), (37, t37), (38, t38), (39, v3), (40, t40), (41, t41), (42, t42)] d) h23)
  (G_accept_Best_3 K s0 s1 v3 v11 v12 v13 v17 v18 v19 (ud [(7, t7), (8, t8), (9, t29), (20, t20), (21, t21), (22, t22), (23, t27), (24, v3), (25, t25), (26, t26), (27, t27), (28, t28), (29, t29), (30, t29), (31, t31), (32, t31), (33, t33), (34, t34), (35, t35), (36, t36), (37, t37), (38, t38)] d) h19))
  (oBin .add v13 (Value.int .i64 1) h1 fun t44 h24 =>
  s0 (E_accept_Best_1 v3 v11 v12 t44 (ud [(17, v17), (18, v18), (19, v19), (20, t20), (44, t44)] d)) h24)
def X_accept_Best_2 (Qv : Post) (v3 : Value) (v11 : Value) (v12 : Value) (v13 : Value) (v17 : Value) (v18 : Value) (v19 : Value) (d : Nat → Value) (h : Hp) : Prop :=
  oBin .lss v19 v18 h fun t20 h1 =>
  oIf t20
  (oIdxS 6 v17 v19 h1 fun t21 h2 =>
  oLdN 6 t21 h2 fun t22 h3 =>
  oAlloc #[.int .i64 0, .int .u64 0, .int .i64 0, .int .i64 0, .int .u64 0, .int .i64 0] h3 fun t7 h4 =>
  oSt 6 t7 t22 h4 fun _ h5 =>
  oFieldAddr 0 t7 h5 fun t25 h6 =>
  oLd1 t25 h6 fun t26 h7 =>
  oLookup (.int .i64) (.agg #[.int .i64 0, .int .u64 0, .int .i64 0, .int .i64 0, .int .u64 0, .int .i64 0]) v3 t26 true h7 fun t27 h8 =>
  oExtract t27 0 h8 fun t28 h9 =>
  oExtract t27 1 h9 fun t29 h10 =>
  oAlloc #[.int .i64 0, .int .u64 0, .int .i64 0, .int .i64 0, .int .u64 0, .int .i64 0] h10 fun t8 h11 =>
  oSt 6 t8 t28 h11 fun _ h12 =>
  oNot t29 h12 fun t31 h13 =>
  oGuard t31 false (fun K => oFieldAddr 1 t7 h13 K) h13 fun t33 h14 =>
  oGuard t31 false (fun K => oLd1 t33 h14 K) h14 fun t34 h15 =>
  oGuard t31 false (fun K => oFieldAddr 1 t8 h15 K) h15 fun t35 h16 =>
  oGuard t31 false (fun K => oLd1 t35 h16 K) h16 fun t36 h17 =>
  oGuard t31 false (fun K => oBin .gtr t34 t36 h17 K) h17 fun t37 h18 =>
  oPick t31 (Value.bool true) t37 h18 fun t38 h19 =>
  oIf t38
  (oFieldAddr 0 t7 h19 fun t40 h20 =>
  oLd1 t40 h20 fun t41 h21 =>
  oLdN 6 t7 h21 fun t42 h22 =>
  oMapUpdate (.int .i64) v3 t41 t42 h22 fun _ h23 =>
  (qBlk 3 (qSeq (aw Try.prog O_accept_Best K_accept_Best_7 Qv) Qv)) .normal (ul (E_accept_Best_2 v3 v11 v12 v13 v17 v18 v19 d) [(7, t7), (8, t8), (9, t29), (20, t20), (21, t21), (22, t22), (23, t27), (24, v3), (25, t25), (26, t26), (27, t27), (28, t28), (29, t29), (30, t29), (31, t31), (32, t31), (33, t33), (34, t34), (35, t35), (36, t36), (37, t37), (38, t38), (39, v3), (40, t40), (41, t41), (42, t42)]) h23)
  ((qBlk 3 (qSeq (aw Try.prog O_accept_Best K_accept_Best_7 Qv) Qv)) .normal (ul (E_accept_Best_2 v3 v11 v12 v13 v17 v18 v19 d) [(7, t7), (8, t8), (9, t29), (20, t20), (21, t21), (22, t22), (23, t27), (24, v3), (25, t25), (26, t26), (27, t27), (28, t28), (29, t29), (30, t29), (31, t31), (32, t31), (33, t33), (34, t34), (35, t35), (36, t36), (37, t37), (38, t38)]) h19))
  ((qSeq (aw Try.prog O_accept_Best K_accept_Best_8 Qv) Qv) (.exit 2) (ul (E_accept_Best_2 v3 v11 v12 v13 v17 v18 v19 d) [(20, t20)]) h1)
theorem ga_accept_Best_2 (Qv : Post) (v3 : Value) (v11 : Value) (v12 : Value) (v13 : Value) (v17 : Value) (v18 : Value) (v19 : Value) (d : Nat → Value) (h : Hp) : aw Try.prog O_accept_Best K_accept_Best_6 Qv (E_accept_Best_2 v3 v11 v12 v13 v17 v18 v19 d) h = X_accept_Best_2 Qv v3 v11 v12 v13 v17 v18 v19 d h := by kernel_rfl
theorem gb_accept_Best_2 (K : Kont) (s0 : Self) (s1 : Self) (v3 : Value) (v11 : Value) (v12 : Value) (v13 : Value) (v17 : Value) (v18 : Value) (v19 : Value) (d : Nat → Value) (h : Hp) : X_accept_Best_2 (Q_accept_Best_6 K s0 s1) v3 v11 v12 v13 v17 v18 v19 d h = B_accept_Best_2 K s0 s1 v3 v11 v12 v13 v17 v18 v19 d h := by kernel_rfl
theorem beq_accept_Best_2 (K : Kont) (s0 : Self) (s1 : Self) (v3 : Value) (v11 : Value) (v12 : Value) (v13 : Value) (v17 : Value) (v18 : Value) (v19 : Value) (d : Nat → Value) (h : Hp) : aw Try.prog O_accept_Best K_accept_Best_6 (Q_accept_Best_6 K s0 s1) (E_accept_Best_2 v3 v11 v12 v13 v17 v18 v19 d) h = B_accept_Best_2 K s0 s1 v3 v11 v12 v13 v17 v18 v19 d h := (ga_accept_Best_2 _ v3 v11 v12 v13 v17 v18 v19 d h).trans (gb_accept_Best_2 K s0 s1 v3 v11 v12 v13 v17 v18 v19 d h)
theorem rule_accept_Best_2 {K : Kont} {s0 : Self} {v3 : Value} {v11 : Value} {v12 : Value} {v13 : Value} {v17 : Value} {v18 : Value} (Inv : Value → Hp → Prop) (μ : Value → Hp → Nat)
    (step : ∀ (s1 : Self) (v19 : Value) (d : Nat → Value) (h : Hp), Inv v19 h → (∀ (v19' : Value) (d' : Nat → Value) (h' : Hp), Inv v19' h' → μ v19' h' < μ v19 h → s1 (E_accept_Best_2 v3 v11 v12 v13 v17 v18 v19' d') h') → B_accept_Best_2 K s0 s1 v3 v11 v12 v13 v17 v18 v19 d h) (v19 : Value) (d : Nat → Value) (h : Hp) (hi : Inv v19 h) : G_accept_Best_2 K s0 v3 v11 v12 v13 v17 v18 v19 d h :=
  oLoop_rule (α := Value × (Nat → Value)) (fun x => E_accept_Best_2 v3 v11 v12 v13 v17 v18 x.1 x.2) (fun x h => Inv x.1 h) (fun x h => μ x.1 h)
    (fun self x h hx hs => (beq_accept_Best_2 K s0 self v3 v11 v12 v13 v17 v18 x.1 x.2 h).mpr (step self x.1 x.2 h hx (fun v19' d' h' h1 h2 => hs ⟨v19', d'⟩ h' h1 h2))) ⟨v19, d⟩ h hi
def R_accept_Best_3 (K : Kont) (s0 : Self) (s1 : Self) (v3 : Value) (v11 : Value) (v12 : Value) (v13 : Value) (v17 : Value) (v18 : Value) (v19 : Value) (d : Nat → Value) (h : Hp) : Prop :=
  oBin .add v19 (Value.int .i64 1) h fun t43 h1 =>
  s1 (E_accept_Best_2 v3 v11 v12 v13 v17 v18 t43 (ud [(43, t43)] d)) h1
def X_accept_Best_3 (Qv : Post) (v3 : Value) (v11 : Value) (v12 : Value) (v13 : Value) (v17 : Value) (v18 : Value) (v19 : Value) (d : Nat → Value) (h : Hp) : Prop :=
  oBin .add v19 (Value.int .i64 1) h fun t43 h1 =>
  Qv .normal (ul (E_accept_Best_3 v3 v11 v12 v13 v17 v18 v19 d) [(19, t43), (43, t43)]) h1
theorem ga_accept_Best_3 (Qv : Post) (v3 : Value) (v11 : Value) (v12 : Value) (v13 : Value) (v17 : Value) (v18 : Value) (v19 : Value) (d : Nat → Value) (h : Hp) : aw Try.prog O_accept_Best K_accept_Best_7 Qv (E_accept_Best_3 v3 v11 v12 v13 v17 v18 v19 d) h = X_accept_Best_3 Qv v3 v11 v12 v13 v17 v18 v19 d h := by kernel_rfl
theorem gb_accept_Best_3 (K : Kont) (s0 : Self) (s1 : Self) (v3 : Value) (v11 : Value) (v12 : Value) (v13 : Value) (v17 : Value) (v18 : Value) (v19 : Value) (d : Nat → Value) (h : Hp) : X_accept_Best_3 (Q_accept_Best_6 K s0 s1) v3 v11 v12 v13 v17 v18 v19 d h = R_accept_Best_3 K s0 s1 v3 v11 v12 v13 v17 v18 v19 d h := by kernel_rfl
theorem req_accept_Best_3 (K : Kont) (s0 : Self) (s1 : Self) (v3 : Value) (v11 : Value) (v12 : Value) (v13 : Value) (v17 : Value) (v18 : Value) (v19 : Value) (d : Nat → Value) (h : Hp) : G_accept_Best_3 K s0 s1 v3 v11 v12 v13 v17 v18 v19 d h = R_accept_Best_3 K s0 s1 v3 v11 v12 v13 v17 v18 v19 d h := (ga_accept_Best_3 _ v3 v11 v12 v13 v17 v18 v19 d h).trans (gb_accept_Best_3 K s0 s1 v3 v11 v12 v13 v17 v18 v19 d h)

/-! ### catenary/catenaryref11.Best: function 24 -/
def O_r11_Best : Od := [(9, (.one 0 true (.one 1 true (.one 2 true (.one 3 true (.one 4 true (.one 5 true (.one 6 true (.one 7 true (.one 8 true (.one 9 true (.one 10 true (.one 11 true (.one 12 true (.one 13 true (.one 14 true .nil))))))))))))))))]
noncomputable def K_r11_Best_0 : Code := (cI (cB (cA (cB (cB (bodyC Try.f24))))))
noncomputable def K_r11_Best_1 : Code := (cB (cB (cB (bodyC Try.f24))))
def Q_r11_Best_0 (K : Kont) : Post := qSeq (aw Try.prog O_r11_Best K_r11_Best_1 (qTop Try.prog Try.f24 K)) (qTop Try.prog Try.f24 K)
def Q_r11_Best_1 (K : Kont) : Post := qBlk 0 (Q_r11_Best_0 K)
def E_r11_Best_1 (v0 : Value) (v3 : Value) (v4 : Value) (d : Nat → Value) : List Value := [v0, d 1, d 2, v3, v4, d 5, d 6, d 7, d 8, d 9, d 10, d 11, d 12, d 13, d 14, d 15, d 16, d 17, d 18, d 19, d 20, d 21, d 22, d 23, d 24, d 25, d 26, d 27, d 28, d 29, d 30, d 31, d 32, d 33, d 34, d 35, d 36, d 37, d 38, d 39, d 40, d 41, d 42, d 43, d 44, d 45, d 46, d 47, d 48, d 49, d 50, d 51, d 52, d 53, d 54, d 55, d 56, d 57, d 58, d 59, d 60]
def G_r11_Best_1 (K : Kont) (v0 : Value) (v3 : Value) (v4 : Value) (d : Nat → Value) (h : Hp) : Prop := aw Try.prog O_r11_Best K_r11_Best_0 (Q_r11_Best_1 K) (E_r11_Best_1 v0 v3 v4 d) h
def Q_r11_Best_2 (K : Kont) (s0 : Self) : Post := qSeq s0 (Q_r11_Best_1 K)
noncomputable def K_r11_Best_2 : Code := (cI (cI (cB (cA (cB (cB (bodyC Try.f24)))))))
noncomputable def K_r11_Best_3 : Code := (cI (cB (cI (cA (cB (cI (cI (cB (cA (cB (cB (bodyC Try.f24))))))))))))
noncomputable def K_r11_Best_4 : Code := (cB (cB (cI (cI (cB (cA (cB (cB (bodyC Try.f24)))))))))
def Q_r11_Best_3 (K : Kont) (s0 : Self) : Post := qSeq (aw Try.prog O_r11_Best K_r11_Best_4 (Q_r11_Best_2 K s0)) (Q_r11_Best_2 K s0)
def Q_r11_Best_4 (K : Kont) (s0 : Self) : Post := qBlk 1 (Q_r11_Best_3 K s0)
def Q_r11_Best_5 (K : Kont) (s0 : Self) : Post := qBlk 2 (Q_r11_Best_4 K s0)
def E_r11_Best_2 (v0 : Value) (v3 : Value) (v4 : Value) (v5 : Value) (d : Nat → Value) : List Value := [v0, d 1, d 2, v3, v4, v5, d 6, d 7, d 8, d 9, d 10, d 11, d 12, d 13, d 14, d 15, d 16, d 17, d 18, d 19, d 20, d 21, d 22, d 23, d 24, d 25, d 26, d 27, d 28, d 29, d 30, d 31, d 32, d 33, d 34, d 35, d 36, d 37, d 38, d 39, d 40, d 41, d 42, d 43, d 44, d 45, d 46, d 47, d 48, d 49, d 50, d 51, d 52, d 53, d 54, d 55, d 56, d 57, d 58, d 59, d 60]
def G_r11_Best_2 (K : Kont) (s0 : Self) (v0 : Value) (v3 : Value) (v4 : Value) (v5 : Value) (d : Nat → Value) (h : Hp) : Prop := aw Try.prog O_r11_Best K_r11_Best_3 (Q_r11_Best_5 K s0) (E_r11_Best_2 v0 v3 v4 v5 d) h
noncomputable def K_r11_Best_5 : Code := (cB (cI (cI (cB (cA (cB (cB (bodyC Try.f24))))))))
def Q_r11_Best_6 (K : Kont) (s0 : Self) (s1 : Self) : Post := qSeq s1 (Q_r11_Best_5 K s0)
noncomputable def K_r11_Best_6 : Code := (cI (cI (cB (cI (cA (cB (cI (cI (cB (cA (cB (cB (bodyC Try.f24)))))))))))))
noncomputable def K_r11_Best_7 : Code := (cB (cB (cI (cI (cB (cI (cA (cB (cI (cI (cB (cA (cB (cB (bodyC Try.f24)))))))))))))))
def E_r11_Best_3 (v0 : Value) (v3 : Value) (v4 : Value) (v5 : Value) (d : Nat → Value) : List Value := [v0, d 1, d 2, v3, v4, v5, d 6, d 7, d 8, d 9, d 10, d 11, d 12, d 13, d 14, d 15, d 16, d 17, d 18, d 19, d 20, d 21, d 22, d 23, d 24, d 25, d 26, d 27, d 28, d 29, d 30, d 31, d 32, d 33, d 34, d 35, d 36, d 37, d 38, d 39, d 40, d 41, d 42, d 43, d 44, d 45, d 46, d 47, d 48, d 49, d 50, d 51, d 52, d 53, d 54, d 55, d 56, d 57, d 58, d 59, d 60]
def G_r11_Best_3 (K : Kont) (s0 : Self) (s1 : Self) (v0 : Value) (v3 : Value) (v4 : Value) (v5 : Value) (d : Nat → Value) (h : Hp) : Prop := aw Try.prog O_r11_Best K_r11_Best_7 (Q_r11_Best_6 K s0 s1) (E_r11_Best_3 v0 v3 v4 v5 d) h
noncomputable def K_r11_Best_8 : Code := (cB (cI (cI (cB (cI (cA (cB (cI (cI (cB (cA (cB (cB (bodyC Try.f24))))))))))))))
def G_r11_Best (a0 : Value) (h : Hp) (K : Kont) : Prop :=
  G_r11_Best_1 K a0 (Value.slice none 0 0) (Value.int .i64 0) (ud [(2, (Value.slice none 0 0))] dz) h
def E0_r11_Best (a0 : Value) : List Value := [a0, undef, undef, undef, undef, undef, undef, undef, undef, undef, undef, undef, undef, undef, undef, undef, undef, undef, undef, undef, undef, undef, undef, undef, undef, undef, undef, undef, undef, undef, undef, undef, undef, undef, undef, undef, undef, undef, undef, undef, undef, undef, undef, undef, undef, undef, undef, undef, undef, undef, undef, undef, undef, undef, undef, undef, undef, undef, undef, undef, undef]
def X_r11_Best (Qv : Post) (a0 : Value) (h : Hp) : Prop :=
  aw Try.prog O_r11_Best K_r11_Best_0 (qBlk 0 (qSeq (aw Try.prog O_r11_Best K_r11_Best_1 Qv) Qv)) (ul (E0_r11_Best a0) [(2, (Value.slice none 0 0)), (3, (Value.slice none 0 0)), (4, (Value.int .i64 0))]) h
theorem ga_r11_Best (Qv : Post) (a0 : Value) (h : Hp) : aw Try.prog O_r11_Best (bodyC Try.f24) Qv (E0_r11_Best a0) h = X_r11_Best Qv a0 h := by kernel_rfl
theorem gb_r11_Best (a0 : Value) (h : Hp) (K : Kont) : X_r11_Best (qTop Try.prog Try.f24 K) a0 h = G_r11_Best a0 h K := by kernel_rfl
theorem gc_r11_Best (a0 : Value) (h : Hp) (K : Kont) : abody Try.prog O_r11_Best Try.f24 (bodyC Try.f24) [a0] h K = aw Try.prog O_r11_Best (bodyC Try.f24) (qTop Try.prog Try.f24 K) (E0_r11_Best a0) h := by kernel_rfl
theorem eq_r11_Best (a0 : Value) (h : Hp) (K : Kont) : abody Try.prog O_r11_Best Try.f24 (bodyC Try.f24) [a0] h K = G_r11_Best a0 h K := (gc_r11_Best a0 h K).trans ((ga_r11_Best _ a0 h).trans (gb_r11_Best a0 h K))
theorem ok_r11_Best {a0 : Value} {h : Hp} {K : Kont} (hk : G_r11_Best a0 h K) : C_r11_Best [a0] h K := ac_of_body prog_mixed (fn := Try.f24) Try.func24 (c := bodyC Try.f24) (by kernel_rfl) ((eq_r11_Best a0 h K).mpr hk)
def B_r11_Best_1 (K : Kont) (s0 : Self) (v0 : Value) (v3 : Value) (v4 : Value) (d : Nat → Value) (h : Hp) : Prop :=
  oLen 0 v0 h fun t10 h1 =>
  oBin .lss v4 t10 h1 fun t11 h2 =>
  oIf t11
  (G_r11_Best_2 K s0 v0 v3 v4 (Value.int .i64 0) (ud [(8, v4), (9, v0), (10, t10), (11, t11)] d) h2)
  (K v3 h2)
def X_r11_Best_1 (Qv : Post) (v0 : Value) (v3 : Value) (v4 : Value) (d : Nat → Value) (h : Hp) : Prop :=
  oLen 0 v0 h fun t10 h1 =>
  oBin .lss v4 t10 h1 fun t11 h2 =>
  oIf t11
  (aw Try.prog O_r11_Best K_r11_Best_3 (qBlk 2 (qBlk 1 (qSeq (aw Try.prog O_r11_Best K_r11_Best_4 Qv) Qv))) (ul (E_r11_Best_1 v0 v3 v4 d) [(5, (Value.int .i64 0)), (8, v4), (9, v0), (10, t10), (11, t11)]) h2)
  ((qSeq (aw Try.prog O_r11_Best K_r11_Best_5 Qv) Qv) (.exit 0) (ul (E_r11_Best_1 v0 v3 v4 d) [(8, v4), (9, v0), (10, t10), (11, t11)]) h2)
theorem ga_r11_Best_1 (Qv : Post) (v0 : Value) (v3 : Value) (v4 : Value) (d : Nat → Value) (h : Hp) : aw Try.prog O_r11_Best K_r11_Best_2 Qv (E_r11_Best_1 v0 v3 v4 d) h = X_r11_Best_1 Qv v0 v3 v4 d h := by kernel_rfl
theorem gb_r11_Best_1 (K : Kont) (s0 : Self) (v0 : Value) (v3 : Value) (v4 : Value) (d : Nat → Value) (h : Hp) : X_r11_Best_1 (Q_r11_Best_2 K s0) v0 v3 v4 d h = B_r11_Best_1 K s0 v0 v3 v4 d h := by kernel_rfl
theorem beq_r11_Best_1 (K : Kont) (s0 : Self) (v0 : Value) (v3 : Value) (v4 : Value) (d : Nat → Value) (h : Hp) : aw Try.prog O_r11_Best K_r11_Best_2 (Q_r11_Best_2 K s0) (E_r11_Best_1 v0 v3 v4 d) h = B_r11_Best_1 K s0 v0 v3 v4 d h := (ga_r11_Best_1 _ v0 v3 v4 d h).trans (gb_r11_Best_1 K s0 v0 v3 v4 d h)
theorem rule_r11_Best_1 {K : Kont} {v0 : Value} (Inv : Value → Value → Hp → Prop) (μ : Value → Value → Hp → Nat)
    (step : ∀ (s0 : Self) (v3 : Value) (v4 : Value) (d : Nat → Value) (h : Hp), Inv v3 v4 h → (∀ (v3' : Value) (v4' : Value) (d' : Nat → Value) (h' : Hp), Inv v3' v4' h' → μ v3' v4' h' < μ v3 v4 h → s0 (E_r11_Best_1 v0 v3' v4' d') h') → B_r11_Best_1 K s0 v0 v3 v4 d h) (v3 : Value) (v4 : Value) (d : Nat → Value) (h : Hp) (hi : Inv v3 v4 h) : G_r11_Best_1 K v0 v3 v4 d h :=
  oLoop_rule (α := Value × Value × (Nat → Value)) (fun x => E_r11_Best_1 v0 x.1 x.2.1 x.2.2) (fun x h => Inv x.1 x.2.1 h) (fun x h => μ x.1 x.2.1 h)
    (fun self x h hx hs => (beq_r11_Best_1 K self v0 x.1 x.2.1 x.2.2 h).mpr (step self x.1 x.2.1 x.2.2 h hx (fun v3' v4' d' h' h1 h2 => hs ⟨v3', v4', d'⟩ h' h1 h2))) ⟨v3, v4, d⟩ h hi
def B_r11_Best_2 (K : Kont) (s0 : Self) (s1 : Self) (v0 : Value) (v3 : Value) (v4 : Value) (v5 : Value) (d : Nat → Value) (h : Hp) : Prop :=
  oIdxS 1 v0 v4 h fun t17 h1 =>
  oLd1 t17 h1 fun t18 h2 =>
  oLen 0 t18 h2 fun t19 h3 =>
  oBin .lss v5 t19 h3 fun t20 h4 =>
  oIf t20
  (oIdxS 1 v0 v4 h4 fun t27 h5 =>
  oLd1 t27 h5 fun t28 h6 =>
  oIdxS 6 t28 v5 h6 fun t30 h7 =>
  oFieldAddr 0 t30 h7 fun t31 h8 =>
  oLd1 t31 h8 fun t32 h9 =>
  C_r11_At [v3, t32] h9 fun t33 h10 =>
  oExtract t33 0 h10 fun t34 h11 =>
  oExtract t33 1 h11 fun t35 h12 =>
  oAlloc #[.int .i64 0, .int .u64 0, .int .i64 0, .int .i64 0, .int .u64 0, .int .i64 0] h12 fun t6 h13 =>
  oSt 6 t6 t34 h13 fun _ h14 =>
  oNot t35 h14 fun t37 h15 =>
  oGuard t37 false (fun K => K v0 h15) h15 fun t39 h16 =>
  oGuard t37 false (fun K => K v4 h16) h16 fun t40 h17 =>
  oGuard t37 false (fun K => oIdxS 1 t39 t40 h17 K) h17 fun t41 h18 =>
  oGuard t37 false (fun K => oLd1 t41 h18 K) h18 fun t42 h19 =>
  oGuard t37 false (fun K => K v5 h19) h19 fun t43 h20 =>
  oGuard t37 false (fun K => oIdxS 6 t42 t43 h20 K) h20 fun t44 h21 =>
  oGuard t37 false (fun K => oFieldAddr 1 t44 h21 K) h21 fun t45 h22 =>
  oGuard t37 false (fun K => oLd1 t45 h22 K) h22 fun t46 h23 =>
  oGuard t37 false (fun K => oFieldAddr 1 t6 h23 K) h23 fun t47 h24 =>
  oGuard t37 false (fun K => oLd1 t47 h24 K) h24 fun t48 h25 =>
  oGuard t37 false (fun K => oBin .gtr t46 t48 h25 K) h25 fun t49 h26 =>
  oPick t37 (Value.bool true) t49 h26 fun t50 h27 =>
  oIf t50
  (oIdxS 1 v0 v4 h27 fun t54 h28 =>
  oLd1 t54 h28 fun t55 h29 =>
  oIdxS 6 t55 v5 h29 fun t57 h30 =>
  oLdN 6 t57 h30 fun t58 h31 =>
  C_r11_Put [v3, t58] h31 fun t59 h32 =>
  G_r11_Best_3 K s0 s1 v0 t59 v4 v5 (ud [(6, t6), (7, t35), (14, v5), (15, v0), (16, v4), (17, t17), (18, t18), (19, t19), (20, t20), (23, t33), (24, v3), (25, v0), (26, v4), (27, t27), (28, t28), (29, v5), (30, t30), (31, t31), (32, t32), (33, t33), (34, t34), (35, t35), (36, t35), (37, t37), (38, t37), (39, t39), (40, t40), (41, t41), (42, t42), (43, t43), (44, t44), (45, t45), (46, t46), (47, t47), (48, t48), (49, t49), (50, t50), (51, v3), (52, v0), (53, v4), (54, t54), (55, t55), (56, v5), (57, t57), (58, t58), (59, t59)] d) h32)
  (G_r11_Best_3 K s0 s1 v0 v3 v4 v5 (ud [(6, t6), (7, t35), (14, v5), (15, v0), (16, v4), (17, t17), (18, t18), (19, t19), (20, t20), (23, t33), (24, v3), (25, v0), (26, v4), (27, t27), (28, t28), (29, v5), (30, t30), (31, t31), (32, t32), (33, t33), (34, t34), (35, t35), (36, t35), (37, t37), (38, t37), (39, t39), (40, t40), (41, t41), (42, t42), (43, t43), (44, t44), (45, t45), (46, t46), (47, t47), (48, t48), (49, t49), (50, t50)] d) h27))
  (oBin .add v4 (Value.int .i64 1) h4 fun t13 h33 =>
  s0 (E_r11_Best_1 v0 v3 t13 (ud [(5, v5), (12, v4), (13, t13), (14, v5), (15, v0), (16, v4), (17, t17), (18, t18), (19, t19), (20, t20)] d)) h33)
def X_r11_Best_2 (Qv : Post) (v0 : Value) (v3 : Value) (v4 : Value) (v5 : Value) (d : Nat → Value) (h : Hp) : Prop :=
  oIdxS 1 v0 v4 h fun t17 h1 =>
  oLd1 t17 h1 fun t18 h2 =>
  oLen 0 t18 h2 fun t19 h3 =>
  oBin .lss v5 t19 h3 fun t20 h4 =>
  oIf t20
  (oIdxS 1 v0 v4 h4 fun t27 h5 =>
  oLd1 t27 h5 fun t28 h6 =>
  oIdxS 6 t28 v5 h6 fun t30 h7 =>
  oFieldAddr 0 t30 h7 fun t31 h8 =>
  oLd1 t31 h8 fun t32 h9 =>
  C_r11_At [v3, t32] h9 fun t33 h10 =>
  oExtract t33 0 h10 fun t34 h11 =>
  oExtract t33 1 h11 fun t35 h12 =>
  oAlloc #[.int .i64 0, .int .u64 0, .int .i64 0, .int .i64 0, .int .u64 0, .int .i64 0] h12 fun t6 h13 =>
  oSt 6 t6 t34 h13 fun _ h14 =>
  oNot t35 h14 fun t37 h15 =>
  oGuard t37 false (fun K => K v0 h15) h15 fun t39 h16 =>
  oGuard t37 false (fun K => K v4 h16) h16 fun t40 h17 =>
  oGuard t37 false (fun K => oIdxS 1 t39 t40 h17 K) h17 fun t41 h18 =>
  oGuard t37 false (fun K => oLd1 t41 h18 K) h18 fun t42 h19 =>
  oGuard t37 false (fun K => K v5 h19) h19 fun t43 h20 =>
  oGuard t37 false (fun K => oIdxS 6 t42 t43 h20 K) h20 fun t44 h21 =>
  oGuard t37 false (fun K => oFieldAddr 1 t44 h21 K) h21 fun t45 h22 =>
  oGuard t37 false (fun K => oLd1 t45 h22 K) h22 fun t46 h23 =>
  oGuard t37 false (fun K => oFieldAddr 1 t6 h23 K) h23 fun t47 h24 =>
  oGuard t37 false (fun K => oLd1 t47 h24 K) h24 fun t48 h25 =>
  oGuard t37 false (fun K => oBin .gtr t46 t48 h25 K) h25 fun t49 h26 =>
  oPick t37 (Value.bool true) t49 h26 fun t50 h27 =>
  oIf t50
  (oIdxS 1 v0 v4 h27 fun t54 h28 =>
  oLd1 t54 h28 fun t55 h29 =>
  oIdxS 6 t55 v5 h29 fun t57 h30 =>
  oLdN 6 t57 h30 fun t58 h31 =>
  C_r11_Put [v3, t58] h31 fun t59 h32 =>
  (qBlk 3 (qSeq (aw Try.prog O_r11_Best K_r11_Best_7 Qv) Qv)) .normal (ul (E_r11_Best_2 v0 v3 v4 v5 d) [(3, t59), (6, t6), (7, t35), (14, v5), (15, v0), (16, v4), (17, t17), (18, t18), (19, t19), (20, t20), (23, t33), (24, v3), (25, v0), (26, v4), (27, t27), (28, t28), (29, v5), (30, t30), (31, t31), (32, t32), (33, t33), (34, t34), (35, t35), (36, t35), (37, t37), (38, t37), (39, t39), (40, t40), (41, t41), (42, t42), (43, t43), (44, t44), (45, t45), (46, t46), (47, t47), (48, t48), (49, t49), (50, t50), (51, v3), (52, v0), (53, v4), (54, t54), (55, t55), (56, v5), (57, t57), (58, t58), (59, t59)]) h32)
  ((qBlk 3 (qSeq (aw Try.prog O_r11_Best K_r11_Best_7 Qv) Qv)) .normal (ul (E_r11_Best_2 v0 v3 v4 v5 d) [(6, t6), (7, t35), (14, v5), (15, v0), (16, v4), (17, t17), (18, t18), (19, t19), (20, t20), (23, t33), (24, v3), (25, v0), (26, v4), (27, t27), (28, t28), (29, v5), (30, t30), (31, t31), (32, t32), (33, t33), (34, t34), (35, t35), (36, t35), (37, t37), (38, t37), (39, t39), (40, t40), (41, t41), (42, t42), (43, t43), (44, t44), (45, t45), (46, t46), (47, t47), (48, t48), (49, t49), (50, t50)]) h27))
  ((qSeq (aw Try.prog O_r11_Best K_r11_Best_8 Qv) Qv) (.exit 2) (ul (E_r11_Best_2 v0 v3 v4 v5 d) [(14, v5), (15, v0), (16, v4), (17, t17), (18, t18), (19, t19), (20, t20)]) h4)
theorem ga_r11_Best_2 (Qv : Post) (v0 : Value) (v3 : Value) (v4 : Value) (v5 : Value) (d : Nat → Value) (h : Hp) : aw Try.prog O_r11_Best K_r11_Best_6 Qv (E_r11_Best_2 v0 v3 v4 v5 d) h = X_r11_Best_2 Qv v0 v3 v4 v5 d h := by kernel_rfl
theorem gb_r11_Best_2 (K : Kont) (s0 : Self) (s1 : Self) (v0 : Value) (v3 : Value) (v4 : Value) (v5 : Value) (d : Nat → Value) (h : Hp) : X_r11_Best_2 (Q_r11_Best_6 K s0 s1) v0 v3 v4 v5 d h = B_r11_Best_2 K s0 s1 v0 v3 v4 v5 d h := by kernel_rfl
theorem beq_r11_Best_2 (K : Kont) (s0 : Self) (s1 : Self) (v0 : Value) (v3 : Value) (v4 : Value) (v5 : Value) (d : Nat → Value) (h : Hp) : aw Try.prog O_r11_Best K_r11_Best_6 (Q_r11_Best_6 K s0 s1) (E_r11_Best_2 v0 v3 v4 v5 d) h = B_r11_Best_2 K s0 s1 v0 v3 v4 v5 d h := (ga_r11_Best_2 _ v0 v3 v4 v5 d h).trans (gb_r11_Best_2 K s0 s1 v0 v3 v4 v5 d h)
theorem rule_r11_Best_2 {K : Kont} {s0 : Self} {v0 : Value} {v4 : Value} (Inv : Value → Value → Hp → Prop) (μ : Value → Value → Hp → Nat)
    (step : ∀ (s1 : Self) (v3 : Value) (v5 : Value) (d : Nat → Value) (h : Hp), Inv v3 v5 h → (∀ (v3' : Value) (v5' : Value) (d' : Nat → Value) (h' : Hp), Inv v3' v5' h' → μ v3' v5' h' < μ v3 v5 h → s1 (E_r11_Best_2 v0 v3' v4 v5' d') h') → B_r11_Best_2 K s0 s1 v0 v3 v4 v5 d h) (v3 : Value) (v5 : Value) (d : Nat → Value) (h : Hp) (hi : Inv v3 v5 h) : G_r11_Best_2 K s0 v0 v3 v4 v5 d h :=
  oLoop_rule (α := Value × Value × (Nat → Value)) (fun x => E_r11_Best_2 v0 x.1 v4 x.2.1 x.2.2) (fun x h => Inv x.1 x.2.1 h) (fun x h => μ x.1 x.2.1 h)
    (fun self x h hx hs => (beq_r11_Best_2 K s0 self v0 x.1 v4 x.2.1 x.2.2 h).mpr (step self x.1 x.2.1 x.2.2 h hx (fun v3' v5' d' h' h1 h2 => hs ⟨v3', v5', d'⟩ h' h1 h2))) ⟨v3, v5, d⟩ h hi
def R_r11_Best_3 (K : Kont) (s0 : Self) (s1 : Self) (v0 : Value) (v3 : Value) (v4 : Value) (v5 : Value) (d : Nat → Value) (h : Hp) : Prop :=
  oBin .add v5 (Value.int .i64 1) h fun t22 h1 =>
  s1 (E_r11_Best_2 v0 v3 v4 t22 (ud [(21, v5), (22, t22)] d)) h1
def X_r11_Best_3 (Qv : Post) (v0 : Value) (v3 : Value) (v4 : Value) (v5 : Value) (d : Nat → Value) (h : Hp) : Prop :=
  oBin .add v5 (Value.int .i64 1) h fun t22 h1 =>
  Qv .normal (ul (E_r11_Best_3 v0 v3 v4 v5 d) [(5, t22), (21, v5), (22, t22)]) h1
theorem ga_r11_Best_3 (Qv : Post) (v0 : Value) (v3 : Value) (v4 : Value) (v5 : Value) (d : Nat → Value) (h : Hp) : aw Try.prog O_r11_Best K_r11_Best_7 Qv (E_r11_Best_3 v0 v3 v4 v5 d) h = X_r11_Best_3 Qv v0 v3 v4 v5 d h := by kernel_rfl
theorem gb_r11_Best_3 (K : Kont) (s0 : Self) (s1 : Self) (v0 : Value) (v3 : Value) (v4 : Value) (v5 : Value) (d : Nat → Value) (h : Hp) : X_r11_Best_3 (Q_r11_Best_6 K s0 s1) v0 v3 v4 v5 d h = R_r11_Best_3 K s0 s1 v0 v3 v4 v5 d h := by kernel_rfl
theorem req_r11_Best_3 (K : Kont) (s0 : Self) (s1 : Self) (v0 : Value) (v3 : Value) (v4 : Value) (v5 : Value) (d : Nat → Value) (h : Hp) : G_r11_Best_3 K s0 s1 v0 v3 v4 v5 d h = R_r11_Best_3 K s0 s1 v0 v3 v4 v5 d h := (ga_r11_Best_3 _ v0 v3 v4 v5 d h).trans (gb_r11_Best_3 K s0 s1 v0 v3 v4 v5 d h)

/-! ### catenary/catenaryref13.Right: function 25 -/
def O_r13_Right : Od := []
def G_r13_Right (a0 a1 : Value) (h : Hp) (K : Kont) : Prop :=
  oBin .geq a1 (Value.int .i64 1) h fun t6 h1 =>
  oGuard t6 true (fun K => K a1 h1) h1 fun t8 h2 =>
  oGuard t6 true (fun K => oBin .leq t8 (Value.int .i64 5) h2 K) h2 fun t9 h3 =>
  oPick t6 t9 (Value.bool false) h3 fun t10 h4 =>
  oGuard t10 true (fun K => K a0 h4) h4 fun t12 h5 =>
  oGuard t10 true (fun K => oBin .geq t12 (Value.int .i64 1) h5 K) h5 fun t13 h6 =>
  oPick t10 t13 (Value.bool false) h6 fun t14 h7 =>
  oGuard t14 true (fun K => K a0 h7) h7 fun t16 h8 =>
  oGuard t14 true (fun K => K a1 h8) h8 fun t17 h9 =>
  oGuard t14 true (fun K => oBin .leq t16 t17 h9 K) h9 fun t18 h10 =>
  oPick t14 t18 (Value.bool false) h10 fun t19 h11 =>
  K t19 h11
def E0_r13_Right (a0 a1 : Value) : List Value := [a0, a1, undef, undef, undef, undef, undef, undef, undef, undef, undef, undef, undef, undef, undef, undef, undef, undef, undef, undef]
def X_r13_Right (Qv : Post) (a0 a1 : Value) (h : Hp) : Prop :=
  oBin .geq a1 (Value.int .i64 1) h fun t6 h1 =>
  oGuard t6 true (fun K => K a1 h1) h1 fun t8 h2 =>
  oGuard t6 true (fun K => oBin .leq t8 (Value.int .i64 5) h2 K) h2 fun t9 h3 =>
  oPick t6 t9 (Value.bool false) h3 fun t10 h4 =>
  oGuard t10 true (fun K => K a0 h4) h4 fun t12 h5 =>
  oGuard t10 true (fun K => oBin .geq t12 (Value.int .i64 1) h5 K) h5 fun t13 h6 =>
  oPick t10 t13 (Value.bool false) h6 fun t14 h7 =>
  oGuard t14 true (fun K => K a0 h7) h7 fun t16 h8 =>
  oGuard t14 true (fun K => K a1 h8) h8 fun t17 h9 =>
  oGuard t14 true (fun K => oBin .leq t16 t17 h9 K) h9 fun t18 h10 =>
  oPick t14 t18 (Value.bool false) h10 fun t19 h11 =>
  Qv .ret (ul (E0_r13_Right a0 a1) [(4, t19), (5, a1), (6, t6), (7, t6), (8, t8), (9, t9), (10, t10), (11, t10), (12, t12), (13, t13), (14, t14), (15, t14), (16, t16), (17, t17), (18, t18), (19, t19)]) h11
theorem ga_r13_Right (Qv : Post) (a0 a1 : Value) (h : Hp) : aw Try.prog O_r13_Right (bodyC Try.f25) Qv (E0_r13_Right a0 a1) h = X_r13_Right Qv a0 a1 h := by kernel_rfl
theorem gb_r13_Right (a0 a1 : Value) (h : Hp) (K : Kont) : X_r13_Right (qTop Try.prog Try.f25 K) a0 a1 h = G_r13_Right a0 a1 h K := by kernel_rfl
theorem gc_r13_Right (a0 a1 : Value) (h : Hp) (K : Kont) : abody Try.prog O_r13_Right Try.f25 (bodyC Try.f25) [a0, a1] h K = aw Try.prog O_r13_Right (bodyC Try.f25) (qTop Try.prog Try.f25 K) (E0_r13_Right a0 a1) h := by kernel_rfl
theorem eq_r13_Right (a0 a1 : Value) (h : Hp) (K : Kont) : abody Try.prog O_r13_Right Try.f25 (bodyC Try.f25) [a0, a1] h K = G_r13_Right a0 a1 h K := (gc_r13_Right a0 a1 h K).trans ((ga_r13_Right _ a0 a1 h).trans (gb_r13_Right a0 a1 h K))
theorem ok_r13_Right {a0 a1 : Value} {h : Hp} {K : Kont} (hk : G_r13_Right a0 a1 h K) : C_r13_Right [a0, a1] h K := ac_of_body prog_mixed (fn := Try.f25) Try.func25 (c := bodyC Try.f25) (by kernel_rfl) ((eq_r13_Right a0 a1 h K).mpr hk)

/-! ### catenary/catenarylaw13.awake: function 26 -/
def O_l13_awake : Od := []
def G_l13_awake (h : Hp) (K : Kont) : Prop :=
  C_lead_New [(Value.int .i64 2), (Value.int .i64 3)] h fun t10 h1 =>
  oExtract t10 0 h1 fun t11 h2 =>
  oExtract t10 1 h2 fun t12 h3 =>
  C_lead_Lead_Start [t11, (Value.int .u64 0), (Value.int .i64 0)] h3 fun t15 h4 =>
  oExtract t15 0 h4 fun t16 h5 =>
  oExtract t15 1 h5 fun t17 h6 =>
  C_lead_Lead_Promise [t11, t16, (Value.int .i64 2), (Value.slice none 0 0)] h6 fun t21 h7 =>
  oExtract t21 0 h7 fun t22 h8 =>
  oExtract t21 1 h8 fun t23 h9 =>
  C_lead_Lead_Promise [t11, t16, (Value.int .i64 3), (Value.slice none 0 0)] h9 fun t27 h10 =>
  oExtract t27 0 h10 fun t28 h11 =>
  oExtract t27 1 h11 fun t29 h12 =>
  oBin .eql t12 (Value.int .i64 0) h12 fun t31 h13 =>
  oGuard t31 true (fun K => K t17 h13) h13 fun t33 h14 =>
  oGuard t31 true (fun K => oBin .eql t33 (Value.int .i64 0) h14 K) h14 fun t34 h15 =>
  oPick t31 t34 (Value.bool false) h15 fun t35 h16 =>
  oGuard t35 true (fun K => K t16 h16) h16 fun t37 h17 =>
  oGuard t35 true (fun K => oBin .eql t37 (Value.int .u64 10) h17 K) h17 fun t38 h18 =>
  oPick t35 t38 (Value.bool false) h18 fun t39 h19 =>
  oGuard t39 true (fun K => K t23 h19) h19 fun t41 h20 =>
  oGuard t39 true (fun K => oNot t41 h20 K) h20 fun t42 h21 =>
  oPick t39 t42 (Value.bool false) h21 fun t43 h22 =>
  oGuard t43 true (fun K => K t29 h22) h22 fun t45 h23 =>
  oPick t43 t45 (Value.bool false) h23 fun t46 h24 =>
  oGuard t46 true (fun K => K t11 h24) h24 fun t48 h25 =>
  oGuard t46 true (fun K => C_lead_Lead_State [t48] h25 K) h25 fun t49 h26 =>
  oGuard t46 true (fun K => oBin .eql t49 (Value.int .i64 2) h26 K) h26 fun t50 h27 =>
  oPick t46 t50 (Value.bool false) h27 fun t51 h28 =>
  K t51 h28
def E0_l13_awake : List Value := [undef, undef, undef, undef, undef, undef, undef, undef, undef, undef, undef, undef, undef, undef, undef, undef, undef, undef, undef, undef, undef, undef, undef, undef, undef, undef, undef, undef, undef, undef, undef, undef, undef, undef, undef, undef, undef, undef, undef, undef, undef, undef, undef, undef, undef, undef, undef, undef, undef, undef, undef, undef]
def X_l13_awake (Qv : Post) (h : Hp) : Prop :=
  C_lead_New [(Value.int .i64 2), (Value.int .i64 3)] h fun t10 h1 =>
  oExtract t10 0 h1 fun t11 h2 =>
  oExtract t10 1 h2 fun t12 h3 =>
  C_lead_Lead_Start [t11, (Value.int .u64 0), (Value.int .i64 0)] h3 fun t15 h4 =>
  oExtract t15 0 h4 fun t16 h5 =>
  oExtract t15 1 h5 fun t17 h6 =>
  C_lead_Lead_Promise [t11, t16, (Value.int .i64 2), (Value.slice none 0 0)] h6 fun t21 h7 =>
  oExtract t21 0 h7 fun t22 h8 =>
  oExtract t21 1 h8 fun t23 h9 =>
  C_lead_Lead_Promise [t11, t16, (Value.int .i64 3), (Value.slice none 0 0)] h9 fun t27 h10 =>
  oExtract t27 0 h10 fun t28 h11 =>
  oExtract t27 1 h11 fun t29 h12 =>
  oBin .eql t12 (Value.int .i64 0) h12 fun t31 h13 =>
  oGuard t31 true (fun K => K t17 h13) h13 fun t33 h14 =>
  oGuard t31 true (fun K => oBin .eql t33 (Value.int .i64 0) h14 K) h14 fun t34 h15 =>
  oPick t31 t34 (Value.bool false) h15 fun t35 h16 =>
  oGuard t35 true (fun K => K t16 h16) h16 fun t37 h17 =>
  oGuard t35 true (fun K => oBin .eql t37 (Value.int .u64 10) h17 K) h17 fun t38 h18 =>
  oPick t35 t38 (Value.bool false) h18 fun t39 h19 =>
  oGuard t39 true (fun K => K t23 h19) h19 fun t41 h20 =>
  oGuard t39 true (fun K => oNot t41 h20 K) h20 fun t42 h21 =>
  oPick t39 t42 (Value.bool false) h21 fun t43 h22 =>
  oGuard t43 true (fun K => K t29 h22) h22 fun t45 h23 =>
  oPick t43 t45 (Value.bool false) h23 fun t46 h24 =>
  oGuard t46 true (fun K => K t11 h24) h24 fun t48 h25 =>
  oGuard t46 true (fun K => C_lead_Lead_State [t48] h25 K) h25 fun t49 h26 =>
  oGuard t46 true (fun K => oBin .eql t49 (Value.int .i64 2) h26 K) h26 fun t50 h27 =>
  oPick t46 t50 (Value.bool false) h27 fun t51 h28 =>
  Qv .ret (ul (E0_l13_awake) [(0, t51), (1, t11), (2, t12), (3, t16), (4, t17), (5, t22), (6, t23), (7, t28), (8, t29), (9, t10), (10, t10), (11, t11), (12, t12), (13, t15), (14, t11), (15, t15), (16, t16), (17, t17), (18, t21), (19, t11), (20, t16), (21, t21), (22, t22), (23, t23), (24, t27), (25, t11), (26, t16), (27, t27), (28, t28), (29, t29), (30, t12), (31, t31), (32, t31), (33, t33), (34, t34), (35, t35), (36, t35), (37, t37), (38, t38), (39, t39), (40, t39), (41, t41), (42, t42), (43, t43), (44, t43), (45, t45), (46, t46), (47, t46), (48, t48), (49, t49), (50, t50), (51, t51)]) h28
theorem ga_l13_awake (Qv : Post) (h : Hp) : aw Try.prog O_l13_awake (bodyC Try.f26) Qv (E0_l13_awake) h = X_l13_awake Qv  h := by kernel_rfl
theorem gb_l13_awake (h : Hp) (K : Kont) : X_l13_awake (qTop Try.prog Try.f26 K)  h = G_l13_awake  h K := by kernel_rfl
theorem gc_l13_awake (h : Hp) (K : Kont) : abody Try.prog O_l13_awake Try.f26 (bodyC Try.f26) [] h K = aw Try.prog O_l13_awake (bodyC Try.f26) (qTop Try.prog Try.f26 K) (E0_l13_awake) h := by kernel_rfl
theorem eq_l13_awake (h : Hp) (K : Kont) : abody Try.prog O_l13_awake Try.f26 (bodyC Try.f26) [] h K = G_l13_awake  h K := (gc_l13_awake  h K).trans ((ga_l13_awake _  h).trans (gb_l13_awake  h K))
theorem ok_l13_awake {h : Hp} {K : Kont} (hk : G_l13_awake  h K) : C_l13_awake [] h K := ac_of_body prog_mixed (fn := Try.f26) Try.func26 (c := bodyC Try.f26) (by kernel_rfl) ((eq_l13_awake  h K).mpr hk)

/-! ### catenary/lead.New: function 27 -/
def O_lead_New : Od := []
noncomputable def K_lead_New_0 : Code := (cB (cB (bodyC Try.f27)))
def G_lead_New (a0 a1 : Value) (h : Hp) (K : Kont) : Prop :=
  oBin .lss a1 (Value.int .i64 1) h fun t7 h1 =>
  oGuard t7 false (fun K => K a1 h1) h1 fun t9 h2 =>
  oGuard t7 false (fun K => oBin .gtr t9 (Value.int .i64 5) h2 K) h2 fun t10 h3 =>
  oPick t7 (Value.bool true) t10 h3 fun t11 h4 =>
  oGuard t11 false (fun K => K a0 h4) h4 fun t13 h5 =>
  oGuard t11 false (fun K => oBin .lss t13 (Value.int .i64 1) h5 K) h5 fun t14 h6 =>
  oPick t11 (Value.bool true) t14 h6 fun t15 h7 =>
  oGuard t15 false (fun K => K a0 h7) h7 fun t17 h8 =>
  oGuard t15 false (fun K => K a1 h8) h8 fun t18 h9 =>
  oGuard t15 false (fun K => oBin .gtr t17 t18 h9 K) h9 fun t19 h10 =>
  oPick t15 (Value.bool true) t19 h10 fun t20 h11 =>
  oIf t20
  (K (.tuple #[(Value.pointer none), (Value.int .i64 1)]) h11)
  (oBuild #[.int .i64 0, .int .i64 0, .int .i64 0, .int .u64 0, .int .i64 0, .int .i64 0, .map none, .map none] [(0, 1, a0), (1, 1, a1)] h11 fun t23 h12 =>
  oBox t23 h12 fun t24 h13 =>
  K (.tuple #[t24, (Value.int .i64 0)]) h13)
def E0_lead_New (a0 a1 : Value) : List Value := [a0, a1, undef, undef, undef, undef, undef, undef, undef, undef, undef, undef, undef, undef, undef, undef, undef, undef, undef, undef, undef, undef, undef, undef, undef]
def X_lead_New (Qv : Post) (a0 a1 : Value) (h : Hp) : Prop :=
  oBin .lss a1 (Value.int .i64 1) h fun t7 h1 =>
  oGuard t7 false (fun K => K a1 h1) h1 fun t9 h2 =>
  oGuard t7 false (fun K => oBin .gtr t9 (Value.int .i64 5) h2 K) h2 fun t10 h3 =>
  oPick t7 (Value.bool true) t10 h3 fun t11 h4 =>
  oGuard t11 false (fun K => K a0 h4) h4 fun t13 h5 =>
  oGuard t11 false (fun K => oBin .lss t13 (Value.int .i64 1) h5 K) h5 fun t14 h6 =>
  oPick t11 (Value.bool true) t14 h6 fun t15 h7 =>
  oGuard t15 false (fun K => K a0 h7) h7 fun t17 h8 =>
  oGuard t15 false (fun K => K a1 h8) h8 fun t18 h9 =>
  oGuard t15 false (fun K => oBin .gtr t17 t18 h9 K) h9 fun t19 h10 =>
  oPick t15 (Value.bool true) t19 h10 fun t20 h11 =>
  oIf t20
  ((qSeq (aw Try.prog O_lead_New K_lead_New_0 Qv) Qv) .ret (ul (E0_lead_New a0 a1) [(4, (Value.pointer none)), (5, (Value.int .i64 1)), (6, a1), (7, t7), (8, t7), (9, t9), (10, t10), (11, t11), (12, t11), (13, t13), (14, t14), (15, t15), (16, t15), (17, t17), (18, t18), (19, t19), (20, t20)]) h11)
  (oBuild #[.int .i64 0, .int .i64 0, .int .i64 0, .int .u64 0, .int .i64 0, .int .i64 0, .map none, .map none] [(0, 1, a0), (1, 1, a1)] h11 fun t23 h12 =>
  oBox t23 h12 fun t24 h13 =>
  Qv .ret (ul (E0_lead_New a0 a1) [(4, t24), (5, (Value.int .i64 0)), (6, a1), (7, t7), (8, t7), (9, t9), (10, t10), (11, t11), (12, t11), (13, t13), (14, t14), (15, t15), (16, t15), (17, t17), (18, t18), (19, t19), (20, t20), (21, a0), (22, a1), (23, t23), (24, t24)]) h13)
theorem ga_lead_New (Qv : Post) (a0 a1 : Value) (h : Hp) : aw Try.prog O_lead_New (bodyC Try.f27) Qv (E0_lead_New a0 a1) h = X_lead_New Qv a0 a1 h := by kernel_rfl
theorem gb_lead_New (a0 a1 : Value) (h : Hp) (K : Kont) : X_lead_New (qTop Try.prog Try.f27 K) a0 a1 h = G_lead_New a0 a1 h K := by kernel_rfl
theorem gc_lead_New (a0 a1 : Value) (h : Hp) (K : Kont) : abody Try.prog O_lead_New Try.f27 (bodyC Try.f27) [a0, a1] h K = aw Try.prog O_lead_New (bodyC Try.f27) (qTop Try.prog Try.f27 K) (E0_lead_New a0 a1) h := by kernel_rfl
theorem eq_lead_New (a0 a1 : Value) (h : Hp) (K : Kont) : abody Try.prog O_lead_New Try.f27 (bodyC Try.f27) [a0, a1] h K = G_lead_New a0 a1 h K := (gc_lead_New a0 a1 h K).trans ((ga_lead_New _ a0 a1 h).trans (gb_lead_New a0 a1 h K))
theorem ok_lead_New {a0 a1 : Value} {h : Hp} {K : Kont} (hk : G_lead_New a0 a1 h K) : C_lead_New [a0, a1] h K := ac_of_body prog_mixed (fn := Try.f27) Try.func27 (c := bodyC Try.f27) (by kernel_rfl) ((eq_lead_New a0 a1 h K).mpr hk)

end Go.Proofs.Ytdolepapmpcpiaa

