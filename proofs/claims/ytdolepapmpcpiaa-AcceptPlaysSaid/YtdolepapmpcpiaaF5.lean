/- What functions of the program ask of the seen heap (written by a program of this proof, vgen.py). -/
import Derived.Test.YtdolepapmpcpiaaFC
import Derived.Test.YtdolepapmpcpiaaProg
namespace Go.Proofs.Ytdolepapmpcpiaa
open Go
set_option linter.unusedSectionVars false
variable [Base]
set_option linter.unusedVariables false
set_option maxRecDepth 100000

/-! ### catenary/catenaryref11.Accept: function 43 -/
def O_catenaryref11_Accept : Od := []
noncomputable def K_catenaryref11_Accept_0 : Code := (cB (cB (bodyC Try.f43)))
noncomputable def K_catenaryref11_Accept_1 : Code := (cB (cB (cB (bodyC Try.f43))))
noncomputable def K_catenaryref11_Accept_2 : Code := (cB (cB (cB (cB (bodyC Try.f43)))))
def G_catenaryref11_Accept (a0 a1 a2 a3 : Value) (h : Hp) (K : Kont) : Prop :=
  oBox a0 h fun t4 h1 =>
  oBox a3 h1 fun t7 h2 =>
  oAlloc #[.int .u64 0, .slice none 0 0] h2 fun t8 h3 =>
  C_catenaryref07_Is [a1] h3 fun t12 h4 =>
  oNot t12 h4 fun t13 h5 =>
  oGuard t13 false (fun K => K a2 h5) h5 fun t15 h6 =>
  oGuard t13 false (fun K => oBin .lss t15 (Go.Value.int Go.IntKind.i64 0) h6 K) h6 fun t16 h7 =>
  oPick t13 (Go.Value.bool true) t16 h7 fun t17 h8 =>
  oGuard t17 false (fun K => K a2 h8) h8 fun t19 h9 =>
  oGuard t17 false (fun K => oBin .gtr t19 (Go.Value.int Go.IntKind.i64 511) h9 K) h9 fun t20 h10 =>
  oPick t17 (Go.Value.bool true) t20 h10 fun t21 h11 =>
  oIf t21
  (oLdN 2 t4 h11 fun t22 h12 =>
  oSt 2 t8 t22 h12 fun _ h13 =>
  oLdN 2 t8 h13 fun r1 _ =>
  K (.tuple #[r1, (Go.Value.int Go.IntKind.i64 1)]) h13)
  (oLdN 4 t7 h11 fun t23 h14 =>
  C_catenaryref08_Check [t23] h14 fun t24 h15 =>
  oBin .neq t24 (Go.Value.int Go.IntKind.i64 0) h15 fun t26 h16 =>
  oIf t26
  (oLdN 2 t4 h16 fun t27 h17 =>
  oSt 2 t8 t27 h17 fun _ h18 =>
  oLdN 2 t8 h18 fun r2 _ =>
  K (.tuple #[r2, t24]) h18)
  (oFieldAddr 0 t4 h16 fun t30 h19 =>
  oLd1 t30 h19 fun t31 h20 =>
  oBin .lss a1 t31 h20 fun t32 h21 =>
  oIf t32
  (oLdN 2 t4 h21 fun t33 h22 =>
  oSt 2 t8 t33 h22 fun _ h23 =>
  oLdN 2 t8 h23 fun r3 _ =>
  K (.tuple #[r3, (Go.Value.int Go.IntKind.i64 10)]) h23)
  (oFieldAddr 0 t4 h21 fun t35 h24 =>
  oSt 1 t35 a1 h24 fun _ h25 =>
  oFieldAddr 1 t4 h25 fun t36 h26 =>
  oLd1 t36 h26 fun t37 h27 =>
  oLdN 4 t7 h27 fun t40 h28 =>
  oBuild #[.int .i64 0, .int .u64 0, .int .i64 0, .int .i64 0, .int .u64 0, .int .i64 0] [(0, 1, a2), (1, 1, a1), (2, 4, t40)] h28 fun t41 h29 =>
  C_catenaryref11_Put [t37, t41] h29 fun t42 h30 =>
  oFieldAddr 1 t4 h30 fun t43 h31 =>
  oSt 1 t43 t42 h31 fun _ h32 =>
  oLdN 2 t4 h32 fun t44 h33 =>
  oSt 2 t8 t44 h33 fun _ h34 =>
  oLdN 2 t8 h34 fun r4 _ =>
  K (.tuple #[r4, (Go.Value.int Go.IntKind.i64 0)]) h34)))
theorem ga_catenaryref11_Accept (Qv : Post) (a0 a1 a2 a3 : Value) (h : Hp) : aw Try.prog O_catenaryref11_Accept (bodyC Try.f43) Qv [a0, a1, a2, a3, undef, undef, undef, undef, undef, undef, undef, undef, undef, undef, undef, undef, undef, undef, undef, undef, undef, undef, undef, undef, undef, undef, undef, undef, undef, undef, undef, undef, undef, undef, undef, undef, undef, undef, undef, undef, undef, undef, undef, undef, undef] h = (oBox a0 h fun t4 h1 =>
  oBox a3 h1 fun t7 h2 =>
  oAlloc #[.int .u64 0, .slice none 0 0] h2 fun t8 h3 =>
  C_catenaryref07_Is [a1] h3 fun t12 h4 =>
  oNot t12 h4 fun t13 h5 =>
  oGuard t13 false (fun K => K a2 h5) h5 fun t15 h6 =>
  oGuard t13 false (fun K => oBin .lss t15 (Go.Value.int Go.IntKind.i64 0) h6 K) h6 fun t16 h7 =>
  oPick t13 (Go.Value.bool true) t16 h7 fun t17 h8 =>
  oGuard t17 false (fun K => K a2 h8) h8 fun t19 h9 =>
  oGuard t17 false (fun K => oBin .gtr t19 (Go.Value.int Go.IntKind.i64 511) h9 K) h9 fun t20 h10 =>
  oPick t17 (Go.Value.bool true) t20 h10 fun t21 h11 =>
  oIf t21
  (oLdN 2 t4 h11 fun t22 h12 =>
  oSt 2 t8 t22 h12 fun _ h13 =>
  (qSeq (aw Try.prog O_catenaryref11_Accept K_catenaryref11_Accept_0 Qv) Qv) .ret [a0, a1, a2, a3, t4, undef, undef, t7, t8, (Go.Value.int Go.IntKind.i64 1), undef, a1, t12, t13, t13, t15, t16, t17, t17, t19, t20, t21, t22, undef, undef, undef, undef, undef, undef, undef, undef, undef, undef, undef, undef, undef, undef, undef, undef, undef, undef, undef, undef, undef, undef] h13)
  (oLdN 4 t7 h11 fun t23 h14 =>
  C_catenaryref08_Check [t23] h14 fun t24 h15 =>
  oBin .neq t24 (Go.Value.int Go.IntKind.i64 0) h15 fun t26 h16 =>
  oIf t26
  (oLdN 2 t4 h16 fun t27 h17 =>
  oSt 2 t8 t27 h17 fun _ h18 =>
  (qSeq (aw Try.prog O_catenaryref11_Accept K_catenaryref11_Accept_1 Qv) Qv) .ret [a0, a1, a2, a3, t4, undef, undef, t7, t8, t24, t24, a1, t12, t13, t13, t15, t16, t17, t17, t19, t20, t21, undef, t23, t24, t24, t26, t27, t24, undef, undef, undef, undef, undef, undef, undef, undef, undef, undef, undef, undef, undef, undef, undef, undef] h18)
  (oFieldAddr 0 t4 h16 fun t30 h19 =>
  oLd1 t30 h19 fun t31 h20 =>
  oBin .lss a1 t31 h20 fun t32 h21 =>
  oIf t32
  (oLdN 2 t4 h21 fun t33 h22 =>
  oSt 2 t8 t33 h22 fun _ h23 =>
  (qSeq (aw Try.prog O_catenaryref11_Accept K_catenaryref11_Accept_2 Qv) Qv) .ret [a0, a1, a2, a3, t4, undef, undef, t7, t8, (Go.Value.int Go.IntKind.i64 10), t24, a1, t12, t13, t13, t15, t16, t17, t17, t19, t20, t21, undef, t23, t24, t24, t26, undef, undef, a1, t30, t31, t32, t33, undef, undef, undef, undef, undef, undef, undef, undef, undef, undef, undef] h23)
  (oFieldAddr 0 t4 h21 fun t35 h24 =>
  oSt 1 t35 a1 h24 fun _ h25 =>
  oFieldAddr 1 t4 h25 fun t36 h26 =>
  oLd1 t36 h26 fun t37 h27 =>
  oLdN 4 t7 h27 fun t40 h28 =>
  oBuild #[.int .i64 0, .int .u64 0, .int .i64 0, .int .i64 0, .int .u64 0, .int .i64 0] [(0, 1, a2), (1, 1, a1), (2, 4, t40)] h28 fun t41 h29 =>
  C_catenaryref11_Put [t37, t41] h29 fun t42 h30 =>
  oFieldAddr 1 t4 h30 fun t43 h31 =>
  oSt 1 t43 t42 h31 fun _ h32 =>
  oLdN 2 t4 h32 fun t44 h33 =>
  oSt 2 t8 t44 h33 fun _ h34 =>
  Qv .ret [a0, a1, a2, a3, t4, undef, undef, t7, t8, (Go.Value.int Go.IntKind.i64 0), t24, a1, t12, t13, t13, t15, t16, t17, t17, t19, t20, t21, undef, t23, t24, t24, t26, undef, undef, a1, t30, t31, t32, undef, a1, t35, t36, t37, a2, a1, t40, t41, t42, t43, t44] h34)))) := by kernel_rfl
theorem gb_catenaryref11_Accept (a0 a1 a2 a3 : Value) (h : Hp) (K : Kont) : (oBox a0 h fun t4 h1 =>
  oBox a3 h1 fun t7 h2 =>
  oAlloc #[.int .u64 0, .slice none 0 0] h2 fun t8 h3 =>
  C_catenaryref07_Is [a1] h3 fun t12 h4 =>
  oNot t12 h4 fun t13 h5 =>
  oGuard t13 false (fun K => K a2 h5) h5 fun t15 h6 =>
  oGuard t13 false (fun K => oBin .lss t15 (Go.Value.int Go.IntKind.i64 0) h6 K) h6 fun t16 h7 =>
  oPick t13 (Go.Value.bool true) t16 h7 fun t17 h8 =>
  oGuard t17 false (fun K => K a2 h8) h8 fun t19 h9 =>
  oGuard t17 false (fun K => oBin .gtr t19 (Go.Value.int Go.IntKind.i64 511) h9 K) h9 fun t20 h10 =>
  oPick t17 (Go.Value.bool true) t20 h10 fun t21 h11 =>
  oIf t21
  (oLdN 2 t4 h11 fun t22 h12 =>
  oSt 2 t8 t22 h12 fun _ h13 =>
  (qSeq (aw Try.prog O_catenaryref11_Accept K_catenaryref11_Accept_0 (qTop Try.prog Try.f43 K)) (qTop Try.prog Try.f43 K)) .ret [a0, a1, a2, a3, t4, undef, undef, t7, t8, (Go.Value.int Go.IntKind.i64 1), undef, a1, t12, t13, t13, t15, t16, t17, t17, t19, t20, t21, t22, undef, undef, undef, undef, undef, undef, undef, undef, undef, undef, undef, undef, undef, undef, undef, undef, undef, undef, undef, undef, undef, undef] h13)
  (oLdN 4 t7 h11 fun t23 h14 =>
  C_catenaryref08_Check [t23] h14 fun t24 h15 =>
  oBin .neq t24 (Go.Value.int Go.IntKind.i64 0) h15 fun t26 h16 =>
  oIf t26
  (oLdN 2 t4 h16 fun t27 h17 =>
  oSt 2 t8 t27 h17 fun _ h18 =>
  (qSeq (aw Try.prog O_catenaryref11_Accept K_catenaryref11_Accept_1 (qTop Try.prog Try.f43 K)) (qTop Try.prog Try.f43 K)) .ret [a0, a1, a2, a3, t4, undef, undef, t7, t8, t24, t24, a1, t12, t13, t13, t15, t16, t17, t17, t19, t20, t21, undef, t23, t24, t24, t26, t27, t24, undef, undef, undef, undef, undef, undef, undef, undef, undef, undef, undef, undef, undef, undef, undef, undef] h18)
  (oFieldAddr 0 t4 h16 fun t30 h19 =>
  oLd1 t30 h19 fun t31 h20 =>
  oBin .lss a1 t31 h20 fun t32 h21 =>
  oIf t32
  (oLdN 2 t4 h21 fun t33 h22 =>
  oSt 2 t8 t33 h22 fun _ h23 =>
  (qSeq (aw Try.prog O_catenaryref11_Accept K_catenaryref11_Accept_2 (qTop Try.prog Try.f43 K)) (qTop Try.prog Try.f43 K)) .ret [a0, a1, a2, a3, t4, undef, undef, t7, t8, (Go.Value.int Go.IntKind.i64 10), t24, a1, t12, t13, t13, t15, t16, t17, t17, t19, t20, t21, undef, t23, t24, t24, t26, undef, undef, a1, t30, t31, t32, t33, undef, undef, undef, undef, undef, undef, undef, undef, undef, undef, undef] h23)
  (oFieldAddr 0 t4 h21 fun t35 h24 =>
  oSt 1 t35 a1 h24 fun _ h25 =>
  oFieldAddr 1 t4 h25 fun t36 h26 =>
  oLd1 t36 h26 fun t37 h27 =>
  oLdN 4 t7 h27 fun t40 h28 =>
  oBuild #[.int .i64 0, .int .u64 0, .int .i64 0, .int .i64 0, .int .u64 0, .int .i64 0] [(0, 1, a2), (1, 1, a1), (2, 4, t40)] h28 fun t41 h29 =>
  C_catenaryref11_Put [t37, t41] h29 fun t42 h30 =>
  oFieldAddr 1 t4 h30 fun t43 h31 =>
  oSt 1 t43 t42 h31 fun _ h32 =>
  oLdN 2 t4 h32 fun t44 h33 =>
  oSt 2 t8 t44 h33 fun _ h34 =>
  (qTop Try.prog Try.f43 K) .ret [a0, a1, a2, a3, t4, undef, undef, t7, t8, (Go.Value.int Go.IntKind.i64 0), t24, a1, t12, t13, t13, t15, t16, t17, t17, t19, t20, t21, undef, t23, t24, t24, t26, undef, undef, a1, t30, t31, t32, undef, a1, t35, t36, t37, a2, a1, t40, t41, t42, t43, t44] h34)))) = G_catenaryref11_Accept a0 a1 a2 a3 h K := by kernel_rfl
theorem gc_catenaryref11_Accept (a0 a1 a2 a3 : Value) (h : Hp) (K : Kont) : abody Try.prog O_catenaryref11_Accept Try.f43 (bodyC Try.f43) [a0, a1, a2, a3] h K = aw Try.prog O_catenaryref11_Accept (bodyC Try.f43) (qTop Try.prog Try.f43 K) [a0, a1, a2, a3, undef, undef, undef, undef, undef, undef, undef, undef, undef, undef, undef, undef, undef, undef, undef, undef, undef, undef, undef, undef, undef, undef, undef, undef, undef, undef, undef, undef, undef, undef, undef, undef, undef, undef, undef, undef, undef, undef, undef, undef, undef] h := by kernel_rfl
theorem eq_catenaryref11_Accept (a0 a1 a2 a3 : Value) (h : Hp) (K : Kont) : abody Try.prog O_catenaryref11_Accept Try.f43 (bodyC Try.f43) [a0, a1, a2, a3] h K = G_catenaryref11_Accept a0 a1 a2 a3 h K := (gc_catenaryref11_Accept a0 a1 a2 a3 h K).trans ((ga_catenaryref11_Accept _ a0 a1 a2 a3 h).trans (gb_catenaryref11_Accept a0 a1 a2 a3 h K))
theorem ok_catenaryref11_Accept {a0 a1 a2 a3 : Value} {h : Hp} {K : Kont} (hk : G_catenaryref11_Accept a0 a1 a2 a3 h K) : C_catenaryref11_Accept [a0, a1, a2, a3] h K := ac_of_body prog_mixed (fn := Try.f43) Try.func43 (c := bodyC Try.f43) (by kernel_rfl) ((eq_catenaryref11_Accept a0 a1 a2 a3 h K).mpr hk)

/-! ### catenary/accept.rising: function 44 -/
def O_accept_rising : Od := []
noncomputable def K_accept_rising_0 : Code := (cI (cB (cA (cB (cB (bodyC Try.f44))))))
noncomputable def K_accept_rising_1 : Code := (cB (cB (cB (bodyC Try.f44))))
def Q_accept_rising_0 (K : Kont) : Post := qSeq (aw Try.prog O_accept_rising K_accept_rising_1 (qTop Try.prog Try.f44 K)) (qTop Try.prog Try.f44 K)
def Q_accept_rising_1 (K : Kont) : Post := qBlk 0 (Q_accept_rising_0 K)
def E_accept_rising_1 (v0 : Value) (v1 : Value) (v5 : Value) (v10 : Value) (v11 : Value) (v12 : Value) (d : Nat → Value) : List Value := [v0, v1, d 2, d 3, d 4, v5, d 6, d 7, d 8, d 9, v10, v11, v12, d 13, d 14, d 15, d 16, d 17, d 18, d 19, d 20, d 21, d 22, d 23, d 24, d 25, d 26]
def G_accept_rising_1 (K : Kont) (v0 : Value) (v1 : Value) (v5 : Value) (v10 : Value) (v11 : Value) (v12 : Value) (d : Nat → Value) (h : Hp) : Prop := aw Try.prog O_accept_rising K_accept_rising_0 (Q_accept_rising_1 K) (E_accept_rising_1 v0 v1 v5 v10 v11 v12 d) h
def Q_accept_rising_2 (K : Kont) (s0 : Self) : Post := qSeq s0 (Q_accept_rising_1 K)
noncomputable def K_accept_rising_2 : Code := (cI (cI (cB (cA (cB (cB (bodyC Try.f44)))))))
noncomputable def K_accept_rising_3 : Code := (cB (cB (cB (cI (cI (cB (cA (cB (cB (bodyC Try.f44))))))))))
def E_accept_rising_2 (v0 : Value) (v1 : Value) (v5 : Value) (v10 : Value) (v11 : Value) (v12 : Value) (d : Nat → Value) : List Value := [v0, v1, d 2, d 3, d 4, v5, d 6, d 7, d 8, d 9, v10, v11, v12, d 13, d 14, d 15, d 16, d 17, d 18, d 19, d 20, d 21, d 22, d 23, d 24, d 25, d 26]
def G_accept_rising_2 (K : Kont) (s0 : Self) (v0 : Value) (v1 : Value) (v5 : Value) (v10 : Value) (v11 : Value) (v12 : Value) (d : Nat → Value) (h : Hp) : Prop := aw Try.prog O_accept_rising K_accept_rising_3 (Q_accept_rising_2 K s0) (E_accept_rising_2 v0 v1 v5 v10 v11 v12 d) h
noncomputable def K_accept_rising_4 : Code := (cB (cB (cI (cI (cB (cA (cB (cB (bodyC Try.f44)))))))))
def G_accept_rising (a0 a1 : Value) (h : Hp) (K : Kont) : Prop :=
  C_maps_Keys_map_int_api_Vote_int_api_Vote [a0] h fun t9 h1 =>
  C_slices_Sorted_int [t9] h1 fun t10 h2 =>
  oLen 0 t10 h2 fun t11 h3 =>
  G_accept_rising_1 K a0 a1 (Go.Value.slice none 0 0) t10 t11 (Go.Value.int Go.IntKind.i64 0) (dl [a0, a1, undef, undef, (Go.Value.slice none 0 0), (Go.Value.slice none 0 0), undef, undef, a0, t9, t10, t11, (Go.Value.int Go.IntKind.i64 0), undef, undef, undef, undef, undef, undef, undef, undef, undef, undef, undef, undef, undef, undef]) h3
theorem ga_accept_rising (Qv : Post) (a0 a1 : Value) (h : Hp) : aw Try.prog O_accept_rising (bodyC Try.f44) Qv [a0, a1, undef, undef, undef, undef, undef, undef, undef, undef, undef, undef, undef, undef, undef, undef, undef, undef, undef, undef, undef, undef, undef, undef, undef, undef, undef] h = (C_maps_Keys_map_int_api_Vote_int_api_Vote [a0] h fun t9 h1 =>
  C_slices_Sorted_int [t9] h1 fun t10 h2 =>
  oLen 0 t10 h2 fun t11 h3 =>
  aw Try.prog O_accept_rising K_accept_rising_0 (qBlk 0 (qSeq (aw Try.prog O_accept_rising K_accept_rising_1 Qv) Qv)) [a0, a1, undef, undef, (Go.Value.slice none 0 0), (Go.Value.slice none 0 0), undef, undef, a0, t9, t10, t11, (Go.Value.int Go.IntKind.i64 0), undef, undef, undef, undef, undef, undef, undef, undef, undef, undef, undef, undef, undef, undef] h3) := by kernel_rfl
theorem gb_accept_rising (a0 a1 : Value) (h : Hp) (K : Kont) : (C_maps_Keys_map_int_api_Vote_int_api_Vote [a0] h fun t9 h1 =>
  C_slices_Sorted_int [t9] h1 fun t10 h2 =>
  oLen 0 t10 h2 fun t11 h3 =>
  aw Try.prog O_accept_rising K_accept_rising_0 (qBlk 0 (qSeq (aw Try.prog O_accept_rising K_accept_rising_1 (qTop Try.prog Try.f44 K)) (qTop Try.prog Try.f44 K))) [a0, a1, undef, undef, (Go.Value.slice none 0 0), (Go.Value.slice none 0 0), undef, undef, a0, t9, t10, t11, (Go.Value.int Go.IntKind.i64 0), undef, undef, undef, undef, undef, undef, undef, undef, undef, undef, undef, undef, undef, undef] h3) = G_accept_rising a0 a1 h K := by kernel_rfl
theorem gc_accept_rising (a0 a1 : Value) (h : Hp) (K : Kont) : abody Try.prog O_accept_rising Try.f44 (bodyC Try.f44) [a0, a1] h K = aw Try.prog O_accept_rising (bodyC Try.f44) (qTop Try.prog Try.f44 K) [a0, a1, undef, undef, undef, undef, undef, undef, undef, undef, undef, undef, undef, undef, undef, undef, undef, undef, undef, undef, undef, undef, undef, undef, undef, undef, undef] h := by kernel_rfl
theorem eq_accept_rising (a0 a1 : Value) (h : Hp) (K : Kont) : abody Try.prog O_accept_rising Try.f44 (bodyC Try.f44) [a0, a1] h K = G_accept_rising a0 a1 h K := (gc_accept_rising a0 a1 h K).trans ((ga_accept_rising _ a0 a1 h).trans (gb_accept_rising a0 a1 h K))
theorem ok_accept_rising {a0 a1 : Value} {h : Hp} {K : Kont} (hk : G_accept_rising a0 a1 h K) : C_accept_rising [a0, a1] h K := ac_of_body prog_mixed (fn := Try.f44) Try.func44 (c := bodyC Try.f44) (by kernel_rfl) ((eq_accept_rising a0 a1 h K).mpr hk)
def B_accept_rising_1 (K : Kont) (s0 : Self) (v0 : Value) (v1 : Value) (v5 : Value) (v10 : Value) (v11 : Value) (v12 : Value) (d : Nat → Value) (h : Hp) : Prop :=
  oBin .lss v12 v11 h fun t13 h1 =>
  oIf t13
  (oIdxS 1 v10 v12 h1 fun t14 h2 =>
  oLd1 t14 h2 fun t15 h3 =>
  oBin .geq t15 v1 h3 fun t18 h4 =>
  oIf t18
  (oLookup (.int .i64) (.agg #[.int .i64 0, .int .u64 0, .int .i64 0, .int .i64 0, .int .u64 0, .int .i64 0]) v0 t15 false h4 fun t22 h5 =>
  oBuildSlice #[.int .i64 0, .int .u64 0, .int .i64 0, .int .i64 0, .int .u64 0, .int .i64 0] 1 [(0 * 6, 6, t22)] h5 fun t23 h6 =>
  oAppend 6 48 #[.int .i64 0, .int .u64 0, .int .i64 0, .int .i64 0, .int .u64 0, .int .i64 0] v5 t23 h6 fun t24 h7 =>
  G_accept_rising_2 K s0 v0 v1 t24 v10 v11 v12 (dl [v0, v1, (d 2), (d 3), (d 4), t24, (d 6), t15, (d 8), (d 9), v10, v11, v12, t13, t14, t15, t15, v1, t18, v5, v0, t15, t22, t23, t24, (d 25), (d 26)]) h7)
  (G_accept_rising_2 K s0 v0 v1 v5 v10 v11 v12 (dl [v0, v1, (d 2), (d 3), (d 4), v5, (d 6), t15, (d 8), (d 9), v10, v11, v12, t13, t14, t15, t15, v1, t18, (d 19), (d 20), (d 21), (d 22), (d 23), (d 24), (d 25), (d 26)]) h4))
  (K v5 h1)
theorem ga_accept_rising_1 (Qv : Post) (v0 : Value) (v1 : Value) (v5 : Value) (v10 : Value) (v11 : Value) (v12 : Value) (d : Nat → Value) (h : Hp) : aw Try.prog O_accept_rising K_accept_rising_2 Qv (E_accept_rising_1 v0 v1 v5 v10 v11 v12 d) h = (oBin .lss v12 v11 h fun t13 h1 =>
  oIf t13
  (oIdxS 1 v10 v12 h1 fun t14 h2 =>
  oLd1 t14 h2 fun t15 h3 =>
  oBin .geq t15 v1 h3 fun t18 h4 =>
  oIf t18
  (oLookup (.int .i64) (.agg #[.int .i64 0, .int .u64 0, .int .i64 0, .int .i64 0, .int .u64 0, .int .i64 0]) v0 t15 false h4 fun t22 h5 =>
  oBuildSlice #[.int .i64 0, .int .u64 0, .int .i64 0, .int .i64 0, .int .u64 0, .int .i64 0] 1 [(0 * 6, 6, t22)] h5 fun t23 h6 =>
  oAppend 6 48 #[.int .i64 0, .int .u64 0, .int .i64 0, .int .i64 0, .int .u64 0, .int .i64 0] v5 t23 h6 fun t24 h7 =>
  (qBlk 1 (qSeq (aw Try.prog O_accept_rising K_accept_rising_3 Qv) Qv)) .normal [v0, v1, (d 2), (d 3), (d 4), t24, (d 6), t15, (d 8), (d 9), v10, v11, v12, t13, t14, t15, t15, v1, t18, v5, v0, t15, t22, t23, t24, (d 25), (d 26)] h7)
  ((qBlk 1 (qSeq (aw Try.prog O_accept_rising K_accept_rising_3 Qv) Qv)) .normal [v0, v1, (d 2), (d 3), (d 4), v5, (d 6), t15, (d 8), (d 9), v10, v11, v12, t13, t14, t15, t15, v1, t18, (d 19), (d 20), (d 21), (d 22), (d 23), (d 24), (d 25), (d 26)] h4))
  ((qSeq (aw Try.prog O_accept_rising K_accept_rising_4 Qv) Qv) (.exit 0) [v0, v1, (d 2), (d 3), (d 4), v5, (d 6), (d 7), (d 8), (d 9), v10, v11, v12, t13, (d 14), (d 15), (d 16), (d 17), (d 18), (d 19), (d 20), (d 21), (d 22), (d 23), (d 24), (d 25), (d 26)] h1)) := by kernel_rfl
theorem gb_accept_rising_1 (K : Kont) (s0 : Self) (v0 : Value) (v1 : Value) (v5 : Value) (v10 : Value) (v11 : Value) (v12 : Value) (d : Nat → Value) (h : Hp) : (oBin .lss v12 v11 h fun t13 h1 =>
  oIf t13
  (oIdxS 1 v10 v12 h1 fun t14 h2 =>
  oLd1 t14 h2 fun t15 h3 =>
  oBin .geq t15 v1 h3 fun t18 h4 =>
  oIf t18
  (oLookup (.int .i64) (.agg #[.int .i64 0, .int .u64 0, .int .i64 0, .int .i64 0, .int .u64 0, .int .i64 0]) v0 t15 false h4 fun t22 h5 =>
  oBuildSlice #[.int .i64 0, .int .u64 0, .int .i64 0, .int .i64 0, .int .u64 0, .int .i64 0] 1 [(0 * 6, 6, t22)] h5 fun t23 h6 =>
  oAppend 6 48 #[.int .i64 0, .int .u64 0, .int .i64 0, .int .i64 0, .int .u64 0, .int .i64 0] v5 t23 h6 fun t24 h7 =>
  (qBlk 1 (qSeq (aw Try.prog O_accept_rising K_accept_rising_3 (Q_accept_rising_2 K s0)) (Q_accept_rising_2 K s0))) .normal [v0, v1, (d 2), (d 3), (d 4), t24, (d 6), t15, (d 8), (d 9), v10, v11, v12, t13, t14, t15, t15, v1, t18, v5, v0, t15, t22, t23, t24, (d 25), (d 26)] h7)
  ((qBlk 1 (qSeq (aw Try.prog O_accept_rising K_accept_rising_3 (Q_accept_rising_2 K s0)) (Q_accept_rising_2 K s0))) .normal [v0, v1, (d 2), (d 3), (d 4), v5, (d 6), t15, (d 8), (d 9), v10, v11, v12, t13, t14, t15, t15, v1, t18, (d 19), (d 20), (d 21), (d 22), (d 23), (d 24), (d 25), (d 26)] h4))
  ((qSeq (aw Try.prog O_accept_rising K_accept_rising_4 (Q_accept_rising_2 K s0)) (Q_accept_rising_2 K s0)) (.exit 0) [v0, v1, (d 2), (d 3), (d 4), v5, (d 6), (d 7), (d 8), (d 9), v10, v11, v12, t13, (d 14), (d 15), (d 16), (d 17), (d 18), (d 19), (d 20), (d 21), (d 22), (d 23), (d 24), (d 25), (d 26)] h1)) = B_accept_rising_1 K s0 v0 v1 v5 v10 v11 v12 d h := by kernel_rfl
theorem beq_accept_rising_1 (K : Kont) (s0 : Self) (v0 : Value) (v1 : Value) (v5 : Value) (v10 : Value) (v11 : Value) (v12 : Value) (d : Nat → Value) (h : Hp) : aw Try.prog O_accept_rising K_accept_rising_2 (Q_accept_rising_2 K s0) (E_accept_rising_1 v0 v1 v5 v10 v11 v12 d) h = B_accept_rising_1 K s0 v0 v1 v5 v10 v11 v12 d h := (ga_accept_rising_1 _ v0 v1 v5 v10 v11 v12 d h).trans (gb_accept_rising_1 K s0 v0 v1 v5 v10 v11 v12 d h)
theorem rule_accept_rising_1 {K : Kont} {v0 : Value} {v1 : Value} {v10 : Value} {v11 : Value} (Inv : Value → Value → Hp → Prop) (μ : Value → Value → Hp → Nat)
    (step : ∀ (s0 : Self) (v5 : Value) (v12 : Value) (d : Nat → Value) (h : Hp), Inv v5 v12 h → (∀ (v5' : Value) (v12' : Value) (d' : Nat → Value) (h' : Hp), Inv v5' v12' h' → μ v5' v12' h' < μ v5 v12 h → s0 (E_accept_rising_1 v0 v1 v5' v10 v11 v12' d') h') → B_accept_rising_1 K s0 v0 v1 v5 v10 v11 v12 d h) (v5 : Value) (v12 : Value) (d : Nat → Value) (h : Hp) (hi : Inv v5 v12 h) : G_accept_rising_1 K v0 v1 v5 v10 v11 v12 d h :=
  oLoop_rule (α := Value × Value × (Nat → Value)) (fun x => E_accept_rising_1 v0 v1 x.1 v10 v11 x.2.1 x.2.2) (fun x h => Inv x.1 x.2.1 h) (fun x h => μ x.1 x.2.1 h)
    (fun self x h hx hs => (beq_accept_rising_1 K self v0 v1 x.1 v10 v11 x.2.1 x.2.2 h).mpr (step self x.1 x.2.1 x.2.2 h hx (fun v5' v12' d' h' h1 h2 => hs ⟨v5', v12', d'⟩ h' h1 h2))) ⟨v5, v12, d⟩ h hi
def R_accept_rising_2 (K : Kont) (s0 : Self) (v0 : Value) (v1 : Value) (v5 : Value) (v10 : Value) (v11 : Value) (v12 : Value) (d : Nat → Value) (h : Hp) : Prop :=
  oBin .add v12 (Go.Value.int Go.IntKind.i64 1) h fun t25 h1 =>
  s0 (E_accept_rising_1 v0 v1 v5 v10 v11 t25 (dl [v0, v1, (d 2), (d 3), (d 4), v5, (d 6), (d 7), (d 8), (d 9), v10, v11, t25, (d 13), (d 14), (d 15), (d 16), (d 17), (d 18), (d 19), (d 20), (d 21), (d 22), (d 23), (d 24), t25, (d 26)])) h1
theorem ga_accept_rising_2 (Qv : Post) (v0 : Value) (v1 : Value) (v5 : Value) (v10 : Value) (v11 : Value) (v12 : Value) (d : Nat → Value) (h : Hp) : aw Try.prog O_accept_rising K_accept_rising_3 Qv (E_accept_rising_2 v0 v1 v5 v10 v11 v12 d) h = (oBin .add v12 (Go.Value.int Go.IntKind.i64 1) h fun t25 h1 =>
  Qv .normal [v0, v1, (d 2), (d 3), (d 4), v5, (d 6), (d 7), (d 8), (d 9), v10, v11, t25, (d 13), (d 14), (d 15), (d 16), (d 17), (d 18), (d 19), (d 20), (d 21), (d 22), (d 23), (d 24), t25, (d 26)] h1) := by kernel_rfl
theorem gb_accept_rising_2 (K : Kont) (s0 : Self) (v0 : Value) (v1 : Value) (v5 : Value) (v10 : Value) (v11 : Value) (v12 : Value) (d : Nat → Value) (h : Hp) : (oBin .add v12 (Go.Value.int Go.IntKind.i64 1) h fun t25 h1 =>
  (Q_accept_rising_2 K s0) .normal [v0, v1, (d 2), (d 3), (d 4), v5, (d 6), (d 7), (d 8), (d 9), v10, v11, t25, (d 13), (d 14), (d 15), (d 16), (d 17), (d 18), (d 19), (d 20), (d 21), (d 22), (d 23), (d 24), t25, (d 26)] h1) = R_accept_rising_2 K s0 v0 v1 v5 v10 v11 v12 d h := by kernel_rfl
theorem req_accept_rising_2 (K : Kont) (s0 : Self) (v0 : Value) (v1 : Value) (v5 : Value) (v10 : Value) (v11 : Value) (v12 : Value) (d : Nat → Value) (h : Hp) : G_accept_rising_2 K s0 v0 v1 v5 v10 v11 v12 d h = R_accept_rising_2 K s0 v0 v1 v5 v10 v11 v12 d h := (ga_accept_rising_2 _ v0 v1 v5 v10 v11 v12 d h).trans (gb_accept_rising_2 K s0 v0 v1 v5 v10 v11 v12 d h)

/-! ### catenary/ballot.Is: function 45 -/
def O_ballot_Is : Od := []
def G_ballot_Is (a0 : Value) (h : Hp) (K : Kont) : Prop :=
  oBin .quo a0 (Go.Value.int Go.IntKind.u64 8) h fun t4 h1 =>
  oBin .geq t4 (Go.Value.int Go.IntKind.u64 1) h1 fun t5 h2 =>
  oGuard t5 true (fun K => K a0 h2) h2 fun t7 h3 =>
  oGuard t5 true (fun K => oBin .quo t7 (Go.Value.int Go.IntKind.u64 8) h3 K) h3 fun t8 h4 =>
  oGuard t5 true (fun K => oBin .lss t8 (Go.Value.int Go.IntKind.u64 1152921504606846976) h4 K) h4 fun t9 h5 =>
  oPick t5 t9 (Go.Value.bool false) h5 fun t10 h6 =>
  oGuard t10 true (fun K => K a0 h6) h6 fun t12 h7 =>
  oGuard t10 true (fun K => oBin .rem t12 (Go.Value.int Go.IntKind.u64 8) h7 K) h7 fun t13 h8 =>
  oGuard t10 true (fun K => oConvInt .i64 t13 h8 K) h8 fun t14 h9 =>
  oGuard t10 true (fun K => C_ballot_master [t14] h9 K) h9 fun t15 h10 =>
  oPick t10 t15 (Go.Value.bool false) h10 fun t16 h11 =>
  K t16 h11
theorem ga_ballot_Is (Qv : Post) (a0 : Value) (h : Hp) : aw Try.prog O_ballot_Is (bodyC Try.f45) Qv [a0, undef, undef, undef, undef, undef, undef, undef, undef, undef, undef, undef, undef, undef, undef, undef, undef] h = (oBin .quo a0 (Go.Value.int Go.IntKind.u64 8) h fun t4 h1 =>
  oBin .geq t4 (Go.Value.int Go.IntKind.u64 1) h1 fun t5 h2 =>
  oGuard t5 true (fun K => K a0 h2) h2 fun t7 h3 =>
  oGuard t5 true (fun K => oBin .quo t7 (Go.Value.int Go.IntKind.u64 8) h3 K) h3 fun t8 h4 =>
  oGuard t5 true (fun K => oBin .lss t8 (Go.Value.int Go.IntKind.u64 1152921504606846976) h4 K) h4 fun t9 h5 =>
  oPick t5 t9 (Go.Value.bool false) h5 fun t10 h6 =>
  oGuard t10 true (fun K => K a0 h6) h6 fun t12 h7 =>
  oGuard t10 true (fun K => oBin .rem t12 (Go.Value.int Go.IntKind.u64 8) h7 K) h7 fun t13 h8 =>
  oGuard t10 true (fun K => oConvInt .i64 t13 h8 K) h8 fun t14 h9 =>
  oGuard t10 true (fun K => C_ballot_master [t14] h9 K) h9 fun t15 h10 =>
  oPick t10 t15 (Go.Value.bool false) h10 fun t16 h11 =>
  Qv .ret [a0, undef, t16, a0, t4, t5, t5, t7, t8, t9, t10, t10, t12, t13, t14, t15, t16] h11) := by kernel_rfl
theorem gb_ballot_Is (a0 : Value) (h : Hp) (K : Kont) : (oBin .quo a0 (Go.Value.int Go.IntKind.u64 8) h fun t4 h1 =>
  oBin .geq t4 (Go.Value.int Go.IntKind.u64 1) h1 fun t5 h2 =>
  oGuard t5 true (fun K => K a0 h2) h2 fun t7 h3 =>
  oGuard t5 true (fun K => oBin .quo t7 (Go.Value.int Go.IntKind.u64 8) h3 K) h3 fun t8 h4 =>
  oGuard t5 true (fun K => oBin .lss t8 (Go.Value.int Go.IntKind.u64 1152921504606846976) h4 K) h4 fun t9 h5 =>
  oPick t5 t9 (Go.Value.bool false) h5 fun t10 h6 =>
  oGuard t10 true (fun K => K a0 h6) h6 fun t12 h7 =>
  oGuard t10 true (fun K => oBin .rem t12 (Go.Value.int Go.IntKind.u64 8) h7 K) h7 fun t13 h8 =>
  oGuard t10 true (fun K => oConvInt .i64 t13 h8 K) h8 fun t14 h9 =>
  oGuard t10 true (fun K => C_ballot_master [t14] h9 K) h9 fun t15 h10 =>
  oPick t10 t15 (Go.Value.bool false) h10 fun t16 h11 =>
  (qTop Try.prog Try.f45 K) .ret [a0, undef, t16, a0, t4, t5, t5, t7, t8, t9, t10, t10, t12, t13, t14, t15, t16] h11) = G_ballot_Is a0 h K := by kernel_rfl
theorem gc_ballot_Is (a0 : Value) (h : Hp) (K : Kont) : abody Try.prog O_ballot_Is Try.f45 (bodyC Try.f45) [a0] h K = aw Try.prog O_ballot_Is (bodyC Try.f45) (qTop Try.prog Try.f45 K) [a0, undef, undef, undef, undef, undef, undef, undef, undef, undef, undef, undef, undef, undef, undef, undef, undef] h := by kernel_rfl
theorem eq_ballot_Is (a0 : Value) (h : Hp) (K : Kont) : abody Try.prog O_ballot_Is Try.f45 (bodyC Try.f45) [a0] h K = G_ballot_Is a0 h K := (gc_ballot_Is a0 h K).trans ((ga_ballot_Is _ a0 h).trans (gb_ballot_Is a0 h K))
theorem ok_ballot_Is {a0 : Value} {h : Hp} {K : Kont} (hk : G_ballot_Is a0 h K) : C_ballot_Is [a0] h K := ac_of_body prog_mixed (fn := Try.f45) Try.func45 (c := bodyC Try.f45) (by kernel_rfl) ((eq_ballot_Is a0 h K).mpr hk)

/-! ### catenary/cmds.Check: function 46 -/
def O_cmds_Check : Od := []
noncomputable def K_cmds_Check_0 : Code := (cB (cB (bodyC Try.f46)))
def G_cmds_Check (a0 : Value) (h : Hp) (K : Kont) : Prop :=
  oBox a0 h fun t1 h1 =>
  oFieldAddr 0 t1 h1 fun t4 h2 =>
  oLd1 t4 h2 fun t5 h3 =>
  oBin .lss t5 (Go.Value.int Go.IntKind.i64 0) h3 fun t6 h4 =>
  oGuard t6 false (fun K => oFieldAddr 0 t1 h4 K) h4 fun t8 h5 =>
  oGuard t6 false (fun K => oLd1 t8 h5 K) h5 fun t9 h6 =>
  oGuard t6 false (fun K => oBin .geq t9 (Go.Value.int Go.IntKind.i64 5) h6 K) h6 fun t10 h7 =>
  oPick t6 (Go.Value.bool true) t10 h7 fun t11 h8 =>
  oIf t11
  (K (Go.Value.int Go.IntKind.i64 1) h8)
  (oFieldAddr 0 t1 h8 fun t13 h9 =>
  oLd1 t13 h9 fun t14 h10 =>
  oBin .eql t14 (Go.Value.int Go.IntKind.i64 0) h10 fun t15 h11 =>
  oGuard t15 true (fun K => oLdN 4 t1 h11 K) h11 fun t17 h12 =>
  oGuard t15 true (fun K => oBuild #[.int .i64 0, .int .i64 0, .int .u64 0, .int .i64 0] [] h12 K) h12 fun t18 h13 =>
  oGuard t15 true (fun K => oEq 4 true (some [(0, (.int .i64)), (1, (.int .i64)), (2, (.int .u64)), (3, (.int .i64))]) t17 t18 h13 K) h13 fun t19 h14 =>
  oPick t15 t19 (Go.Value.bool false) h14 fun t20 h15 =>
  oIf t20
  (K (Go.Value.int Go.IntKind.i64 4) h15)
  (oFieldAddr 0 t1 h15 fun t22 h16 =>
  oLd1 t22 h16 fun t23 h17 =>
  oBin .eql t23 (Go.Value.int Go.IntKind.i64 0) h17 fun t24 h18 =>
  oIf t24
  (K (Go.Value.int Go.IntKind.i64 0) h18)
  (oFieldAddr 1 t1 h18 fun t26 h19 =>
  oLd1 t26 h19 fun t27 h20 =>
  oBin .lss t27 (Go.Value.int Go.IntKind.i64 0) h20 fun t28 h21 =>
  oGuard t28 false (fun K => oFieldAddr 1 t1 h21 K) h21 fun t30 h22 =>
  oGuard t28 false (fun K => oLd1 t30 h22 K) h22 fun t31 h23 =>
  oGuard t28 false (fun K => oBin .geq t31 (Go.Value.int Go.IntKind.i64 4) h23 K) h23 fun t32 h24 =>
  oPick t28 (Go.Value.bool true) t32 h24 fun t33 h25 =>
  oGuard t33 false (fun K => oFieldAddr 2 t1 h25 K) h25 fun t35 h26 =>
  oGuard t33 false (fun K => oLd1 t35 h26 K) h26 fun t36 h27 =>
  oGuard t33 false (fun K => oBin .lss t36 (Go.Value.int Go.IntKind.u64 1) h27 K) h27 fun t37 h28 =>
  oPick t33 (Go.Value.bool true) t37 h28 fun t38 h29 =>
  oGuard t38 false (fun K => oFieldAddr 3 t1 h29 K) h29 fun t40 h30 =>
  oGuard t38 false (fun K => oLd1 t40 h30 K) h30 fun t41 h31 =>
  oGuard t38 false (fun K => oBin .lss t41 (Go.Value.int Go.IntKind.i64 1) h31 K) h31 fun t42 h32 =>
  oPick t38 (Go.Value.bool true) t42 h32 fun t43 h33 =>
  oGuard t43 false (fun K => oFieldAddr 3 t1 h33 K) h33 fun t45 h34 =>
  oGuard t43 false (fun K => oLd1 t45 h34 K) h34 fun t46 h35 =>
  oGuard t43 false (fun K => oBin .gtr t46 (Go.Value.int Go.IntKind.i64 24) h35 K) h35 fun t47 h36 =>
  oPick t43 (Go.Value.bool true) t47 h36 fun t48 h37 =>
  oIf t48
  (K (Go.Value.int Go.IntKind.i64 4) h37)
  (K (Go.Value.int Go.IntKind.i64 0) h37))))
theorem ga_cmds_Check (Qv : Post) (a0 : Value) (h : Hp) : aw Try.prog O_cmds_Check (bodyC Try.f46) Qv [a0, undef, undef, undef, undef, undef, undef, undef, undef, undef, undef, undef, undef, undef, undef, undef, undef, undef, undef, undef, undef, undef, undef, undef, undef, undef, undef, undef, undef, undef, undef, undef, undef, undef, undef, undef, undef, undef, undef, undef, undef, undef, undef, undef, undef, undef, undef, undef, undef] h = (oBox a0 h fun t1 h1 =>
  oFieldAddr 0 t1 h1 fun t4 h2 =>
  oLd1 t4 h2 fun t5 h3 =>
  oBin .lss t5 (Go.Value.int Go.IntKind.i64 0) h3 fun t6 h4 =>
  oGuard t6 false (fun K => oFieldAddr 0 t1 h4 K) h4 fun t8 h5 =>
  oGuard t6 false (fun K => oLd1 t8 h5 K) h5 fun t9 h6 =>
  oGuard t6 false (fun K => oBin .geq t9 (Go.Value.int Go.IntKind.i64 5) h6 K) h6 fun t10 h7 =>
  oPick t6 (Go.Value.bool true) t10 h7 fun t11 h8 =>
  oIf t11
  ((qBlk 0 (qSeq (aw Try.prog O_cmds_Check K_cmds_Check_0 Qv) Qv)) .ret [a0, t1, (Go.Value.int Go.IntKind.i64 1), t11, t4, t5, t6, t6, t8, t9, t10, t11, undef, undef, undef, undef, undef, undef, undef, undef, undef, undef, undef, undef, undef, undef, undef, undef, undef, undef, undef, undef, undef, undef, undef, undef, undef, undef, undef, undef, undef, undef, undef, undef, undef, undef, undef, undef, undef] h8)
  (oFieldAddr 0 t1 h8 fun t13 h9 =>
  oLd1 t13 h9 fun t14 h10 =>
  oBin .eql t14 (Go.Value.int Go.IntKind.i64 0) h10 fun t15 h11 =>
  oGuard t15 true (fun K => oLdN 4 t1 h11 K) h11 fun t17 h12 =>
  oGuard t15 true (fun K => oBuild #[.int .i64 0, .int .i64 0, .int .u64 0, .int .i64 0] [] h12 K) h12 fun t18 h13 =>
  oGuard t15 true (fun K => oEq 4 true (some [(0, (.int .i64)), (1, (.int .i64)), (2, (.int .u64)), (3, (.int .i64))]) t17 t18 h13 K) h13 fun t19 h14 =>
  oPick t15 t19 (Go.Value.bool false) h14 fun t20 h15 =>
  oIf t20
  ((qBlk 0 (qSeq (aw Try.prog O_cmds_Check K_cmds_Check_0 Qv) Qv)) .ret [a0, t1, (Go.Value.int Go.IntKind.i64 4), t11, t4, t5, t6, t6, t8, t9, t10, t11, t20, t13, t14, t15, t15, t17, t18, t19, t20, undef, undef, undef, undef, undef, undef, undef, undef, undef, undef, undef, undef, undef, undef, undef, undef, undef, undef, undef, undef, undef, undef, undef, undef, undef, undef, undef, undef] h15)
  (oFieldAddr 0 t1 h15 fun t22 h16 =>
  oLd1 t22 h16 fun t23 h17 =>
  oBin .eql t23 (Go.Value.int Go.IntKind.i64 0) h17 fun t24 h18 =>
  oIf t24
  ((qBlk 0 (qSeq (aw Try.prog O_cmds_Check K_cmds_Check_0 Qv) Qv)) .ret [a0, t1, (Go.Value.int Go.IntKind.i64 0), t11, t4, t5, t6, t6, t8, t9, t10, t11, t20, t13, t14, t15, t15, t17, t18, t19, t20, t24, t22, t23, t24, undef, undef, undef, undef, undef, undef, undef, undef, undef, undef, undef, undef, undef, undef, undef, undef, undef, undef, undef, undef, undef, undef, undef, undef] h18)
  (oFieldAddr 1 t1 h18 fun t26 h19 =>
  oLd1 t26 h19 fun t27 h20 =>
  oBin .lss t27 (Go.Value.int Go.IntKind.i64 0) h20 fun t28 h21 =>
  oGuard t28 false (fun K => oFieldAddr 1 t1 h21 K) h21 fun t30 h22 =>
  oGuard t28 false (fun K => oLd1 t30 h22 K) h22 fun t31 h23 =>
  oGuard t28 false (fun K => oBin .geq t31 (Go.Value.int Go.IntKind.i64 4) h23 K) h23 fun t32 h24 =>
  oPick t28 (Go.Value.bool true) t32 h24 fun t33 h25 =>
  oGuard t33 false (fun K => oFieldAddr 2 t1 h25 K) h25 fun t35 h26 =>
  oGuard t33 false (fun K => oLd1 t35 h26 K) h26 fun t36 h27 =>
  oGuard t33 false (fun K => oBin .lss t36 (Go.Value.int Go.IntKind.u64 1) h27 K) h27 fun t37 h28 =>
  oPick t33 (Go.Value.bool true) t37 h28 fun t38 h29 =>
  oGuard t38 false (fun K => oFieldAddr 3 t1 h29 K) h29 fun t40 h30 =>
  oGuard t38 false (fun K => oLd1 t40 h30 K) h30 fun t41 h31 =>
  oGuard t38 false (fun K => oBin .lss t41 (Go.Value.int Go.IntKind.i64 1) h31 K) h31 fun t42 h32 =>
  oPick t38 (Go.Value.bool true) t42 h32 fun t43 h33 =>
  oGuard t43 false (fun K => oFieldAddr 3 t1 h33 K) h33 fun t45 h34 =>
  oGuard t43 false (fun K => oLd1 t45 h34 K) h34 fun t46 h35 =>
  oGuard t43 false (fun K => oBin .gtr t46 (Go.Value.int Go.IntKind.i64 24) h35 K) h35 fun t47 h36 =>
  oPick t43 (Go.Value.bool true) t47 h36 fun t48 h37 =>
  oIf t48
  ((qBlk 0 (qSeq (aw Try.prog O_cmds_Check K_cmds_Check_0 Qv) Qv)) .ret [a0, t1, (Go.Value.int Go.IntKind.i64 4), t11, t4, t5, t6, t6, t8, t9, t10, t11, t20, t13, t14, t15, t15, t17, t18, t19, t20, t24, t22, t23, t24, t48, t26, t27, t28, t28, t30, t31, t32, t33, t33, t35, t36, t37, t38, t38, t40, t41, t42, t43, t43, t45, t46, t47, t48] h37)
  (Qv .ret [a0, t1, (Go.Value.int Go.IntKind.i64 0), t11, t4, t5, t6, t6, t8, t9, t10, t11, t20, t13, t14, t15, t15, t17, t18, t19, t20, t24, t22, t23, t24, t48, t26, t27, t28, t28, t30, t31, t32, t33, t33, t35, t36, t37, t38, t38, t40, t41, t42, t43, t43, t45, t46, t47, t48] h37))))) := by kernel_rfl
theorem gb_cmds_Check (a0 : Value) (h : Hp) (K : Kont) : (oBox a0 h fun t1 h1 =>
  oFieldAddr 0 t1 h1 fun t4 h2 =>
  oLd1 t4 h2 fun t5 h3 =>
  oBin .lss t5 (Go.Value.int Go.IntKind.i64 0) h3 fun t6 h4 =>
  oGuard t6 false (fun K => oFieldAddr 0 t1 h4 K) h4 fun t8 h5 =>
  oGuard t6 false (fun K => oLd1 t8 h5 K) h5 fun t9 h6 =>
  oGuard t6 false (fun K => oBin .geq t9 (Go.Value.int Go.IntKind.i64 5) h6 K) h6 fun t10 h7 =>
  oPick t6 (Go.Value.bool true) t10 h7 fun t11 h8 =>
  oIf t11
  ((qBlk 0 (qSeq (aw Try.prog O_cmds_Check K_cmds_Check_0 (qTop Try.prog Try.f46 K)) (qTop Try.prog Try.f46 K))) .ret [a0, t1, (Go.Value.int Go.IntKind.i64 1), t11, t4, t5, t6, t6, t8, t9, t10, t11, undef, undef, undef, undef, undef, undef, undef, undef, undef, undef, undef, undef, undef, undef, undef, undef, undef, undef, undef, undef, undef, undef, undef, undef, undef, undef, undef, undef, undef, undef, undef, undef, undef, undef, undef, undef, undef] h8)
  (oFieldAddr 0 t1 h8 fun t13 h9 =>
  oLd1 t13 h9 fun t14 h10 =>
  oBin .eql t14 (Go.Value.int Go.IntKind.i64 0) h10 fun t15 h11 =>
  oGuard t15 true (fun K => oLdN 4 t1 h11 K) h11 fun t17 h12 =>
  oGuard t15 true (fun K => oBuild #[.int .i64 0, .int .i64 0, .int .u64 0, .int .i64 0] [] h12 K) h12 fun t18 h13 =>
  oGuard t15 true (fun K => oEq 4 true (some [(0, (.int .i64)), (1, (.int .i64)), (2, (.int .u64)), (3, (.int .i64))]) t17 t18 h13 K) h13 fun t19 h14 =>
  oPick t15 t19 (Go.Value.bool false) h14 fun t20 h15 =>
  oIf t20
  ((qBlk 0 (qSeq (aw Try.prog O_cmds_Check K_cmds_Check_0 (qTop Try.prog Try.f46 K)) (qTop Try.prog Try.f46 K))) .ret [a0, t1, (Go.Value.int Go.IntKind.i64 4), t11, t4, t5, t6, t6, t8, t9, t10, t11, t20, t13, t14, t15, t15, t17, t18, t19, t20, undef, undef, undef, undef, undef, undef, undef, undef, undef, undef, undef, undef, undef, undef, undef, undef, undef, undef, undef, undef, undef, undef, undef, undef, undef, undef, undef, undef] h15)
  (oFieldAddr 0 t1 h15 fun t22 h16 =>
  oLd1 t22 h16 fun t23 h17 =>
  oBin .eql t23 (Go.Value.int Go.IntKind.i64 0) h17 fun t24 h18 =>
  oIf t24
  ((qBlk 0 (qSeq (aw Try.prog O_cmds_Check K_cmds_Check_0 (qTop Try.prog Try.f46 K)) (qTop Try.prog Try.f46 K))) .ret [a0, t1, (Go.Value.int Go.IntKind.i64 0), t11, t4, t5, t6, t6, t8, t9, t10, t11, t20, t13, t14, t15, t15, t17, t18, t19, t20, t24, t22, t23, t24, undef, undef, undef, undef, undef, undef, undef, undef, undef, undef, undef, undef, undef, undef, undef, undef, undef, undef, undef, undef, undef, undef, undef, undef] h18)
  (oFieldAddr 1 t1 h18 fun t26 h19 =>
  oLd1 t26 h19 fun t27 h20 =>
  oBin .lss t27 (Go.Value.int Go.IntKind.i64 0) h20 fun t28 h21 =>
  oGuard t28 false (fun K => oFieldAddr 1 t1 h21 K) h21 fun t30 h22 =>
  oGuard t28 false (fun K => oLd1 t30 h22 K) h22 fun t31 h23 =>
  oGuard t28 false (fun K => oBin .geq t31 (Go.Value.int Go.IntKind.i64 4) h23 K) h23 fun t32 h24 =>
  oPick t28 (Go.Value.bool true) t32 h24 fun t33 h25 =>
  oGuard t33 false (fun K => oFieldAddr 2 t1 h25 K) h25 fun t35 h26 =>
  oGuard t33 false (fun K => oLd1 t35 h26 K) h26 fun t36 h27 =>
  oGuard t33 false (fun K => oBin .lss t36 (Go.Value.int Go.IntKind.u64 1) h27 K) h27 fun t37 h28 =>
  oPick t33 (Go.Value.bool true) t37 h28 fun t38 h29 =>
  oGuard t38 false (fun K => oFieldAddr 3 t1 h29 K) h29 fun t40 h30 =>
  oGuard t38 false (fun K => oLd1 t40 h30 K) h30 fun t41 h31 =>
  oGuard t38 false (fun K => oBin .lss t41 (Go.Value.int Go.IntKind.i64 1) h31 K) h31 fun t42 h32 =>
  oPick t38 (Go.Value.bool true) t42 h32 fun t43 h33 =>
  oGuard t43 false (fun K => oFieldAddr 3 t1 h33 K) h33 fun t45 h34 =>
  oGuard t43 false (fun K => oLd1 t45 h34 K) h34 fun t46 h35 =>
  oGuard t43 false (fun K => oBin .gtr t46 (Go.Value.int Go.IntKind.i64 24) h35 K) h35 fun t47 h36 =>
  oPick t43 (Go.Value.bool true) t47 h36 fun t48 h37 =>
  oIf t48
  ((qBlk 0 (qSeq (aw Try.prog O_cmds_Check K_cmds_Check_0 (qTop Try.prog Try.f46 K)) (qTop Try.prog Try.f46 K))) .ret [a0, t1, (Go.Value.int Go.IntKind.i64 4), t11, t4, t5, t6, t6, t8, t9, t10, t11, t20, t13, t14, t15, t15, t17, t18, t19, t20, t24, t22, t23, t24, t48, t26, t27, t28, t28, t30, t31, t32, t33, t33, t35, t36, t37, t38, t38, t40, t41, t42, t43, t43, t45, t46, t47, t48] h37)
  ((qTop Try.prog Try.f46 K) .ret [a0, t1, (Go.Value.int Go.IntKind.i64 0), t11, t4, t5, t6, t6, t8, t9, t10, t11, t20, t13, t14, t15, t15, t17, t18, t19, t20, t24, t22, t23, t24, t48, t26, t27, t28, t28, t30, t31, t32, t33, t33, t35, t36, t37, t38, t38, t40, t41, t42, t43, t43, t45, t46, t47, t48] h37))))) = G_cmds_Check a0 h K := by kernel_rfl
theorem gc_cmds_Check (a0 : Value) (h : Hp) (K : Kont) : abody Try.prog O_cmds_Check Try.f46 (bodyC Try.f46) [a0] h K = aw Try.prog O_cmds_Check (bodyC Try.f46) (qTop Try.prog Try.f46 K) [a0, undef, undef, undef, undef, undef, undef, undef, undef, undef, undef, undef, undef, undef, undef, undef, undef, undef, undef, undef, undef, undef, undef, undef, undef, undef, undef, undef, undef, undef, undef, undef, undef, undef, undef, undef, undef, undef, undef, undef, undef, undef, undef, undef, undef, undef, undef, undef, undef] h := by kernel_rfl
theorem eq_cmds_Check (a0 : Value) (h : Hp) (K : Kont) : abody Try.prog O_cmds_Check Try.f46 (bodyC Try.f46) [a0] h K = G_cmds_Check a0 h K := (gc_cmds_Check a0 h K).trans ((ga_cmds_Check _ a0 h).trans (gb_cmds_Check a0 h K))
theorem ok_cmds_Check {a0 : Value} {h : Hp} {K : Kont} (hk : G_cmds_Check a0 h K) : C_cmds_Check [a0] h K := ac_of_body prog_mixed (fn := Try.f46) Try.func46 (c := bodyC Try.f46) (by kernel_rfl) ((eq_cmds_Check a0 h K).mpr hk)

/-! ### slices.Min[[]int,int]: function 47 -/
def O_slices_Min_Sint_int : Od := []
noncomputable def K_slices_Min_Sint_int_0 : Code := (cB (cB (bodyC Try.f47)))
def E_slices_Min_Sint_int_1 (v0 : Value) (d : Nat → Value) : List Value := [v0, d 1, d 2, d 3, d 4, d 5, d 6, d 7, d 8, d 9, d 10, d 11, d 12, d 13, d 14, d 15, d 16, d 17, d 18, d 19, d 20, d 21, d 22, d 23, d 24]
def G_slices_Min_Sint_int_1 (K : Kont) (v0 : Value) (d : Nat → Value) (h : Hp) : Prop := aw Try.prog O_slices_Min_Sint_int K_slices_Min_Sint_int_0 (qTop Try.prog Try.f47 K) (E_slices_Min_Sint_int_1 v0 d) h
noncomputable def K_slices_Min_Sint_int_1 : Code := (cI (cB (cA (cB (cB (cB (bodyC Try.f47)))))))
noncomputable def K_slices_Min_Sint_int_2 : Code := (cB (cB (cB (cB (bodyC Try.f47)))))
def Q_slices_Min_Sint_int_0 (K : Kont) : Post := qSeq (aw Try.prog O_slices_Min_Sint_int K_slices_Min_Sint_int_2 (qTop Try.prog Try.f47 K)) (qTop Try.prog Try.f47 K)
def Q_slices_Min_Sint_int_1 (K : Kont) : Post := qBlk 0 (Q_slices_Min_Sint_int_0 K)
def E_slices_Min_Sint_int_2 (v0 : Value) (v3 : Value) (v4 : Value) (d : Nat → Value) : List Value := [v0, d 1, d 2, v3, v4, d 5, d 6, d 7, d 8, d 9, d 10, d 11, d 12, d 13, d 14, d 15, d 16, d 17, d 18, d 19, d 20, d 21, d 22, d 23, d 24]
def G_slices_Min_Sint_int_2 (K : Kont) (v0 : Value) (v3 : Value) (v4 : Value) (d : Nat → Value) (h : Hp) : Prop := aw Try.prog O_slices_Min_Sint_int K_slices_Min_Sint_int_1 (Q_slices_Min_Sint_int_1 K) (E_slices_Min_Sint_int_2 v0 v3 v4 d) h
def Q_slices_Min_Sint_int_2 (K : Kont) (s0 : Self) : Post := qSeq s0 (Q_slices_Min_Sint_int_1 K)
noncomputable def K_slices_Min_Sint_int_3 : Code := (cI (cI (cB (cA (cB (cB (cB (bodyC Try.f47))))))))
noncomputable def K_slices_Min_Sint_int_4 : Code := (cB (cI (cI (cB (cA (cB (cB (cB (bodyC Try.f47)))))))))
def G_slices_Min_Sint_int (a0 : Value) (h : Hp) (K : Kont) : Prop :=
  oLen 0 a0 h fun t6 h1 =>
  oBin .lss t6 (Go.Value.int Go.IntKind.i64 1) h1 fun t7 h2 =>
  oIf t7
  (False)
  (G_slices_Min_Sint_int_1 K a0 (dl [a0, undef, (Go.Value.int Go.IntKind.i64 0), undef, undef, a0, t6, t7, undef, undef, undef, undef, undef, undef, undef, undef, undef, undef, undef, undef, undef, undef, undef, undef, undef]) h2)
theorem ga_slices_Min_Sint_int (Qv : Post) (a0 : Value) (h : Hp) : aw Try.prog O_slices_Min_Sint_int (bodyC Try.f47) Qv [a0, undef, undef, undef, undef, undef, undef, undef, undef, undef, undef, undef, undef, undef, undef, undef, undef, undef, undef, undef, undef, undef, undef, undef, undef] h = (oLen 0 a0 h fun t6 h1 =>
  oBin .lss t6 (Go.Value.int Go.IntKind.i64 1) h1 fun t7 h2 =>
  oIf t7
  (False)
  ((qSeq (aw Try.prog O_slices_Min_Sint_int K_slices_Min_Sint_int_0 Qv) Qv) .normal [a0, undef, (Go.Value.int Go.IntKind.i64 0), undef, undef, a0, t6, t7, undef, undef, undef, undef, undef, undef, undef, undef, undef, undef, undef, undef, undef, undef, undef, undef, undef] h2)) := by kernel_rfl
theorem gb_slices_Min_Sint_int (a0 : Value) (h : Hp) (K : Kont) : (oLen 0 a0 h fun t6 h1 =>
  oBin .lss t6 (Go.Value.int Go.IntKind.i64 1) h1 fun t7 h2 =>
  oIf t7
  (False)
  ((qSeq (aw Try.prog O_slices_Min_Sint_int K_slices_Min_Sint_int_0 (qTop Try.prog Try.f47 K)) (qTop Try.prog Try.f47 K)) .normal [a0, undef, (Go.Value.int Go.IntKind.i64 0), undef, undef, a0, t6, t7, undef, undef, undef, undef, undef, undef, undef, undef, undef, undef, undef, undef, undef, undef, undef, undef, undef] h2)) = G_slices_Min_Sint_int a0 h K := by kernel_rfl
theorem gc_slices_Min_Sint_int (a0 : Value) (h : Hp) (K : Kont) : abody Try.prog O_slices_Min_Sint_int Try.f47 (bodyC Try.f47) [a0] h K = aw Try.prog O_slices_Min_Sint_int (bodyC Try.f47) (qTop Try.prog Try.f47 K) [a0, undef, undef, undef, undef, undef, undef, undef, undef, undef, undef, undef, undef, undef, undef, undef, undef, undef, undef, undef, undef, undef, undef, undef, undef] h := by kernel_rfl
theorem eq_slices_Min_Sint_int (a0 : Value) (h : Hp) (K : Kont) : abody Try.prog O_slices_Min_Sint_int Try.f47 (bodyC Try.f47) [a0] h K = G_slices_Min_Sint_int a0 h K := (gc_slices_Min_Sint_int a0 h K).trans ((ga_slices_Min_Sint_int _ a0 h).trans (gb_slices_Min_Sint_int a0 h K))
theorem ok_slices_Min_Sint_int {a0 : Value} {h : Hp} {K : Kont} (hk : G_slices_Min_Sint_int a0 h K) : C_slices_Min_Sint_int [a0] h K := ac_of_body prog_mixed (fn := Try.f47) Try.func47 (c := bodyC Try.f47) (by kernel_rfl) ((eq_slices_Min_Sint_int a0 h K).mpr hk)
def R_slices_Min_Sint_int_1 (K : Kont) (v0 : Value) (d : Nat → Value) (h : Hp) : Prop :=
  oIdxS 1 v0 (Go.Value.int Go.IntKind.i64 0) h fun t10 h1 =>
  oLd1 t10 h1 fun t11 h2 =>
  G_slices_Min_Sint_int_2 K v0 t11 (Go.Value.int Go.IntKind.i64 1) (dl [v0, (d 1), (d 2), t11, (Go.Value.int Go.IntKind.i64 1), (d 5), (d 6), (d 7), (d 8), v0, t10, t11, (d 12), (d 13), (d 14), (d 15), (d 16), (d 17), (d 18), (d 19), (d 20), (d 21), (d 22), (d 23), (d 24)]) h2
theorem ga_slices_Min_Sint_int_1 (Qv : Post) (v0 : Value) (d : Nat → Value) (h : Hp) : aw Try.prog O_slices_Min_Sint_int K_slices_Min_Sint_int_0 Qv (E_slices_Min_Sint_int_1 v0 d) h = (oIdxS 1 v0 (Go.Value.int Go.IntKind.i64 0) h fun t10 h1 =>
  oLd1 t10 h1 fun t11 h2 =>
  aw Try.prog O_slices_Min_Sint_int K_slices_Min_Sint_int_1 (qBlk 0 (qSeq (aw Try.prog O_slices_Min_Sint_int K_slices_Min_Sint_int_2 Qv) Qv)) [v0, (d 1), (d 2), t11, (Go.Value.int Go.IntKind.i64 1), (d 5), (d 6), (d 7), (d 8), v0, t10, t11, (d 12), (d 13), (d 14), (d 15), (d 16), (d 17), (d 18), (d 19), (d 20), (d 21), (d 22), (d 23), (d 24)] h2) := by kernel_rfl
theorem gb_slices_Min_Sint_int_1 (K : Kont) (v0 : Value) (d : Nat → Value) (h : Hp) : (oIdxS 1 v0 (Go.Value.int Go.IntKind.i64 0) h fun t10 h1 =>
  oLd1 t10 h1 fun t11 h2 =>
  aw Try.prog O_slices_Min_Sint_int K_slices_Min_Sint_int_1 (qBlk 0 (qSeq (aw Try.prog O_slices_Min_Sint_int K_slices_Min_Sint_int_2 (qTop Try.prog Try.f47 K)) (qTop Try.prog Try.f47 K))) [v0, (d 1), (d 2), t11, (Go.Value.int Go.IntKind.i64 1), (d 5), (d 6), (d 7), (d 8), v0, t10, t11, (d 12), (d 13), (d 14), (d 15), (d 16), (d 17), (d 18), (d 19), (d 20), (d 21), (d 22), (d 23), (d 24)] h2) = R_slices_Min_Sint_int_1 K v0 d h := by kernel_rfl
theorem req_slices_Min_Sint_int_1 (K : Kont) (v0 : Value) (d : Nat → Value) (h : Hp) : G_slices_Min_Sint_int_1 K v0 d h = R_slices_Min_Sint_int_1 K v0 d h := (ga_slices_Min_Sint_int_1 _ v0 d h).trans (gb_slices_Min_Sint_int_1 K v0 d h)
def B_slices_Min_Sint_int_2 (K : Kont) (s0 : Self) (v0 : Value) (v3 : Value) (v4 : Value) (d : Nat → Value) (h : Hp) : Prop :=
  oLen 0 v0 h fun t14 h1 =>
  oBin .lss v4 t14 h1 fun t15 h2 =>
  oIf t15
  (oIdxS 1 v0 v4 h2 fun t21 h3 =>
  oLd1 t21 h3 fun t22 h4 =>
  oMinMax false [v3, t22] h4 fun t23 h5 =>
  oBin .add v4 (Go.Value.int Go.IntKind.i64 1) h5 fun t17 h6 =>
  s0 (E_slices_Min_Sint_int_2 v0 t23 t17 (dl [v0, (d 1), (d 2), t23, t17, (d 5), (d 6), (d 7), (d 8), (d 9), (d 10), (d 11), v4, v0, t14, t15, v4, t17, v3, v0, v4, t21, t22, t23, (d 24)])) h6)
  (K v3 h2)
theorem ga_slices_Min_Sint_int_2 (Qv : Post) (v0 : Value) (v3 : Value) (v4 : Value) (d : Nat → Value) (h : Hp) : aw Try.prog O_slices_Min_Sint_int K_slices_Min_Sint_int_3 Qv (E_slices_Min_Sint_int_2 v0 v3 v4 d) h = (oLen 0 v0 h fun t14 h1 =>
  oBin .lss v4 t14 h1 fun t15 h2 =>
  oIf t15
  (oIdxS 1 v0 v4 h2 fun t21 h3 =>
  oLd1 t21 h3 fun t22 h4 =>
  oMinMax false [v3, t22] h4 fun t23 h5 =>
  oBin .add v4 (Go.Value.int Go.IntKind.i64 1) h5 fun t17 h6 =>
  Qv .normal [v0, (d 1), (d 2), t23, t17, (d 5), (d 6), (d 7), (d 8), (d 9), (d 10), (d 11), v4, v0, t14, t15, v4, t17, v3, v0, v4, t21, t22, t23, (d 24)] h6)
  ((qSeq (aw Try.prog O_slices_Min_Sint_int K_slices_Min_Sint_int_4 Qv) Qv) (.exit 0) [v0, (d 1), (d 2), v3, v4, (d 5), (d 6), (d 7), (d 8), (d 9), (d 10), (d 11), v4, v0, t14, t15, (d 16), (d 17), (d 18), (d 19), (d 20), (d 21), (d 22), (d 23), (d 24)] h2)) := by kernel_rfl
theorem gb_slices_Min_Sint_int_2 (K : Kont) (s0 : Self) (v0 : Value) (v3 : Value) (v4 : Value) (d : Nat → Value) (h : Hp) : (oLen 0 v0 h fun t14 h1 =>
  oBin .lss v4 t14 h1 fun t15 h2 =>
  oIf t15
  (oIdxS 1 v0 v4 h2 fun t21 h3 =>
  oLd1 t21 h3 fun t22 h4 =>
  oMinMax false [v3, t22] h4 fun t23 h5 =>
  oBin .add v4 (Go.Value.int Go.IntKind.i64 1) h5 fun t17 h6 =>
  (Q_slices_Min_Sint_int_2 K s0) .normal [v0, (d 1), (d 2), t23, t17, (d 5), (d 6), (d 7), (d 8), (d 9), (d 10), (d 11), v4, v0, t14, t15, v4, t17, v3, v0, v4, t21, t22, t23, (d 24)] h6)
  ((qSeq (aw Try.prog O_slices_Min_Sint_int K_slices_Min_Sint_int_4 (Q_slices_Min_Sint_int_2 K s0)) (Q_slices_Min_Sint_int_2 K s0)) (.exit 0) [v0, (d 1), (d 2), v3, v4, (d 5), (d 6), (d 7), (d 8), (d 9), (d 10), (d 11), v4, v0, t14, t15, (d 16), (d 17), (d 18), (d 19), (d 20), (d 21), (d 22), (d 23), (d 24)] h2)) = B_slices_Min_Sint_int_2 K s0 v0 v3 v4 d h := by kernel_rfl
theorem beq_slices_Min_Sint_int_2 (K : Kont) (s0 : Self) (v0 : Value) (v3 : Value) (v4 : Value) (d : Nat → Value) (h : Hp) : aw Try.prog O_slices_Min_Sint_int K_slices_Min_Sint_int_3 (Q_slices_Min_Sint_int_2 K s0) (E_slices_Min_Sint_int_2 v0 v3 v4 d) h = B_slices_Min_Sint_int_2 K s0 v0 v3 v4 d h := (ga_slices_Min_Sint_int_2 _ v0 v3 v4 d h).trans (gb_slices_Min_Sint_int_2 K s0 v0 v3 v4 d h)
theorem rule_slices_Min_Sint_int_2 {K : Kont} {v0 : Value} (Inv : Value → Value → Hp → Prop) (μ : Value → Value → Hp → Nat)
    (step : ∀ (s0 : Self) (v3 : Value) (v4 : Value) (d : Nat → Value) (h : Hp), Inv v3 v4 h → (∀ (v3' : Value) (v4' : Value) (d' : Nat → Value) (h' : Hp), Inv v3' v4' h' → μ v3' v4' h' < μ v3 v4 h → s0 (E_slices_Min_Sint_int_2 v0 v3' v4' d') h') → B_slices_Min_Sint_int_2 K s0 v0 v3 v4 d h) (v3 : Value) (v4 : Value) (d : Nat → Value) (h : Hp) (hi : Inv v3 v4 h) : G_slices_Min_Sint_int_2 K v0 v3 v4 d h :=
  oLoop_rule (α := Value × Value × (Nat → Value)) (fun x => E_slices_Min_Sint_int_2 v0 x.1 x.2.1 x.2.2) (fun x h => Inv x.1 x.2.1 h) (fun x h => μ x.1 x.2.1 h)
    (fun self x h hx hs => (beq_slices_Min_Sint_int_2 K self v0 x.1 x.2.1 x.2.2 h).mpr (step self x.1 x.2.1 x.2.2 h hx (fun v3' v4' d' h' h1 h2 => hs ⟨v3', v4', d'⟩ h' h1 h2))) ⟨v3, v4, d⟩ h hi

/-! ### maps.Keys[map[int]catenary/api.Vote,int,catenary/api.Vote]: function 49 -/
def O_maps_Keys_map_int_api_Vote_int_api_Vote : Od := []
def G_maps_Keys_map_int_api_Vote_int_api_Vote (a0 : Value) (h : Hp) (K : Kont) : Prop :=
  oBox a0 h fun t1 h1 =>
  K (.func (Go.Fn.func 76) #[] #[t1]) h1
theorem ga_maps_Keys_map_int_api_Vote_int_api_Vote (Qv : Post) (a0 : Value) (h : Hp) : aw Try.prog O_maps_Keys_map_int_api_Vote_int_api_Vote (bodyC Try.f49) Qv [a0, undef, undef, undef] h = (oBox a0 h fun t1 h1 =>
  Qv .ret [a0, t1, (.func (Go.Fn.func 76) #[] #[t1]), (.func (Go.Fn.func 76) #[] #[t1])] h1) := by kernel_rfl
theorem gb_maps_Keys_map_int_api_Vote_int_api_Vote (a0 : Value) (h : Hp) (K : Kont) : (oBox a0 h fun t1 h1 =>
  (qTop Try.prog Try.f49 K) .ret [a0, t1, (.func (Go.Fn.func 76) #[] #[t1]), (.func (Go.Fn.func 76) #[] #[t1])] h1) = G_maps_Keys_map_int_api_Vote_int_api_Vote a0 h K := by kernel_rfl
theorem gc_maps_Keys_map_int_api_Vote_int_api_Vote (a0 : Value) (h : Hp) (K : Kont) : abody Try.prog O_maps_Keys_map_int_api_Vote_int_api_Vote Try.f49 (bodyC Try.f49) [a0] h K = aw Try.prog O_maps_Keys_map_int_api_Vote_int_api_Vote (bodyC Try.f49) (qTop Try.prog Try.f49 K) [a0, undef, undef, undef] h := by kernel_rfl
theorem eq_maps_Keys_map_int_api_Vote_int_api_Vote (a0 : Value) (h : Hp) (K : Kont) : abody Try.prog O_maps_Keys_map_int_api_Vote_int_api_Vote Try.f49 (bodyC Try.f49) [a0] h K = G_maps_Keys_map_int_api_Vote_int_api_Vote a0 h K := (gc_maps_Keys_map_int_api_Vote_int_api_Vote a0 h K).trans ((ga_maps_Keys_map_int_api_Vote_int_api_Vote _ a0 h).trans (gb_maps_Keys_map_int_api_Vote_int_api_Vote a0 h K))
theorem ok_maps_Keys_map_int_api_Vote_int_api_Vote {a0 : Value} {h : Hp} {K : Kont} (hk : G_maps_Keys_map_int_api_Vote_int_api_Vote a0 h K) : C_maps_Keys_map_int_api_Vote_int_api_Vote [a0] h K := ac_of_body prog_mixed (fn := Try.f49) Try.func49 (c := bodyC Try.f49) (by kernel_rfl) ((eq_maps_Keys_map_int_api_Vote_int_api_Vote a0 h K).mpr hk)

end Go.Proofs.Ytdolepapmpcpiaa
