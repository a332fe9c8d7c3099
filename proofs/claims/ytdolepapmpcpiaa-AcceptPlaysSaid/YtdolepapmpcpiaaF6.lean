/- What functions of the program ask of the seen heap (written by a program of this proof, vgen.py). -/
import Derived.Test.YtdolepapmpcpiaaFC
import Derived.Test.YtdolepapmpcpiaaProg
namespace Go.Proofs.Ytdolepapmpcpiaa
open Go
set_option linter.unusedSectionVars false
variable [Base]
set_option linter.unusedVariables false
set_option maxRecDepth 100000

/-! ### catenary/catenaryref11.Put: function 50 -/
def O_catenaryref11_Put : Od := [(3, (.one 0 true (.one 1 true (.one 2 true (.one 3 true (.one 4 true (.one 5 true (.one 6 true (.one 7 true (.one 8 true (.one 9 true (.one 10 true (.one 11 true (.one 12 true (.one 13 true .nil))))))))))))))), (7, (.one 0 true (.one 1 true (.one 2 true (.one 3 true (.one 4 true (.one 5 true (.one 6 true (.one 7 true (.one 8 true (.one 9 true (.one 10 true (.one 11 true (.one 12 true (.one 13 true .nil)))))))))))))))]
noncomputable def K_catenaryref11_Put_0 : Code := (cI (cA (cB (cB (cB (bodyC Try.f50))))))
noncomputable def K_catenaryref11_Put_1 : Code := (cB (cB (cB (cB (bodyC Try.f50)))))
def Q_catenaryref11_Put_0 (K : Kont) : Post := qSeq (aw Try.prog O_catenaryref11_Put K_catenaryref11_Put_1 (qTop Try.prog Try.f50 K)) (qTop Try.prog Try.f50 K)
def Q_catenaryref11_Put_1 (K : Kont) : Post := qBlk 0 (Q_catenaryref11_Put_0 K)
def E_catenaryref11_Put_1 (v0 : Value) (v3 : Value) (v5 : Value) (v6 : Value) (d : Nat → Value) : List Value := [v0, d 1, d 2, v3, d 4, v5, v6, d 7, d 8, d 9, d 10, d 11, d 12, d 13, d 14, d 15, d 16, d 17, d 18, d 19, d 20, d 21, d 22, d 23, d 24, d 25, d 26, d 27, d 28, d 29, d 30, d 31, d 32, d 33, d 34, d 35, d 36, d 37, d 38, d 39, d 40, d 41, d 42, d 43, d 44, d 45, d 46, d 47, d 48, d 49, d 50, d 51, d 52, d 53, d 54]
def G_catenaryref11_Put_1 (K : Kont) (v0 : Value) (v3 : Value) (v5 : Value) (v6 : Value) (d : Nat → Value) (h : Hp) : Prop := aw Try.prog O_catenaryref11_Put K_catenaryref11_Put_0 (Q_catenaryref11_Put_1 K) (E_catenaryref11_Put_1 v0 v3 v5 v6 d) h
def Q_catenaryref11_Put_2 (K : Kont) (s0 : Self) : Post := qSeq s0 (Q_catenaryref11_Put_1 K)
noncomputable def K_catenaryref11_Put_2 : Code := (cI (cI (cA (cB (cB (cB (bodyC Try.f50)))))))
noncomputable def K_catenaryref11_Put_3 : Code := (cB (cB (cB (cB (cB (cB (bodyC Try.f50)))))))
def E_catenaryref11_Put_2 (v0 : Value) (v5 : Value) (v6 : Value) (d : Nat → Value) : List Value := [v0, d 1, d 2, d 3, d 4, v5, v6, d 7, d 8, d 9, d 10, d 11, d 12, d 13, d 14, d 15, d 16, d 17, d 18, d 19, d 20, d 21, d 22, d 23, d 24, d 25, d 26, d 27, d 28, d 29, d 30, d 31, d 32, d 33, d 34, d 35, d 36, d 37, d 38, d 39, d 40, d 41, d 42, d 43, d 44, d 45, d 46, d 47, d 48, d 49, d 50, d 51, d 52, d 53, d 54]
def G_catenaryref11_Put_2 (K : Kont) (v0 : Value) (v5 : Value) (v6 : Value) (d : Nat → Value) (h : Hp) : Prop := aw Try.prog O_catenaryref11_Put K_catenaryref11_Put_3 (qTop Try.prog Try.f50 K) (E_catenaryref11_Put_2 v0 v5 v6 d) h
noncomputable def K_catenaryref11_Put_4 : Code := (cB (cI (cI (cA (cB (cB (cB (bodyC Try.f50))))))))
def G_catenaryref11_Put (a0 a1 : Value) (h : Hp) (K : Kont) : Prop :=
  oBox a1 h fun t3 h1 =>
  G_catenaryref11_Put_1 K a0 t3 (Go.Value.slice none 0 0) (Go.Value.int Go.IntKind.i64 0) (dl [a0, a1, undef, t3, (Go.Value.slice none 0 0), (Go.Value.slice none 0 0), (Go.Value.int Go.IntKind.i64 0), undef, undef, undef, undef, undef, undef, undef, undef, undef, undef, undef, undef, undef, undef, undef, undef, undef, undef, undef, undef, undef, undef, undef, undef, undef, undef, undef, undef, undef, undef, undef, undef, undef, undef, undef, undef, undef, undef, undef, undef, undef, undef, undef, undef, undef, undef, undef, undef]) h1
theorem ga_catenaryref11_Put (Qv : Post) (a0 a1 : Value) (h : Hp) : aw Try.prog O_catenaryref11_Put (bodyC Try.f50) Qv [a0, a1, undef, undef, undef, undef, undef, undef, undef, undef, undef, undef, undef, undef, undef, undef, undef, undef, undef, undef, undef, undef, undef, undef, undef, undef, undef, undef, undef, undef, undef, undef, undef, undef, undef, undef, undef, undef, undef, undef, undef, undef, undef, undef, undef, undef, undef, undef, undef, undef, undef, undef, undef, undef, undef] h = (oBox a1 h fun t3 h1 =>
  aw Try.prog O_catenaryref11_Put K_catenaryref11_Put_0 (qBlk 0 (qSeq (aw Try.prog O_catenaryref11_Put K_catenaryref11_Put_1 Qv) Qv)) [a0, a1, undef, t3, (Go.Value.slice none 0 0), (Go.Value.slice none 0 0), (Go.Value.int Go.IntKind.i64 0), undef, undef, undef, undef, undef, undef, undef, undef, undef, undef, undef, undef, undef, undef, undef, undef, undef, undef, undef, undef, undef, undef, undef, undef, undef, undef, undef, undef, undef, undef, undef, undef, undef, undef, undef, undef, undef, undef, undef, undef, undef, undef, undef, undef, undef, undef, undef, undef] h1) := by kernel_rfl
theorem gb_catenaryref11_Put (a0 a1 : Value) (h : Hp) (K : Kont) : (oBox a1 h fun t3 h1 =>
  aw Try.prog O_catenaryref11_Put K_catenaryref11_Put_0 (qBlk 0 (qSeq (aw Try.prog O_catenaryref11_Put K_catenaryref11_Put_1 (qTop Try.prog Try.f50 K)) (qTop Try.prog Try.f50 K))) [a0, a1, undef, t3, (Go.Value.slice none 0 0), (Go.Value.slice none 0 0), (Go.Value.int Go.IntKind.i64 0), undef, undef, undef, undef, undef, undef, undef, undef, undef, undef, undef, undef, undef, undef, undef, undef, undef, undef, undef, undef, undef, undef, undef, undef, undef, undef, undef, undef, undef, undef, undef, undef, undef, undef, undef, undef, undef, undef, undef, undef, undef, undef, undef, undef, undef, undef, undef, undef] h1) = G_catenaryref11_Put a0 a1 h K := by kernel_rfl
theorem gc_catenaryref11_Put (a0 a1 : Value) (h : Hp) (K : Kont) : abody Try.prog O_catenaryref11_Put Try.f50 (bodyC Try.f50) [a0, a1] h K = aw Try.prog O_catenaryref11_Put (bodyC Try.f50) (qTop Try.prog Try.f50 K) [a0, a1, undef, undef, undef, undef, undef, undef, undef, undef, undef, undef, undef, undef, undef, undef, undef, undef, undef, undef, undef, undef, undef, undef, undef, undef, undef, undef, undef, undef, undef, undef, undef, undef, undef, undef, undef, undef, undef, undef, undef, undef, undef, undef, undef, undef, undef, undef, undef, undef, undef, undef, undef, undef, undef] h := by kernel_rfl
theorem eq_catenaryref11_Put (a0 a1 : Value) (h : Hp) (K : Kont) : abody Try.prog O_catenaryref11_Put Try.f50 (bodyC Try.f50) [a0, a1] h K = G_catenaryref11_Put a0 a1 h K := (gc_catenaryref11_Put a0 a1 h K).trans ((ga_catenaryref11_Put _ a0 a1 h).trans (gb_catenaryref11_Put a0 a1 h K))
theorem ok_catenaryref11_Put {a0 a1 : Value} {h : Hp} {K : Kont} (hk : G_catenaryref11_Put a0 a1 h K) : C_catenaryref11_Put [a0, a1] h K := ac_of_body prog_mixed (fn := Try.f50) Try.func50 (c := bodyC Try.f50) (by kernel_rfl) ((eq_catenaryref11_Put a0 a1 h K).mpr hk)
def B_catenaryref11_Put_1 (K : Kont) (s0 : Self) (v0 : Value) (v3 : Value) (v5 : Value) (v6 : Value) (d : Nat → Value) (h : Hp) : Prop :=
  oLen 0 v0 h fun t9 h1 =>
  oBin .lss v6 t9 h1 fun t10 h2 =>
  oGuard t10 true (fun K => K v0 h2) h2 fun t12 h3 =>
  oGuard t10 true (fun K => K v6 h3) h3 fun t13 h4 =>
  oGuard t10 true (fun K => oIdxS 6 t12 t13 h4 K) h4 fun t14 h5 =>
  oGuard t10 true (fun K => oFieldAddr 0 t14 h5 K) h5 fun t15 h6 =>
  oGuard t10 true (fun K => oLd1 t15 h6 K) h6 fun t16 h7 =>
  oGuard t10 true (fun K => oFieldAddr 0 v3 h7 K) h7 fun t17 h8 =>
  oGuard t10 true (fun K => oLd1 t17 h8 K) h8 fun t18 h9 =>
  oGuard t10 true (fun K => oBin .lss t16 t18 h9 K) h9 fun t19 h10 =>
  oPick t10 t19 (Go.Value.bool false) h10 fun t20 h11 =>
  oIf t20
  (oIdxS 6 v0 v6 h11 fun t24 h12 =>
  oLdN 6 t24 h12 fun t25 h13 =>
  oBuildSlice #[.int .i64 0, .int .u64 0, .int .i64 0, .int .i64 0, .int .u64 0, .int .i64 0] 1 [(0 * 6, 6, t25)] h13 fun t26 h14 =>
  oAppend 6 48 #[.int .i64 0, .int .u64 0, .int .i64 0, .int .i64 0, .int .u64 0, .int .i64 0] v5 t26 h14 fun t27 h15 =>
  oBin .add v6 (Go.Value.int Go.IntKind.i64 1) h15 fun t29 h16 =>
  s0 (E_catenaryref11_Put_1 v0 v3 t27 t29 (dl [v0, (d 1), (d 2), v3, (d 4), t27, t29, v6, v0, t9, t10, t10, t12, t13, t14, t15, t16, t17, t18, t19, t20, v5, v0, v6, t24, t25, t26, t27, v6, t29, (d 30), (d 31), (d 32), (d 33), (d 34), (d 35), (d 36), (d 37), (d 38), (d 39), (d 40), (d 41), (d 42), (d 43), (d 44), (d 45), (d 46), (d 47), (d 48), (d 49), (d 50), (d 51), (d 52), (d 53), (d 54)])) h16)
  (oLdN 6 v3 h11 fun t31 h17 =>
  oBuildSlice #[.int .i64 0, .int .u64 0, .int .i64 0, .int .i64 0, .int .u64 0, .int .i64 0] 1 [(0 * 6, 6, t31)] h17 fun t32 h18 =>
  oAppend 6 48 #[.int .i64 0, .int .u64 0, .int .i64 0, .int .i64 0, .int .u64 0, .int .i64 0] v5 t32 h18 fun t33 h19 =>
  oLen 0 v0 h19 fun t36 h20 =>
  oBin .lss v6 t36 h20 fun t37 h21 =>
  oGuard t37 true (fun K => K v0 h21) h21 fun t39 h22 =>
  oGuard t37 true (fun K => K v6 h22) h22 fun t40 h23 =>
  oGuard t37 true (fun K => oIdxS 6 t39 t40 h23 K) h23 fun t41 h24 =>
  oGuard t37 true (fun K => oFieldAddr 0 t41 h24 K) h24 fun t42 h25 =>
  oGuard t37 true (fun K => oLd1 t42 h25 K) h25 fun t43 h26 =>
  oGuard t37 true (fun K => oFieldAddr 0 v3 h26 K) h26 fun t44 h27 =>
  oGuard t37 true (fun K => oLd1 t44 h27 K) h27 fun t45 h28 =>
  oGuard t37 true (fun K => oBin .eql t43 t45 h28 K) h28 fun t46 h29 =>
  oPick t37 t46 (Go.Value.bool false) h29 fun t47 h30 =>
  oIf t47
  (oBin .add v6 (Go.Value.int Go.IntKind.i64 1) h30 fun t49 h31 =>
  G_catenaryref11_Put_2 K v0 t33 t49 (dl [v0, (d 1), (d 2), v3, (d 4), t33, t49, v6, v0, t9, t10, t10, t12, t13, t14, t15, t16, t17, t18, t19, t20, (d 21), (d 22), (d 23), (d 24), (d 25), (d 26), (d 27), (d 28), (d 29), v5, t31, t32, t33, v6, v0, t36, t37, t37, t39, t40, t41, t42, t43, t44, t45, t46, t47, v6, t49, (d 50), (d 51), (d 52), (d 53), (d 54)]) h31)
  (G_catenaryref11_Put_2 K v0 t33 v6 (dl [v0, (d 1), (d 2), v3, (d 4), t33, v6, v6, v0, t9, t10, t10, t12, t13, t14, t15, t16, t17, t18, t19, t20, (d 21), (d 22), (d 23), (d 24), (d 25), (d 26), (d 27), (d 28), (d 29), v5, t31, t32, t33, v6, v0, t36, t37, t37, t39, t40, t41, t42, t43, t44, t45, t46, t47, (d 48), (d 49), (d 50), (d 51), (d 52), (d 53), (d 54)]) h30))
theorem ga_catenaryref11_Put_1 (Qv : Post) (v0 : Value) (v3 : Value) (v5 : Value) (v6 : Value) (d : Nat → Value) (h : Hp) : aw Try.prog O_catenaryref11_Put K_catenaryref11_Put_2 Qv (E_catenaryref11_Put_1 v0 v3 v5 v6 d) h = (oLen 0 v0 h fun t9 h1 =>
  oBin .lss v6 t9 h1 fun t10 h2 =>
  oGuard t10 true (fun K => K v0 h2) h2 fun t12 h3 =>
  oGuard t10 true (fun K => K v6 h3) h3 fun t13 h4 =>
  oGuard t10 true (fun K => oIdxS 6 t12 t13 h4 K) h4 fun t14 h5 =>
  oGuard t10 true (fun K => oFieldAddr 0 t14 h5 K) h5 fun t15 h6 =>
  oGuard t10 true (fun K => oLd1 t15 h6 K) h6 fun t16 h7 =>
  oGuard t10 true (fun K => oFieldAddr 0 v3 h7 K) h7 fun t17 h8 =>
  oGuard t10 true (fun K => oLd1 t17 h8 K) h8 fun t18 h9 =>
  oGuard t10 true (fun K => oBin .lss t16 t18 h9 K) h9 fun t19 h10 =>
  oPick t10 t19 (Go.Value.bool false) h10 fun t20 h11 =>
  oIf t20
  (oIdxS 6 v0 v6 h11 fun t24 h12 =>
  oLdN 6 t24 h12 fun t25 h13 =>
  oBuildSlice #[.int .i64 0, .int .u64 0, .int .i64 0, .int .i64 0, .int .u64 0, .int .i64 0] 1 [(0 * 6, 6, t25)] h13 fun t26 h14 =>
  oAppend 6 48 #[.int .i64 0, .int .u64 0, .int .i64 0, .int .i64 0, .int .u64 0, .int .i64 0] v5 t26 h14 fun t27 h15 =>
  oBin .add v6 (Go.Value.int Go.IntKind.i64 1) h15 fun t29 h16 =>
  (qBlk 1 Qv) .normal [v0, (d 1), (d 2), v3, (d 4), t27, t29, v6, v0, t9, t10, t10, t12, t13, t14, t15, t16, t17, t18, t19, t20, v5, v0, v6, t24, t25, t26, t27, v6, t29, (d 30), (d 31), (d 32), (d 33), (d 34), (d 35), (d 36), (d 37), (d 38), (d 39), (d 40), (d 41), (d 42), (d 43), (d 44), (d 45), (d 46), (d 47), (d 48), (d 49), (d 50), (d 51), (d 52), (d 53), (d 54)] h16)
  ((qSeq (aw Try.prog O_catenaryref11_Put K_catenaryref11_Put_4 Qv) Qv) (.exit 0) [v0, (d 1), (d 2), v3, (d 4), v5, v6, v6, v0, t9, t10, t10, t12, t13, t14, t15, t16, t17, t18, t19, t20, (d 21), (d 22), (d 23), (d 24), (d 25), (d 26), (d 27), (d 28), (d 29), (d 30), (d 31), (d 32), (d 33), (d 34), (d 35), (d 36), (d 37), (d 38), (d 39), (d 40), (d 41), (d 42), (d 43), (d 44), (d 45), (d 46), (d 47), (d 48), (d 49), (d 50), (d 51), (d 52), (d 53), (d 54)] h11)) := by kernel_rfl
theorem gb_catenaryref11_Put_1 (K : Kont) (s0 : Self) (v0 : Value) (v3 : Value) (v5 : Value) (v6 : Value) (d : Nat → Value) (h : Hp) : (oLen 0 v0 h fun t9 h1 =>
  oBin .lss v6 t9 h1 fun t10 h2 =>
  oGuard t10 true (fun K => K v0 h2) h2 fun t12 h3 =>
  oGuard t10 true (fun K => K v6 h3) h3 fun t13 h4 =>
  oGuard t10 true (fun K => oIdxS 6 t12 t13 h4 K) h4 fun t14 h5 =>
  oGuard t10 true (fun K => oFieldAddr 0 t14 h5 K) h5 fun t15 h6 =>
  oGuard t10 true (fun K => oLd1 t15 h6 K) h6 fun t16 h7 =>
  oGuard t10 true (fun K => oFieldAddr 0 v3 h7 K) h7 fun t17 h8 =>
  oGuard t10 true (fun K => oLd1 t17 h8 K) h8 fun t18 h9 =>
  oGuard t10 true (fun K => oBin .lss t16 t18 h9 K) h9 fun t19 h10 =>
  oPick t10 t19 (Go.Value.bool false) h10 fun t20 h11 =>
  oIf t20
  (oIdxS 6 v0 v6 h11 fun t24 h12 =>
  oLdN 6 t24 h12 fun t25 h13 =>
  oBuildSlice #[.int .i64 0, .int .u64 0, .int .i64 0, .int .i64 0, .int .u64 0, .int .i64 0] 1 [(0 * 6, 6, t25)] h13 fun t26 h14 =>
  oAppend 6 48 #[.int .i64 0, .int .u64 0, .int .i64 0, .int .i64 0, .int .u64 0, .int .i64 0] v5 t26 h14 fun t27 h15 =>
  oBin .add v6 (Go.Value.int Go.IntKind.i64 1) h15 fun t29 h16 =>
  (qBlk 1 (Q_catenaryref11_Put_2 K s0)) .normal [v0, (d 1), (d 2), v3, (d 4), t27, t29, v6, v0, t9, t10, t10, t12, t13, t14, t15, t16, t17, t18, t19, t20, v5, v0, v6, t24, t25, t26, t27, v6, t29, (d 30), (d 31), (d 32), (d 33), (d 34), (d 35), (d 36), (d 37), (d 38), (d 39), (d 40), (d 41), (d 42), (d 43), (d 44), (d 45), (d 46), (d 47), (d 48), (d 49), (d 50), (d 51), (d 52), (d 53), (d 54)] h16)
  ((qSeq (aw Try.prog O_catenaryref11_Put K_catenaryref11_Put_4 (Q_catenaryref11_Put_2 K s0)) (Q_catenaryref11_Put_2 K s0)) (.exit 0) [v0, (d 1), (d 2), v3, (d 4), v5, v6, v6, v0, t9, t10, t10, t12, t13, t14, t15, t16, t17, t18, t19, t20, (d 21), (d 22), (d 23), (d 24), (d 25), (d 26), (d 27), (d 28), (d 29), (d 30), (d 31), (d 32), (d 33), (d 34), (d 35), (d 36), (d 37), (d 38), (d 39), (d 40), (d 41), (d 42), (d 43), (d 44), (d 45), (d 46), (d 47), (d 48), (d 49), (d 50), (d 51), (d 52), (d 53), (d 54)] h11)) = B_catenaryref11_Put_1 K s0 v0 v3 v5 v6 d h := by kernel_rfl
theorem beq_catenaryref11_Put_1 (K : Kont) (s0 : Self) (v0 : Value) (v3 : Value) (v5 : Value) (v6 : Value) (d : Nat → Value) (h : Hp) : aw Try.prog O_catenaryref11_Put K_catenaryref11_Put_2 (Q_catenaryref11_Put_2 K s0) (E_catenaryref11_Put_1 v0 v3 v5 v6 d) h = B_catenaryref11_Put_1 K s0 v0 v3 v5 v6 d h := (ga_catenaryref11_Put_1 _ v0 v3 v5 v6 d h).trans (gb_catenaryref11_Put_1 K s0 v0 v3 v5 v6 d h)
theorem rule_catenaryref11_Put_1 {K : Kont} {v0 : Value} {v3 : Value} (Inv : Value → Value → Hp → Prop) (μ : Value → Value → Hp → Nat)
    (step : ∀ (s0 : Self) (v5 : Value) (v6 : Value) (d : Nat → Value) (h : Hp), Inv v5 v6 h → (∀ (v5' : Value) (v6' : Value) (d' : Nat → Value) (h' : Hp), Inv v5' v6' h' → μ v5' v6' h' < μ v5 v6 h → s0 (E_catenaryref11_Put_1 v0 v3 v5' v6' d') h') → B_catenaryref11_Put_1 K s0 v0 v3 v5 v6 d h) (v5 : Value) (v6 : Value) (d : Nat → Value) (h : Hp) (hi : Inv v5 v6 h) : G_catenaryref11_Put_1 K v0 v3 v5 v6 d h :=
  oLoop_rule (α := Value × Value × (Nat → Value)) (fun x => E_catenaryref11_Put_1 v0 v3 x.1 x.2.1 x.2.2) (fun x h => Inv x.1 x.2.1 h) (fun x h => μ x.1 x.2.1 h)
    (fun self x h hx hs => (beq_catenaryref11_Put_1 K self v0 v3 x.1 x.2.1 x.2.2 h).mpr (step self x.1 x.2.1 x.2.2 h hx (fun v5' v6' d' h' h1 h2 => hs ⟨v5', v6', d'⟩ h' h1 h2))) ⟨v5, v6, d⟩ h hi
def R_catenaryref11_Put_2 (K : Kont) (v0 : Value) (v5 : Value) (v6 : Value) (d : Nat → Value) (h : Hp) : Prop :=
  oSlice 0 6 v0 (some v6) none none h fun t53 h1 =>
  oAppend 6 48 #[.int .i64 0, .int .u64 0, .int .i64 0, .int .i64 0, .int .u64 0, .int .i64 0] v5 t53 h1 fun t54 h2 =>
  K t54 h2
theorem ga_catenaryref11_Put_2 (Qv : Post) (v0 : Value) (v5 : Value) (v6 : Value) (d : Nat → Value) (h : Hp) : aw Try.prog O_catenaryref11_Put K_catenaryref11_Put_3 Qv (E_catenaryref11_Put_2 v0 v5 v6 d) h = (oSlice 0 6 v0 (some v6) none none h fun t53 h1 =>
  oAppend 6 48 #[.int .i64 0, .int .u64 0, .int .i64 0, .int .i64 0, .int .u64 0, .int .i64 0] v5 t53 h1 fun t54 h2 =>
  Qv .ret [v0, (d 1), (d 2), (d 3), t54, v5, v6, (d 7), (d 8), (d 9), (d 10), (d 11), (d 12), (d 13), (d 14), (d 15), (d 16), (d 17), (d 18), (d 19), (d 20), (d 21), (d 22), (d 23), (d 24), (d 25), (d 26), (d 27), (d 28), (d 29), (d 30), (d 31), (d 32), (d 33), (d 34), (d 35), (d 36), (d 37), (d 38), (d 39), (d 40), (d 41), (d 42), (d 43), (d 44), (d 45), (d 46), (d 47), (d 48), (d 49), v5, v0, v6, t53, t54] h2) := by kernel_rfl
theorem gb_catenaryref11_Put_2 (K : Kont) (v0 : Value) (v5 : Value) (v6 : Value) (d : Nat → Value) (h : Hp) : (oSlice 0 6 v0 (some v6) none none h fun t53 h1 =>
  oAppend 6 48 #[.int .i64 0, .int .u64 0, .int .i64 0, .int .i64 0, .int .u64 0, .int .i64 0] v5 t53 h1 fun t54 h2 =>
  (qTop Try.prog Try.f50 K) .ret [v0, (d 1), (d 2), (d 3), t54, v5, v6, (d 7), (d 8), (d 9), (d 10), (d 11), (d 12), (d 13), (d 14), (d 15), (d 16), (d 17), (d 18), (d 19), (d 20), (d 21), (d 22), (d 23), (d 24), (d 25), (d 26), (d 27), (d 28), (d 29), (d 30), (d 31), (d 32), (d 33), (d 34), (d 35), (d 36), (d 37), (d 38), (d 39), (d 40), (d 41), (d 42), (d 43), (d 44), (d 45), (d 46), (d 47), (d 48), (d 49), v5, v0, v6, t53, t54] h2) = R_catenaryref11_Put_2 K v0 v5 v6 d h := by kernel_rfl
theorem req_catenaryref11_Put_2 (K : Kont) (v0 : Value) (v5 : Value) (v6 : Value) (d : Nat → Value) (h : Hp) : G_catenaryref11_Put_2 K v0 v5 v6 d h = R_catenaryref11_Put_2 K v0 v5 v6 d h := (ga_catenaryref11_Put_2 _ v0 v5 v6 d h).trans (gb_catenaryref11_Put_2 K v0 v5 v6 d h)

/-! ### catenary/catenaryref07.Is: function 72 -/
def O_catenaryref07_Is : Od := []
def G_catenaryref07_Is (a0 : Value) (h : Hp) (K : Kont) : Prop :=
  oBin .quo a0 (Go.Value.int Go.IntKind.u64 8) h fun t7 h1 =>
  oBin .rem a0 (Go.Value.int Go.IntKind.u64 8) h1 fun t9 h2 =>
  oConvInt .i64 t9 h2 fun t10 h3 =>
  C_catenaryref07_Of [t7, t10] h3 fun t11 h4 =>
  oExtract t11 0 h4 fun t12 h5 =>
  oExtract t11 1 h5 fun t13 h6 =>
  oBin .eql t13 (Go.Value.int Go.IntKind.i64 0) h6 fun t15 h7 =>
  K t15 h7
theorem ga_catenaryref07_Is (Qv : Post) (a0 : Value) (h : Hp) : aw Try.prog O_catenaryref07_Is (bodyC Try.f72) Qv [a0, undef, undef, undef, undef, undef, undef, undef, undef, undef, undef, undef, undef, undef, undef, undef] h = (oBin .quo a0 (Go.Value.int Go.IntKind.u64 8) h fun t7 h1 =>
  oBin .rem a0 (Go.Value.int Go.IntKind.u64 8) h1 fun t9 h2 =>
  oConvInt .i64 t9 h2 fun t10 h3 =>
  C_catenaryref07_Of [t7, t10] h3 fun t11 h4 =>
  oExtract t11 0 h4 fun t12 h5 =>
  oExtract t11 1 h5 fun t13 h6 =>
  oBin .eql t13 (Go.Value.int Go.IntKind.i64 0) h6 fun t15 h7 =>
  Qv .ret [a0, undef, t15, t12, t13, t11, a0, t7, a0, t9, t10, t11, t12, t13, t13, t15] h7) := by kernel_rfl
theorem gb_catenaryref07_Is (a0 : Value) (h : Hp) (K : Kont) : (oBin .quo a0 (Go.Value.int Go.IntKind.u64 8) h fun t7 h1 =>
  oBin .rem a0 (Go.Value.int Go.IntKind.u64 8) h1 fun t9 h2 =>
  oConvInt .i64 t9 h2 fun t10 h3 =>
  C_catenaryref07_Of [t7, t10] h3 fun t11 h4 =>
  oExtract t11 0 h4 fun t12 h5 =>
  oExtract t11 1 h5 fun t13 h6 =>
  oBin .eql t13 (Go.Value.int Go.IntKind.i64 0) h6 fun t15 h7 =>
  (qTop Try.prog Try.f72 K) .ret [a0, undef, t15, t12, t13, t11, a0, t7, a0, t9, t10, t11, t12, t13, t13, t15] h7) = G_catenaryref07_Is a0 h K := by kernel_rfl
theorem gc_catenaryref07_Is (a0 : Value) (h : Hp) (K : Kont) : abody Try.prog O_catenaryref07_Is Try.f72 (bodyC Try.f72) [a0] h K = aw Try.prog O_catenaryref07_Is (bodyC Try.f72) (qTop Try.prog Try.f72 K) [a0, undef, undef, undef, undef, undef, undef, undef, undef, undef, undef, undef, undef, undef, undef, undef] h := by kernel_rfl
theorem eq_catenaryref07_Is (a0 : Value) (h : Hp) (K : Kont) : abody Try.prog O_catenaryref07_Is Try.f72 (bodyC Try.f72) [a0] h K = G_catenaryref07_Is a0 h K := (gc_catenaryref07_Is a0 h K).trans ((ga_catenaryref07_Is _ a0 h).trans (gb_catenaryref07_Is a0 h K))
theorem ok_catenaryref07_Is {a0 : Value} {h : Hp} {K : Kont} (hk : G_catenaryref07_Is a0 h K) : C_catenaryref07_Is [a0] h K := ac_of_body prog_mixed (fn := Try.f72) Try.func72 (c := bodyC Try.f72) (by kernel_rfl) ((eq_catenaryref07_Is a0 h K).mpr hk)

/-! ### catenary/catenaryref08.Check: function 73 -/
def O_catenaryref08_Check : Od := []
noncomputable def K_catenaryref08_Check_0 : Code := (cB (cB (bodyC Try.f73)))
noncomputable def K_catenaryref08_Check_1 : Code := (cB (cB (cB (bodyC Try.f73))))
noncomputable def K_catenaryref08_Check_2 : Code := (cB (cT (cB (cA (cB (cB (bodyC Try.f73)))))))
noncomputable def K_catenaryref08_Check_3 : Code := (cB (cB (cB (cB (bodyC Try.f73)))))
def G_catenaryref08_Check (a0 : Value) (h : Hp) (K : Kont) : Prop :=
  oBox a0 h fun t1 h1 =>
  oFieldAddr 0 t1 h1 fun t3 h2 =>
  oLd1 t3 h2 fun t4 h3 =>
  oBin .lss t4 (Go.Value.int Go.IntKind.i64 0) h3 fun t5 h4 =>
  oGuard t5 false (fun K => oFieldAddr 0 t1 h4 K) h4 fun t7 h5 =>
  oGuard t5 false (fun K => oLd1 t7 h5 K) h5 fun t8 h6 =>
  oGuard t5 false (fun K => oBin .gtr t8 (Go.Value.int Go.IntKind.i64 4) h6 K) h6 fun t9 h7 =>
  oPick t5 (Go.Value.bool true) t9 h7 fun t10 h8 =>
  oIf t10
  (K (Go.Value.int Go.IntKind.i64 1) h8)
  (oFieldAddr 0 t1 h8 fun t11 h9 =>
  oLd1 t11 h9 fun t12 h10 =>
  oBin .eql t12 (Go.Value.int Go.IntKind.i64 0) h10 fun t13 h11 =>
  oIf t13
  (oFieldAddr 1 t1 h11 fun t14 h12 =>
  oLd1 t14 h12 fun t15 h13 =>
  oBin .neq t15 (Go.Value.int Go.IntKind.i64 0) h13 fun t16 h14 =>
  oGuard t16 false (fun K => oFieldAddr 2 t1 h14 K) h14 fun t18 h15 =>
  oGuard t16 false (fun K => oLd1 t18 h15 K) h15 fun t19 h16 =>
  oGuard t16 false (fun K => oBin .neq t19 (Go.Value.int Go.IntKind.u64 0) h16 K) h16 fun t20 h17 =>
  oPick t16 (Go.Value.bool true) t20 h17 fun t21 h18 =>
  oGuard t21 false (fun K => oFieldAddr 3 t1 h18 K) h18 fun t23 h19 =>
  oGuard t21 false (fun K => oLd1 t23 h19 K) h19 fun t24 h20 =>
  oGuard t21 false (fun K => oBin .neq t24 (Go.Value.int Go.IntKind.i64 0) h20 K) h20 fun t25 h21 =>
  oPick t21 (Go.Value.bool true) t25 h21 fun t26 h22 =>
  oIf t26
  (K (Go.Value.int Go.IntKind.i64 4) h22)
  (K (Go.Value.int Go.IntKind.i64 0) h22))
  (oFieldAddr 1 t1 h11 fun t27 h23 =>
  oLd1 t27 h23 fun t28 h24 =>
  oBin .lss t28 (Go.Value.int Go.IntKind.i64 0) h24 fun t29 h25 =>
  oGuard t29 false (fun K => oFieldAddr 1 t1 h25 K) h25 fun t31 h26 =>
  oGuard t29 false (fun K => oLd1 t31 h26 K) h26 fun t32 h27 =>
  oGuard t29 false (fun K => oBin .gtr t32 (Go.Value.int Go.IntKind.i64 3) h27 K) h27 fun t33 h28 =>
  oPick t29 (Go.Value.bool true) t33 h28 fun t34 h29 =>
  oGuard t34 false (fun K => oFieldAddr 2 t1 h29 K) h29 fun t36 h30 =>
  oGuard t34 false (fun K => oLd1 t36 h30 K) h30 fun t37 h31 =>
  oGuard t34 false (fun K => oBin .eql t37 (Go.Value.int Go.IntKind.u64 0) h31 K) h31 fun t38 h32 =>
  oPick t34 (Go.Value.bool true) t38 h32 fun t39 h33 =>
  oGuard t39 false (fun K => oFieldAddr 3 t1 h33 K) h33 fun t41 h34 =>
  oGuard t39 false (fun K => oLd1 t41 h34 K) h34 fun t42 h35 =>
  oGuard t39 false (fun K => oBin .lss t42 (Go.Value.int Go.IntKind.i64 1) h35 K) h35 fun t43 h36 =>
  oPick t39 (Go.Value.bool true) t43 h36 fun t44 h37 =>
  oGuard t44 false (fun K => oFieldAddr 3 t1 h37 K) h37 fun t46 h38 =>
  oGuard t44 false (fun K => oLd1 t46 h38 K) h38 fun t47 h39 =>
  oGuard t44 false (fun K => oBin .gtr t47 (Go.Value.int Go.IntKind.i64 24) h39 K) h39 fun t48 h40 =>
  oPick t44 (Go.Value.bool true) t48 h40 fun t49 h41 =>
  oIf t49
  (K (Go.Value.int Go.IntKind.i64 4) h41)
  (K (Go.Value.int Go.IntKind.i64 0) h41)))
theorem ga_catenaryref08_Check (Qv : Post) (a0 : Value) (h : Hp) : aw Try.prog O_catenaryref08_Check (bodyC Try.f73) Qv [a0, undef, undef, undef, undef, undef, undef, undef, undef, undef, undef, undef, undef, undef, undef, undef, undef, undef, undef, undef, undef, undef, undef, undef, undef, undef, undef, undef, undef, undef, undef, undef, undef, undef, undef, undef, undef, undef, undef, undef, undef, undef, undef, undef, undef, undef, undef, undef, undef, undef] h = (oBox a0 h fun t1 h1 =>
  oFieldAddr 0 t1 h1 fun t3 h2 =>
  oLd1 t3 h2 fun t4 h3 =>
  oBin .lss t4 (Go.Value.int Go.IntKind.i64 0) h3 fun t5 h4 =>
  oGuard t5 false (fun K => oFieldAddr 0 t1 h4 K) h4 fun t7 h5 =>
  oGuard t5 false (fun K => oLd1 t7 h5 K) h5 fun t8 h6 =>
  oGuard t5 false (fun K => oBin .gtr t8 (Go.Value.int Go.IntKind.i64 4) h6 K) h6 fun t9 h7 =>
  oPick t5 (Go.Value.bool true) t9 h7 fun t10 h8 =>
  oIf t10
  ((qSeq (aw Try.prog O_catenaryref08_Check K_catenaryref08_Check_0 Qv) Qv) .ret [a0, t1, (Go.Value.int Go.IntKind.i64 1), t3, t4, t5, t5, t7, t8, t9, t10, undef, undef, undef, undef, undef, undef, undef, undef, undef, undef, undef, undef, undef, undef, undef, undef, undef, undef, undef, undef, undef, undef, undef, undef, undef, undef, undef, undef, undef, undef, undef, undef, undef, undef, undef, undef, undef, undef, undef] h8)
  (oFieldAddr 0 t1 h8 fun t11 h9 =>
  oLd1 t11 h9 fun t12 h10 =>
  oBin .eql t12 (Go.Value.int Go.IntKind.i64 0) h10 fun t13 h11 =>
  oIf t13
  (oFieldAddr 1 t1 h11 fun t14 h12 =>
  oLd1 t14 h12 fun t15 h13 =>
  oBin .neq t15 (Go.Value.int Go.IntKind.i64 0) h13 fun t16 h14 =>
  oGuard t16 false (fun K => oFieldAddr 2 t1 h14 K) h14 fun t18 h15 =>
  oGuard t16 false (fun K => oLd1 t18 h15 K) h15 fun t19 h16 =>
  oGuard t16 false (fun K => oBin .neq t19 (Go.Value.int Go.IntKind.u64 0) h16 K) h16 fun t20 h17 =>
  oPick t16 (Go.Value.bool true) t20 h17 fun t21 h18 =>
  oGuard t21 false (fun K => oFieldAddr 3 t1 h18 K) h18 fun t23 h19 =>
  oGuard t21 false (fun K => oLd1 t23 h19 K) h19 fun t24 h20 =>
  oGuard t21 false (fun K => oBin .neq t24 (Go.Value.int Go.IntKind.i64 0) h20 K) h20 fun t25 h21 =>
  oPick t21 (Go.Value.bool true) t25 h21 fun t26 h22 =>
  oIf t26
  ((qSeq (aw Try.prog O_catenaryref08_Check K_catenaryref08_Check_2 (qSeq (aw Try.prog O_catenaryref08_Check K_catenaryref08_Check_1 Qv) Qv)) (qSeq (aw Try.prog O_catenaryref08_Check K_catenaryref08_Check_1 Qv) Qv)) .ret [a0, t1, (Go.Value.int Go.IntKind.i64 4), t3, t4, t5, t5, t7, t8, t9, t10, t11, t12, t13, t14, t15, t16, t16, t18, t19, t20, t21, t21, t23, t24, t25, t26, undef, undef, undef, undef, undef, undef, undef, undef, undef, undef, undef, undef, undef, undef, undef, undef, undef, undef, undef, undef, undef, undef, undef] h22)
  ((qSeq (aw Try.prog O_catenaryref08_Check K_catenaryref08_Check_1 Qv) Qv) .ret [a0, t1, (Go.Value.int Go.IntKind.i64 0), t3, t4, t5, t5, t7, t8, t9, t10, t11, t12, t13, t14, t15, t16, t16, t18, t19, t20, t21, t21, t23, t24, t25, t26, undef, undef, undef, undef, undef, undef, undef, undef, undef, undef, undef, undef, undef, undef, undef, undef, undef, undef, undef, undef, undef, undef, undef] h22))
  (oFieldAddr 1 t1 h11 fun t27 h23 =>
  oLd1 t27 h23 fun t28 h24 =>
  oBin .lss t28 (Go.Value.int Go.IntKind.i64 0) h24 fun t29 h25 =>
  oGuard t29 false (fun K => oFieldAddr 1 t1 h25 K) h25 fun t31 h26 =>
  oGuard t29 false (fun K => oLd1 t31 h26 K) h26 fun t32 h27 =>
  oGuard t29 false (fun K => oBin .gtr t32 (Go.Value.int Go.IntKind.i64 3) h27 K) h27 fun t33 h28 =>
  oPick t29 (Go.Value.bool true) t33 h28 fun t34 h29 =>
  oGuard t34 false (fun K => oFieldAddr 2 t1 h29 K) h29 fun t36 h30 =>
  oGuard t34 false (fun K => oLd1 t36 h30 K) h30 fun t37 h31 =>
  oGuard t34 false (fun K => oBin .eql t37 (Go.Value.int Go.IntKind.u64 0) h31 K) h31 fun t38 h32 =>
  oPick t34 (Go.Value.bool true) t38 h32 fun t39 h33 =>
  oGuard t39 false (fun K => oFieldAddr 3 t1 h33 K) h33 fun t41 h34 =>
  oGuard t39 false (fun K => oLd1 t41 h34 K) h34 fun t42 h35 =>
  oGuard t39 false (fun K => oBin .lss t42 (Go.Value.int Go.IntKind.i64 1) h35 K) h35 fun t43 h36 =>
  oPick t39 (Go.Value.bool true) t43 h36 fun t44 h37 =>
  oGuard t44 false (fun K => oFieldAddr 3 t1 h37 K) h37 fun t46 h38 =>
  oGuard t44 false (fun K => oLd1 t46 h38 K) h38 fun t47 h39 =>
  oGuard t44 false (fun K => oBin .gtr t47 (Go.Value.int Go.IntKind.i64 24) h39 K) h39 fun t48 h40 =>
  oPick t44 (Go.Value.bool true) t48 h40 fun t49 h41 =>
  oIf t49
  ((qSeq (aw Try.prog O_catenaryref08_Check K_catenaryref08_Check_3 Qv) Qv) .ret [a0, t1, (Go.Value.int Go.IntKind.i64 4), t3, t4, t5, t5, t7, t8, t9, t10, t11, t12, t13, undef, undef, undef, undef, undef, undef, undef, undef, undef, undef, undef, undef, undef, t27, t28, t29, t29, t31, t32, t33, t34, t34, t36, t37, t38, t39, t39, t41, t42, t43, t44, t44, t46, t47, t48, t49] h41)
  (Qv .ret [a0, t1, (Go.Value.int Go.IntKind.i64 0), t3, t4, t5, t5, t7, t8, t9, t10, t11, t12, t13, undef, undef, undef, undef, undef, undef, undef, undef, undef, undef, undef, undef, undef, t27, t28, t29, t29, t31, t32, t33, t34, t34, t36, t37, t38, t39, t39, t41, t42, t43, t44, t44, t46, t47, t48, t49] h41)))) := by kernel_rfl
theorem gb_catenaryref08_Check (a0 : Value) (h : Hp) (K : Kont) : (oBox a0 h fun t1 h1 =>
  oFieldAddr 0 t1 h1 fun t3 h2 =>
  oLd1 t3 h2 fun t4 h3 =>
  oBin .lss t4 (Go.Value.int Go.IntKind.i64 0) h3 fun t5 h4 =>
  oGuard t5 false (fun K => oFieldAddr 0 t1 h4 K) h4 fun t7 h5 =>
  oGuard t5 false (fun K => oLd1 t7 h5 K) h5 fun t8 h6 =>
  oGuard t5 false (fun K => oBin .gtr t8 (Go.Value.int Go.IntKind.i64 4) h6 K) h6 fun t9 h7 =>
  oPick t5 (Go.Value.bool true) t9 h7 fun t10 h8 =>
  oIf t10
  ((qSeq (aw Try.prog O_catenaryref08_Check K_catenaryref08_Check_0 (qTop Try.prog Try.f73 K)) (qTop Try.prog Try.f73 K)) .ret [a0, t1, (Go.Value.int Go.IntKind.i64 1), t3, t4, t5, t5, t7, t8, t9, t10, undef, undef, undef, undef, undef, undef, undef, undef, undef, undef, undef, undef, undef, undef, undef, undef, undef, undef, undef, undef, undef, undef, undef, undef, undef, undef, undef, undef, undef, undef, undef, undef, undef, undef, undef, undef, undef, undef, undef] h8)
  (oFieldAddr 0 t1 h8 fun t11 h9 =>
  oLd1 t11 h9 fun t12 h10 =>
  oBin .eql t12 (Go.Value.int Go.IntKind.i64 0) h10 fun t13 h11 =>
  oIf t13
  (oFieldAddr 1 t1 h11 fun t14 h12 =>
  oLd1 t14 h12 fun t15 h13 =>
  oBin .neq t15 (Go.Value.int Go.IntKind.i64 0) h13 fun t16 h14 =>
  oGuard t16 false (fun K => oFieldAddr 2 t1 h14 K) h14 fun t18 h15 =>
  oGuard t16 false (fun K => oLd1 t18 h15 K) h15 fun t19 h16 =>
  oGuard t16 false (fun K => oBin .neq t19 (Go.Value.int Go.IntKind.u64 0) h16 K) h16 fun t20 h17 =>
  oPick t16 (Go.Value.bool true) t20 h17 fun t21 h18 =>
  oGuard t21 false (fun K => oFieldAddr 3 t1 h18 K) h18 fun t23 h19 =>
  oGuard t21 false (fun K => oLd1 t23 h19 K) h19 fun t24 h20 =>
  oGuard t21 false (fun K => oBin .neq t24 (Go.Value.int Go.IntKind.i64 0) h20 K) h20 fun t25 h21 =>
  oPick t21 (Go.Value.bool true) t25 h21 fun t26 h22 =>
  oIf t26
  ((qSeq (aw Try.prog O_catenaryref08_Check K_catenaryref08_Check_2 (qSeq (aw Try.prog O_catenaryref08_Check K_catenaryref08_Check_1 (qTop Try.prog Try.f73 K)) (qTop Try.prog Try.f73 K))) (qSeq (aw Try.prog O_catenaryref08_Check K_catenaryref08_Check_1 (qTop Try.prog Try.f73 K)) (qTop Try.prog Try.f73 K))) .ret [a0, t1, (Go.Value.int Go.IntKind.i64 4), t3, t4, t5, t5, t7, t8, t9, t10, t11, t12, t13, t14, t15, t16, t16, t18, t19, t20, t21, t21, t23, t24, t25, t26, undef, undef, undef, undef, undef, undef, undef, undef, undef, undef, undef, undef, undef, undef, undef, undef, undef, undef, undef, undef, undef, undef, undef] h22)
  ((qSeq (aw Try.prog O_catenaryref08_Check K_catenaryref08_Check_1 (qTop Try.prog Try.f73 K)) (qTop Try.prog Try.f73 K)) .ret [a0, t1, (Go.Value.int Go.IntKind.i64 0), t3, t4, t5, t5, t7, t8, t9, t10, t11, t12, t13, t14, t15, t16, t16, t18, t19, t20, t21, t21, t23, t24, t25, t26, undef, undef, undef, undef, undef, undef, undef, undef, undef, undef, undef, undef, undef, undef, undef, undef, undef, undef, undef, undef, undef, undef, undef] h22))
  (oFieldAddr 1 t1 h11 fun t27 h23 =>
  oLd1 t27 h23 fun t28 h24 =>
  oBin .lss t28 (Go.Value.int Go.IntKind.i64 0) h24 fun t29 h25 =>
  oGuard t29 false (fun K => oFieldAddr 1 t1 h25 K) h25 fun t31 h26 =>
  oGuard t29 false (fun K => oLd1 t31 h26 K) h26 fun t32 h27 =>
  oGuard t29 false (fun K => oBin .gtr t32 (Go.Value.int Go.IntKind.i64 3) h27 K) h27 fun t33 h28 =>
  oPick t29 (Go.Value.bool true) t33 h28 fun t34 h29 =>
  oGuard t34 false (fun K => oFieldAddr 2 t1 h29 K) h29 fun t36 h30 =>
  oGuard t34 false (fun K => oLd1 t36 h30 K) h30 fun t37 h31 =>
  oGuard t34 false (fun K => oBin .eql t37 (Go.Value.int Go.IntKind.u64 0) h31 K) h31 fun t38 h32 =>
  oPick t34 (Go.Value.bool true) t38 h32 fun t39 h33 =>
  oGuard t39 false (fun K => oFieldAddr 3 t1 h33 K) h33 fun t41 h34 =>
  oGuard t39 false (fun K => oLd1 t41 h34 K) h34 fun t42 h35 =>
  oGuard t39 false (fun K => oBin .lss t42 (Go.Value.int Go.IntKind.i64 1) h35 K) h35 fun t43 h36 =>
  oPick t39 (Go.Value.bool true) t43 h36 fun t44 h37 =>
  oGuard t44 false (fun K => oFieldAddr 3 t1 h37 K) h37 fun t46 h38 =>
  oGuard t44 false (fun K => oLd1 t46 h38 K) h38 fun t47 h39 =>
  oGuard t44 false (fun K => oBin .gtr t47 (Go.Value.int Go.IntKind.i64 24) h39 K) h39 fun t48 h40 =>
  oPick t44 (Go.Value.bool true) t48 h40 fun t49 h41 =>
  oIf t49
  ((qSeq (aw Try.prog O_catenaryref08_Check K_catenaryref08_Check_3 (qTop Try.prog Try.f73 K)) (qTop Try.prog Try.f73 K)) .ret [a0, t1, (Go.Value.int Go.IntKind.i64 4), t3, t4, t5, t5, t7, t8, t9, t10, t11, t12, t13, undef, undef, undef, undef, undef, undef, undef, undef, undef, undef, undef, undef, undef, t27, t28, t29, t29, t31, t32, t33, t34, t34, t36, t37, t38, t39, t39, t41, t42, t43, t44, t44, t46, t47, t48, t49] h41)
  ((qTop Try.prog Try.f73 K) .ret [a0, t1, (Go.Value.int Go.IntKind.i64 0), t3, t4, t5, t5, t7, t8, t9, t10, t11, t12, t13, undef, undef, undef, undef, undef, undef, undef, undef, undef, undef, undef, undef, undef, t27, t28, t29, t29, t31, t32, t33, t34, t34, t36, t37, t38, t39, t39, t41, t42, t43, t44, t44, t46, t47, t48, t49] h41)))) = G_catenaryref08_Check a0 h K := by kernel_rfl
theorem gc_catenaryref08_Check (a0 : Value) (h : Hp) (K : Kont) : abody Try.prog O_catenaryref08_Check Try.f73 (bodyC Try.f73) [a0] h K = aw Try.prog O_catenaryref08_Check (bodyC Try.f73) (qTop Try.prog Try.f73 K) [a0, undef, undef, undef, undef, undef, undef, undef, undef, undef, undef, undef, undef, undef, undef, undef, undef, undef, undef, undef, undef, undef, undef, undef, undef, undef, undef, undef, undef, undef, undef, undef, undef, undef, undef, undef, undef, undef, undef, undef, undef, undef, undef, undef, undef, undef, undef, undef, undef, undef] h := by kernel_rfl
theorem eq_catenaryref08_Check (a0 : Value) (h : Hp) (K : Kont) : abody Try.prog O_catenaryref08_Check Try.f73 (bodyC Try.f73) [a0] h K = G_catenaryref08_Check a0 h K := (gc_catenaryref08_Check a0 h K).trans ((ga_catenaryref08_Check _ a0 h).trans (gb_catenaryref08_Check a0 h K))
theorem ok_catenaryref08_Check {a0 : Value} {h : Hp} {K : Kont} (hk : G_catenaryref08_Check a0 h K) : C_catenaryref08_Check [a0] h K := ac_of_body prog_mixed (fn := Try.f73) Try.func73 (c := bodyC Try.f73) (by kernel_rfl) ((eq_catenaryref08_Check a0 h K).mpr hk)

/-! ### catenary/ballot.master: function 74 -/
def O_ballot_master : Od := []
def G_ballot_master (a0 : Value) (h : Hp) (K : Kont) : Prop :=
  oBin .geq a0 (Go.Value.int Go.IntKind.i64 1) h fun t4 h1 =>
  oGuard t4 true (fun K => K a0 h1) h1 fun t6 h2 =>
  oGuard t4 true (fun K => oBin .leq t6 (Go.Value.int Go.IntKind.i64 5) h2 K) h2 fun t7 h3 =>
  oPick t4 t7 (Go.Value.bool false) h3 fun t8 h4 =>
  K t8 h4
theorem ga_ballot_master (Qv : Post) (a0 : Value) (h : Hp) : aw Try.prog O_ballot_master (bodyC Try.f74) Qv [a0, undef, undef, undef, undef, undef, undef, undef, undef] h = (oBin .geq a0 (Go.Value.int Go.IntKind.i64 1) h fun t4 h1 =>
  oGuard t4 true (fun K => K a0 h1) h1 fun t6 h2 =>
  oGuard t4 true (fun K => oBin .leq t6 (Go.Value.int Go.IntKind.i64 5) h2 K) h2 fun t7 h3 =>
  oPick t4 t7 (Go.Value.bool false) h3 fun t8 h4 =>
  Qv .ret [a0, undef, t8, a0, t4, t4, t6, t7, t8] h4) := by kernel_rfl
theorem gb_ballot_master (a0 : Value) (h : Hp) (K : Kont) : (oBin .geq a0 (Go.Value.int Go.IntKind.i64 1) h fun t4 h1 =>
  oGuard t4 true (fun K => K a0 h1) h1 fun t6 h2 =>
  oGuard t4 true (fun K => oBin .leq t6 (Go.Value.int Go.IntKind.i64 5) h2 K) h2 fun t7 h3 =>
  oPick t4 t7 (Go.Value.bool false) h3 fun t8 h4 =>
  (qTop Try.prog Try.f74 K) .ret [a0, undef, t8, a0, t4, t4, t6, t7, t8] h4) = G_ballot_master a0 h K := by kernel_rfl
theorem gc_ballot_master (a0 : Value) (h : Hp) (K : Kont) : abody Try.prog O_ballot_master Try.f74 (bodyC Try.f74) [a0] h K = aw Try.prog O_ballot_master (bodyC Try.f74) (qTop Try.prog Try.f74 K) [a0, undef, undef, undef, undef, undef, undef, undef, undef] h := by kernel_rfl
theorem eq_ballot_master (a0 : Value) (h : Hp) (K : Kont) : abody Try.prog O_ballot_master Try.f74 (bodyC Try.f74) [a0] h K = G_ballot_master a0 h K := (gc_ballot_master a0 h K).trans ((ga_ballot_master _ a0 h).trans (gb_ballot_master a0 h K))
theorem ok_ballot_master {a0 : Value} {h : Hp} {K : Kont} (hk : G_ballot_master a0 h K) : C_ballot_master [a0] h K := ac_of_body prog_mixed (fn := Try.f74) Try.func74 (c := bodyC Try.f74) (by kernel_rfl) ((eq_ballot_master a0 h K).mpr hk)

/-! ### catenary/catenaryref07.Of: function 93 -/
def O_catenaryref07_Of : Od := []
noncomputable def K_catenaryref07_Of_0 : Code := (cB (cB (bodyC Try.f93)))
def G_catenaryref07_Of (a0 a1 : Value) (h : Hp) (K : Kont) : Prop :=
  oBin .lss a0 (Go.Value.int Go.IntKind.u64 1) h fun t7 h1 =>
  oGuard t7 false (fun K => K a0 h1) h1 fun t9 h2 =>
  oGuard t7 false (fun K => oBin .gtr t9 (Go.Value.int Go.IntKind.u64 1152921504606846975) h2 K) h2 fun t10 h3 =>
  oPick t7 (Go.Value.bool true) t10 h3 fun t11 h4 =>
  oGuard t11 false (fun K => K a1 h4) h4 fun t13 h5 =>
  oGuard t11 false (fun K => C_catenaryref07_Master [t13] h5 K) h5 fun t14 h6 =>
  oGuard t11 false (fun K => oNot t14 h6 K) h6 fun t15 h7 =>
  oPick t11 (Go.Value.bool true) t15 h7 fun t16 h8 =>
  oIf t16
  (K (.tuple #[(Go.Value.int Go.IntKind.u64 0), (Go.Value.int Go.IntKind.i64 1)]) h8)
  (oBin .mul a0 (Go.Value.int Go.IntKind.u64 8) h8 fun t18 h9 =>
  oConvInt .u64 a1 h9 fun t20 h10 =>
  oBin .add t18 t20 h10 fun t21 h11 =>
  K (.tuple #[t21, (Go.Value.int Go.IntKind.i64 0)]) h11)
theorem ga_catenaryref07_Of (Qv : Post) (a0 a1 : Value) (h : Hp) : aw Try.prog O_catenaryref07_Of (bodyC Try.f93) Qv [a0, a1, undef, undef, undef, undef, undef, undef, undef, undef, undef, undef, undef, undef, undef, undef, undef, undef, undef, undef, undef, undef] h = (oBin .lss a0 (Go.Value.int Go.IntKind.u64 1) h fun t7 h1 =>
  oGuard t7 false (fun K => K a0 h1) h1 fun t9 h2 =>
  oGuard t7 false (fun K => oBin .gtr t9 (Go.Value.int Go.IntKind.u64 1152921504606846975) h2 K) h2 fun t10 h3 =>
  oPick t7 (Go.Value.bool true) t10 h3 fun t11 h4 =>
  oGuard t11 false (fun K => K a1 h4) h4 fun t13 h5 =>
  oGuard t11 false (fun K => C_catenaryref07_Master [t13] h5 K) h5 fun t14 h6 =>
  oGuard t11 false (fun K => oNot t14 h6 K) h6 fun t15 h7 =>
  oPick t11 (Go.Value.bool true) t15 h7 fun t16 h8 =>
  oIf t16
  ((qSeq (aw Try.prog O_catenaryref07_Of K_catenaryref07_Of_0 Qv) Qv) .ret [a0, a1, undef, undef, (Go.Value.int Go.IntKind.u64 0), (Go.Value.int Go.IntKind.i64 1), a0, t7, t7, t9, t10, t11, t11, t13, t14, t15, t16, undef, undef, undef, undef, undef] h8)
  (oBin .mul a0 (Go.Value.int Go.IntKind.u64 8) h8 fun t18 h9 =>
  oConvInt .u64 a1 h9 fun t20 h10 =>
  oBin .add t18 t20 h10 fun t21 h11 =>
  Qv .ret [a0, a1, undef, undef, t21, (Go.Value.int Go.IntKind.i64 0), a0, t7, t7, t9, t10, t11, t11, t13, t14, t15, t16, a0, t18, a1, t20, t21] h11)) := by kernel_rfl
theorem gb_catenaryref07_Of (a0 a1 : Value) (h : Hp) (K : Kont) : (oBin .lss a0 (Go.Value.int Go.IntKind.u64 1) h fun t7 h1 =>
  oGuard t7 false (fun K => K a0 h1) h1 fun t9 h2 =>
  oGuard t7 false (fun K => oBin .gtr t9 (Go.Value.int Go.IntKind.u64 1152921504606846975) h2 K) h2 fun t10 h3 =>
  oPick t7 (Go.Value.bool true) t10 h3 fun t11 h4 =>
  oGuard t11 false (fun K => K a1 h4) h4 fun t13 h5 =>
  oGuard t11 false (fun K => C_catenaryref07_Master [t13] h5 K) h5 fun t14 h6 =>
  oGuard t11 false (fun K => oNot t14 h6 K) h6 fun t15 h7 =>
  oPick t11 (Go.Value.bool true) t15 h7 fun t16 h8 =>
  oIf t16
  ((qSeq (aw Try.prog O_catenaryref07_Of K_catenaryref07_Of_0 (qTop Try.prog Try.f93 K)) (qTop Try.prog Try.f93 K)) .ret [a0, a1, undef, undef, (Go.Value.int Go.IntKind.u64 0), (Go.Value.int Go.IntKind.i64 1), a0, t7, t7, t9, t10, t11, t11, t13, t14, t15, t16, undef, undef, undef, undef, undef] h8)
  (oBin .mul a0 (Go.Value.int Go.IntKind.u64 8) h8 fun t18 h9 =>
  oConvInt .u64 a1 h9 fun t20 h10 =>
  oBin .add t18 t20 h10 fun t21 h11 =>
  (qTop Try.prog Try.f93 K) .ret [a0, a1, undef, undef, t21, (Go.Value.int Go.IntKind.i64 0), a0, t7, t7, t9, t10, t11, t11, t13, t14, t15, t16, a0, t18, a1, t20, t21] h11)) = G_catenaryref07_Of a0 a1 h K := by kernel_rfl
theorem gc_catenaryref07_Of (a0 a1 : Value) (h : Hp) (K : Kont) : abody Try.prog O_catenaryref07_Of Try.f93 (bodyC Try.f93) [a0, a1] h K = aw Try.prog O_catenaryref07_Of (bodyC Try.f93) (qTop Try.prog Try.f93 K) [a0, a1, undef, undef, undef, undef, undef, undef, undef, undef, undef, undef, undef, undef, undef, undef, undef, undef, undef, undef, undef, undef] h := by kernel_rfl
theorem eq_catenaryref07_Of (a0 a1 : Value) (h : Hp) (K : Kont) : abody Try.prog O_catenaryref07_Of Try.f93 (bodyC Try.f93) [a0, a1] h K = G_catenaryref07_Of a0 a1 h K := (gc_catenaryref07_Of a0 a1 h K).trans ((ga_catenaryref07_Of _ a0 a1 h).trans (gb_catenaryref07_Of a0 a1 h K))
theorem ok_catenaryref07_Of {a0 a1 : Value} {h : Hp} {K : Kont} (hk : G_catenaryref07_Of a0 a1 h K) : C_catenaryref07_Of [a0, a1] h K := ac_of_body prog_mixed (fn := Try.f93) Try.func93 (c := bodyC Try.f93) (by kernel_rfl) ((eq_catenaryref07_Of a0 a1 h K).mpr hk)

/-! ### catenary/catenaryref07.Master: function 97 -/
def O_catenaryref07_Master : Od := []
def G_catenaryref07_Master (a0 : Value) (h : Hp) (K : Kont) : Prop :=
  oBin .geq a0 (Go.Value.int Go.IntKind.i64 1) h fun t4 h1 =>
  oGuard t4 true (fun K => K a0 h1) h1 fun t6 h2 =>
  oGuard t4 true (fun K => oBin .leq t6 (Go.Value.int Go.IntKind.i64 5) h2 K) h2 fun t7 h3 =>
  oPick t4 t7 (Go.Value.bool false) h3 fun t8 h4 =>
  K t8 h4
theorem ga_catenaryref07_Master (Qv : Post) (a0 : Value) (h : Hp) : aw Try.prog O_catenaryref07_Master (bodyC Try.f97) Qv [a0, undef, undef, undef, undef, undef, undef, undef, undef] h = (oBin .geq a0 (Go.Value.int Go.IntKind.i64 1) h fun t4 h1 =>
  oGuard t4 true (fun K => K a0 h1) h1 fun t6 h2 =>
  oGuard t4 true (fun K => oBin .leq t6 (Go.Value.int Go.IntKind.i64 5) h2 K) h2 fun t7 h3 =>
  oPick t4 t7 (Go.Value.bool false) h3 fun t8 h4 =>
  Qv .ret [a0, undef, t8, a0, t4, t4, t6, t7, t8] h4) := by kernel_rfl
theorem gb_catenaryref07_Master (a0 : Value) (h : Hp) (K : Kont) : (oBin .geq a0 (Go.Value.int Go.IntKind.i64 1) h fun t4 h1 =>
  oGuard t4 true (fun K => K a0 h1) h1 fun t6 h2 =>
  oGuard t4 true (fun K => oBin .leq t6 (Go.Value.int Go.IntKind.i64 5) h2 K) h2 fun t7 h3 =>
  oPick t4 t7 (Go.Value.bool false) h3 fun t8 h4 =>
  (qTop Try.prog Try.f97 K) .ret [a0, undef, t8, a0, t4, t4, t6, t7, t8] h4) = G_catenaryref07_Master a0 h K := by kernel_rfl
theorem gc_catenaryref07_Master (a0 : Value) (h : Hp) (K : Kont) : abody Try.prog O_catenaryref07_Master Try.f97 (bodyC Try.f97) [a0] h K = aw Try.prog O_catenaryref07_Master (bodyC Try.f97) (qTop Try.prog Try.f97 K) [a0, undef, undef, undef, undef, undef, undef, undef, undef] h := by kernel_rfl
theorem eq_catenaryref07_Master (a0 : Value) (h : Hp) (K : Kont) : abody Try.prog O_catenaryref07_Master Try.f97 (bodyC Try.f97) [a0] h K = G_catenaryref07_Master a0 h K := (gc_catenaryref07_Master a0 h K).trans ((ga_catenaryref07_Master _ a0 h).trans (gb_catenaryref07_Master a0 h K))
theorem ok_catenaryref07_Master {a0 : Value} {h : Hp} {K : Kont} (hk : G_catenaryref07_Master a0 h K) : C_catenaryref07_Master [a0] h K := ac_of_body prog_mixed (fn := Try.f97) Try.func97 (c := bodyC Try.f97) (by kernel_rfl) ((eq_catenaryref07_Master a0 h K).mpr hk)

end Go.Proofs.Ytdolepapmpcpiaa
