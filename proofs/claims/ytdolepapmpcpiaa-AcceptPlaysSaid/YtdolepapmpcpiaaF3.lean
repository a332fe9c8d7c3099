/- What functions of the program ask of the seen heap (written by a program of this proof, vgen.py). -/
import Derived.Test.YtdolepapmpcpiaaFC
import Derived.Test.YtdolepapmpcpiaaProg
namespace Go.Proofs.Ytdolepapmpcpiaa
open Go
set_option linter.unusedSectionVars false
variable [Base]
set_option linter.unusedVariables false
set_option maxRecDepth 100000

/-! ### catenary/catenaryref10.SameVotes: function 17 -/
def O_catenaryref10_SameVotes : Od := [(6, (.one 0 true (.one 1 true (.one 2 true (.one 3 true (.one 4 true (.one 5 true (.one 6 true (.one 7 true (.one 8 true .nil))))))))))]
noncomputable def K_catenaryref10_SameVotes_0 : Code := (cI (cB (cA (cB (cB (bodyC Try.f17))))))
noncomputable def K_catenaryref10_SameVotes_1 : Code := (cB (cB (cB (bodyC Try.f17))))
def Q_catenaryref10_SameVotes_0 (K : Kont) : Post := qSeq (aw Try.prog O_catenaryref10_SameVotes K_catenaryref10_SameVotes_1 (qTop Try.prog Try.f17 K)) (qTop Try.prog Try.f17 K)
def Q_catenaryref10_SameVotes_1 (K : Kont) : Post := qBlk 0 (Q_catenaryref10_SameVotes_0 K)
def E_catenaryref10_SameVotes_1 (v0 : Value) (v1 : Value) (v5 : Value) (d : Nat → Value) : List Value := [v0, v1, d 2, d 3, d 4, v5, d 6, d 7, d 8, d 9, d 10, d 11, d 12, d 13, d 14, d 15, d 16, d 17, d 18, d 19, d 20, d 21, d 22, d 23, d 24, d 25]
def G_catenaryref10_SameVotes_1 (K : Kont) (v0 : Value) (v1 : Value) (v5 : Value) (d : Nat → Value) (h : Hp) : Prop := aw Try.prog O_catenaryref10_SameVotes K_catenaryref10_SameVotes_0 (Q_catenaryref10_SameVotes_1 K) (E_catenaryref10_SameVotes_1 v0 v1 v5 d) h
noncomputable def K_catenaryref10_SameVotes_2 : Code := (cB (cB (bodyC Try.f17)))
def Q_catenaryref10_SameVotes_2 (K : Kont) (s0 : Self) : Post := qSeq s0 (Q_catenaryref10_SameVotes_1 K)
noncomputable def K_catenaryref10_SameVotes_3 : Code := (cI (cI (cB (cA (cB (cB (bodyC Try.f17)))))))
noncomputable def K_catenaryref10_SameVotes_4 : Code := (cB (cB (cI (cI (cB (cA (cB (cB (bodyC Try.f17)))))))))
noncomputable def K_catenaryref10_SameVotes_5 : Code := (cB (cI (cI (cB (cA (cB (cB (bodyC Try.f17))))))))
def G_catenaryref10_SameVotes (a0 a1 : Value) (h : Hp) (K : Kont) : Prop :=
  oLen 0 a0 h fun t7 h1 =>
  oLen 0 a1 h1 fun t9 h2 =>
  oBin .neq t7 t9 h2 fun t10 h3 =>
  oIf t10
  (K (Go.Value.bool false) h3)
  (G_catenaryref10_SameVotes_1 K a0 a1 (Go.Value.int Go.IntKind.i64 0) (dl [a0, a1, undef, undef, (Go.Value.bool false), (Go.Value.int Go.IntKind.i64 0), a0, t7, a1, t9, t10, undef, undef, undef, undef, undef, undef, undef, undef, undef, undef, undef, undef, undef, undef, undef]) h3)
theorem ga_catenaryref10_SameVotes (Qv : Post) (a0 a1 : Value) (h : Hp) : aw Try.prog O_catenaryref10_SameVotes (bodyC Try.f17) Qv [a0, a1, undef, undef, undef, undef, undef, undef, undef, undef, undef, undef, undef, undef, undef, undef, undef, undef, undef, undef, undef, undef, undef, undef, undef, undef] h = (oLen 0 a0 h fun t7 h1 =>
  oLen 0 a1 h1 fun t9 h2 =>
  oBin .neq t7 t9 h2 fun t10 h3 =>
  oIf t10
  ((qSeq (aw Try.prog O_catenaryref10_SameVotes K_catenaryref10_SameVotes_2 Qv) Qv) .ret [a0, a1, undef, undef, (Go.Value.bool false), undef, a0, t7, a1, t9, t10, undef, undef, undef, undef, undef, undef, undef, undef, undef, undef, undef, undef, undef, undef, undef] h3)
  (aw Try.prog O_catenaryref10_SameVotes K_catenaryref10_SameVotes_0 (qBlk 0 (qSeq (aw Try.prog O_catenaryref10_SameVotes K_catenaryref10_SameVotes_1 Qv) Qv)) [a0, a1, undef, undef, (Go.Value.bool false), (Go.Value.int Go.IntKind.i64 0), a0, t7, a1, t9, t10, undef, undef, undef, undef, undef, undef, undef, undef, undef, undef, undef, undef, undef, undef, undef] h3)) := by kernel_rfl
theorem gb_catenaryref10_SameVotes (a0 a1 : Value) (h : Hp) (K : Kont) : (oLen 0 a0 h fun t7 h1 =>
  oLen 0 a1 h1 fun t9 h2 =>
  oBin .neq t7 t9 h2 fun t10 h3 =>
  oIf t10
  ((qSeq (aw Try.prog O_catenaryref10_SameVotes K_catenaryref10_SameVotes_2 (qTop Try.prog Try.f17 K)) (qTop Try.prog Try.f17 K)) .ret [a0, a1, undef, undef, (Go.Value.bool false), undef, a0, t7, a1, t9, t10, undef, undef, undef, undef, undef, undef, undef, undef, undef, undef, undef, undef, undef, undef, undef] h3)
  (aw Try.prog O_catenaryref10_SameVotes K_catenaryref10_SameVotes_0 (qBlk 0 (qSeq (aw Try.prog O_catenaryref10_SameVotes K_catenaryref10_SameVotes_1 (qTop Try.prog Try.f17 K)) (qTop Try.prog Try.f17 K))) [a0, a1, undef, undef, (Go.Value.bool false), (Go.Value.int Go.IntKind.i64 0), a0, t7, a1, t9, t10, undef, undef, undef, undef, undef, undef, undef, undef, undef, undef, undef, undef, undef, undef, undef] h3)) = G_catenaryref10_SameVotes a0 a1 h K := by kernel_rfl
theorem gc_catenaryref10_SameVotes (a0 a1 : Value) (h : Hp) (K : Kont) : abody Try.prog O_catenaryref10_SameVotes Try.f17 (bodyC Try.f17) [a0, a1] h K = aw Try.prog O_catenaryref10_SameVotes (bodyC Try.f17) (qTop Try.prog Try.f17 K) [a0, a1, undef, undef, undef, undef, undef, undef, undef, undef, undef, undef, undef, undef, undef, undef, undef, undef, undef, undef, undef, undef, undef, undef, undef, undef] h := by kernel_rfl
theorem eq_catenaryref10_SameVotes (a0 a1 : Value) (h : Hp) (K : Kont) : abody Try.prog O_catenaryref10_SameVotes Try.f17 (bodyC Try.f17) [a0, a1] h K = G_catenaryref10_SameVotes a0 a1 h K := (gc_catenaryref10_SameVotes a0 a1 h K).trans ((ga_catenaryref10_SameVotes _ a0 a1 h).trans (gb_catenaryref10_SameVotes a0 a1 h K))
theorem ok_catenaryref10_SameVotes {a0 a1 : Value} {h : Hp} {K : Kont} (hk : G_catenaryref10_SameVotes a0 a1 h K) : C_catenaryref10_SameVotes [a0, a1] h K := ac_of_body prog_mixed (fn := Try.f17) Try.func17 (c := bodyC Try.f17) (by kernel_rfl) ((eq_catenaryref10_SameVotes a0 a1 h K).mpr hk)
def B_catenaryref10_SameVotes_1 (K : Kont) (s0 : Self) (v0 : Value) (v1 : Value) (v5 : Value) (d : Nat → Value) (h : Hp) : Prop :=
  oLen 0 v0 h fun t13 h1 =>
  oBin .lss v5 t13 h1 fun t14 h2 =>
  oIf t14
  (oIdxS 6 v0 v5 h2 fun t19 h3 =>
  oLdN 6 t19 h3 fun t20 h4 =>
  oIdxS 6 v1 v5 h4 fun t23 h5 =>
  oLdN 6 t23 h5 fun t24 h6 =>
  oEq 4 true (some [(0, (.int .i64)), (1, (.int .u64)), (2, (.int .i64)), (3, (.int .i64)), (4, (.int .u64)), (5, (.int .i64))]) t20 t24 h6 fun t25 h7 =>
  oIf t25
  (K (Go.Value.bool false) h7)
  (oBin .add v5 (Go.Value.int Go.IntKind.i64 1) h7 fun t16 h8 =>
  s0 (E_catenaryref10_SameVotes_1 v0 v1 t16 (dl [v0, v1, (d 2), (d 3), (d 4), t16, (d 6), (d 7), (d 8), (d 9), (d 10), v5, v0, t13, t14, v5, t16, v0, v5, t19, t20, v1, v5, t23, t24, t25])) h8))
  (K (Go.Value.bool true) h2)
theorem ga_catenaryref10_SameVotes_1 (Qv : Post) (v0 : Value) (v1 : Value) (v5 : Value) (d : Nat → Value) (h : Hp) : aw Try.prog O_catenaryref10_SameVotes K_catenaryref10_SameVotes_3 Qv (E_catenaryref10_SameVotes_1 v0 v1 v5 d) h = (oLen 0 v0 h fun t13 h1 =>
  oBin .lss v5 t13 h1 fun t14 h2 =>
  oIf t14
  (oIdxS 6 v0 v5 h2 fun t19 h3 =>
  oLdN 6 t19 h3 fun t20 h4 =>
  oIdxS 6 v1 v5 h4 fun t23 h5 =>
  oLdN 6 t23 h5 fun t24 h6 =>
  oEq 4 true (some [(0, (.int .i64)), (1, (.int .u64)), (2, (.int .i64)), (3, (.int .i64)), (4, (.int .u64)), (5, (.int .i64))]) t20 t24 h6 fun t25 h7 =>
  oIf t25
  ((qBlk 1 (qSeq (aw Try.prog O_catenaryref10_SameVotes K_catenaryref10_SameVotes_4 Qv) Qv)) .ret [v0, v1, (d 2), (d 3), (Go.Value.bool false), v5, (d 6), (d 7), (d 8), (d 9), (d 10), v5, v0, t13, t14, (d 15), (d 16), v0, v5, t19, t20, v1, v5, t23, t24, t25] h7)
  (oBin .add v5 (Go.Value.int Go.IntKind.i64 1) h7 fun t16 h8 =>
  Qv .normal [v0, v1, (d 2), (d 3), (d 4), t16, (d 6), (d 7), (d 8), (d 9), (d 10), v5, v0, t13, t14, v5, t16, v0, v5, t19, t20, v1, v5, t23, t24, t25] h8))
  ((qSeq (aw Try.prog O_catenaryref10_SameVotes K_catenaryref10_SameVotes_5 Qv) Qv) (.exit 0) [v0, v1, (d 2), (d 3), (d 4), v5, (d 6), (d 7), (d 8), (d 9), (d 10), v5, v0, t13, t14, (d 15), (d 16), (d 17), (d 18), (d 19), (d 20), (d 21), (d 22), (d 23), (d 24), (d 25)] h2)) := by kernel_rfl
theorem gb_catenaryref10_SameVotes_1 (K : Kont) (s0 : Self) (v0 : Value) (v1 : Value) (v5 : Value) (d : Nat → Value) (h : Hp) : (oLen 0 v0 h fun t13 h1 =>
  oBin .lss v5 t13 h1 fun t14 h2 =>
  oIf t14
  (oIdxS 6 v0 v5 h2 fun t19 h3 =>
  oLdN 6 t19 h3 fun t20 h4 =>
  oIdxS 6 v1 v5 h4 fun t23 h5 =>
  oLdN 6 t23 h5 fun t24 h6 =>
  oEq 4 true (some [(0, (.int .i64)), (1, (.int .u64)), (2, (.int .i64)), (3, (.int .i64)), (4, (.int .u64)), (5, (.int .i64))]) t20 t24 h6 fun t25 h7 =>
  oIf t25
  ((qBlk 1 (qSeq (aw Try.prog O_catenaryref10_SameVotes K_catenaryref10_SameVotes_4 (Q_catenaryref10_SameVotes_2 K s0)) (Q_catenaryref10_SameVotes_2 K s0))) .ret [v0, v1, (d 2), (d 3), (Go.Value.bool false), v5, (d 6), (d 7), (d 8), (d 9), (d 10), v5, v0, t13, t14, (d 15), (d 16), v0, v5, t19, t20, v1, v5, t23, t24, t25] h7)
  (oBin .add v5 (Go.Value.int Go.IntKind.i64 1) h7 fun t16 h8 =>
  (Q_catenaryref10_SameVotes_2 K s0) .normal [v0, v1, (d 2), (d 3), (d 4), t16, (d 6), (d 7), (d 8), (d 9), (d 10), v5, v0, t13, t14, v5, t16, v0, v5, t19, t20, v1, v5, t23, t24, t25] h8))
  ((qSeq (aw Try.prog O_catenaryref10_SameVotes K_catenaryref10_SameVotes_5 (Q_catenaryref10_SameVotes_2 K s0)) (Q_catenaryref10_SameVotes_2 K s0)) (.exit 0) [v0, v1, (d 2), (d 3), (d 4), v5, (d 6), (d 7), (d 8), (d 9), (d 10), v5, v0, t13, t14, (d 15), (d 16), (d 17), (d 18), (d 19), (d 20), (d 21), (d 22), (d 23), (d 24), (d 25)] h2)) = B_catenaryref10_SameVotes_1 K s0 v0 v1 v5 d h := by kernel_rfl
theorem beq_catenaryref10_SameVotes_1 (K : Kont) (s0 : Self) (v0 : Value) (v1 : Value) (v5 : Value) (d : Nat → Value) (h : Hp) : aw Try.prog O_catenaryref10_SameVotes K_catenaryref10_SameVotes_3 (Q_catenaryref10_SameVotes_2 K s0) (E_catenaryref10_SameVotes_1 v0 v1 v5 d) h = B_catenaryref10_SameVotes_1 K s0 v0 v1 v5 d h := (ga_catenaryref10_SameVotes_1 _ v0 v1 v5 d h).trans (gb_catenaryref10_SameVotes_1 K s0 v0 v1 v5 d h)
theorem rule_catenaryref10_SameVotes_1 {K : Kont} {v0 : Value} {v1 : Value} (Inv : Value → Hp → Prop) (μ : Value → Hp → Nat)
    (step : ∀ (s0 : Self) (v5 : Value) (d : Nat → Value) (h : Hp), Inv v5 h → (∀ (v5' : Value) (d' : Nat → Value) (h' : Hp), Inv v5' h' → μ v5' h' < μ v5 h → s0 (E_catenaryref10_SameVotes_1 v0 v1 v5' d') h') → B_catenaryref10_SameVotes_1 K s0 v0 v1 v5 d h) (v5 : Value) (d : Nat → Value) (h : Hp) (hi : Inv v5 h) : G_catenaryref10_SameVotes_1 K v0 v1 v5 d h :=
  oLoop_rule (α := Value × (Nat → Value)) (fun x => E_catenaryref10_SameVotes_1 v0 v1 x.1 x.2) (fun x h => Inv x.1 h) (fun x h => μ x.1 h)
    (fun self x h hx hs => (beq_catenaryref10_SameVotes_1 K self v0 v1 x.1 x.2 h).mpr (step self x.1 x.2 h hx (fun v5' d' h' h1 h2 => hs ⟨v5', d'⟩ h' h1 h2))) ⟨v5, d⟩ h hi

/-! ### (*catenary/accept.Acceptor).Votes: function 18 -/
def O_accept_Acceptor_Votes : Od := []
noncomputable def K_accept_Acceptor_Votes_0 : Code := (cB (cB (bodyC Try.f18)))
def G_accept_Acceptor_Votes (a0 a1 : Value) (h : Hp) (K : Kont) : Prop :=
  oEq 1 false none a0 (Go.Value.pointer none) h fun t6 h1 =>
  oIf t6
  (K (Go.Value.slice none 0 0) h1)
  (oNilCheck a0 h1 fun t8 h2 =>
  oFieldAddr 1 t8 h2 fun t9 h3 =>
  oLd1 t9 h3 fun t10 h4 =>
  C_accept_rising [t10, a1] h4 fun t12 h5 =>
  K t12 h5)
theorem ga_accept_Acceptor_Votes (Qv : Post) (a0 a1 : Value) (h : Hp) : aw Try.prog O_accept_Acceptor_Votes (bodyC Try.f18) Qv [a0, a1, undef, undef, undef, undef, undef, undef, undef, undef, undef, undef, undef] h = (oEq 1 false none a0 (Go.Value.pointer none) h fun t6 h1 =>
  oIf t6
  ((qSeq (aw Try.prog O_accept_Acceptor_Votes K_accept_Acceptor_Votes_0 Qv) Qv) .ret [a0, a1, undef, undef, (Go.Value.slice none 0 0), a0, t6, undef, undef, undef, undef, undef, undef] h1)
  (oNilCheck a0 h1 fun t8 h2 =>
  oFieldAddr 1 t8 h2 fun t9 h3 =>
  oLd1 t9 h3 fun t10 h4 =>
  C_accept_rising [t10, a1] h4 fun t12 h5 =>
  Qv .ret [a0, a1, undef, undef, t12, a0, t6, a0, t8, t9, t10, a1, t12] h5)) := by kernel_rfl
theorem gb_accept_Acceptor_Votes (a0 a1 : Value) (h : Hp) (K : Kont) : (oEq 1 false none a0 (Go.Value.pointer none) h fun t6 h1 =>
  oIf t6
  ((qSeq (aw Try.prog O_accept_Acceptor_Votes K_accept_Acceptor_Votes_0 (qTop Try.prog Try.f18 K)) (qTop Try.prog Try.f18 K)) .ret [a0, a1, undef, undef, (Go.Value.slice none 0 0), a0, t6, undef, undef, undef, undef, undef, undef] h1)
  (oNilCheck a0 h1 fun t8 h2 =>
  oFieldAddr 1 t8 h2 fun t9 h3 =>
  oLd1 t9 h3 fun t10 h4 =>
  C_accept_rising [t10, a1] h4 fun t12 h5 =>
  (qTop Try.prog Try.f18 K) .ret [a0, a1, undef, undef, t12, a0, t6, a0, t8, t9, t10, a1, t12] h5)) = G_accept_Acceptor_Votes a0 a1 h K := by kernel_rfl
theorem gc_accept_Acceptor_Votes (a0 a1 : Value) (h : Hp) (K : Kont) : abody Try.prog O_accept_Acceptor_Votes Try.f18 (bodyC Try.f18) [a0, a1] h K = aw Try.prog O_accept_Acceptor_Votes (bodyC Try.f18) (qTop Try.prog Try.f18 K) [a0, a1, undef, undef, undef, undef, undef, undef, undef, undef, undef, undef, undef] h := by kernel_rfl
theorem eq_accept_Acceptor_Votes (a0 a1 : Value) (h : Hp) (K : Kont) : abody Try.prog O_accept_Acceptor_Votes Try.f18 (bodyC Try.f18) [a0, a1] h K = G_accept_Acceptor_Votes a0 a1 h K := (gc_accept_Acceptor_Votes a0 a1 h K).trans ((ga_accept_Acceptor_Votes _ a0 a1 h).trans (gb_accept_Acceptor_Votes a0 a1 h K))
theorem ok_accept_Acceptor_Votes {a0 a1 : Value} {h : Hp} {K : Kont} (hk : G_accept_Acceptor_Votes a0 a1 h K) : C_accept_Acceptor_Votes [a0, a1] h K := ac_of_body prog_mixed (fn := Try.f18) Try.func18 (c := bodyC Try.f18) (by kernel_rfl) ((eq_accept_Acceptor_Votes a0 a1 h K).mpr hk)

/-! ### catenary/catenaryref11.From: function 19 -/
def O_catenaryref11_From : Od := []
noncomputable def K_catenaryref11_From_0 : Code := (cI (cB (cA (cB (cB (bodyC Try.f19))))))
noncomputable def K_catenaryref11_From_1 : Code := (cB (cB (cB (bodyC Try.f19))))
def Q_catenaryref11_From_0 (K : Kont) : Post := qSeq (aw Try.prog O_catenaryref11_From K_catenaryref11_From_1 (qTop Try.prog Try.f19 K)) (qTop Try.prog Try.f19 K)
def Q_catenaryref11_From_1 (K : Kont) : Post := qBlk 0 (Q_catenaryref11_From_0 K)
def E_catenaryref11_From_1 (v0 : Value) (v1 : Value) (v5 : Value) (v6 : Value) (d : Nat → Value) : List Value := [v0, v1, d 2, d 3, d 4, v5, v6, d 7, d 8, d 9, d 10, d 11, d 12, d 13, d 14, d 15, d 16, d 17, d 18, d 19, d 20, d 21, d 22, d 23, d 24, d 25, d 26, d 27]
def G_catenaryref11_From_1 (K : Kont) (v0 : Value) (v1 : Value) (v5 : Value) (v6 : Value) (d : Nat → Value) (h : Hp) : Prop := aw Try.prog O_catenaryref11_From K_catenaryref11_From_0 (Q_catenaryref11_From_1 K) (E_catenaryref11_From_1 v0 v1 v5 v6 d) h
def Q_catenaryref11_From_2 (K : Kont) (s0 : Self) : Post := qSeq s0 (Q_catenaryref11_From_1 K)
noncomputable def K_catenaryref11_From_2 : Code := (cI (cI (cB (cA (cB (cB (bodyC Try.f19)))))))
noncomputable def K_catenaryref11_From_3 : Code := (cB (cB (cI (cI (cB (cA (cB (cB (bodyC Try.f19)))))))))
def E_catenaryref11_From_2 (v0 : Value) (v1 : Value) (v5 : Value) (v6 : Value) (d : Nat → Value) : List Value := [v0, v1, d 2, d 3, d 4, v5, v6, d 7, d 8, d 9, d 10, d 11, d 12, d 13, d 14, d 15, d 16, d 17, d 18, d 19, d 20, d 21, d 22, d 23, d 24, d 25, d 26, d 27]
def G_catenaryref11_From_2 (K : Kont) (s0 : Self) (v0 : Value) (v1 : Value) (v5 : Value) (v6 : Value) (d : Nat → Value) (h : Hp) : Prop := aw Try.prog O_catenaryref11_From K_catenaryref11_From_3 (Q_catenaryref11_From_2 K s0) (E_catenaryref11_From_2 v0 v1 v5 v6 d) h
noncomputable def K_catenaryref11_From_4 : Code := (cB (cI (cI (cB (cA (cB (cB (bodyC Try.f19))))))))
def G_catenaryref11_From (a0 a1 : Value) (h : Hp) (K : Kont) : Prop :=
  G_catenaryref11_From_1 K a0 a1 (Go.Value.slice none 0 0) (Go.Value.int Go.IntKind.i64 0) (dl [a0, a1, undef, undef, (Go.Value.slice none 0 0), (Go.Value.slice none 0 0), (Go.Value.int Go.IntKind.i64 0), undef, undef, undef, undef, undef, undef, undef, undef, undef, undef, undef, undef, undef, undef, undef, undef, undef, undef, undef, undef, undef]) h
theorem ga_catenaryref11_From (Qv : Post) (a0 a1 : Value) (h : Hp) : aw Try.prog O_catenaryref11_From (bodyC Try.f19) Qv [a0, a1, undef, undef, undef, undef, undef, undef, undef, undef, undef, undef, undef, undef, undef, undef, undef, undef, undef, undef, undef, undef, undef, undef, undef, undef, undef, undef] h = (aw Try.prog O_catenaryref11_From K_catenaryref11_From_0 (qBlk 0 (qSeq (aw Try.prog O_catenaryref11_From K_catenaryref11_From_1 Qv) Qv)) [a0, a1, undef, undef, (Go.Value.slice none 0 0), (Go.Value.slice none 0 0), (Go.Value.int Go.IntKind.i64 0), undef, undef, undef, undef, undef, undef, undef, undef, undef, undef, undef, undef, undef, undef, undef, undef, undef, undef, undef, undef, undef] h) := by kernel_rfl
theorem gb_catenaryref11_From (a0 a1 : Value) (h : Hp) (K : Kont) : (aw Try.prog O_catenaryref11_From K_catenaryref11_From_0 (qBlk 0 (qSeq (aw Try.prog O_catenaryref11_From K_catenaryref11_From_1 (qTop Try.prog Try.f19 K)) (qTop Try.prog Try.f19 K))) [a0, a1, undef, undef, (Go.Value.slice none 0 0), (Go.Value.slice none 0 0), (Go.Value.int Go.IntKind.i64 0), undef, undef, undef, undef, undef, undef, undef, undef, undef, undef, undef, undef, undef, undef, undef, undef, undef, undef, undef, undef, undef] h) = G_catenaryref11_From a0 a1 h K := by kernel_rfl
theorem gc_catenaryref11_From (a0 a1 : Value) (h : Hp) (K : Kont) : abody Try.prog O_catenaryref11_From Try.f19 (bodyC Try.f19) [a0, a1] h K = aw Try.prog O_catenaryref11_From (bodyC Try.f19) (qTop Try.prog Try.f19 K) [a0, a1, undef, undef, undef, undef, undef, undef, undef, undef, undef, undef, undef, undef, undef, undef, undef, undef, undef, undef, undef, undef, undef, undef, undef, undef, undef, undef] h := by kernel_rfl
theorem eq_catenaryref11_From (a0 a1 : Value) (h : Hp) (K : Kont) : abody Try.prog O_catenaryref11_From Try.f19 (bodyC Try.f19) [a0, a1] h K = G_catenaryref11_From a0 a1 h K := (gc_catenaryref11_From a0 a1 h K).trans ((ga_catenaryref11_From _ a0 a1 h).trans (gb_catenaryref11_From a0 a1 h K))
theorem ok_catenaryref11_From {a0 a1 : Value} {h : Hp} {K : Kont} (hk : G_catenaryref11_From a0 a1 h K) : C_catenaryref11_From [a0, a1] h K := ac_of_body prog_mixed (fn := Try.f19) Try.func19 (c := bodyC Try.f19) (by kernel_rfl) ((eq_catenaryref11_From a0 a1 h K).mpr hk)
def B_catenaryref11_From_1 (K : Kont) (s0 : Self) (v0 : Value) (v1 : Value) (v5 : Value) (v6 : Value) (d : Nat → Value) (h : Hp) : Prop :=
  oLen 0 v0 h fun t9 h1 =>
  oBin .lss v6 t9 h1 fun t10 h2 =>
  oIf t10
  (oIdxS 6 v0 v6 h2 fun t15 h3 =>
  oFieldAddr 0 t15 h3 fun t16 h4 =>
  oLd1 t16 h4 fun t17 h5 =>
  oBin .geq t17 v1 h5 fun t19 h6 =>
  oIf t19
  (oIdxS 6 v0 v6 h6 fun t23 h7 =>
  oLdN 6 t23 h7 fun t24 h8 =>
  oBuildSlice #[.int .i64 0, .int .u64 0, .int .i64 0, .int .i64 0, .int .u64 0, .int .i64 0] 1 [(0 * 6, 6, t24)] h8 fun t25 h9 =>
  oAppend 6 48 #[.int .i64 0, .int .u64 0, .int .i64 0, .int .i64 0, .int .u64 0, .int .i64 0] v5 t25 h9 fun t26 h10 =>
  G_catenaryref11_From_2 K s0 v0 v1 t26 v6 (dl [v0, v1, (d 2), (d 3), (d 4), t26, v6, v6, v0, t9, t10, (d 11), (d 12), v0, v6, t15, t16, t17, v1, t19, v5, v0, v6, t23, t24, t25, t26, (d 27)]) h10)
  (G_catenaryref11_From_2 K s0 v0 v1 v5 v6 (dl [v0, v1, (d 2), (d 3), (d 4), v5, v6, v6, v0, t9, t10, (d 11), (d 12), v0, v6, t15, t16, t17, v1, t19, (d 20), (d 21), (d 22), (d 23), (d 24), (d 25), (d 26), (d 27)]) h6))
  (K v5 h2)
theorem ga_catenaryref11_From_1 (Qv : Post) (v0 : Value) (v1 : Value) (v5 : Value) (v6 : Value) (d : Nat → Value) (h : Hp) : aw Try.prog O_catenaryref11_From K_catenaryref11_From_2 Qv (E_catenaryref11_From_1 v0 v1 v5 v6 d) h = (oLen 0 v0 h fun t9 h1 =>
  oBin .lss v6 t9 h1 fun t10 h2 =>
  oIf t10
  (oIdxS 6 v0 v6 h2 fun t15 h3 =>
  oFieldAddr 0 t15 h3 fun t16 h4 =>
  oLd1 t16 h4 fun t17 h5 =>
  oBin .geq t17 v1 h5 fun t19 h6 =>
  oIf t19
  (oIdxS 6 v0 v6 h6 fun t23 h7 =>
  oLdN 6 t23 h7 fun t24 h8 =>
  oBuildSlice #[.int .i64 0, .int .u64 0, .int .i64 0, .int .i64 0, .int .u64 0, .int .i64 0] 1 [(0 * 6, 6, t24)] h8 fun t25 h9 =>
  oAppend 6 48 #[.int .i64 0, .int .u64 0, .int .i64 0, .int .i64 0, .int .u64 0, .int .i64 0] v5 t25 h9 fun t26 h10 =>
  (qBlk 1 (qSeq (aw Try.prog O_catenaryref11_From K_catenaryref11_From_3 Qv) Qv)) .normal [v0, v1, (d 2), (d 3), (d 4), t26, v6, v6, v0, t9, t10, (d 11), (d 12), v0, v6, t15, t16, t17, v1, t19, v5, v0, v6, t23, t24, t25, t26, (d 27)] h10)
  ((qBlk 1 (qSeq (aw Try.prog O_catenaryref11_From K_catenaryref11_From_3 Qv) Qv)) .normal [v0, v1, (d 2), (d 3), (d 4), v5, v6, v6, v0, t9, t10, (d 11), (d 12), v0, v6, t15, t16, t17, v1, t19, (d 20), (d 21), (d 22), (d 23), (d 24), (d 25), (d 26), (d 27)] h6))
  ((qSeq (aw Try.prog O_catenaryref11_From K_catenaryref11_From_4 Qv) Qv) (.exit 0) [v0, v1, (d 2), (d 3), (d 4), v5, v6, v6, v0, t9, t10, (d 11), (d 12), (d 13), (d 14), (d 15), (d 16), (d 17), (d 18), (d 19), (d 20), (d 21), (d 22), (d 23), (d 24), (d 25), (d 26), (d 27)] h2)) := by kernel_rfl
theorem gb_catenaryref11_From_1 (K : Kont) (s0 : Self) (v0 : Value) (v1 : Value) (v5 : Value) (v6 : Value) (d : Nat → Value) (h : Hp) : (oLen 0 v0 h fun t9 h1 =>
  oBin .lss v6 t9 h1 fun t10 h2 =>
  oIf t10
  (oIdxS 6 v0 v6 h2 fun t15 h3 =>
  oFieldAddr 0 t15 h3 fun t16 h4 =>
  oLd1 t16 h4 fun t17 h5 =>
  oBin .geq t17 v1 h5 fun t19 h6 =>
  oIf t19
  (oIdxS 6 v0 v6 h6 fun t23 h7 =>
  oLdN 6 t23 h7 fun t24 h8 =>
  oBuildSlice #[.int .i64 0, .int .u64 0, .int .i64 0, .int .i64 0, .int .u64 0, .int .i64 0] 1 [(0 * 6, 6, t24)] h8 fun t25 h9 =>
  oAppend 6 48 #[.int .i64 0, .int .u64 0, .int .i64 0, .int .i64 0, .int .u64 0, .int .i64 0] v5 t25 h9 fun t26 h10 =>
  (qBlk 1 (qSeq (aw Try.prog O_catenaryref11_From K_catenaryref11_From_3 (Q_catenaryref11_From_2 K s0)) (Q_catenaryref11_From_2 K s0))) .normal [v0, v1, (d 2), (d 3), (d 4), t26, v6, v6, v0, t9, t10, (d 11), (d 12), v0, v6, t15, t16, t17, v1, t19, v5, v0, v6, t23, t24, t25, t26, (d 27)] h10)
  ((qBlk 1 (qSeq (aw Try.prog O_catenaryref11_From K_catenaryref11_From_3 (Q_catenaryref11_From_2 K s0)) (Q_catenaryref11_From_2 K s0))) .normal [v0, v1, (d 2), (d 3), (d 4), v5, v6, v6, v0, t9, t10, (d 11), (d 12), v0, v6, t15, t16, t17, v1, t19, (d 20), (d 21), (d 22), (d 23), (d 24), (d 25), (d 26), (d 27)] h6))
  ((qSeq (aw Try.prog O_catenaryref11_From K_catenaryref11_From_4 (Q_catenaryref11_From_2 K s0)) (Q_catenaryref11_From_2 K s0)) (.exit 0) [v0, v1, (d 2), (d 3), (d 4), v5, v6, v6, v0, t9, t10, (d 11), (d 12), (d 13), (d 14), (d 15), (d 16), (d 17), (d 18), (d 19), (d 20), (d 21), (d 22), (d 23), (d 24), (d 25), (d 26), (d 27)] h2)) = B_catenaryref11_From_1 K s0 v0 v1 v5 v6 d h := by kernel_rfl
theorem beq_catenaryref11_From_1 (K : Kont) (s0 : Self) (v0 : Value) (v1 : Value) (v5 : Value) (v6 : Value) (d : Nat → Value) (h : Hp) : aw Try.prog O_catenaryref11_From K_catenaryref11_From_2 (Q_catenaryref11_From_2 K s0) (E_catenaryref11_From_1 v0 v1 v5 v6 d) h = B_catenaryref11_From_1 K s0 v0 v1 v5 v6 d h := (ga_catenaryref11_From_1 _ v0 v1 v5 v6 d h).trans (gb_catenaryref11_From_1 K s0 v0 v1 v5 v6 d h)
theorem rule_catenaryref11_From_1 {K : Kont} {v0 : Value} {v1 : Value} (Inv : Value → Value → Hp → Prop) (μ : Value → Value → Hp → Nat)
    (step : ∀ (s0 : Self) (v5 : Value) (v6 : Value) (d : Nat → Value) (h : Hp), Inv v5 v6 h → (∀ (v5' : Value) (v6' : Value) (d' : Nat → Value) (h' : Hp), Inv v5' v6' h' → μ v5' v6' h' < μ v5 v6 h → s0 (E_catenaryref11_From_1 v0 v1 v5' v6' d') h') → B_catenaryref11_From_1 K s0 v0 v1 v5 v6 d h) (v5 : Value) (v6 : Value) (d : Nat → Value) (h : Hp) (hi : Inv v5 v6 h) : G_catenaryref11_From_1 K v0 v1 v5 v6 d h :=
  oLoop_rule (α := Value × Value × (Nat → Value)) (fun x => E_catenaryref11_From_1 v0 v1 x.1 x.2.1 x.2.2) (fun x h => Inv x.1 x.2.1 h) (fun x h => μ x.1 x.2.1 h)
    (fun self x h hx hs => (beq_catenaryref11_From_1 K self v0 v1 x.1 x.2.1 x.2.2 h).mpr (step self x.1 x.2.1 x.2.2 h hx (fun v5' v6' d' h' h1 h2 => hs ⟨v5', v6', d'⟩ h' h1 h2))) ⟨v5, v6, d⟩ h hi
def R_catenaryref11_From_2 (K : Kont) (s0 : Self) (v0 : Value) (v1 : Value) (v5 : Value) (v6 : Value) (d : Nat → Value) (h : Hp) : Prop :=
  oBin .add v6 (Go.Value.int Go.IntKind.i64 1) h fun t12 h1 =>
  s0 (E_catenaryref11_From_1 v0 v1 v5 t12 (dl [v0, v1, (d 2), (d 3), (d 4), v5, t12, (d 7), (d 8), (d 9), (d 10), v6, t12, (d 13), (d 14), (d 15), (d 16), (d 17), (d 18), (d 19), (d 20), (d 21), (d 22), (d 23), (d 24), (d 25), (d 26), (d 27)])) h1
theorem ga_catenaryref11_From_2 (Qv : Post) (v0 : Value) (v1 : Value) (v5 : Value) (v6 : Value) (d : Nat → Value) (h : Hp) : aw Try.prog O_catenaryref11_From K_catenaryref11_From_3 Qv (E_catenaryref11_From_2 v0 v1 v5 v6 d) h = (oBin .add v6 (Go.Value.int Go.IntKind.i64 1) h fun t12 h1 =>
  Qv .normal [v0, v1, (d 2), (d 3), (d 4), v5, t12, (d 7), (d 8), (d 9), (d 10), v6, t12, (d 13), (d 14), (d 15), (d 16), (d 17), (d 18), (d 19), (d 20), (d 21), (d 22), (d 23), (d 24), (d 25), (d 26), (d 27)] h1) := by kernel_rfl
theorem gb_catenaryref11_From_2 (K : Kont) (s0 : Self) (v0 : Value) (v1 : Value) (v5 : Value) (v6 : Value) (d : Nat → Value) (h : Hp) : (oBin .add v6 (Go.Value.int Go.IntKind.i64 1) h fun t12 h1 =>
  (Q_catenaryref11_From_2 K s0) .normal [v0, v1, (d 2), (d 3), (d 4), v5, t12, (d 7), (d 8), (d 9), (d 10), v6, t12, (d 13), (d 14), (d 15), (d 16), (d 17), (d 18), (d 19), (d 20), (d 21), (d 22), (d 23), (d 24), (d 25), (d 26), (d 27)] h1) = R_catenaryref11_From_2 K s0 v0 v1 v5 v6 d h := by kernel_rfl
theorem req_catenaryref11_From_2 (K : Kont) (s0 : Self) (v0 : Value) (v1 : Value) (v5 : Value) (v6 : Value) (d : Nat → Value) (h : Hp) : G_catenaryref11_From_2 K s0 v0 v1 v5 v6 d h = R_catenaryref11_From_2 K s0 v0 v1 v5 v6 d h := (ga_catenaryref11_From_2 _ v0 v1 v5 v6 d h).trans (gb_catenaryref11_From_2 K s0 v0 v1 v5 v6 d h)

/-! ### catenary/catenarylaw11.awake: function 20 -/
def O_catenarylaw11_awake : Od := []
def G_catenarylaw11_awake (h : Hp) (K : Kont) : Prop :=
  C_accept_New [] h fun t7 h1 =>
  C_accept_Acceptor_Prepare [t7, (Go.Value.int Go.IntKind.u64 9), (Go.Value.int Go.IntKind.i64 0)] h1 fun t10 h2 =>
  oExtract t10 0 h2 fun t11 h3 =>
  oExtract t10 1 h3 fun t12 h4 =>
  oBuild #[.int .i64 0, .int .i64 0, .int .u64 0, .int .i64 0] [] h4 fun t14 h5 =>
  C_accept_Acceptor_Accept [t7, (Go.Value.int Go.IntKind.u64 17), (Go.Value.int Go.IntKind.i64 3), t14] h5 fun t15 h6 =>
  C_accept_Acceptor_Prepare [t7, (Go.Value.int Go.IntKind.u64 9), (Go.Value.int Go.IntKind.i64 0)] h6 fun t18 h7 =>
  oExtract t18 0 h7 fun t19 h8 =>
  oExtract t18 1 h8 fun t20 h9 =>
  oBin .eql t12 (Go.Value.int Go.IntKind.i64 0) h9 fun t22 h10 =>
  oGuard t22 true (fun K => K t15 h10) h10 fun t24 h11 =>
  oGuard t22 true (fun K => oBin .eql t24 (Go.Value.int Go.IntKind.i64 0) h11 K) h11 fun t25 h12 =>
  oPick t22 t25 (Go.Value.bool false) h12 fun t26 h13 =>
  oGuard t26 true (fun K => K t20 h13) h13 fun t28 h14 =>
  oGuard t26 true (fun K => oBin .eql t28 (Go.Value.int Go.IntKind.i64 10) h14 K) h14 fun t29 h15 =>
  oPick t26 t29 (Go.Value.bool false) h15 fun t30 h16 =>
  oGuard t30 true (fun K => K t7 h16) h16 fun t32 h17 =>
  oGuard t30 true (fun K => C_accept_Acceptor_Promised [t32] h17 K) h17 fun t33 h18 =>
  oGuard t30 true (fun K => oBin .eql t33 (Go.Value.int Go.IntKind.u64 17) h18 K) h18 fun t34 h19 =>
  oPick t30 t34 (Go.Value.bool false) h19 fun t35 h20 =>
  oGuard t35 true (fun K => K t7 h20) h20 fun t37 h21 =>
  oGuard t35 true (fun K => C_accept_Acceptor_Len [t37] h21 K) h21 fun t38 h22 =>
  oGuard t35 true (fun K => oBin .eql t38 (Go.Value.int Go.IntKind.i64 1) h22 K) h22 fun t39 h23 =>
  oPick t35 t39 (Go.Value.bool false) h23 fun t40 h24 =>
  K t40 h24
theorem ga_catenarylaw11_awake (Qv : Post) (h : Hp) : aw Try.prog O_catenarylaw11_awake (bodyC Try.f20) Qv [undef, undef, undef, undef, undef, undef, undef, undef, undef, undef, undef, undef, undef, undef, undef, undef, undef, undef, undef, undef, undef, undef, undef, undef, undef, undef, undef, undef, undef, undef, undef, undef, undef, undef, undef, undef, undef, undef, undef, undef, undef] h = (C_accept_New [] h fun t7 h1 =>
  C_accept_Acceptor_Prepare [t7, (Go.Value.int Go.IntKind.u64 9), (Go.Value.int Go.IntKind.i64 0)] h1 fun t10 h2 =>
  oExtract t10 0 h2 fun t11 h3 =>
  oExtract t10 1 h3 fun t12 h4 =>
  oBuild #[.int .i64 0, .int .i64 0, .int .u64 0, .int .i64 0] [] h4 fun t14 h5 =>
  C_accept_Acceptor_Accept [t7, (Go.Value.int Go.IntKind.u64 17), (Go.Value.int Go.IntKind.i64 3), t14] h5 fun t15 h6 =>
  C_accept_Acceptor_Prepare [t7, (Go.Value.int Go.IntKind.u64 9), (Go.Value.int Go.IntKind.i64 0)] h6 fun t18 h7 =>
  oExtract t18 0 h7 fun t19 h8 =>
  oExtract t18 1 h8 fun t20 h9 =>
  oBin .eql t12 (Go.Value.int Go.IntKind.i64 0) h9 fun t22 h10 =>
  oGuard t22 true (fun K => K t15 h10) h10 fun t24 h11 =>
  oGuard t22 true (fun K => oBin .eql t24 (Go.Value.int Go.IntKind.i64 0) h11 K) h11 fun t25 h12 =>
  oPick t22 t25 (Go.Value.bool false) h12 fun t26 h13 =>
  oGuard t26 true (fun K => K t20 h13) h13 fun t28 h14 =>
  oGuard t26 true (fun K => oBin .eql t28 (Go.Value.int Go.IntKind.i64 10) h14 K) h14 fun t29 h15 =>
  oPick t26 t29 (Go.Value.bool false) h15 fun t30 h16 =>
  oGuard t30 true (fun K => K t7 h16) h16 fun t32 h17 =>
  oGuard t30 true (fun K => C_accept_Acceptor_Promised [t32] h17 K) h17 fun t33 h18 =>
  oGuard t30 true (fun K => oBin .eql t33 (Go.Value.int Go.IntKind.u64 17) h18 K) h18 fun t34 h19 =>
  oPick t30 t34 (Go.Value.bool false) h19 fun t35 h20 =>
  oGuard t35 true (fun K => K t7 h20) h20 fun t37 h21 =>
  oGuard t35 true (fun K => C_accept_Acceptor_Len [t37] h21 K) h21 fun t38 h22 =>
  oGuard t35 true (fun K => oBin .eql t38 (Go.Value.int Go.IntKind.i64 1) h22 K) h22 fun t39 h23 =>
  oPick t35 t39 (Go.Value.bool false) h23 fun t40 h24 =>
  Qv .ret [t40, t7, t11, t12, t15, t19, t20, t7, t10, t7, t10, t11, t12, t7, t14, t15, t18, t7, t18, t19, t20, t12, t22, t22, t24, t25, t26, t26, t28, t29, t30, t30, t32, t33, t34, t35, t35, t37, t38, t39, t40] h24) := by kernel_rfl
theorem gb_catenarylaw11_awake (h : Hp) (K : Kont) : (C_accept_New [] h fun t7 h1 =>
  C_accept_Acceptor_Prepare [t7, (Go.Value.int Go.IntKind.u64 9), (Go.Value.int Go.IntKind.i64 0)] h1 fun t10 h2 =>
  oExtract t10 0 h2 fun t11 h3 =>
  oExtract t10 1 h3 fun t12 h4 =>
  oBuild #[.int .i64 0, .int .i64 0, .int .u64 0, .int .i64 0] [] h4 fun t14 h5 =>
  C_accept_Acceptor_Accept [t7, (Go.Value.int Go.IntKind.u64 17), (Go.Value.int Go.IntKind.i64 3), t14] h5 fun t15 h6 =>
  C_accept_Acceptor_Prepare [t7, (Go.Value.int Go.IntKind.u64 9), (Go.Value.int Go.IntKind.i64 0)] h6 fun t18 h7 =>
  oExtract t18 0 h7 fun t19 h8 =>
  oExtract t18 1 h8 fun t20 h9 =>
  oBin .eql t12 (Go.Value.int Go.IntKind.i64 0) h9 fun t22 h10 =>
  oGuard t22 true (fun K => K t15 h10) h10 fun t24 h11 =>
  oGuard t22 true (fun K => oBin .eql t24 (Go.Value.int Go.IntKind.i64 0) h11 K) h11 fun t25 h12 =>
  oPick t22 t25 (Go.Value.bool false) h12 fun t26 h13 =>
  oGuard t26 true (fun K => K t20 h13) h13 fun t28 h14 =>
  oGuard t26 true (fun K => oBin .eql t28 (Go.Value.int Go.IntKind.i64 10) h14 K) h14 fun t29 h15 =>
  oPick t26 t29 (Go.Value.bool false) h15 fun t30 h16 =>
  oGuard t30 true (fun K => K t7 h16) h16 fun t32 h17 =>
  oGuard t30 true (fun K => C_accept_Acceptor_Promised [t32] h17 K) h17 fun t33 h18 =>
  oGuard t30 true (fun K => oBin .eql t33 (Go.Value.int Go.IntKind.u64 17) h18 K) h18 fun t34 h19 =>
  oPick t30 t34 (Go.Value.bool false) h19 fun t35 h20 =>
  oGuard t35 true (fun K => K t7 h20) h20 fun t37 h21 =>
  oGuard t35 true (fun K => C_accept_Acceptor_Len [t37] h21 K) h21 fun t38 h22 =>
  oGuard t35 true (fun K => oBin .eql t38 (Go.Value.int Go.IntKind.i64 1) h22 K) h22 fun t39 h23 =>
  oPick t35 t39 (Go.Value.bool false) h23 fun t40 h24 =>
  (qTop Try.prog Try.f20 K) .ret [t40, t7, t11, t12, t15, t19, t20, t7, t10, t7, t10, t11, t12, t7, t14, t15, t18, t7, t18, t19, t20, t12, t22, t22, t24, t25, t26, t26, t28, t29, t30, t30, t32, t33, t34, t35, t35, t37, t38, t39, t40] h24) = G_catenarylaw11_awake  h K := by kernel_rfl
theorem gc_catenarylaw11_awake (h : Hp) (K : Kont) : abody Try.prog O_catenarylaw11_awake Try.f20 (bodyC Try.f20) [] h K = aw Try.prog O_catenarylaw11_awake (bodyC Try.f20) (qTop Try.prog Try.f20 K) [undef, undef, undef, undef, undef, undef, undef, undef, undef, undef, undef, undef, undef, undef, undef, undef, undef, undef, undef, undef, undef, undef, undef, undef, undef, undef, undef, undef, undef, undef, undef, undef, undef, undef, undef, undef, undef, undef, undef, undef, undef] h := by kernel_rfl
theorem eq_catenarylaw11_awake (h : Hp) (K : Kont) : abody Try.prog O_catenarylaw11_awake Try.f20 (bodyC Try.f20) [] h K = G_catenarylaw11_awake  h K := (gc_catenarylaw11_awake  h K).trans ((ga_catenarylaw11_awake _  h).trans (gb_catenarylaw11_awake  h K))
theorem ok_catenarylaw11_awake {h : Hp} {K : Kont} (hk : G_catenarylaw11_awake  h K) : C_catenarylaw11_awake [] h K := ac_of_body prog_mixed (fn := Try.f20) Try.func20 (c := bodyC Try.f20) (by kernel_rfl) ((eq_catenarylaw11_awake  h K).mpr hk)

/-! ### (*catenary/accept.Acceptor).Prepare: function 21 -/
def O_accept_Acceptor_Prepare : Od := []
noncomputable def K_accept_Acceptor_Prepare_0 : Code := (cB (cB (bodyC Try.f21)))
def G_accept_Acceptor_Prepare (a0 a1 a2 : Value) (h : Hp) (K : Kont) : Prop :=
  oEq 1 false none a0 (Go.Value.pointer none) h fun t10 h1 =>
  oIf t10
  (K (.tuple #[(Go.Value.slice none 0 0), (Go.Value.int Go.IntKind.i64 2)]) h1)
  (C_ballot_Is [a1] h1 fun t13 h2 =>
  oNot t13 h2 fun t14 h3 =>
  oGuard t14 false (fun K => K a2 h3) h3 fun t16 h4 =>
  oGuard t14 false (fun K => oBin .lss t16 (Go.Value.int Go.IntKind.i64 0) h4 K) h4 fun t17 h5 =>
  oPick t14 (Go.Value.bool true) t17 h5 fun t18 h6 =>
  oGuard t18 false (fun K => K a2 h6) h6 fun t20 h7 =>
  oGuard t18 false (fun K => oBin .gtr t20 (Go.Value.int Go.IntKind.i64 512) h7 K) h7 fun t21 h8 =>
  oPick t18 (Go.Value.bool true) t21 h8 fun t22 h9 =>
  oIf t22
  (K (.tuple #[(Go.Value.slice none 0 0), (Go.Value.int Go.IntKind.i64 1)]) h9)
  (oNilCheck a0 h9 fun t25 h10 =>
  oFieldAddr 0 t25 h10 fun t26 h11 =>
  oLd1 t26 h11 fun t27 h12 =>
  oBin .gtr t27 a1 h12 fun t29 h13 =>
  oIf t29
  (K (.tuple #[(Go.Value.slice none 0 0), (Go.Value.int Go.IntKind.i64 10)]) h13)
  (oNilCheck a0 h13 fun t32 h14 =>
  oFieldAddr 0 t32 h14 fun t33 h15 =>
  oSt 1 t33 a1 h15 fun _ h16 =>
  C_accept_Acceptor_Votes [a0, a2] h16 fun t36 h17 =>
  K (.tuple #[t36, (Go.Value.int Go.IntKind.i64 0)]) h17)))
theorem ga_accept_Acceptor_Prepare (Qv : Post) (a0 a1 a2 : Value) (h : Hp) : aw Try.prog O_accept_Acceptor_Prepare (bodyC Try.f21) Qv [a0, a1, a2, undef, undef, undef, undef, undef, undef, undef, undef, undef, undef, undef, undef, undef, undef, undef, undef, undef, undef, undef, undef, undef, undef, undef, undef, undef, undef, undef, undef, undef, undef, undef, undef, undef, undef] h = (oEq 1 false none a0 (Go.Value.pointer none) h fun t10 h1 =>
  oIf t10
  ((qBlk 0 (qSeq (aw Try.prog O_accept_Acceptor_Prepare K_accept_Acceptor_Prepare_0 Qv) Qv)) .ret [a0, a1, a2, undef, undef, undef, (Go.Value.slice none 0 0), (Go.Value.int Go.IntKind.i64 2), t10, a0, t10, undef, undef, undef, undef, undef, undef, undef, undef, undef, undef, undef, undef, undef, undef, undef, undef, undef, undef, undef, undef, undef, undef, undef, undef, undef, undef] h1)
  (C_ballot_Is [a1] h1 fun t13 h2 =>
  oNot t13 h2 fun t14 h3 =>
  oGuard t14 false (fun K => K a2 h3) h3 fun t16 h4 =>
  oGuard t14 false (fun K => oBin .lss t16 (Go.Value.int Go.IntKind.i64 0) h4 K) h4 fun t17 h5 =>
  oPick t14 (Go.Value.bool true) t17 h5 fun t18 h6 =>
  oGuard t18 false (fun K => K a2 h6) h6 fun t20 h7 =>
  oGuard t18 false (fun K => oBin .gtr t20 (Go.Value.int Go.IntKind.i64 512) h7 K) h7 fun t21 h8 =>
  oPick t18 (Go.Value.bool true) t21 h8 fun t22 h9 =>
  oIf t22
  ((qBlk 0 (qSeq (aw Try.prog O_accept_Acceptor_Prepare K_accept_Acceptor_Prepare_0 Qv) Qv)) .ret [a0, a1, a2, undef, undef, undef, (Go.Value.slice none 0 0), (Go.Value.int Go.IntKind.i64 1), t10, a0, t10, t22, a1, t13, t14, t14, t16, t17, t18, t18, t20, t21, t22, undef, undef, undef, undef, undef, undef, undef, undef, undef, undef, undef, undef, undef, undef] h9)
  (oNilCheck a0 h9 fun t25 h10 =>
  oFieldAddr 0 t25 h10 fun t26 h11 =>
  oLd1 t26 h11 fun t27 h12 =>
  oBin .gtr t27 a1 h12 fun t29 h13 =>
  oIf t29
  ((qBlk 0 (qSeq (aw Try.prog O_accept_Acceptor_Prepare K_accept_Acceptor_Prepare_0 Qv) Qv)) .ret [a0, a1, a2, undef, undef, undef, (Go.Value.slice none 0 0), (Go.Value.int Go.IntKind.i64 10), t10, a0, t10, t22, a1, t13, t14, t14, t16, t17, t18, t18, t20, t21, t22, t29, a0, t25, t26, t27, a1, t29, undef, undef, undef, undef, undef, undef, undef] h13)
  (oNilCheck a0 h13 fun t32 h14 =>
  oFieldAddr 0 t32 h14 fun t33 h15 =>
  oSt 1 t33 a1 h15 fun _ h16 =>
  C_accept_Acceptor_Votes [a0, a2] h16 fun t36 h17 =>
  Qv .ret [a0, a1, a2, undef, undef, undef, t36, (Go.Value.int Go.IntKind.i64 0), t10, a0, t10, t22, a1, t13, t14, t14, t16, t17, t18, t18, t20, t21, t22, t29, a0, t25, t26, t27, a1, t29, a0, a1, t32, t33, a0, a2, t36] h17)))) := by kernel_rfl
theorem gb_accept_Acceptor_Prepare (a0 a1 a2 : Value) (h : Hp) (K : Kont) : (oEq 1 false none a0 (Go.Value.pointer none) h fun t10 h1 =>
  oIf t10
  ((qBlk 0 (qSeq (aw Try.prog O_accept_Acceptor_Prepare K_accept_Acceptor_Prepare_0 (qTop Try.prog Try.f21 K)) (qTop Try.prog Try.f21 K))) .ret [a0, a1, a2, undef, undef, undef, (Go.Value.slice none 0 0), (Go.Value.int Go.IntKind.i64 2), t10, a0, t10, undef, undef, undef, undef, undef, undef, undef, undef, undef, undef, undef, undef, undef, undef, undef, undef, undef, undef, undef, undef, undef, undef, undef, undef, undef, undef] h1)
  (C_ballot_Is [a1] h1 fun t13 h2 =>
  oNot t13 h2 fun t14 h3 =>
  oGuard t14 false (fun K => K a2 h3) h3 fun t16 h4 =>
  oGuard t14 false (fun K => oBin .lss t16 (Go.Value.int Go.IntKind.i64 0) h4 K) h4 fun t17 h5 =>
  oPick t14 (Go.Value.bool true) t17 h5 fun t18 h6 =>
  oGuard t18 false (fun K => K a2 h6) h6 fun t20 h7 =>
  oGuard t18 false (fun K => oBin .gtr t20 (Go.Value.int Go.IntKind.i64 512) h7 K) h7 fun t21 h8 =>
  oPick t18 (Go.Value.bool true) t21 h8 fun t22 h9 =>
  oIf t22
  ((qBlk 0 (qSeq (aw Try.prog O_accept_Acceptor_Prepare K_accept_Acceptor_Prepare_0 (qTop Try.prog Try.f21 K)) (qTop Try.prog Try.f21 K))) .ret [a0, a1, a2, undef, undef, undef, (Go.Value.slice none 0 0), (Go.Value.int Go.IntKind.i64 1), t10, a0, t10, t22, a1, t13, t14, t14, t16, t17, t18, t18, t20, t21, t22, undef, undef, undef, undef, undef, undef, undef, undef, undef, undef, undef, undef, undef, undef] h9)
  (oNilCheck a0 h9 fun t25 h10 =>
  oFieldAddr 0 t25 h10 fun t26 h11 =>
  oLd1 t26 h11 fun t27 h12 =>
  oBin .gtr t27 a1 h12 fun t29 h13 =>
  oIf t29
  ((qBlk 0 (qSeq (aw Try.prog O_accept_Acceptor_Prepare K_accept_Acceptor_Prepare_0 (qTop Try.prog Try.f21 K)) (qTop Try.prog Try.f21 K))) .ret [a0, a1, a2, undef, undef, undef, (Go.Value.slice none 0 0), (Go.Value.int Go.IntKind.i64 10), t10, a0, t10, t22, a1, t13, t14, t14, t16, t17, t18, t18, t20, t21, t22, t29, a0, t25, t26, t27, a1, t29, undef, undef, undef, undef, undef, undef, undef] h13)
  (oNilCheck a0 h13 fun t32 h14 =>
  oFieldAddr 0 t32 h14 fun t33 h15 =>
  oSt 1 t33 a1 h15 fun _ h16 =>
  C_accept_Acceptor_Votes [a0, a2] h16 fun t36 h17 =>
  (qTop Try.prog Try.f21 K) .ret [a0, a1, a2, undef, undef, undef, t36, (Go.Value.int Go.IntKind.i64 0), t10, a0, t10, t22, a1, t13, t14, t14, t16, t17, t18, t18, t20, t21, t22, t29, a0, t25, t26, t27, a1, t29, a0, a1, t32, t33, a0, a2, t36] h17)))) = G_accept_Acceptor_Prepare a0 a1 a2 h K := by kernel_rfl
theorem gc_accept_Acceptor_Prepare (a0 a1 a2 : Value) (h : Hp) (K : Kont) : abody Try.prog O_accept_Acceptor_Prepare Try.f21 (bodyC Try.f21) [a0, a1, a2] h K = aw Try.prog O_accept_Acceptor_Prepare (bodyC Try.f21) (qTop Try.prog Try.f21 K) [a0, a1, a2, undef, undef, undef, undef, undef, undef, undef, undef, undef, undef, undef, undef, undef, undef, undef, undef, undef, undef, undef, undef, undef, undef, undef, undef, undef, undef, undef, undef, undef, undef, undef, undef, undef, undef] h := by kernel_rfl
theorem eq_accept_Acceptor_Prepare (a0 a1 a2 : Value) (h : Hp) (K : Kont) : abody Try.prog O_accept_Acceptor_Prepare Try.f21 (bodyC Try.f21) [a0, a1, a2] h K = G_accept_Acceptor_Prepare a0 a1 a2 h K := (gc_accept_Acceptor_Prepare a0 a1 a2 h K).trans ((ga_accept_Acceptor_Prepare _ a0 a1 a2 h).trans (gb_accept_Acceptor_Prepare a0 a1 a2 h K))
theorem ok_accept_Acceptor_Prepare {a0 a1 a2 : Value} {h : Hp} {K : Kont} (hk : G_accept_Acceptor_Prepare a0 a1 a2 h K) : C_accept_Acceptor_Prepare [a0, a1, a2] h K := ac_of_body prog_mixed (fn := Try.f21) Try.func21 (c := bodyC Try.f21) (by kernel_rfl) ((eq_accept_Acceptor_Prepare a0 a1 a2 h K).mpr hk)

/-! ### (*catenary/accept.Acceptor).Accept: function 22 -/
def O_accept_Acceptor_Accept : Od := [(11, (.one 0 true (.one 1 true (.one 2 true (.one 3 true (.one 4 true (.one 5 true (.one 6 true (.one 7 true (.one 8 true (.one 9 false .nil)))))))))))]
noncomputable def K_accept_Acceptor_Accept_0 : Code := (cB (cB (bodyC Try.f22)))
noncomputable def K_accept_Acceptor_Accept_1 : Code := (cB (cB (cB (bodyC Try.f22))))
noncomputable def K_accept_Acceptor_Accept_2 : Code := (cB (cB (cB (cB (bodyC Try.f22)))))
def G_accept_Acceptor_Accept (a0 a1 a2 a3 : Value) (h : Hp) (K : Kont) : Prop :=
  oBox a3 h fun t7 h1 =>
  oEq 1 false none a0 (Go.Value.pointer none) h1 fun t12 h2 =>
  oIf t12
  (K (Go.Value.int Go.IntKind.i64 2) h2)
  (C_ballot_Is [a1] h2 fun t15 h3 =>
  oNot t15 h3 fun t16 h4 =>
  oGuard t16 false (fun K => K a2 h4) h4 fun t18 h5 =>
  oGuard t16 false (fun K => oBin .lss t18 (Go.Value.int Go.IntKind.i64 0) h5 K) h5 fun t19 h6 =>
  oPick t16 (Go.Value.bool true) t19 h6 fun t20 h7 =>
  oGuard t20 false (fun K => K a2 h7) h7 fun t22 h8 =>
  oGuard t20 false (fun K => oBin .geq t22 (Go.Value.int Go.IntKind.i64 512) h8 K) h8 fun t23 h9 =>
  oPick t20 (Go.Value.bool true) t23 h9 fun t24 h10 =>
  oIf t24
  (K (Go.Value.int Go.IntKind.i64 1) h10)
  (oLdN 4 t7 h10 fun t25 h11 =>
  C_cmds_Check [t25] h11 fun t26 h12 =>
  oBin .neq t26 (Go.Value.int Go.IntKind.i64 0) h12 fun t28 h13 =>
  oIf t28
  (K t26 h13)
  (oNilCheck a0 h13 fun t31 h14 =>
  oFieldAddr 0 t31 h14 fun t32 h15 =>
  oLd1 t32 h15 fun t33 h16 =>
  oBin .gtr t33 a1 h16 fun t35 h17 =>
  oIf t35
  (K (Go.Value.int Go.IntKind.i64 10) h17)
  (oNilCheck a0 h17 fun t38 h18 =>
  oFieldAddr 0 t38 h18 fun t39 h19 =>
  oSt 1 t39 a1 h19 fun _ h20 =>
  oNilCheck a0 h20 fun t41 h21 =>
  oFieldAddr 1 t41 h21 fun t42 h22 =>
  oLd1 t42 h22 fun t43 h23 =>
  oLdN 4 t7 h23 fun t47 h24 =>
  oBuild #[.int .i64 0, .int .u64 0, .int .i64 0, .int .i64 0, .int .u64 0, .int .i64 0] [(0, 1, a2), (1, 1, a1), (2, 4, t47)] h24 fun t48 h25 =>
  oMapUpdate (.int .i64) t43 a2 t48 h25 fun _ h26 =>
  (True) ∧
  K (Go.Value.int Go.IntKind.i64 0) h26))))
theorem ga_accept_Acceptor_Accept (Qv : Post) (a0 a1 a2 a3 : Value) (h : Hp) : aw Try.prog O_accept_Acceptor_Accept (bodyC Try.f22) Qv [a0, a1, a2, a3, undef, undef, undef, undef, undef, undef, undef, undef, undef, undef, undef, undef, undef, undef, undef, undef, undef, undef, undef, undef, undef, undef, undef, undef, undef, undef, undef, undef, undef, undef, undef, undef, undef, undef, undef, undef, undef, undef, undef, undef, undef, undef, undef, undef, undef] h = (oBox a3 h fun t7 h1 =>
  oEq 1 false none a0 (Go.Value.pointer none) h1 fun t12 h2 =>
  oIf t12
  ((qBlk 0 (qSeq (aw Try.prog O_accept_Acceptor_Accept K_accept_Acceptor_Accept_0 Qv) Qv)) .ret [a0, a1, a2, a3, undef, undef, undef, t7, (Go.Value.int Go.IntKind.i64 2), undef, t12, a0, t12, undef, undef, undef, undef, undef, undef, undef, undef, undef, undef, undef, undef, undef, undef, undef, undef, undef, undef, undef, undef, undef, undef, undef, undef, undef, undef, undef, undef, undef, undef, undef, undef, undef, undef, undef, undef] h2)
  (C_ballot_Is [a1] h2 fun t15 h3 =>
  oNot t15 h3 fun t16 h4 =>
  oGuard t16 false (fun K => K a2 h4) h4 fun t18 h5 =>
  oGuard t16 false (fun K => oBin .lss t18 (Go.Value.int Go.IntKind.i64 0) h5 K) h5 fun t19 h6 =>
  oPick t16 (Go.Value.bool true) t19 h6 fun t20 h7 =>
  oGuard t20 false (fun K => K a2 h7) h7 fun t22 h8 =>
  oGuard t20 false (fun K => oBin .geq t22 (Go.Value.int Go.IntKind.i64 512) h8 K) h8 fun t23 h9 =>
  oPick t20 (Go.Value.bool true) t23 h9 fun t24 h10 =>
  oIf t24
  ((qBlk 0 (qSeq (aw Try.prog O_accept_Acceptor_Accept K_accept_Acceptor_Accept_0 Qv) Qv)) .ret [a0, a1, a2, a3, undef, undef, undef, t7, (Go.Value.int Go.IntKind.i64 1), undef, t12, a0, t12, t24, a1, t15, t16, t16, t18, t19, t20, t20, t22, t23, t24, undef, undef, undef, undef, undef, undef, undef, undef, undef, undef, undef, undef, undef, undef, undef, undef, undef, undef, undef, undef, undef, undef, undef, undef] h10)
  (oLdN 4 t7 h10 fun t25 h11 =>
  C_cmds_Check [t25] h11 fun t26 h12 =>
  oBin .neq t26 (Go.Value.int Go.IntKind.i64 0) h12 fun t28 h13 =>
  oIf t28
  ((qSeq (aw Try.prog O_accept_Acceptor_Accept K_accept_Acceptor_Accept_1 Qv) Qv) .ret [a0, a1, a2, a3, undef, undef, undef, t7, t26, t26, t12, a0, t12, t24, a1, t15, t16, t16, t18, t19, t20, t20, t22, t23, t24, t25, t26, t26, t28, t26, undef, undef, undef, undef, undef, undef, undef, undef, undef, undef, undef, undef, undef, undef, undef, undef, undef, undef, undef] h13)
  (oNilCheck a0 h13 fun t31 h14 =>
  oFieldAddr 0 t31 h14 fun t32 h15 =>
  oLd1 t32 h15 fun t33 h16 =>
  oBin .gtr t33 a1 h16 fun t35 h17 =>
  oIf t35
  ((qSeq (aw Try.prog O_accept_Acceptor_Accept K_accept_Acceptor_Accept_2 Qv) Qv) .ret [a0, a1, a2, a3, undef, undef, undef, t7, (Go.Value.int Go.IntKind.i64 10), t26, t12, a0, t12, t24, a1, t15, t16, t16, t18, t19, t20, t20, t22, t23, t24, t25, t26, t26, t28, undef, a0, t31, t32, t33, a1, t35, undef, undef, undef, undef, undef, undef, undef, undef, undef, undef, undef, undef, undef] h17)
  (oNilCheck a0 h17 fun t38 h18 =>
  oFieldAddr 0 t38 h18 fun t39 h19 =>
  oSt 1 t39 a1 h19 fun _ h20 =>
  oNilCheck a0 h20 fun t41 h21 =>
  oFieldAddr 1 t41 h21 fun t42 h22 =>
  oLd1 t42 h22 fun t43 h23 =>
  oLdN 4 t7 h23 fun t47 h24 =>
  oBuild #[.int .i64 0, .int .u64 0, .int .i64 0, .int .i64 0, .int .u64 0, .int .i64 0] [(0, 1, a2), (1, 1, a1), (2, 4, t47)] h24 fun t48 h25 =>
  oMapUpdate (.int .i64) t43 a2 t48 h25 fun _ h26 =>
  (True) ∧
  Qv .ret [a0, a1, a2, a3, undef, undef, undef, t7, (Go.Value.int Go.IntKind.i64 0), t26, t12, a0, t12, t24, a1, t15, t16, t16, t18, t19, t20, t20, t22, t23, t24, t25, t26, t26, t28, undef, a0, t31, t32, t33, a1, t35, a0, a1, t38, t39, a0, t41, t42, t43, a2, a2, a1, t47, t48] h26))))) := by kernel_rfl
theorem gb_accept_Acceptor_Accept (a0 a1 a2 a3 : Value) (h : Hp) (K : Kont) : (oBox a3 h fun t7 h1 =>
  oEq 1 false none a0 (Go.Value.pointer none) h1 fun t12 h2 =>
  oIf t12
  ((qBlk 0 (qSeq (aw Try.prog O_accept_Acceptor_Accept K_accept_Acceptor_Accept_0 (qTop Try.prog Try.f22 K)) (qTop Try.prog Try.f22 K))) .ret [a0, a1, a2, a3, undef, undef, undef, t7, (Go.Value.int Go.IntKind.i64 2), undef, t12, a0, t12, undef, undef, undef, undef, undef, undef, undef, undef, undef, undef, undef, undef, undef, undef, undef, undef, undef, undef, undef, undef, undef, undef, undef, undef, undef, undef, undef, undef, undef, undef, undef, undef, undef, undef, undef, undef] h2)
  (C_ballot_Is [a1] h2 fun t15 h3 =>
  oNot t15 h3 fun t16 h4 =>
  oGuard t16 false (fun K => K a2 h4) h4 fun t18 h5 =>
  oGuard t16 false (fun K => oBin .lss t18 (Go.Value.int Go.IntKind.i64 0) h5 K) h5 fun t19 h6 =>
  oPick t16 (Go.Value.bool true) t19 h6 fun t20 h7 =>
  oGuard t20 false (fun K => K a2 h7) h7 fun t22 h8 =>
  oGuard t20 false (fun K => oBin .geq t22 (Go.Value.int Go.IntKind.i64 512) h8 K) h8 fun t23 h9 =>
  oPick t20 (Go.Value.bool true) t23 h9 fun t24 h10 =>
  oIf t24
  ((qBlk 0 (qSeq (aw Try.prog O_accept_Acceptor_Accept K_accept_Acceptor_Accept_0 (qTop Try.prog Try.f22 K)) (qTop Try.prog Try.f22 K))) .ret [a0, a1, a2, a3, undef, undef, undef, t7, (Go.Value.int Go.IntKind.i64 1), undef, t12, a0, t12, t24, a1, t15, t16, t16, t18, t19, t20, t20, t22, t23, t24, undef, undef, undef, undef, undef, undef, undef, undef, undef, undef, undef, undef, undef, undef, undef, undef, undef, undef, undef, undef, undef, undef, undef, undef] h10)
  (oLdN 4 t7 h10 fun t25 h11 =>
  C_cmds_Check [t25] h11 fun t26 h12 =>
  oBin .neq t26 (Go.Value.int Go.IntKind.i64 0) h12 fun t28 h13 =>
  oIf t28
  ((qSeq (aw Try.prog O_accept_Acceptor_Accept K_accept_Acceptor_Accept_1 (qTop Try.prog Try.f22 K)) (qTop Try.prog Try.f22 K)) .ret [a0, a1, a2, a3, undef, undef, undef, t7, t26, t26, t12, a0, t12, t24, a1, t15, t16, t16, t18, t19, t20, t20, t22, t23, t24, t25, t26, t26, t28, t26, undef, undef, undef, undef, undef, undef, undef, undef, undef, undef, undef, undef, undef, undef, undef, undef, undef, undef, undef] h13)
  (oNilCheck a0 h13 fun t31 h14 =>
  oFieldAddr 0 t31 h14 fun t32 h15 =>
  oLd1 t32 h15 fun t33 h16 =>
  oBin .gtr t33 a1 h16 fun t35 h17 =>
  oIf t35
  ((qSeq (aw Try.prog O_accept_Acceptor_Accept K_accept_Acceptor_Accept_2 (qTop Try.prog Try.f22 K)) (qTop Try.prog Try.f22 K)) .ret [a0, a1, a2, a3, undef, undef, undef, t7, (Go.Value.int Go.IntKind.i64 10), t26, t12, a0, t12, t24, a1, t15, t16, t16, t18, t19, t20, t20, t22, t23, t24, t25, t26, t26, t28, undef, a0, t31, t32, t33, a1, t35, undef, undef, undef, undef, undef, undef, undef, undef, undef, undef, undef, undef, undef] h17)
  (oNilCheck a0 h17 fun t38 h18 =>
  oFieldAddr 0 t38 h18 fun t39 h19 =>
  oSt 1 t39 a1 h19 fun _ h20 =>
  oNilCheck a0 h20 fun t41 h21 =>
  oFieldAddr 1 t41 h21 fun t42 h22 =>
  oLd1 t42 h22 fun t43 h23 =>
  oLdN 4 t7 h23 fun t47 h24 =>
  oBuild #[.int .i64 0, .int .u64 0, .int .i64 0, .int .i64 0, .int .u64 0, .int .i64 0] [(0, 1, a2), (1, 1, a1), (2, 4, t47)] h24 fun t48 h25 =>
  oMapUpdate (.int .i64) t43 a2 t48 h25 fun _ h26 =>
  (True) ∧
  (qTop Try.prog Try.f22 K) .ret [a0, a1, a2, a3, undef, undef, undef, t7, (Go.Value.int Go.IntKind.i64 0), t26, t12, a0, t12, t24, a1, t15, t16, t16, t18, t19, t20, t20, t22, t23, t24, t25, t26, t26, t28, undef, a0, t31, t32, t33, a1, t35, a0, a1, t38, t39, a0, t41, t42, t43, a2, a2, a1, t47, t48] h26))))) = G_accept_Acceptor_Accept a0 a1 a2 a3 h K := by kernel_rfl
theorem gc_accept_Acceptor_Accept (a0 a1 a2 a3 : Value) (h : Hp) (K : Kont) : abody Try.prog O_accept_Acceptor_Accept Try.f22 (bodyC Try.f22) [a0, a1, a2, a3] h K = aw Try.prog O_accept_Acceptor_Accept (bodyC Try.f22) (qTop Try.prog Try.f22 K) [a0, a1, a2, a3, undef, undef, undef, undef, undef, undef, undef, undef, undef, undef, undef, undef, undef, undef, undef, undef, undef, undef, undef, undef, undef, undef, undef, undef, undef, undef, undef, undef, undef, undef, undef, undef, undef, undef, undef, undef, undef, undef, undef, undef, undef, undef, undef, undef, undef] h := by kernel_rfl
theorem eq_accept_Acceptor_Accept (a0 a1 a2 a3 : Value) (h : Hp) (K : Kont) : abody Try.prog O_accept_Acceptor_Accept Try.f22 (bodyC Try.f22) [a0, a1, a2, a3] h K = G_accept_Acceptor_Accept a0 a1 a2 a3 h K := (gc_accept_Acceptor_Accept a0 a1 a2 a3 h K).trans ((ga_accept_Acceptor_Accept _ a0 a1 a2 a3 h).trans (gb_accept_Acceptor_Accept a0 a1 a2 a3 h K))
theorem ok_accept_Acceptor_Accept {a0 a1 a2 a3 : Value} {h : Hp} {K : Kont} (hk : G_accept_Acceptor_Accept a0 a1 a2 a3 h K) : C_accept_Acceptor_Accept [a0, a1, a2, a3] h K := ac_of_body prog_mixed (fn := Try.f22) Try.func22 (c := bodyC Try.f22) (by kernel_rfl) ((eq_accept_Acceptor_Accept a0 a1 a2 a3 h K).mpr hk)

end Go.Proofs.Ytdolepapmpcpiaa
