/- Lemmas for the theorem of the last text; no condition. -/
import Derived.Test.YtdolepapmpcpiaaLc0
import Derived.Test.YtdolepapmpcpiaaLc1
import Derived.Test.YtdolepapmpcpiaaLc2
import Derived.Test.YtdolepapmpcpiaaLc3
import Derived.Test.YtdolepapmpcpiaaLc4
import Derived.Test.YtdolepapmpcpiaaLc5
import Derived.Test.YtdolepapmpcpiaaLc6
import Derived.Test.YtdolepapmpcpiaaProg
/- What functions of the program ask of the seen heap (written by a program of this proof, vgen.py). -/
namespace Go.Proofs.Ytdolepapmpcpiaa
open Go
set_option linter.unusedSectionVars false
variable [Base]
set_option linter.unusedVariables false
set_option maxRecDepth 100000

/-! ### (*catenary/lead.Lead).Promise$1: function 56 -/
def O_lead_Lead_Promise_c1 : Od := [(1, (.one 0 true (.one 1 true (.one 2 true (.one 3 true (.one 4 true (.one 5 true (.one 6 true (.one 7 true (.one 8 true (.one 9 true (.one 10 true (.one 11 true (.one 12 true .nil))))))))))))))]
def G_lead_Lead_Promise_c1 (a0 a1 : Value) (h : Hp) (K : Kont) : Prop :=
  oBox a0 h fun t2 h1 =>
  oFieldAddr 0 t2 h1 fun t4 h2 =>
  oLd1 t4 h2 fun t5 h3 =>
  oLd1 a1 h3 fun t6 h4 =>
  oNilCheck t6 h4 fun t7 h5 =>
  oFieldAddr 4 t7 h5 fun t8 h6 =>
  oLd1 t8 h6 fun t9 h7 =>
  oBin .lss t5 t9 h7 fun t10 h8 =>
  oGuard t10 false (fun K => oFieldAddr 0 t2 h8 K) h8 fun t12 h9 =>
  oGuard t10 false (fun K => oLd1 t12 h9 K) h9 fun t13 h10 =>
  oGuard t10 false (fun K => oBin .geq t13 (Value.int .i64 512) h10 K) h10 fun t14 h11 =>
  oPick t10 (Value.bool true) t14 h11 fun t15 h12 =>
  K t15 h12
def E0_lead_Lead_Promise_c1 (a0 a1 : Value) : List Value := [a0, a1, undef, undef, undef, undef, undef, undef, undef, undef, undef, undef, undef, undef, undef, undef]
def X_lead_Lead_Promise_c1 (Qv : Post) (a0 a1 : Value) (h : Hp) : Prop :=
  oBox a0 h fun t2 h1 =>
  oFieldAddr 0 t2 h1 fun t4 h2 =>
  oLd1 t4 h2 fun t5 h3 =>
  oLd1 a1 h3 fun t6 h4 =>
  oNilCheck t6 h4 fun t7 h5 =>
  oFieldAddr 4 t7 h5 fun t8 h6 =>
  oLd1 t8 h6 fun t9 h7 =>
  oBin .lss t5 t9 h7 fun t10 h8 =>
  oGuard t10 false (fun K => oFieldAddr 0 t2 h8 K) h8 fun t12 h9 =>
  oGuard t10 false (fun K => oLd1 t12 h9 K) h9 fun t13 h10 =>
  oGuard t10 false (fun K => oBin .geq t13 (Value.int .i64 512) h10 K) h10 fun t14 h11 =>
  oPick t10 (Value.bool true) t14 h11 fun t15 h12 =>
  Qv .ret (ul (E0_lead_Lead_Promise_c1 a0 a1) [(2, t2), (3, t15), (4, t4), (5, t5), (6, t6), (7, t7), (8, t8), (9, t9), (10, t10), (11, t10), (12, t12), (13, t13), (14, t14), (15, t15)]) h12
theorem ga_lead_Lead_Promise_c1 (Qv : Post) (a0 a1 : Value) (h : Hp) : aw Try.prog O_lead_Lead_Promise_c1 (bodyC Try.f56) Qv (E0_lead_Lead_Promise_c1 a0 a1) h = X_lead_Lead_Promise_c1 Qv a0 a1 h := by kernel_rfl
theorem gb_lead_Lead_Promise_c1 (a0 a1 : Value) (h : Hp) (K : Kont) : X_lead_Lead_Promise_c1 (qTop Try.prog Try.f56 K) a0 a1 h = G_lead_Lead_Promise_c1 a0 a1 h K := by kernel_rfl
theorem gc_lead_Lead_Promise_c1 (a0 a1 : Value) (h : Hp) (K : Kont) : abody Try.prog O_lead_Lead_Promise_c1 Try.f56 (bodyC Try.f56) [a0, a1] h K = aw Try.prog O_lead_Lead_Promise_c1 (bodyC Try.f56) (qTop Try.prog Try.f56 K) (E0_lead_Lead_Promise_c1 a0 a1) h := by kernel_rfl
theorem eq_lead_Lead_Promise_c1 (a0 a1 : Value) (h : Hp) (K : Kont) : abody Try.prog O_lead_Lead_Promise_c1 Try.f56 (bodyC Try.f56) [a0, a1] h K = G_lead_Lead_Promise_c1 a0 a1 h K := (gc_lead_Lead_Promise_c1 a0 a1 h K).trans ((ga_lead_Lead_Promise_c1 _ a0 a1 h).trans (gb_lead_Lead_Promise_c1 a0 a1 h K))
theorem ok_lead_Lead_Promise_c1 {a0 a1 : Value} {h : Hp} {K : Kont} (hk : G_lead_Lead_Promise_c1 a0 a1 h K) : C_lead_Lead_Promise_c1 [a0, a1] h K := ac_of_body prog_mixed (fn := Try.f56) Try.func56 (c := bodyC Try.f56) (by kernel_rfl) ((eq_lead_Lead_Promise_c1 a0 a1 h K).mpr hk)

/-! ### catenary/ballot.With: function 57 -/
def O_ballot_With : Od := []
noncomputable def K_ballot_With_0 : Code := (cI (cB (cA (cB (cB (bodyC Try.f57))))))
noncomputable def K_ballot_With_1 : Code := (cB (cB (cB (bodyC Try.f57))))
def Q_ballot_With_0 (K : Kont) : Post := qSeq (aw Try.prog O_ballot_With K_ballot_With_1 (qTop Try.prog Try.f57 K)) (qTop Try.prog Try.f57 K)
def Q_ballot_With_1 (K : Kont) : Post := qBlk 0 (Q_ballot_With_0 K)
def E_ballot_With_1 (v0 : Value) (v9 : Value) (v10 : Value) (v11 : Value) (d : Nat → Value) : List Value := [v0, d 1, d 2, d 3, d 4, d 5, d 6, d 7, d 8, v9, v10, v11, d 12, d 13, d 14, d 15, d 16, d 17, d 18, d 19, d 20, d 21, d 22]
def G_ballot_With_1 (K : Kont) (v0 : Value) (v9 : Value) (v10 : Value) (v11 : Value) (d : Nat → Value) (h : Hp) : Prop := aw Try.prog O_ballot_With K_ballot_With_0 (Q_ballot_With_1 K) (E_ballot_With_1 v0 v9 v10 v11 d) h
def Q_ballot_With_2 (K : Kont) (s0 : Self) : Post := qSeq s0 (Q_ballot_With_1 K)
noncomputable def K_ballot_With_2 : Code := (cI (cI (cB (cA (cB (cB (bodyC Try.f57)))))))
noncomputable def K_ballot_With_3 : Code := (cB (cB (cB (cI (cI (cB (cA (cB (cB (bodyC Try.f57))))))))))
def E_ballot_With_2 (v0 : Value) (v9 : Value) (v10 : Value) (v11 : Value) (d : Nat → Value) : List Value := [v0, d 1, d 2, d 3, d 4, d 5, d 6, d 7, d 8, v9, v10, v11, d 12, d 13, d 14, d 15, d 16, d 17, d 18, d 19, d 20, d 21, d 22]
def G_ballot_With_2 (K : Kont) (s0 : Self) (v0 : Value) (v9 : Value) (v10 : Value) (v11 : Value) (d : Nat → Value) (h : Hp) : Prop := aw Try.prog O_ballot_With K_ballot_With_3 (Q_ballot_With_2 K s0) (E_ballot_With_2 v0 v9 v10 v11 d) h
noncomputable def K_ballot_With_4 : Code := (cB (cB (cI (cI (cB (cA (cB (cB (bodyC Try.f57)))))))))
def G_ballot_With (a0 a1 : Value) (h : Hp) (K : Kont) : Prop :=
  oBin .andNot a0 (Value.int .u64 1) h fun t8 h1 =>
  oLen 0 a1 h1 fun t10 h2 =>
  G_ballot_With_1 K t8 a1 t10 (Value.int .i64 0) (ud [(1, a1), (4, (Value.int .u64 0)), (7, a0), (8, t8)] dz) h2
def E0_ballot_With (a0 a1 : Value) : List Value := [a0, a1, undef, undef, undef, undef, undef, undef, undef, undef, undef, undef, undef, undef, undef, undef, undef, undef, undef, undef, undef, undef, undef]
def X_ballot_With (Qv : Post) (a0 a1 : Value) (h : Hp) : Prop :=
  oBin .andNot a0 (Value.int .u64 1) h fun t8 h1 =>
  oLen 0 a1 h1 fun t10 h2 =>
  aw Try.prog O_ballot_With K_ballot_With_0 (qBlk 0 (qSeq (aw Try.prog O_ballot_With K_ballot_With_1 Qv) Qv)) (ul (E0_ballot_With a0 a1) [(0, t8), (4, (Value.int .u64 0)), (7, a0), (8, t8), (9, a1), (10, t10), (11, (Value.int .i64 0))]) h2
theorem ga_ballot_With (Qv : Post) (a0 a1 : Value) (h : Hp) : aw Try.prog O_ballot_With (bodyC Try.f57) Qv (E0_ballot_With a0 a1) h = X_ballot_With Qv a0 a1 h := by kernel_rfl
theorem gb_ballot_With (a0 a1 : Value) (h : Hp) (K : Kont) : X_ballot_With (qTop Try.prog Try.f57 K) a0 a1 h = G_ballot_With a0 a1 h K := by kernel_rfl
theorem gc_ballot_With (a0 a1 : Value) (h : Hp) (K : Kont) : abody Try.prog O_ballot_With Try.f57 (bodyC Try.f57) [a0, a1] h K = aw Try.prog O_ballot_With (bodyC Try.f57) (qTop Try.prog Try.f57 K) (E0_ballot_With a0 a1) h := by kernel_rfl
theorem eq_ballot_With (a0 a1 : Value) (h : Hp) (K : Kont) : abody Try.prog O_ballot_With Try.f57 (bodyC Try.f57) [a0, a1] h K = G_ballot_With a0 a1 h K := (gc_ballot_With a0 a1 h K).trans ((ga_ballot_With _ a0 a1 h).trans (gb_ballot_With a0 a1 h K))
theorem ok_ballot_With {a0 a1 : Value} {h : Hp} {K : Kont} (hk : G_ballot_With a0 a1 h K) : C_ballot_With [a0, a1] h K := ac_of_body prog_mixed (fn := Try.f57) Try.func57 (c := bodyC Try.f57) (by kernel_rfl) ((eq_ballot_With a0 a1 h K).mpr hk)
def B_ballot_With_1 (K : Kont) (s0 : Self) (v0 : Value) (v9 : Value) (v10 : Value) (v11 : Value) (d : Nat → Value) (h : Hp) : Prop :=
  oBin .lss v11 v10 h fun t12 h1 =>
  oIf t12
  (oIdxS 1 v9 v11 h1 fun t13 h2 =>
  oLd1 t13 h2 fun t14 h3 =>
  C_ballot_member [t14] h3 fun t16 h4 =>
  oIf t16
  (oBin .shl (Value.int .u64 1) t14 h4 fun t19 h5 =>
  oBin .or v0 t19 h5 fun t20 h6 =>
  G_ballot_With_2 K s0 t20 v9 v10 v11 (ud [(6, t14), (12, t12), (13, t13), (14, t14), (15, t14), (16, t16), (17, v0), (18, t14), (19, t19), (20, t20)] d) h6)
  (G_ballot_With_2 K s0 v0 v9 v10 v11 (ud [(6, t14), (12, t12), (13, t13), (14, t14), (15, t14), (16, t16)] d) h4))
  (K v0 h1)
def X_ballot_With_1 (Qv : Post) (v0 : Value) (v9 : Value) (v10 : Value) (v11 : Value) (d : Nat → Value) (h : Hp) : Prop :=
  oBin .lss v11 v10 h fun t12 h1 =>
  oIf t12
  (oIdxS 1 v9 v11 h1 fun t13 h2 =>
  oLd1 t13 h2 fun t14 h3 =>
  C_ballot_member [t14] h3 fun t16 h4 =>
  oIf t16
  (oBin .shl (Value.int .u64 1) t14 h4 fun t19 h5 =>
  oBin .or v0 t19 h5 fun t20 h6 =>
  (qBlk 1 (qSeq (aw Try.prog O_ballot_With K_ballot_With_3 Qv) Qv)) .normal (ul (E_ballot_With_1 v0 v9 v10 v11 d) [(0, t20), (6, t14), (12, t12), (13, t13), (14, t14), (15, t14), (16, t16), (17, v0), (18, t14), (19, t19), (20, t20)]) h6)
  ((qBlk 1 (qSeq (aw Try.prog O_ballot_With K_ballot_With_3 Qv) Qv)) .normal (ul (E_ballot_With_1 v0 v9 v10 v11 d) [(6, t14), (12, t12), (13, t13), (14, t14), (15, t14), (16, t16)]) h4))
  ((qSeq (aw Try.prog O_ballot_With K_ballot_With_4 Qv) Qv) (.exit 0) (ul (E_ballot_With_1 v0 v9 v10 v11 d) [(12, t12)]) h1)
theorem ga_ballot_With_1 (Qv : Post) (v0 : Value) (v9 : Value) (v10 : Value) (v11 : Value) (d : Nat → Value) (h : Hp) : aw Try.prog O_ballot_With K_ballot_With_2 Qv (E_ballot_With_1 v0 v9 v10 v11 d) h = X_ballot_With_1 Qv v0 v9 v10 v11 d h := by kernel_rfl
theorem gb_ballot_With_1 (K : Kont) (s0 : Self) (v0 : Value) (v9 : Value) (v10 : Value) (v11 : Value) (d : Nat → Value) (h : Hp) : X_ballot_With_1 (Q_ballot_With_2 K s0) v0 v9 v10 v11 d h = B_ballot_With_1 K s0 v0 v9 v10 v11 d h := by kernel_rfl
theorem beq_ballot_With_1 (K : Kont) (s0 : Self) (v0 : Value) (v9 : Value) (v10 : Value) (v11 : Value) (d : Nat → Value) (h : Hp) : aw Try.prog O_ballot_With K_ballot_With_2 (Q_ballot_With_2 K s0) (E_ballot_With_1 v0 v9 v10 v11 d) h = B_ballot_With_1 K s0 v0 v9 v10 v11 d h := (ga_ballot_With_1 _ v0 v9 v10 v11 d h).trans (gb_ballot_With_1 K s0 v0 v9 v10 v11 d h)
theorem rule_ballot_With_1 {K : Kont} {v9 : Value} {v10 : Value} (Inv : Value → Value → Hp → Prop) (μ : Value → Value → Hp → Nat)
    (step : ∀ (s0 : Self) (v0 : Value) (v11 : Value) (d : Nat → Value) (h : Hp), Inv v0 v11 h → (∀ (v0' : Value) (v11' : Value) (d' : Nat → Value) (h' : Hp), Inv v0' v11' h' → μ v0' v11' h' < μ v0 v11 h → s0 (E_ballot_With_1 v0' v9 v10 v11' d') h') → B_ballot_With_1 K s0 v0 v9 v10 v11 d h) (v0 : Value) (v11 : Value) (d : Nat → Value) (h : Hp) (hi : Inv v0 v11 h) : G_ballot_With_1 K v0 v9 v10 v11 d h :=
  oLoop_rule (α := Value × Value × (Nat → Value)) (fun x => E_ballot_With_1 x.1 v9 v10 x.2.1 x.2.2) (fun x h => Inv x.1 x.2.1 h) (fun x h => μ x.1 x.2.1 h)
    (fun self x h hx hs => (beq_ballot_With_1 K self x.1 v9 v10 x.2.1 x.2.2 h).mpr (step self x.1 x.2.1 x.2.2 h hx (fun v0' v11' d' h' h1 h2 => hs ⟨v0', v11', d'⟩ h' h1 h2))) ⟨v0, v11, d⟩ h hi
def R_ballot_With_2 (K : Kont) (s0 : Self) (v0 : Value) (v9 : Value) (v10 : Value) (v11 : Value) (d : Nat → Value) (h : Hp) : Prop :=
  oBin .add v11 (Value.int .i64 1) h fun t21 h1 =>
  s0 (E_ballot_With_1 v0 v9 v10 t21 (ud [(21, t21)] d)) h1
def X_ballot_With_2 (Qv : Post) (v0 : Value) (v9 : Value) (v10 : Value) (v11 : Value) (d : Nat → Value) (h : Hp) : Prop :=
  oBin .add v11 (Value.int .i64 1) h fun t21 h1 =>
  Qv .normal (ul (E_ballot_With_2 v0 v9 v10 v11 d) [(11, t21), (21, t21)]) h1
theorem ga_ballot_With_2 (Qv : Post) (v0 : Value) (v9 : Value) (v10 : Value) (v11 : Value) (d : Nat → Value) (h : Hp) : aw Try.prog O_ballot_With K_ballot_With_3 Qv (E_ballot_With_2 v0 v9 v10 v11 d) h = X_ballot_With_2 Qv v0 v9 v10 v11 d h := by kernel_rfl
theorem gb_ballot_With_2 (K : Kont) (s0 : Self) (v0 : Value) (v9 : Value) (v10 : Value) (v11 : Value) (d : Nat → Value) (h : Hp) : X_ballot_With_2 (Q_ballot_With_2 K s0) v0 v9 v10 v11 d h = R_ballot_With_2 K s0 v0 v9 v10 v11 d h := by kernel_rfl
theorem req_ballot_With_2 (K : Kont) (s0 : Self) (v0 : Value) (v9 : Value) (v10 : Value) (v11 : Value) (d : Nat → Value) (h : Hp) : G_ballot_With_2 K s0 v0 v9 v10 v11 d h = R_ballot_With_2 K s0 v0 v9 v10 v11 d h := (ga_ballot_With_2 _ v0 v9 v10 v11 d h).trans (gb_ballot_With_2 K s0 v0 v9 v10 v11 d h)

/-! ### maps.Keys[map[int][]catenary/api.Vote,int,[]catenary/api.Vote]: function 58 -/
def O_maps_Keys_map_int_Sapi_Vote_int_Sapi_Vote : Od := []
def G_maps_Keys_map_int_Sapi_Vote_int_Sapi_Vote (a0 : Value) (h : Hp) (K : Kont) : Prop :=
  oBox a0 h fun t1 h1 =>
  K (.func (Go.Fn.func 80) #[] #[t1]) h1
def E0_maps_Keys_map_int_Sapi_Vote_int_Sapi_Vote (a0 : Value) : List Value := [a0, undef, undef, undef]
def X_maps_Keys_map_int_Sapi_Vote_int_Sapi_Vote (Qv : Post) (a0 : Value) (h : Hp) : Prop :=
  oBox a0 h fun t1 h1 =>
  Qv .ret (ul (E0_maps_Keys_map_int_Sapi_Vote_int_Sapi_Vote a0) [(1, t1), (2, (.func (Go.Fn.func 80) #[] #[t1])), (3, (.func (Go.Fn.func 80) #[] #[t1]))]) h1
theorem ga_maps_Keys_map_int_Sapi_Vote_int_Sapi_Vote (Qv : Post) (a0 : Value) (h : Hp) : aw Try.prog O_maps_Keys_map_int_Sapi_Vote_int_Sapi_Vote (bodyC Try.f58) Qv (E0_maps_Keys_map_int_Sapi_Vote_int_Sapi_Vote a0) h = X_maps_Keys_map_int_Sapi_Vote_int_Sapi_Vote Qv a0 h := by kernel_rfl
theorem gb_maps_Keys_map_int_Sapi_Vote_int_Sapi_Vote (a0 : Value) (h : Hp) (K : Kont) : X_maps_Keys_map_int_Sapi_Vote_int_Sapi_Vote (qTop Try.prog Try.f58 K) a0 h = G_maps_Keys_map_int_Sapi_Vote_int_Sapi_Vote a0 h K := by kernel_rfl
theorem gc_maps_Keys_map_int_Sapi_Vote_int_Sapi_Vote (a0 : Value) (h : Hp) (K : Kont) : abody Try.prog O_maps_Keys_map_int_Sapi_Vote_int_Sapi_Vote Try.f58 (bodyC Try.f58) [a0] h K = aw Try.prog O_maps_Keys_map_int_Sapi_Vote_int_Sapi_Vote (bodyC Try.f58) (qTop Try.prog Try.f58 K) (E0_maps_Keys_map_int_Sapi_Vote_int_Sapi_Vote a0) h := by kernel_rfl
theorem eq_maps_Keys_map_int_Sapi_Vote_int_Sapi_Vote (a0 : Value) (h : Hp) (K : Kont) : abody Try.prog O_maps_Keys_map_int_Sapi_Vote_int_Sapi_Vote Try.f58 (bodyC Try.f58) [a0] h K = G_maps_Keys_map_int_Sapi_Vote_int_Sapi_Vote a0 h K := (gc_maps_Keys_map_int_Sapi_Vote_int_Sapi_Vote a0 h K).trans ((ga_maps_Keys_map_int_Sapi_Vote_int_Sapi_Vote _ a0 h).trans (gb_maps_Keys_map_int_Sapi_Vote_int_Sapi_Vote a0 h K))
theorem ok_maps_Keys_map_int_Sapi_Vote_int_Sapi_Vote {a0 : Value} {h : Hp} {K : Kont} (hk : G_maps_Keys_map_int_Sapi_Vote_int_Sapi_Vote a0 h K) : C_maps_Keys_map_int_Sapi_Vote_int_Sapi_Vote [a0] h K := ac_of_body prog_mixed (fn := Try.f58) Try.func58 (c := bodyC Try.f58) (by kernel_rfl) ((eq_maps_Keys_map_int_Sapi_Vote_int_Sapi_Vote a0 h K).mpr hk)

/-! ### catenary/ballot.Enough: function 59 -/
def O_ballot_Enough : Od := []
noncomputable def K_ballot_Enough_0 : Code := (cB (cB (cB (bodyC Try.f59))))
def E_ballot_Enough_1 (v0 : Value) (v1 : Value) (d : Nat → Value) : List Value := [v0, v1, d 2, d 3, d 4, d 5, d 6, d 7, d 8, d 9, d 10, d 11, d 12, d 13, d 14, d 15, d 16, d 17, d 18, d 19]
def G_ballot_Enough_1 (K : Kont) (v0 : Value) (v1 : Value) (d : Nat → Value) (h : Hp) : Prop := aw Try.prog O_ballot_Enough K_ballot_Enough_0 (qTop Try.prog Try.f59 K) (E_ballot_Enough_1 v0 v1 d) h
noncomputable def K_ballot_Enough_1 : Code := (cB (cB (bodyC Try.f59)))
def G_ballot_Enough (a0 a1 : Value) (h : Hp) (K : Kont) : Prop :=
  oBin .lss a1 (Value.int .i64 1) h fun t6 h1 =>
  oIf t6
  (K (Value.bool false) h1)
  (oBin .lss a1 (Value.int .i64 63) h1 fun t8 h2 =>
  oIf t8
  (oBin .add a1 (Value.int .i64 1) h2 fun t11 h3 =>
  oBin .shl (Value.int .u64 1) t11 h3 fun t12 h4 =>
  oBin .sub t12 (Value.int .u64 1) h4 fun t13 h5 =>
  oBin .and a0 t13 h5 fun t14 h6 =>
  G_ballot_Enough_1 K t14 a1 (ud [(4, (Value.bool false)), (5, a1), (6, t6), (7, a1), (8, t8), (9, a0), (10, a1), (11, t11), (12, t12), (13, t13), (14, t14)] dz) h6)
  (G_ballot_Enough_1 K a0 a1 (ud [(4, (Value.bool false)), (5, a1), (6, t6), (7, a1), (8, t8)] dz) h2))
def E0_ballot_Enough (a0 a1 : Value) : List Value := [a0, a1, undef, undef, undef, undef, undef, undef, undef, undef, undef, undef, undef, undef, undef, undef, undef, undef, undef, undef]
def X_ballot_Enough (Qv : Post) (a0 a1 : Value) (h : Hp) : Prop :=
  oBin .lss a1 (Value.int .i64 1) h fun t6 h1 =>
  oIf t6
  ((qSeq (aw Try.prog O_ballot_Enough K_ballot_Enough_1 Qv) Qv) .ret (ul (E0_ballot_Enough a0 a1) [(4, (Value.bool false)), (5, a1), (6, t6)]) h1)
  (oBin .lss a1 (Value.int .i64 63) h1 fun t8 h2 =>
  oIf t8
  (oBin .add a1 (Value.int .i64 1) h2 fun t11 h3 =>
  oBin .shl (Value.int .u64 1) t11 h3 fun t12 h4 =>
  oBin .sub t12 (Value.int .u64 1) h4 fun t13 h5 =>
  oBin .and a0 t13 h5 fun t14 h6 =>
  (qSeq (aw Try.prog O_ballot_Enough K_ballot_Enough_0 Qv) Qv) .normal (ul (E0_ballot_Enough a0 a1) [(0, t14), (4, (Value.bool false)), (5, a1), (6, t6), (7, a1), (8, t8), (9, a0), (10, a1), (11, t11), (12, t12), (13, t13), (14, t14)]) h6)
  ((qSeq (aw Try.prog O_ballot_Enough K_ballot_Enough_0 Qv) Qv) .normal (ul (E0_ballot_Enough a0 a1) [(4, (Value.bool false)), (5, a1), (6, t6), (7, a1), (8, t8)]) h2))
theorem ga_ballot_Enough (Qv : Post) (a0 a1 : Value) (h : Hp) : aw Try.prog O_ballot_Enough (bodyC Try.f59) Qv (E0_ballot_Enough a0 a1) h = X_ballot_Enough Qv a0 a1 h := by kernel_rfl
theorem gb_ballot_Enough (a0 a1 : Value) (h : Hp) (K : Kont) : X_ballot_Enough (qTop Try.prog Try.f59 K) a0 a1 h = G_ballot_Enough a0 a1 h K := by kernel_rfl
theorem gc_ballot_Enough (a0 a1 : Value) (h : Hp) (K : Kont) : abody Try.prog O_ballot_Enough Try.f59 (bodyC Try.f59) [a0, a1] h K = aw Try.prog O_ballot_Enough (bodyC Try.f59) (qTop Try.prog Try.f59 K) (E0_ballot_Enough a0 a1) h := by kernel_rfl
theorem eq_ballot_Enough (a0 a1 : Value) (h : Hp) (K : Kont) : abody Try.prog O_ballot_Enough Try.f59 (bodyC Try.f59) [a0, a1] h K = G_ballot_Enough a0 a1 h K := (gc_ballot_Enough a0 a1 h K).trans ((ga_ballot_Enough _ a0 a1 h).trans (gb_ballot_Enough a0 a1 h K))
theorem ok_ballot_Enough {a0 a1 : Value} {h : Hp} {K : Kont} (hk : G_ballot_Enough a0 a1 h K) : C_ballot_Enough [a0, a1] h K := ac_of_body prog_mixed (fn := Try.f59) Try.func59 (c := bodyC Try.f59) (by kernel_rfl) ((eq_ballot_Enough a0 a1 h K).mpr hk)
def R_ballot_Enough_1 (K : Kont) (v0 : Value) (v1 : Value) (d : Nat → Value) (h : Hp) : Prop :=
  C_ballot_Count [v0] h fun t16 h1 =>
  C_ballot_Quorum [v1] h1 fun t18 h2 =>
  oBin .geq t16 t18 h2 fun t19 h3 =>
  K t19 h3
def X_ballot_Enough_1 (Qv : Post) (v0 : Value) (v1 : Value) (d : Nat → Value) (h : Hp) : Prop :=
  C_ballot_Count [v0] h fun t16 h1 =>
  C_ballot_Quorum [v1] h1 fun t18 h2 =>
  oBin .geq t16 t18 h2 fun t19 h3 =>
  Qv .ret (ul (E_ballot_Enough_1 v0 v1 d) [(4, t19), (15, v0), (16, t16), (17, v1), (18, t18), (19, t19)]) h3
theorem ga_ballot_Enough_1 (Qv : Post) (v0 : Value) (v1 : Value) (d : Nat → Value) (h : Hp) : aw Try.prog O_ballot_Enough K_ballot_Enough_0 Qv (E_ballot_Enough_1 v0 v1 d) h = X_ballot_Enough_1 Qv v0 v1 d h := by kernel_rfl
theorem gb_ballot_Enough_1 (K : Kont) (v0 : Value) (v1 : Value) (d : Nat → Value) (h : Hp) : X_ballot_Enough_1 (qTop Try.prog Try.f59 K) v0 v1 d h = R_ballot_Enough_1 K v0 v1 d h := by kernel_rfl
theorem req_ballot_Enough_1 (K : Kont) (v0 : Value) (v1 : Value) (d : Nat → Value) (h : Hp) : G_ballot_Enough_1 K v0 v1 d h = R_ballot_Enough_1 K v0 v1 d h := (ga_ballot_Enough_1 _ v0 v1 d h).trans (gb_ballot_Enough_1 K v0 v1 d h)

/-! ### (*catenary/lead.Lead).fill: function 60 -/
def O_lead_Lead_fill : Od := [(3, (.one 0 true (.one 1 true (.one 2 true (.one 3 true (.one 4 true (.one 5 true (.one 6 true .nil))))))))]
noncomputable def K_lead_Lead_fill_0 : Code := (cI (cB (bodyC Try.f60)))
def Q_lead_Lead_fill_0 (K : Kont) : Post := qBlk 0 (qTop Try.prog Try.f60 K)
def E_lead_Lead_fill_1 (v0 : Value) (v6 : Value) (v7 : Value) (v8 : Value) (d : Nat → Value) : List Value := [v0, d 1, d 2, d 3, d 4, d 5, v6, v7, v8, d 9, d 10, d 11, d 12, d 13, d 14, d 15, d 16, d 17, d 18, d 19, d 20, d 21, d 22, d 23, d 24, d 25, d 26]
def G_lead_Lead_fill_1 (K : Kont) (v0 : Value) (v6 : Value) (v7 : Value) (v8 : Value) (d : Nat → Value) (h : Hp) : Prop := aw Try.prog O_lead_Lead_fill K_lead_Lead_fill_0 (Q_lead_Lead_fill_0 K) (E_lead_Lead_fill_1 v0 v6 v7 v8 d) h
def Q_lead_Lead_fill_1 (K : Kont) (s0 : Self) : Post := qSeq s0 (Q_lead_Lead_fill_0 K)
noncomputable def K_lead_Lead_fill_1 : Code := (cI (cI (cB (bodyC Try.f60))))
noncomputable def K_lead_Lead_fill_2 : Code := (cI (cA (cB (cI (cA (cB (cB (cI (cI (cB (bodyC Try.f60)))))))))))
noncomputable def K_lead_Lead_fill_3 : Code := (cB (cB (cB (cI (cI (cB (bodyC Try.f60)))))))
def Q_lead_Lead_fill_2 (K : Kont) (s0 : Self) : Post := qSeq (aw Try.prog O_lead_Lead_fill K_lead_Lead_fill_3 (Q_lead_Lead_fill_1 K s0)) (Q_lead_Lead_fill_1 K s0)
def Q_lead_Lead_fill_3 (K : Kont) (s0 : Self) : Post := qBlk 1 (Q_lead_Lead_fill_2 K s0)
noncomputable def K_lead_Lead_fill_4 : Code := (cB (cB (cI (cA (cB (cB (cI (cI (cB (bodyC Try.f60))))))))))
def Q_lead_Lead_fill_4 (K : Kont) (s0 : Self) : Post := qSeq (aw Try.prog O_lead_Lead_fill K_lead_Lead_fill_4 (Q_lead_Lead_fill_3 K s0)) (Q_lead_Lead_fill_3 K s0)
def Q_lead_Lead_fill_5 (K : Kont) (s0 : Self) : Post := qBlk 2 (Q_lead_Lead_fill_4 K s0)
def E_lead_Lead_fill_2 (v0 : Value) (v3 : Value) (v6 : Value) (v7 : Value) (v8 : Value) (d : Nat → Value) : List Value := [v0, d 1, d 2, v3, d 4, d 5, v6, v7, v8, d 9, d 10, d 11, d 12, d 13, d 14, d 15, d 16, d 17, d 18, d 19, d 20, d 21, d 22, d 23, d 24, d 25, d 26]
def G_lead_Lead_fill_2 (K : Kont) (s0 : Self) (v0 : Value) (v3 : Value) (v6 : Value) (v7 : Value) (v8 : Value) (d : Nat → Value) (h : Hp) : Prop := aw Try.prog O_lead_Lead_fill K_lead_Lead_fill_2 (Q_lead_Lead_fill_5 K s0) (E_lead_Lead_fill_2 v0 v3 v6 v7 v8 d) h
noncomputable def K_lead_Lead_fill_5 : Code := (cB (cB (cI (cI (cB (bodyC Try.f60))))))
def Q_lead_Lead_fill_6 (K : Kont) (s0 : Self) (s1 : Self) : Post := qSeq s1 (Q_lead_Lead_fill_5 K s0)
noncomputable def K_lead_Lead_fill_6 : Code := (cI (cI (cA (cB (cI (cA (cB (cB (cI (cI (cB (bodyC Try.f60))))))))))))
noncomputable def K_lead_Lead_fill_7 : Code := (cB (cI (cI (cA (cB (cI (cA (cB (cB (cI (cI (cB (bodyC Try.f60)))))))))))))
def G_lead_Lead_fill (a0 : Value) (h : Hp) (K : Kont) : Prop :=
  C_lead_Lead_all [a0] h fun t5 h1 =>
  C_accept_Best [t5] h1 fun t6 h2 =>
  oLen 0 t6 h2 fun t7 h3 =>
  G_lead_Lead_fill_1 K a0 t6 t7 (Value.int .i64 0) (ud [(4, a0), (5, t5)] dz) h3
def E0_lead_Lead_fill (a0 : Value) : List Value := [a0, undef, undef, undef, undef, undef, undef, undef, undef, undef, undef, undef, undef, undef, undef, undef, undef, undef, undef, undef, undef, undef, undef, undef, undef, undef, undef]
def X_lead_Lead_fill (Qv : Post) (a0 : Value) (h : Hp) : Prop :=
  C_lead_Lead_all [a0] h fun t5 h1 =>
  C_accept_Best [t5] h1 fun t6 h2 =>
  oLen 0 t6 h2 fun t7 h3 =>
  aw Try.prog O_lead_Lead_fill K_lead_Lead_fill_0 (qBlk 0 Qv) (ul (E0_lead_Lead_fill a0) [(4, a0), (5, t5), (6, t6), (7, t7), (8, (Value.int .i64 0))]) h3
theorem ga_lead_Lead_fill (Qv : Post) (a0 : Value) (h : Hp) : aw Try.prog O_lead_Lead_fill (bodyC Try.f60) Qv (E0_lead_Lead_fill a0) h = X_lead_Lead_fill Qv a0 h := by kernel_rfl
theorem gb_lead_Lead_fill (a0 : Value) (h : Hp) (K : Kont) : X_lead_Lead_fill (qTop Try.prog Try.f60 K) a0 h = G_lead_Lead_fill a0 h K := by kernel_rfl
theorem gc_lead_Lead_fill (a0 : Value) (h : Hp) (K : Kont) : abody Try.prog O_lead_Lead_fill Try.f60 (bodyC Try.f60) [a0] h K = aw Try.prog O_lead_Lead_fill (bodyC Try.f60) (qTop Try.prog Try.f60 K) (E0_lead_Lead_fill a0) h := by kernel_rfl
theorem eq_lead_Lead_fill (a0 : Value) (h : Hp) (K : Kont) : abody Try.prog O_lead_Lead_fill Try.f60 (bodyC Try.f60) [a0] h K = G_lead_Lead_fill a0 h K := (gc_lead_Lead_fill a0 h K).trans ((ga_lead_Lead_fill _ a0 h).trans (gb_lead_Lead_fill a0 h K))
theorem ok_lead_Lead_fill {a0 : Value} {h : Hp} {K : Kont} (hk : G_lead_Lead_fill a0 h K) : C_lead_Lead_fill [a0] h K := ac_of_body prog_mixed (fn := Try.f60) Try.func60 (c := bodyC Try.f60) (by kernel_rfl) ((eq_lead_Lead_fill a0 h K).mpr hk)
def B_lead_Lead_fill_1 (K : Kont) (s0 : Self) (v0 : Value) (v6 : Value) (v7 : Value) (v8 : Value) (d : Nat → Value) (h : Hp) : Prop :=
  oBin .lss v8 v7 h fun t9 h1 =>
  oIf t9
  (oIdxS 6 v6 v8 h1 fun t10 h2 =>
  oLdN 6 t10 h2 fun t11 h3 =>
  oAlloc #[.int .i64 0, .int .u64 0, .int .i64 0, .int .i64 0, .int .u64 0, .int .i64 0] h3 fun t3 h4 =>
  oSt 6 t3 t11 h4 fun _ h5 =>
  G_lead_Lead_fill_2 K s0 v0 t3 v6 v7 v8 (ud [(9, t9), (10, t10), (11, t11)] d) h5)
  (K (.tuple #[]) h1)
def X_lead_Lead_fill_1 (Qv : Post) (v0 : Value) (v6 : Value) (v7 : Value) (v8 : Value) (d : Nat → Value) (h : Hp) : Prop :=
  oBin .lss v8 v7 h fun t9 h1 =>
  oIf t9
  (oIdxS 6 v6 v8 h1 fun t10 h2 =>
  oLdN 6 t10 h2 fun t11 h3 =>
  oAlloc #[.int .i64 0, .int .u64 0, .int .i64 0, .int .i64 0, .int .u64 0, .int .i64 0] h3 fun t3 h4 =>
  oSt 6 t3 t11 h4 fun _ h5 =>
  aw Try.prog O_lead_Lead_fill K_lead_Lead_fill_2 (qBlk 2 (qSeq (aw Try.prog O_lead_Lead_fill K_lead_Lead_fill_4 (qBlk 1 (qSeq (aw Try.prog O_lead_Lead_fill K_lead_Lead_fill_3 Qv) Qv))) (qBlk 1 (qSeq (aw Try.prog O_lead_Lead_fill K_lead_Lead_fill_3 Qv) Qv)))) (ul (E_lead_Lead_fill_1 v0 v6 v7 v8 d) [(3, t3), (9, t9), (10, t10), (11, t11)]) h5)
  ((qSeq (aw Try.prog O_lead_Lead_fill K_lead_Lead_fill_5 Qv) Qv) (.exit 0) (ul (E_lead_Lead_fill_1 v0 v6 v7 v8 d) [(9, t9)]) h1)
theorem ga_lead_Lead_fill_1 (Qv : Post) (v0 : Value) (v6 : Value) (v7 : Value) (v8 : Value) (d : Nat → Value) (h : Hp) : aw Try.prog O_lead_Lead_fill K_lead_Lead_fill_1 Qv (E_lead_Lead_fill_1 v0 v6 v7 v8 d) h = X_lead_Lead_fill_1 Qv v0 v6 v7 v8 d h := by kernel_rfl
theorem gb_lead_Lead_fill_1 (K : Kont) (s0 : Self) (v0 : Value) (v6 : Value) (v7 : Value) (v8 : Value) (d : Nat → Value) (h : Hp) : X_lead_Lead_fill_1 (Q_lead_Lead_fill_1 K s0) v0 v6 v7 v8 d h = B_lead_Lead_fill_1 K s0 v0 v6 v7 v8 d h := by kernel_rfl
theorem beq_lead_Lead_fill_1 (K : Kont) (s0 : Self) (v0 : Value) (v6 : Value) (v7 : Value) (v8 : Value) (d : Nat → Value) (h : Hp) : aw Try.prog O_lead_Lead_fill K_lead_Lead_fill_1 (Q_lead_Lead_fill_1 K s0) (E_lead_Lead_fill_1 v0 v6 v7 v8 d) h = B_lead_Lead_fill_1 K s0 v0 v6 v7 v8 d h := (ga_lead_Lead_fill_1 _ v0 v6 v7 v8 d h).trans (gb_lead_Lead_fill_1 K s0 v0 v6 v7 v8 d h)
theorem rule_lead_Lead_fill_1 {K : Kont} {v0 : Value} {v6 : Value} {v7 : Value} (Inv : Value → Hp → Prop) (μ : Value → Hp → Nat)
    (step : ∀ (s0 : Self) (v8 : Value) (d : Nat → Value) (h : Hp), Inv v8 h → (∀ (v8' : Value) (d' : Nat → Value) (h' : Hp), Inv v8' h' → μ v8' h' < μ v8 h → s0 (E_lead_Lead_fill_1 v0 v6 v7 v8' d') h') → B_lead_Lead_fill_1 K s0 v0 v6 v7 v8 d h) (v8 : Value) (d : Nat → Value) (h : Hp) (hi : Inv v8 h) : G_lead_Lead_fill_1 K v0 v6 v7 v8 d h :=
  oLoop_rule (α := Value × (Nat → Value)) (fun x => E_lead_Lead_fill_1 v0 v6 v7 x.1 x.2) (fun x h => Inv x.1 h) (fun x h => μ x.1 h)
    (fun self x h hx hs => (beq_lead_Lead_fill_1 K self v0 v6 v7 x.1 x.2 h).mpr (step self x.1 x.2 h hx (fun v8' d' h' h1 h2 => hs ⟨v8', d'⟩ h' h1 h2))) ⟨v8, d⟩ h hi
def B_lead_Lead_fill_2 (K : Kont) (s0 : Self) (s1 : Self) (v0 : Value) (v3 : Value) (v6 : Value) (v7 : Value) (v8 : Value) (d : Nat → Value) (h : Hp) : Prop :=
  oNilCheck v0 h fun t13 h1 =>
  oFieldAddr 5 t13 h1 fun t14 h2 =>
  oLd1 t14 h2 fun t15 h3 =>
  oFieldAddr 0 v3 h3 fun t16 h4 =>
  oLd1 t16 h4 fun t17 h5 =>
  oBin .lss t15 t17 h5 fun t18 h6 =>
  oIf t18
  (oBuild #[.int .i64 0, .int .i64 0, .int .u64 0, .int .i64 0] [] h6 fun t20 h7 =>
  C_lead_Lead_lay [v0, t20] h7 fun t21 h8 =>
  s1 (E_lead_Lead_fill_2 v0 v3 v6 v7 v8 (ud [(12, v0), (13, t13), (14, t14), (15, t15), (16, t16), (17, t17), (18, t18), (19, v0), (20, t20), (21, t21)] d)) h8)
  (oFieldAddr 2 v3 h6 fun t23 h9 =>
  oLdN 4 t23 h9 fun t24 h10 =>
  C_lead_Lead_lay [v0, t24] h10 fun t25 h11 =>
  oBin .add v8 (Value.int .i64 1) h11 fun t26 h12 =>
  s0 (E_lead_Lead_fill_1 v0 v6 v7 t26 (ud [(3, v3), (12, v0), (13, t13), (14, t14), (15, t15), (16, t16), (17, t17), (18, t18), (22, v0), (23, t23), (24, t24), (25, t25), (26, t26)] d)) h12)
def X_lead_Lead_fill_2 (Qv : Post) (v0 : Value) (v3 : Value) (v6 : Value) (v7 : Value) (v8 : Value) (d : Nat → Value) (h : Hp) : Prop :=
  oNilCheck v0 h fun t13 h1 =>
  oFieldAddr 5 t13 h1 fun t14 h2 =>
  oLd1 t14 h2 fun t15 h3 =>
  oFieldAddr 0 v3 h3 fun t16 h4 =>
  oLd1 t16 h4 fun t17 h5 =>
  oBin .lss t15 t17 h5 fun t18 h6 =>
  oIf t18
  (oBuild #[.int .i64 0, .int .i64 0, .int .u64 0, .int .i64 0] [] h6 fun t20 h7 =>
  C_lead_Lead_lay [v0, t20] h7 fun t21 h8 =>
  (qBlk 3 Qv) .normal (ul (E_lead_Lead_fill_2 v0 v3 v6 v7 v8 d) [(12, v0), (13, t13), (14, t14), (15, t15), (16, t16), (17, t17), (18, t18), (19, v0), (20, t20), (21, t21)]) h8)
  ((qSeq (aw Try.prog O_lead_Lead_fill K_lead_Lead_fill_7 Qv) Qv) (.exit 2) (ul (E_lead_Lead_fill_2 v0 v3 v6 v7 v8 d) [(12, v0), (13, t13), (14, t14), (15, t15), (16, t16), (17, t17), (18, t18)]) h6)
theorem ga_lead_Lead_fill_2 (Qv : Post) (v0 : Value) (v3 : Value) (v6 : Value) (v7 : Value) (v8 : Value) (d : Nat → Value) (h : Hp) : aw Try.prog O_lead_Lead_fill K_lead_Lead_fill_6 Qv (E_lead_Lead_fill_2 v0 v3 v6 v7 v8 d) h = X_lead_Lead_fill_2 Qv v0 v3 v6 v7 v8 d h := by kernel_rfl
theorem gb_lead_Lead_fill_2 (K : Kont) (s0 : Self) (s1 : Self) (v0 : Value) (v3 : Value) (v6 : Value) (v7 : Value) (v8 : Value) (d : Nat → Value) (h : Hp) : X_lead_Lead_fill_2 (Q_lead_Lead_fill_6 K s0 s1) v0 v3 v6 v7 v8 d h = B_lead_Lead_fill_2 K s0 s1 v0 v3 v6 v7 v8 d h := by kernel_rfl
theorem beq_lead_Lead_fill_2 (K : Kont) (s0 : Self) (s1 : Self) (v0 : Value) (v3 : Value) (v6 : Value) (v7 : Value) (v8 : Value) (d : Nat → Value) (h : Hp) : aw Try.prog O_lead_Lead_fill K_lead_Lead_fill_6 (Q_lead_Lead_fill_6 K s0 s1) (E_lead_Lead_fill_2 v0 v3 v6 v7 v8 d) h = B_lead_Lead_fill_2 K s0 s1 v0 v3 v6 v7 v8 d h := (ga_lead_Lead_fill_2 _ v0 v3 v6 v7 v8 d h).trans (gb_lead_Lead_fill_2 K s0 s1 v0 v3 v6 v7 v8 d h)
theorem rule_lead_Lead_fill_2 {K : Kont} {s0 : Self} {v0 : Value} {v3 : Value} {v6 : Value} {v7 : Value} {v8 : Value} (Inv : Hp → Prop) (μ : Hp → Nat)
    (step : ∀ (s1 : Self) (d : Nat → Value) (h : Hp), Inv  h → (∀ (d' : Nat → Value) (h' : Hp), Inv  h' → μ  h' < μ  h → s1 (E_lead_Lead_fill_2 v0 v3 v6 v7 v8 d') h') → B_lead_Lead_fill_2 K s0 s1 v0 v3 v6 v7 v8 d h) (d : Nat → Value) (h : Hp) (hi : Inv  h) : G_lead_Lead_fill_2 K s0 v0 v3 v6 v7 v8 d h :=
  oLoop_rule (α := (Nat → Value)) (fun x => E_lead_Lead_fill_2 v0 v3 v6 v7 v8 x) (fun x h => Inv  h) (fun x h => μ  h)
    (fun self x h hx hs => (beq_lead_Lead_fill_2 K s0 self v0 v3 v6 v7 v8 x h).mpr (step self  x h hx (fun d' h' h1 h2 => hs d' h' h1 h2))) d h hi

/-! ### (*catenary/lead.Lead).proposed: function 61 -/
def O_lead_Lead_proposed : Od := []
def G_lead_Lead_proposed (a0 a1 : Value) (h : Hp) (K : Kont) : Prop :=
  oBox a1 h fun t3 h1 =>
  C_lead_Lead_Open [a0] h1 fun t6 h2 =>
  C_slices_ContainsFunc_Sapi_Vote_api_Vote [t6, (.func (Go.Fn.func 85) #[] #[t3])] h2 fun t8 h3 =>
  K t8 h3
def E0_lead_Lead_proposed (a0 a1 : Value) : List Value := [a0, a1, undef, undef, undef, undef, undef, undef, undef]
def X_lead_Lead_proposed (Qv : Post) (a0 a1 : Value) (h : Hp) : Prop :=
  oBox a1 h fun t3 h1 =>
  C_lead_Lead_Open [a0] h1 fun t6 h2 =>
  C_slices_ContainsFunc_Sapi_Vote_api_Vote [t6, (.func (Go.Fn.func 85) #[] #[t3])] h2 fun t8 h3 =>
  Qv .ret (ul (E0_lead_Lead_proposed a0 a1) [(3, t3), (4, t8), (5, a0), (6, t6), (7, (.func (Go.Fn.func 85) #[] #[t3])), (8, t8)]) h3
theorem ga_lead_Lead_proposed (Qv : Post) (a0 a1 : Value) (h : Hp) : aw Try.prog O_lead_Lead_proposed (bodyC Try.f61) Qv (E0_lead_Lead_proposed a0 a1) h = X_lead_Lead_proposed Qv a0 a1 h := by kernel_rfl
theorem gb_lead_Lead_proposed (a0 a1 : Value) (h : Hp) (K : Kont) : X_lead_Lead_proposed (qTop Try.prog Try.f61 K) a0 a1 h = G_lead_Lead_proposed a0 a1 h K := by kernel_rfl
theorem gc_lead_Lead_proposed (a0 a1 : Value) (h : Hp) (K : Kont) : abody Try.prog O_lead_Lead_proposed Try.f61 (bodyC Try.f61) [a0, a1] h K = aw Try.prog O_lead_Lead_proposed (bodyC Try.f61) (qTop Try.prog Try.f61 K) (E0_lead_Lead_proposed a0 a1) h := by kernel_rfl
theorem eq_lead_Lead_proposed (a0 a1 : Value) (h : Hp) (K : Kont) : abody Try.prog O_lead_Lead_proposed Try.f61 (bodyC Try.f61) [a0, a1] h K = G_lead_Lead_proposed a0 a1 h K := (gc_lead_Lead_proposed a0 a1 h K).trans ((ga_lead_Lead_proposed _ a0 a1 h).trans (gb_lead_Lead_proposed a0 a1 h K))
theorem ok_lead_Lead_proposed {a0 a1 : Value} {h : Hp} {K : Kont} (hk : G_lead_Lead_proposed a0 a1 h K) : C_lead_Lead_proposed [a0, a1] h K := ac_of_body prog_mixed (fn := Try.f61) Try.func61 (c := bodyC Try.f61) (by kernel_rfl) ((eq_lead_Lead_proposed a0 a1 h K).mpr hk)

/-! ### (*catenary/lead.Lead).vote: function 62 -/
def O_lead_Lead_vote : Od := [(1, (.one 0 true (.one 1 true (.one 2 true (.one 3 true (.one 4 true (.one 5 true (.one 6 true (.one 7 true (.one 8 true (.one 9 true (.one 10 true (.one 11 true (.one 12 true (.one 13 false .nil)))))))))))))))]
def G_lead_Lead_vote (a0 a1 : Value) (h : Hp) (K : Kont) : Prop :=
  oAlloc #[.int .i64 0, .int .u64 0, .int .i64 0, .int .i64 0, .int .u64 0, .int .i64 0] h fun t4 h1 =>
  oNilCheck a0 h1 fun t7 h2 =>
  oFieldAddr 3 t7 h2 fun t8 h3 =>
  oLd1 t8 h3 fun t9 h4 =>
  oNilCheck a0 h4 fun t11 h5 =>
  oFieldAddr 7 t11 h5 fun t12 h6 =>
  oLd1 t12 h6 fun t13 h7 =>
  oLookup (.int .i64) (.agg #[.int .i64 0, .int .i64 0, .int .u64 0, .int .i64 0, .int .u64 0]) t13 a1 false h7 fun t15 h8 =>
  oField 0 (some 4) t15 h8 fun t16 h9 =>
  oBuild #[.int .i64 0, .int .u64 0, .int .i64 0, .int .i64 0, .int .u64 0, .int .i64 0] [(0, 1, a1), (1, 1, t9), (2, 4, t16)] h9 fun t17 h10 =>
  oSt 6 t4 t17 h10 fun _ h11 =>
  (True) ∧
  oLdN 6 t4 h11 fun r1 _ =>
  K r1 h11
def E0_lead_Lead_vote (a0 a1 : Value) : List Value := [a0, a1, undef, undef, undef, undef, undef, undef, undef, undef, undef, undef, undef, undef, undef, undef, undef, undef]
def X_lead_Lead_vote (Qv : Post) (a0 a1 : Value) (h : Hp) : Prop :=
  oAlloc #[.int .i64 0, .int .u64 0, .int .i64 0, .int .i64 0, .int .u64 0, .int .i64 0] h fun t4 h1 =>
  oNilCheck a0 h1 fun t7 h2 =>
  oFieldAddr 3 t7 h2 fun t8 h3 =>
  oLd1 t8 h3 fun t9 h4 =>
  oNilCheck a0 h4 fun t11 h5 =>
  oFieldAddr 7 t11 h5 fun t12 h6 =>
  oLd1 t12 h6 fun t13 h7 =>
  oLookup (.int .i64) (.agg #[.int .i64 0, .int .i64 0, .int .u64 0, .int .i64 0, .int .u64 0]) t13 a1 false h7 fun t15 h8 =>
  oField 0 (some 4) t15 h8 fun t16 h9 =>
  oBuild #[.int .i64 0, .int .u64 0, .int .i64 0, .int .i64 0, .int .u64 0, .int .i64 0] [(0, 1, a1), (1, 1, t9), (2, 4, t16)] h9 fun t17 h10 =>
  oSt 6 t4 t17 h10 fun _ h11 =>
  (True) ∧
  Qv .ret (ul (E0_lead_Lead_vote a0 a1) [(4, t4), (5, a1), (6, a0), (7, t7), (8, t8), (9, t9), (10, a0), (11, t11), (12, t12), (13, t13), (14, a1), (15, t15), (16, t16), (17, t17)]) h11
theorem ga_lead_Lead_vote (Qv : Post) (a0 a1 : Value) (h : Hp) : aw Try.prog O_lead_Lead_vote (bodyC Try.f62) Qv (E0_lead_Lead_vote a0 a1) h = X_lead_Lead_vote Qv a0 a1 h := by kernel_rfl
theorem gb_lead_Lead_vote (a0 a1 : Value) (h : Hp) (K : Kont) : X_lead_Lead_vote (qTop Try.prog Try.f62 K) a0 a1 h = G_lead_Lead_vote a0 a1 h K := by kernel_rfl
theorem gc_lead_Lead_vote (a0 a1 : Value) (h : Hp) (K : Kont) : abody Try.prog O_lead_Lead_vote Try.f62 (bodyC Try.f62) [a0, a1] h K = aw Try.prog O_lead_Lead_vote (bodyC Try.f62) (qTop Try.prog Try.f62 K) (E0_lead_Lead_vote a0 a1) h := by kernel_rfl
theorem eq_lead_Lead_vote (a0 a1 : Value) (h : Hp) (K : Kont) : abody Try.prog O_lead_Lead_vote Try.f62 (bodyC Try.f62) [a0, a1] h K = G_lead_Lead_vote a0 a1 h K := (gc_lead_Lead_vote a0 a1 h K).trans ((ga_lead_Lead_vote _ a0 a1 h).trans (gb_lead_Lead_vote a0 a1 h K))
theorem ok_lead_Lead_vote {a0 a1 : Value} {h : Hp} {K : Kont} (hk : G_lead_Lead_vote a0 a1 h K) : C_lead_Lead_vote [a0, a1] h K := ac_of_body prog_mixed (fn := Try.f62) Try.func62 (c := bodyC Try.f62) (by kernel_rfl) ((eq_lead_Lead_vote a0 a1 h K).mpr hk)

/-! ### (*catenary/lead.Lead).lay: function 63 -/
def O_lead_Lead_lay : Od := [(2, (.one 0 true (.one 1 true (.one 2 true (.one 3 true (.one 4 true (.one 5 true (.one 6 true (.one 7 false .nil)))))))))]
def G_lead_Lead_lay (a0 a1 : Value) (h : Hp) (K : Kont) : Prop :=
  oBox a1 h fun t3 h1 =>
  oNilCheck a0 h1 fun t7 h2 =>
  oFieldAddr 5 t7 h2 fun t8 h3 =>
  oLd1 t8 h3 fun t9 h4 =>
  oNilCheck a0 h4 fun t11 h5 =>
  oFieldAddr 7 t11 h5 fun t12 h6 =>
  oLd1 t12 h6 fun t13 h7 =>
  oLdN 4 t3 h7 fun t15 h8 =>
  oBuild #[.int .i64 0, .int .i64 0, .int .u64 0, .int .i64 0, .int .u64 0] [(0, 4, t15)] h8 fun t16 h9 =>
  oMapUpdate (.int .i64) t13 t9 t16 h9 fun _ h10 =>
  (True) ∧
  oNilCheck a0 h10 fun t18 h11 =>
  oFieldAddr 5 t18 h11 fun t19 h12 =>
  oLd1 t19 h12 fun t20 h13 =>
  oBin .add t20 (Value.int .i64 1) h13 fun t21 h14 =>
  oNilCheck a0 h14 fun t22 h15 =>
  oFieldAddr 5 t22 h15 fun t23 h16 =>
  oSt 1 t23 t21 h16 fun _ h17 =>
  K t9 h17
def E0_lead_Lead_lay (a0 a1 : Value) : List Value := [a0, a1, undef, undef, undef, undef, undef, undef, undef, undef, undef, undef, undef, undef, undef, undef, undef, undef, undef, undef, undef, undef, undef, undef, undef]
def X_lead_Lead_lay (Qv : Post) (a0 a1 : Value) (h : Hp) : Prop :=
  oBox a1 h fun t3 h1 =>
  oNilCheck a0 h1 fun t7 h2 =>
  oFieldAddr 5 t7 h2 fun t8 h3 =>
  oLd1 t8 h3 fun t9 h4 =>
  oNilCheck a0 h4 fun t11 h5 =>
  oFieldAddr 7 t11 h5 fun t12 h6 =>
  oLd1 t12 h6 fun t13 h7 =>
  oLdN 4 t3 h7 fun t15 h8 =>
  oBuild #[.int .i64 0, .int .i64 0, .int .u64 0, .int .i64 0, .int .u64 0] [(0, 4, t15)] h8 fun t16 h9 =>
  oMapUpdate (.int .i64) t13 t9 t16 h9 fun _ h10 =>
  (True) ∧
  oNilCheck a0 h10 fun t18 h11 =>
  oFieldAddr 5 t18 h11 fun t19 h12 =>
  oLd1 t19 h12 fun t20 h13 =>
  oBin .add t20 (Value.int .i64 1) h13 fun t21 h14 =>
  oNilCheck a0 h14 fun t22 h15 =>
  oFieldAddr 5 t22 h15 fun t23 h16 =>
  oSt 1 t23 t21 h16 fun _ h17 =>
  Qv .ret (ul (E0_lead_Lead_lay a0 a1) [(3, t3), (4, t9), (5, t9), (6, a0), (7, t7), (8, t8), (9, t9), (10, a0), (11, t11), (12, t12), (13, t13), (14, t9), (15, t15), (16, t16), (17, a0), (18, t18), (19, t19), (20, t20), (21, t21), (22, t22), (23, t23), (24, t9)]) h17
theorem ga_lead_Lead_lay (Qv : Post) (a0 a1 : Value) (h : Hp) : aw Try.prog O_lead_Lead_lay (bodyC Try.f63) Qv (E0_lead_Lead_lay a0 a1) h = X_lead_Lead_lay Qv a0 a1 h := by kernel_rfl
theorem gb_lead_Lead_lay (a0 a1 : Value) (h : Hp) (K : Kont) : X_lead_Lead_lay (qTop Try.prog Try.f63 K) a0 a1 h = G_lead_Lead_lay a0 a1 h K := by kernel_rfl
theorem gc_lead_Lead_lay (a0 a1 : Value) (h : Hp) (K : Kont) : abody Try.prog O_lead_Lead_lay Try.f63 (bodyC Try.f63) [a0, a1] h K = aw Try.prog O_lead_Lead_lay (bodyC Try.f63) (qTop Try.prog Try.f63 K) (E0_lead_Lead_lay a0 a1) h := by kernel_rfl
theorem eq_lead_Lead_lay (a0 a1 : Value) (h : Hp) (K : Kont) : abody Try.prog O_lead_Lead_lay Try.f63 (bodyC Try.f63) [a0, a1] h K = G_lead_Lead_lay a0 a1 h K := (gc_lead_Lead_lay a0 a1 h K).trans ((ga_lead_Lead_lay _ a0 a1 h).trans (gb_lead_Lead_lay a0 a1 h K))
theorem ok_lead_Lead_lay {a0 a1 : Value} {h : Hp} {K : Kont} (hk : G_lead_Lead_lay a0 a1 h K) : C_lead_Lead_lay [a0, a1] h K := ac_of_body prog_mixed (fn := Try.f63) Try.func63 (c := bodyC Try.f63) (by kernel_rfl) ((eq_lead_Lead_lay a0 a1 h K).mpr hk)

/-! ### maps.Keys[map[int]catenary/lead.proposal,int,catenary/lead.proposal]: function 65 -/
def O_maps_Keys_map_int_lead_proposal_int_lead_proposal : Od := []
def G_maps_Keys_map_int_lead_proposal_int_lead_proposal (a0 : Value) (h : Hp) (K : Kont) : Prop :=
  oBox a0 h fun t1 h1 =>
  K (.func (Go.Fn.func 87) #[] #[t1]) h1
def E0_maps_Keys_map_int_lead_proposal_int_lead_proposal (a0 : Value) : List Value := [a0, undef, undef, undef]
def X_maps_Keys_map_int_lead_proposal_int_lead_proposal (Qv : Post) (a0 : Value) (h : Hp) : Prop :=
  oBox a0 h fun t1 h1 =>
  Qv .ret (ul (E0_maps_Keys_map_int_lead_proposal_int_lead_proposal a0) [(1, t1), (2, (.func (Go.Fn.func 87) #[] #[t1])), (3, (.func (Go.Fn.func 87) #[] #[t1]))]) h1
theorem ga_maps_Keys_map_int_lead_proposal_int_lead_proposal (Qv : Post) (a0 : Value) (h : Hp) : aw Try.prog O_maps_Keys_map_int_lead_proposal_int_lead_proposal (bodyC Try.f65) Qv (E0_maps_Keys_map_int_lead_proposal_int_lead_proposal a0) h = X_maps_Keys_map_int_lead_proposal_int_lead_proposal Qv a0 h := by kernel_rfl
theorem gb_maps_Keys_map_int_lead_proposal_int_lead_proposal (a0 : Value) (h : Hp) (K : Kont) : X_maps_Keys_map_int_lead_proposal_int_lead_proposal (qTop Try.prog Try.f65 K) a0 h = G_maps_Keys_map_int_lead_proposal_int_lead_proposal a0 h K := by kernel_rfl
theorem gc_maps_Keys_map_int_lead_proposal_int_lead_proposal (a0 : Value) (h : Hp) (K : Kont) : abody Try.prog O_maps_Keys_map_int_lead_proposal_int_lead_proposal Try.f65 (bodyC Try.f65) [a0] h K = aw Try.prog O_maps_Keys_map_int_lead_proposal_int_lead_proposal (bodyC Try.f65) (qTop Try.prog Try.f65 K) (E0_maps_Keys_map_int_lead_proposal_int_lead_proposal a0) h := by kernel_rfl
theorem eq_maps_Keys_map_int_lead_proposal_int_lead_proposal (a0 : Value) (h : Hp) (K : Kont) : abody Try.prog O_maps_Keys_map_int_lead_proposal_int_lead_proposal Try.f65 (bodyC Try.f65) [a0] h K = G_maps_Keys_map_int_lead_proposal_int_lead_proposal a0 h K := (gc_maps_Keys_map_int_lead_proposal_int_lead_proposal a0 h K).trans ((ga_maps_Keys_map_int_lead_proposal_int_lead_proposal _ a0 h).trans (gb_maps_Keys_map_int_lead_proposal_int_lead_proposal a0 h K))
theorem ok_maps_Keys_map_int_lead_proposal_int_lead_proposal {a0 : Value} {h : Hp} {K : Kont} (hk : G_maps_Keys_map_int_lead_proposal_int_lead_proposal a0 h K) : C_maps_Keys_map_int_lead_proposal_int_lead_proposal [a0] h K := ac_of_body prog_mixed (fn := Try.f65) Try.func65 (c := bodyC Try.f65) (by kernel_rfl) ((eq_maps_Keys_map_int_lead_proposal_int_lead_proposal a0 h K).mpr hk)

end Go.Proofs.Ytdolepapmpcpiaa

/- What functions of the program ask of the seen heap (written by a program of this proof, vgen.py). -/
namespace Go.Proofs.Ytdolepapmpcpiaa
open Go
set_option linter.unusedSectionVars false
variable [Base]
set_option linter.unusedVariables false
set_option maxRecDepth 100000

end Go.Proofs.Ytdolepapmpcpiaa

/- What functions of the program ask of the seen heap (written by a program of this proof, vgen.py). -/
namespace Go.Proofs.Ytdolepapmpcpiaa
open Go
set_option linter.unusedSectionVars false
variable [Base]
set_option linter.unusedVariables false
set_option maxRecDepth 100000

/-! ### catenary/catenaryref07.Is: function 72 -/
def O_r07_Is : Od := []
def G_r07_Is (a0 : Value) (h : Hp) (K : Kont) : Prop :=
  oBin .quo a0 (Value.int .u64 8) h fun t7 h1 =>
  oBin .rem a0 (Value.int .u64 8) h1 fun t9 h2 =>
  oConvInt .i64 t9 h2 fun t10 h3 =>
  C_r07_Of [t7, t10] h3 fun t11 h4 =>
  oExtract t11 0 h4 fun t12 h5 =>
  oExtract t11 1 h5 fun t13 h6 =>
  oBin .eql t13 (Value.int .i64 0) h6 fun t15 h7 =>
  K t15 h7
def E0_r07_Is (a0 : Value) : List Value := [a0, undef, undef, undef, undef, undef, undef, undef, undef, undef, undef, undef, undef, undef, undef, undef]
def X_r07_Is (Qv : Post) (a0 : Value) (h : Hp) : Prop :=
  oBin .quo a0 (Value.int .u64 8) h fun t7 h1 =>
  oBin .rem a0 (Value.int .u64 8) h1 fun t9 h2 =>
  oConvInt .i64 t9 h2 fun t10 h3 =>
  C_r07_Of [t7, t10] h3 fun t11 h4 =>
  oExtract t11 0 h4 fun t12 h5 =>
  oExtract t11 1 h5 fun t13 h6 =>
  oBin .eql t13 (Value.int .i64 0) h6 fun t15 h7 =>
  Qv .ret (ul (E0_r07_Is a0) [(2, t15), (3, t12), (4, t13), (5, t11), (6, a0), (7, t7), (8, a0), (9, t9), (10, t10), (11, t11), (12, t12), (13, t13), (14, t13), (15, t15)]) h7
theorem ga_r07_Is (Qv : Post) (a0 : Value) (h : Hp) : aw Try.prog O_r07_Is (bodyC Try.f72) Qv (E0_r07_Is a0) h = X_r07_Is Qv a0 h := by kernel_rfl
theorem gb_r07_Is (a0 : Value) (h : Hp) (K : Kont) : X_r07_Is (qTop Try.prog Try.f72 K) a0 h = G_r07_Is a0 h K := by kernel_rfl
theorem gc_r07_Is (a0 : Value) (h : Hp) (K : Kont) : abody Try.prog O_r07_Is Try.f72 (bodyC Try.f72) [a0] h K = aw Try.prog O_r07_Is (bodyC Try.f72) (qTop Try.prog Try.f72 K) (E0_r07_Is a0) h := by kernel_rfl
theorem eq_r07_Is (a0 : Value) (h : Hp) (K : Kont) : abody Try.prog O_r07_Is Try.f72 (bodyC Try.f72) [a0] h K = G_r07_Is a0 h K := (gc_r07_Is a0 h K).trans ((ga_r07_Is _ a0 h).trans (gb_r07_Is a0 h K))
theorem ok_r07_Is {a0 : Value} {h : Hp} {K : Kont} (hk : G_r07_Is a0 h K) : C_r07_Is [a0] h K := ac_of_body prog_mixed (fn := Try.f72) Try.func72 (c := bodyC Try.f72) (by kernel_rfl) ((eq_r07_Is a0 h K).mpr hk)

/-! ### catenary/catenaryref08.Check: function 73 -/
def O_r08_Check : Od := []
noncomputable def K_r08_Check_0 : Code := (cB (cB (bodyC Try.f73)))
noncomputable def K_r08_Check_1 : Code := (cB (cB (cB (bodyC Try.f73))))
noncomputable def K_r08_Check_2 : Code := (cB (cT (cB (cA (cB (cB (bodyC Try.f73)))))))
noncomputable def K_r08_Check_3 : Code := (cB (cB (cB (cB (bodyC Try.f73)))))
def G_r08_Check (a0 : Value) (h : Hp) (K : Kont) : Prop :=
  oBox a0 h fun t1 h1 =>
  oFieldAddr 0 t1 h1 fun t3 h2 =>
  oLd1 t3 h2 fun t4 h3 =>
  oBin .lss t4 (Value.int .i64 0) h3 fun t5 h4 =>
  oGuard t5 false (fun K => oFieldAddr 0 t1 h4 K) h4 fun t7 h5 =>
  oGuard t5 false (fun K => oLd1 t7 h5 K) h5 fun t8 h6 =>
  oGuard t5 false (fun K => oBin .gtr t8 (Value.int .i64 4) h6 K) h6 fun t9 h7 =>
  oPick t5 (Value.bool true) t9 h7 fun t10 h8 =>
  oIf t10
  (K (Value.int .i64 1) h8)
  (oFieldAddr 0 t1 h8 fun t11 h9 =>
  oLd1 t11 h9 fun t12 h10 =>
  oBin .eql t12 (Value.int .i64 0) h10 fun t13 h11 =>
  oIf t13
  (oFieldAddr 1 t1 h11 fun t14 h12 =>
  oLd1 t14 h12 fun t15 h13 =>
  oBin .neq t15 (Value.int .i64 0) h13 fun t16 h14 =>
  oGuard t16 false (fun K => oFieldAddr 2 t1 h14 K) h14 fun t18 h15 =>
  oGuard t16 false (fun K => oLd1 t18 h15 K) h15 fun t19 h16 =>
  oGuard t16 false (fun K => oBin .neq t19 (Value.int .u64 0) h16 K) h16 fun t20 h17 =>
  oPick t16 (Value.bool true) t20 h17 fun t21 h18 =>
  oGuard t21 false (fun K => oFieldAddr 3 t1 h18 K) h18 fun t23 h19 =>
  oGuard t21 false (fun K => oLd1 t23 h19 K) h19 fun t24 h20 =>
  oGuard t21 false (fun K => oBin .neq t24 (Value.int .i64 0) h20 K) h20 fun t25 h21 =>
  oPick t21 (Value.bool true) t25 h21 fun t26 h22 =>
  oIf t26
  (K (Value.int .i64 4) h22)
  (K (Value.int .i64 0) h22))
  (oFieldAddr 1 t1 h11 fun t27 h23 =>
  oLd1 t27 h23 fun t28 h24 =>
  oBin .lss t28 (Value.int .i64 0) h24 fun t29 h25 =>
  oGuard t29 false (fun K => oFieldAddr 1 t1 h25 K) h25 fun t31 h26 =>
  oGuard t29 false (fun K => oLd1 t31 h26 K) h26 fun t32 h27 =>
  oGuard t29 false (fun K => oBin .gtr t32 (Value.int .i64 3) h27 K) h27 fun t33 h28 =>
  oPick t29 (Value.bool true) t33 h28 fun t34 h29 =>
  oGuard t34 false (fun K => oFieldAddr 2 t1 h29 K) h29 fun t36 h30 =>
  oGuard t34 false (fun K => oLd1 t36 h30 K) h30 fun t37 h31 =>
  oGuard t34 false (fun K => oBin .eql t37 (Value.int .u64 0) h31 K) h31 fun t38 h32 =>
  oPick t34 (Value.bool true) t38 h32 fun t39 h33 =>
  oGuard t39 false (fun K => oFieldAddr 3 t1 h33 K) h33 fun t41 h34 =>
  oGuard t39 false (fun K => oLd1 t41 h34 K) h34 fun t42 h35 =>
  oGuard t39 false (fun K => oBin .lss t42 (Value.int .i64 1) h35 K) h35 fun t43 h36 =>
  oPick t39 (Value.bool true) t43 h36 fun t44 h37 =>
  oGuard t44 false (fun K => oFieldAddr 3 t1 h37 K) h37 fun t46 h38 =>
  oGuard t44 false (fun K => oLd1 t46 h38 K) h38 fun t47 h39 =>
  oGuard t44 false (fun K => oBin .gtr t47 (Value.int .i64 24) h39 K) h39 fun t48 h40 =>
  oPick t44 (Value.bool true) t48 h40 fun t49 h41 =>
  oIf t49
  (K (Value.int .i64 4) h41)
  (K (Value.int .i64 0) h41)))
def E0_r08_Check (a0 : Value) : List Value := [a0, undef, undef, undef, undef, undef, undef, undef, undef, undef, undef, undef, undef, undef, undef, undef, undef, undef, undef, undef, undef, undef, undef, undef, undef, undef, undef, undef, undef, undef, undef, undef, undef, undef, undef, undef, undef, undef, undef, undef, undef, undef, undef, undef, undef, undef, undef, undef, undef, undef]
def X_r08_Check (Qv : Post) (a0 : Value) (h : Hp) : Prop :=
  oBox a0 h fun t1 h1 =>
  oFieldAddr 0 t1 h1 fun t3 h2 =>
  oLd1 t3 h2 fun t4 h3 =>
  oBin .lss t4 (Value.int .i64 0) h3 fun t5 h4 =>
  oGuard t5 false (fun K => oFieldAddr 0 t1 h4 K) h4 fun t7 h5 =>
  oGuard t5 false (fun K => oLd1 t7 h5 K) h5 fun t8 h6 =>
  oGuard t5 false (fun K => oBin .gtr t8 (Value.int .i64 4) h6 K) h6 fun t9 h7 =>
  oPick t5 (Value.bool true) t9 h7 fun t10 h8 =>
  oIf t10
  ((qSeq (aw Try.prog O_r08_Check K_r08_Check_0 Qv) Qv) .ret (ul (E0_r08_Check a0) [(1, t1), (2, (Value.int .i64 1)), (3, t3), (4, t4), (5, t5), (6, t5), (7, t7), (8, t8), (9, t9), (10, t10)]) h8)
  (oFieldAddr 0 t1 h8 fun t11 h9 =>
  oLd1 t11 h9 fun t12 h10 =>
  oBin .eql t12 (Value.int .i64 0) h10 fun t13 h11 =>
  oIf t13
  (oFieldAddr 1 t1 h11 fun t14 h12 =>
  oLd1 t14 h12 fun t15 h13 =>
  oBin .neq t15 (Value.int .i64 0) h13 fun t16 h14 =>
  oGuard t16 false (fun K => oFieldAddr 2 t1 h14 K) h14 fun t18 h15 =>
  oGuard t16 false (fun K => oLd1 t18 h15 K) h15 fun t19 h16 =>
  oGuard t16 false (fun K => oBin .neq t19 (Value.int .u64 0) h16 K) h16 fun t20 h17 =>
  oPick t16 (Value.bool true) t20 h17 fun t21 h18 =>
  oGuard t21 false (fun K => oFieldAddr 3 t1 h18 K) h18 fun t23 h19 =>
  oGuard t21 false (fun K => oLd1 t23 h19 K) h19 fun t24 h20 =>
  oGuard t21 false (fun K => oBin .neq t24 (Value.int .i64 0) h20 K) h20 fun t25 h21 =>
  oPick t21 (Value.bool true) t25 h21 fun t26 h22 =>
  oIf t26
  ((qSeq (aw Try.prog O_r08_Check K_r08_Check_2 (qSeq (aw Try.prog O_r08_Check K_r08_Check_1 Qv) Qv)) (qSeq (aw Try.prog O_r08_Check K_r08_Check_1 Qv) Qv)) .ret (ul (E0_r08_Check a0) [(1, t1), (2, (Value.int .i64 4)), (3, t3), (4, t4), (5, t5), (6, t5), (7, t7), (8, t8), (9, t9), (10, t10), (11, t11), (12, t12), (13, t13), (14, t14), (15, t15), (16, t16), (17, t16), (18, t18), (19, t19), (20, t20), (21, t21), (22, t21), (23, t23), (24, t24), (25, t25), (26, t26)]) h22)
  ((qSeq (aw Try.prog O_r08_Check K_r08_Check_1 Qv) Qv) .ret (ul (E0_r08_Check a0) [(1, t1), (2, (Value.int .i64 0)), (3, t3), (4, t4), (5, t5), (6, t5), (7, t7), (8, t8), (9, t9), (10, t10), (11, t11), (12, t12), (13, t13), (14, t14), (15, t15), (16, t16), (17, t16), (18, t18), (19, t19), (20, t20), (21, t21), (22, t21), (23, t23), (24, t24), (25, t25), (26, t26)]) h22))
  (oFieldAddr 1 t1 h11 fun t27 h23 =>
  oLd1 t27 h23 fun t28 h24 =>
  oBin .lss t28 (Value.int .i64 0) h24 fun t29 h25 =>
  oGuard t29 false (fun K => oFieldAddr 1 t1 h25 K) h25 fun t31 h26 =>
  oGuard t29 false (fun K => oLd1 t31 h26 K) h26 fun t32 h27 =>
  oGuard t29 false (fun K => oBin .gtr t32 (Value.int .i64 3) h27 K) h27 fun t33 h28 =>
  oPick t29 (Value.bool true) t33 h28 fun t34 h29 =>
  oGuard t34 false (fun K => oFieldAddr 2 t1 h29 K) h29 fun t36 h30 =>
  oGuard t34 false (fun K => oLd1 t36 h30 K) h30 fun t37 h31 =>
  oGuard t34 false (fun K => oBin .eql t37 (Value.int .u64 0) h31 K) h31 fun t38 h32 =>
  oPick t34 (Value.bool true) t38 h32 fun t39 h33 =>
  oGuard t39 false (fun K => oFieldAddr 3 t1 h33 K) h33 fun t41 h34 =>
  oGuard t39 false (fun K => oLd1 t41 h34 K) h34 fun t42 h35 =>
  oGuard t39 false (fun K => oBin .lss t42 (Value.int .i64 1) h35 K) h35 fun t43 h36 =>
  oPick t39 (Value.bool true) t43 h36 fun t44 h37 =>
  oGuard t44 false (fun K => oFieldAddr 3 t1 h37 K) h37 fun t46 h38 =>
  oGuard t44 false (fun K => oLd1 t46 h38 K) h38 fun t47 h39 =>
  oGuard t44 false (fun K => oBin .gtr t47 (Value.int .i64 24) h39 K) h39 fun t48 h40 =>
  oPick t44 (Value.bool true) t48 h40 fun t49 h41 =>
  oIf t49
  ((qSeq (aw Try.prog O_r08_Check K_r08_Check_3 Qv) Qv) .ret (ul (E0_r08_Check a0) [(1, t1), (2, (Value.int .i64 4)), (3, t3), (4, t4), (5, t5), (6, t5), (7, t7), (8, t8), (9, t9), (10, t10), (11, t11), (12, t12), (13, t13), (27, t27), (28, t28), (29, t29), (30, t29), (31, t31), (32, t32), (33, t33), (34, t34), (35, t34), (36, t36), (37, t37), (38, t38), (39, t39), (40, t39), (41, t41), (42, t42), (43, t43), (44, t44), (45, t44), (46, t46), (47, t47), (48, t48), (49, t49)]) h41)
  (Qv .ret (ul (E0_r08_Check a0) [(1, t1), (2, (Value.int .i64 0)), (3, t3), (4, t4), (5, t5), (6, t5), (7, t7), (8, t8), (9, t9), (10, t10), (11, t11), (12, t12), (13, t13), (27, t27), (28, t28), (29, t29), (30, t29), (31, t31), (32, t32), (33, t33), (34, t34), (35, t34), (36, t36), (37, t37), (38, t38), (39, t39), (40, t39), (41, t41), (42, t42), (43, t43), (44, t44), (45, t44), (46, t46), (47, t47), (48, t48), (49, t49)]) h41)))
theorem ga_r08_Check (Qv : Post) (a0 : Value) (h : Hp) : aw Try.prog O_r08_Check (bodyC Try.f73) Qv (E0_r08_Check a0) h = X_r08_Check Qv a0 h := by kernel_rfl
theorem gb_r08_Check (a0 : Value) (h : Hp) (K : Kont) : X_r08_Check (qTop Try.prog Try.f73 K) a0 h = G_r08_Check a0 h K := by kernel_rfl
theorem gc_r08_Check (a0 : Value) (h : Hp) (K : Kont) : abody Try.prog O_r08_Check Try.f73 (bodyC Try.f73) [a0] h K = aw Try.prog O_r08_Check (bodyC Try.f73) (qTop Try.prog Try.f73 K) (E0_r08_Check a0) h := by kernel_rfl
theorem eq_r08_Check (a0 : Value) (h : Hp) (K : Kont) : abody Try.prog O_r08_Check Try.f73 (bodyC Try.f73) [a0] h K = G_r08_Check a0 h K := (gc_r08_Check a0 h K).trans ((ga_r08_Check _ a0 h).trans (gb_r08_Check a0 h K))
theorem ok_r08_Check {a0 : Value} {h : Hp} {K : Kont} (hk : G_r08_Check a0 h K) : C_r08_Check [a0] h K := ac_of_body prog_mixed (fn := Try.f73) Try.func73 (c := bodyC Try.f73) (by kernel_rfl) ((eq_r08_Check a0 h K).mpr hk)

/-! ### catenary/ballot.master: function 74 -/
def O_ballot_master : Od := []
def G_ballot_master (a0 : Value) (h : Hp) (K : Kont) : Prop :=
  oBin .geq a0 (Value.int .i64 1) h fun t4 h1 =>
  oGuard t4 true (fun K => K a0 h1) h1 fun t6 h2 =>
  oGuard t4 true (fun K => oBin .leq t6 (Value.int .i64 5) h2 K) h2 fun t7 h3 =>
  oPick t4 t7 (Value.bool false) h3 fun t8 h4 =>
  K t8 h4
def E0_ballot_master (a0 : Value) : List Value := [a0, undef, undef, undef, undef, undef, undef, undef, undef]
def X_ballot_master (Qv : Post) (a0 : Value) (h : Hp) : Prop :=
  oBin .geq a0 (Value.int .i64 1) h fun t4 h1 =>
  oGuard t4 true (fun K => K a0 h1) h1 fun t6 h2 =>
  oGuard t4 true (fun K => oBin .leq t6 (Value.int .i64 5) h2 K) h2 fun t7 h3 =>
  oPick t4 t7 (Value.bool false) h3 fun t8 h4 =>
  Qv .ret (ul (E0_ballot_master a0) [(2, t8), (3, a0), (4, t4), (5, t4), (6, t6), (7, t7), (8, t8)]) h4
theorem ga_ballot_master (Qv : Post) (a0 : Value) (h : Hp) : aw Try.prog O_ballot_master (bodyC Try.f74) Qv (E0_ballot_master a0) h = X_ballot_master Qv a0 h := by kernel_rfl
theorem gb_ballot_master (a0 : Value) (h : Hp) (K : Kont) : X_ballot_master (qTop Try.prog Try.f74 K) a0 h = G_ballot_master a0 h K := by kernel_rfl
theorem gc_ballot_master (a0 : Value) (h : Hp) (K : Kont) : abody Try.prog O_ballot_master Try.f74 (bodyC Try.f74) [a0] h K = aw Try.prog O_ballot_master (bodyC Try.f74) (qTop Try.prog Try.f74 K) (E0_ballot_master a0) h := by kernel_rfl
theorem eq_ballot_master (a0 : Value) (h : Hp) (K : Kont) : abody Try.prog O_ballot_master Try.f74 (bodyC Try.f74) [a0] h K = G_ballot_master a0 h K := (gc_ballot_master a0 h K).trans ((ga_ballot_master _ a0 h).trans (gb_ballot_master a0 h K))
theorem ok_ballot_master {a0 : Value} {h : Hp} {K : Kont} (hk : G_ballot_master a0 h K) : C_ballot_master [a0] h K := ac_of_body prog_mixed (fn := Try.f74) Try.func74 (c := bodyC Try.f74) (by kernel_rfl) ((eq_ballot_master a0 h K).mpr hk)

/-! ### catenary/ballot.Of: function 77 -/
def O_ballot_Of : Od := []
noncomputable def K_ballot_Of_0 : Code := (cB (cB (bodyC Try.f77)))
def G_ballot_Of (a0 a1 : Value) (h : Hp) (K : Kont) : Prop :=
  oBin .lss a0 (Value.int .u64 1) h fun t7 h1 =>
  oGuard t7 false (fun K => K a0 h1) h1 fun t9 h2 =>
  oGuard t7 false (fun K => oBin .geq t9 (Value.int .u64 1152921504606846976) h2 K) h2 fun t10 h3 =>
  oPick t7 (Value.bool true) t10 h3 fun t11 h4 =>
  oGuard t11 false (fun K => K a1 h4) h4 fun t13 h5 =>
  oGuard t11 false (fun K => C_ballot_master [t13] h5 K) h5 fun t14 h6 =>
  oGuard t11 false (fun K => oNot t14 h6 K) h6 fun t15 h7 =>
  oPick t11 (Value.bool true) t15 h7 fun t16 h8 =>
  oIf t16
  (K (.tuple #[(Value.int .u64 0), (Value.int .i64 1)]) h8)
  (oBin .mul (Value.int .u64 8) a0 h8 fun t18 h9 =>
  oConvInt .u64 a1 h9 fun t20 h10 =>
  oBin .add t18 t20 h10 fun t21 h11 =>
  K (.tuple #[t21, (Value.int .i64 0)]) h11)
def E0_ballot_Of (a0 a1 : Value) : List Value := [a0, a1, undef, undef, undef, undef, undef, undef, undef, undef, undef, undef, undef, undef, undef, undef, undef, undef, undef, undef, undef, undef]
def X_ballot_Of (Qv : Post) (a0 a1 : Value) (h : Hp) : Prop :=
  oBin .lss a0 (Value.int .u64 1) h fun t7 h1 =>
  oGuard t7 false (fun K => K a0 h1) h1 fun t9 h2 =>
  oGuard t7 false (fun K => oBin .geq t9 (Value.int .u64 1152921504606846976) h2 K) h2 fun t10 h3 =>
  oPick t7 (Value.bool true) t10 h3 fun t11 h4 =>
  oGuard t11 false (fun K => K a1 h4) h4 fun t13 h5 =>
  oGuard t11 false (fun K => C_ballot_master [t13] h5 K) h5 fun t14 h6 =>
  oGuard t11 false (fun K => oNot t14 h6 K) h6 fun t15 h7 =>
  oPick t11 (Value.bool true) t15 h7 fun t16 h8 =>
  oIf t16
  ((qSeq (aw Try.prog O_ballot_Of K_ballot_Of_0 Qv) Qv) .ret (ul (E0_ballot_Of a0 a1) [(4, (Value.int .u64 0)), (5, (Value.int .i64 1)), (6, a0), (7, t7), (8, t7), (9, t9), (10, t10), (11, t11), (12, t11), (13, t13), (14, t14), (15, t15), (16, t16)]) h8)
  (oBin .mul (Value.int .u64 8) a0 h8 fun t18 h9 =>
  oConvInt .u64 a1 h9 fun t20 h10 =>
  oBin .add t18 t20 h10 fun t21 h11 =>
  Qv .ret (ul (E0_ballot_Of a0 a1) [(4, t21), (5, (Value.int .i64 0)), (6, a0), (7, t7), (8, t7), (9, t9), (10, t10), (11, t11), (12, t11), (13, t13), (14, t14), (15, t15), (16, t16), (17, a0), (18, t18), (19, a1), (20, t20), (21, t21)]) h11)
theorem ga_ballot_Of (Qv : Post) (a0 a1 : Value) (h : Hp) : aw Try.prog O_ballot_Of (bodyC Try.f77) Qv (E0_ballot_Of a0 a1) h = X_ballot_Of Qv a0 a1 h := by kernel_rfl
theorem gb_ballot_Of (a0 a1 : Value) (h : Hp) (K : Kont) : X_ballot_Of (qTop Try.prog Try.f77 K) a0 a1 h = G_ballot_Of a0 a1 h K := by kernel_rfl
theorem gc_ballot_Of (a0 a1 : Value) (h : Hp) (K : Kont) : abody Try.prog O_ballot_Of Try.f77 (bodyC Try.f77) [a0, a1] h K = aw Try.prog O_ballot_Of (bodyC Try.f77) (qTop Try.prog Try.f77 K) (E0_ballot_Of a0 a1) h := by kernel_rfl
theorem eq_ballot_Of (a0 a1 : Value) (h : Hp) (K : Kont) : abody Try.prog O_ballot_Of Try.f77 (bodyC Try.f77) [a0, a1] h K = G_ballot_Of a0 a1 h K := (gc_ballot_Of a0 a1 h K).trans ((ga_ballot_Of _ a0 a1 h).trans (gb_ballot_Of a0 a1 h K))
theorem ok_ballot_Of {a0 a1 : Value} {h : Hp} {K : Kont} (hk : G_ballot_Of a0 a1 h K) : C_ballot_Of [a0, a1] h K := ac_of_body prog_mixed (fn := Try.f77) Try.func77 (c := bodyC Try.f77) (by kernel_rfl) ((eq_ballot_Of a0 a1 h K).mpr hk)

end Go.Proofs.Ytdolepapmpcpiaa

/- What functions of the program ask of the seen heap (written by a program of this proof, vgen.py). -/
namespace Go.Proofs.Ytdolepapmpcpiaa
open Go
set_option linter.unusedSectionVars false
variable [Base]
set_option linter.unusedVariables false
set_option maxRecDepth 100000

/-! ### slices.IndexFunc[[]catenary/api.Vote,catenary/api.Vote]: function 78 -/
def O_slices_IndexFunc_Sapi_Vote_api_Vote : Od := []
noncomputable def K_slices_IndexFunc_Sapi_Vote_api_Vote_0 : Code := (cI (cB (cA (cB (bodyC Try.f78)))))
noncomputable def K_slices_IndexFunc_Sapi_Vote_api_Vote_1 : Code := (cB (cB (bodyC Try.f78)))
def Q_slices_IndexFunc_Sapi_Vote_api_Vote_0 (K : Kont) : Post := qSeq (aw Try.prog O_slices_IndexFunc_Sapi_Vote_api_Vote K_slices_IndexFunc_Sapi_Vote_api_Vote_1 (qTop Try.prog Try.f78 K)) (qTop Try.prog Try.f78 K)
def Q_slices_IndexFunc_Sapi_Vote_api_Vote_1 (K : Kont) : Post := qBlk 0 (Q_slices_IndexFunc_Sapi_Vote_api_Vote_0 K)
def E_slices_IndexFunc_Sapi_Vote_api_Vote_1 (v0 : Value) (v1 : Value) (v7 : Value) (v8 : Value) (d : Nat → Value) : List Value := [v0, v1, d 2, d 3, d 4, d 5, d 6, v7, v8, d 9, d 10, d 11, d 12, d 13, d 14, d 15, d 16, d 17, d 18]
def G_slices_IndexFunc_Sapi_Vote_api_Vote_1 (K : Kont) (v0 : Value) (v1 : Value) (v7 : Value) (v8 : Value) (d : Nat → Value) (h : Hp) : Prop := aw Try.prog O_slices_IndexFunc_Sapi_Vote_api_Vote K_slices_IndexFunc_Sapi_Vote_api_Vote_0 (Q_slices_IndexFunc_Sapi_Vote_api_Vote_1 K) (E_slices_IndexFunc_Sapi_Vote_api_Vote_1 v0 v1 v7 v8 d) h
def Q_slices_IndexFunc_Sapi_Vote_api_Vote_2 (K : Kont) (s0 : Self) : Post := qSeq s0 (Q_slices_IndexFunc_Sapi_Vote_api_Vote_1 K)
noncomputable def K_slices_IndexFunc_Sapi_Vote_api_Vote_2 : Code := (cI (cI (cB (cA (cB (bodyC Try.f78))))))
noncomputable def K_slices_IndexFunc_Sapi_Vote_api_Vote_3 : Code := (cB (cB (cB (cI (cI (cB (cA (cB (bodyC Try.f78)))))))))
noncomputable def K_slices_IndexFunc_Sapi_Vote_api_Vote_4 : Code := (cB (cB (cI (cI (cB (cA (cB (bodyC Try.f78))))))))
def G_slices_IndexFunc_Sapi_Vote_api_Vote (a0 a1 : Value) (h : Hp) (K : Kont) : Prop :=
  oLen 0 a0 h fun t7 h1 =>
  G_slices_IndexFunc_Sapi_Vote_api_Vote_1 K a0 a1 t7 (Value.int .i64 0) (ud [(4, (Value.int .i64 0)), (6, a0)] dz) h1
def E0_slices_IndexFunc_Sapi_Vote_api_Vote (a0 a1 : Value) : List Value := [a0, a1, undef, undef, undef, undef, undef, undef, undef, undef, undef, undef, undef, undef, undef, undef, undef, undef, undef]
def X_slices_IndexFunc_Sapi_Vote_api_Vote (Qv : Post) (a0 a1 : Value) (h : Hp) : Prop :=
  oLen 0 a0 h fun t7 h1 =>
  aw Try.prog O_slices_IndexFunc_Sapi_Vote_api_Vote K_slices_IndexFunc_Sapi_Vote_api_Vote_0 (qBlk 0 (qSeq (aw Try.prog O_slices_IndexFunc_Sapi_Vote_api_Vote K_slices_IndexFunc_Sapi_Vote_api_Vote_1 Qv) Qv)) (ul (E0_slices_IndexFunc_Sapi_Vote_api_Vote a0 a1) [(4, (Value.int .i64 0)), (6, a0), (7, t7), (8, (Value.int .i64 0))]) h1
theorem ga_slices_IndexFunc_Sapi_Vote_api_Vote (Qv : Post) (a0 a1 : Value) (h : Hp) : aw Try.prog O_slices_IndexFunc_Sapi_Vote_api_Vote (bodyC Try.f78) Qv (E0_slices_IndexFunc_Sapi_Vote_api_Vote a0 a1) h = X_slices_IndexFunc_Sapi_Vote_api_Vote Qv a0 a1 h := by kernel_rfl
theorem gb_slices_IndexFunc_Sapi_Vote_api_Vote (a0 a1 : Value) (h : Hp) (K : Kont) : X_slices_IndexFunc_Sapi_Vote_api_Vote (qTop Try.prog Try.f78 K) a0 a1 h = G_slices_IndexFunc_Sapi_Vote_api_Vote a0 a1 h K := by kernel_rfl
theorem gc_slices_IndexFunc_Sapi_Vote_api_Vote (a0 a1 : Value) (h : Hp) (K : Kont) : abody Try.prog O_slices_IndexFunc_Sapi_Vote_api_Vote Try.f78 (bodyC Try.f78) [a0, a1] h K = aw Try.prog O_slices_IndexFunc_Sapi_Vote_api_Vote (bodyC Try.f78) (qTop Try.prog Try.f78 K) (E0_slices_IndexFunc_Sapi_Vote_api_Vote a0 a1) h := by kernel_rfl
theorem eq_slices_IndexFunc_Sapi_Vote_api_Vote (a0 a1 : Value) (h : Hp) (K : Kont) : abody Try.prog O_slices_IndexFunc_Sapi_Vote_api_Vote Try.f78 (bodyC Try.f78) [a0, a1] h K = G_slices_IndexFunc_Sapi_Vote_api_Vote a0 a1 h K := (gc_slices_IndexFunc_Sapi_Vote_api_Vote a0 a1 h K).trans ((ga_slices_IndexFunc_Sapi_Vote_api_Vote _ a0 a1 h).trans (gb_slices_IndexFunc_Sapi_Vote_api_Vote a0 a1 h K))
theorem ok_slices_IndexFunc_Sapi_Vote_api_Vote {a0 a1 : Value} {h : Hp} {K : Kont} (hk : G_slices_IndexFunc_Sapi_Vote_api_Vote a0 a1 h K) : C_slices_IndexFunc_Sapi_Vote_api_Vote [a0, a1] h K := ac_of_body prog_mixed (fn := Try.f78) Try.func78 (c := bodyC Try.f78) (by kernel_rfl) ((eq_slices_IndexFunc_Sapi_Vote_api_Vote a0 a1 h K).mpr hk)
def B_slices_IndexFunc_Sapi_Vote_api_Vote_1 (K : Kont) (s0 : Self) (v0 : Value) (v1 : Value) (v7 : Value) (v8 : Value) (d : Nat → Value) (h : Hp) : Prop :=
  oBin .lss v8 v7 h fun t9 h1 =>
  oIf t9
  (oIdxS 6 v0 v8 h1 fun t14 h2 =>
  oLdN 6 t14 h2 fun t15 h3 =>
  oCallV Try.prog v1 [t15] h3 fun t16 h4 =>
  oIf t16
  (K v8 h4)
  (oBin .add v8 (Value.int .i64 1) h4 fun t18 h5 =>
  s0 (E_slices_IndexFunc_Sapi_Vote_api_Vote_1 v0 v1 v7 t18 (ud [(5, v8), (9, t9), (10, v8), (11, v1), (12, v0), (13, v8), (14, t14), (15, t15), (16, t16), (18, t18)] d)) h5))
  (K (Value.int .i64 (-1)) h1)
def X_slices_IndexFunc_Sapi_Vote_api_Vote_1 (Qv : Post) (v0 : Value) (v1 : Value) (v7 : Value) (v8 : Value) (d : Nat → Value) (h : Hp) : Prop :=
  oBin .lss v8 v7 h fun t9 h1 =>
  oIf t9
  (oIdxS 6 v0 v8 h1 fun t14 h2 =>
  oLdN 6 t14 h2 fun t15 h3 =>
  oCallV Try.prog v1 [t15] h3 fun t16 h4 =>
  oIf t16
  ((qBlk 1 (qSeq (aw Try.prog O_slices_IndexFunc_Sapi_Vote_api_Vote K_slices_IndexFunc_Sapi_Vote_api_Vote_3 Qv) Qv)) .ret (ul (E_slices_IndexFunc_Sapi_Vote_api_Vote_1 v0 v1 v7 v8 d) [(4, v8), (5, v8), (9, t9), (10, v8), (11, v1), (12, v0), (13, v8), (14, t14), (15, t15), (16, t16), (17, v8)]) h4)
  (oBin .add v8 (Value.int .i64 1) h4 fun t18 h5 =>
  Qv .normal (ul (E_slices_IndexFunc_Sapi_Vote_api_Vote_1 v0 v1 v7 v8 d) [(5, v8), (8, t18), (9, t9), (10, v8), (11, v1), (12, v0), (13, v8), (14, t14), (15, t15), (16, t16), (18, t18)]) h5))
  ((qSeq (aw Try.prog O_slices_IndexFunc_Sapi_Vote_api_Vote K_slices_IndexFunc_Sapi_Vote_api_Vote_4 Qv) Qv) (.exit 0) (ul (E_slices_IndexFunc_Sapi_Vote_api_Vote_1 v0 v1 v7 v8 d) [(9, t9)]) h1)
theorem ga_slices_IndexFunc_Sapi_Vote_api_Vote_1 (Qv : Post) (v0 : Value) (v1 : Value) (v7 : Value) (v8 : Value) (d : Nat → Value) (h : Hp) : aw Try.prog O_slices_IndexFunc_Sapi_Vote_api_Vote K_slices_IndexFunc_Sapi_Vote_api_Vote_2 Qv (E_slices_IndexFunc_Sapi_Vote_api_Vote_1 v0 v1 v7 v8 d) h = X_slices_IndexFunc_Sapi_Vote_api_Vote_1 Qv v0 v1 v7 v8 d h := by kernel_rfl
theorem gb_slices_IndexFunc_Sapi_Vote_api_Vote_1 (K : Kont) (s0 : Self) (v0 : Value) (v1 : Value) (v7 : Value) (v8 : Value) (d : Nat → Value) (h : Hp) : X_slices_IndexFunc_Sapi_Vote_api_Vote_1 (Q_slices_IndexFunc_Sapi_Vote_api_Vote_2 K s0) v0 v1 v7 v8 d h = B_slices_IndexFunc_Sapi_Vote_api_Vote_1 K s0 v0 v1 v7 v8 d h := by kernel_rfl
theorem beq_slices_IndexFunc_Sapi_Vote_api_Vote_1 (K : Kont) (s0 : Self) (v0 : Value) (v1 : Value) (v7 : Value) (v8 : Value) (d : Nat → Value) (h : Hp) : aw Try.prog O_slices_IndexFunc_Sapi_Vote_api_Vote K_slices_IndexFunc_Sapi_Vote_api_Vote_2 (Q_slices_IndexFunc_Sapi_Vote_api_Vote_2 K s0) (E_slices_IndexFunc_Sapi_Vote_api_Vote_1 v0 v1 v7 v8 d) h = B_slices_IndexFunc_Sapi_Vote_api_Vote_1 K s0 v0 v1 v7 v8 d h := (ga_slices_IndexFunc_Sapi_Vote_api_Vote_1 _ v0 v1 v7 v8 d h).trans (gb_slices_IndexFunc_Sapi_Vote_api_Vote_1 K s0 v0 v1 v7 v8 d h)
theorem rule_slices_IndexFunc_Sapi_Vote_api_Vote_1 {K : Kont} {v0 : Value} {v1 : Value} {v7 : Value} (Inv : Value → Hp → Prop) (μ : Value → Hp → Nat)
    (step : ∀ (s0 : Self) (v8 : Value) (d : Nat → Value) (h : Hp), Inv v8 h → (∀ (v8' : Value) (d' : Nat → Value) (h' : Hp), Inv v8' h' → μ v8' h' < μ v8 h → s0 (E_slices_IndexFunc_Sapi_Vote_api_Vote_1 v0 v1 v7 v8' d') h') → B_slices_IndexFunc_Sapi_Vote_api_Vote_1 K s0 v0 v1 v7 v8 d h) (v8 : Value) (d : Nat → Value) (h : Hp) (hi : Inv v8 h) : G_slices_IndexFunc_Sapi_Vote_api_Vote_1 K v0 v1 v7 v8 d h :=
  oLoop_rule (α := Value × (Nat → Value)) (fun x => E_slices_IndexFunc_Sapi_Vote_api_Vote_1 v0 v1 v7 x.1 x.2) (fun x h => Inv x.1 h) (fun x h => μ x.1 h)
    (fun self x h hx hs => (beq_slices_IndexFunc_Sapi_Vote_api_Vote_1 K self v0 v1 v7 x.1 x.2 h).mpr (step self x.1 x.2 h hx (fun v8' d' h' h1 h2 => hs ⟨v8', d'⟩ h' h1 h2))) ⟨v8, d⟩ h hi

/-! ### catenary/ballot.member: function 79 -/
def O_ballot_member : Od := []
def G_ballot_member (a0 : Value) (h : Hp) (K : Kont) : Prop :=
  oBin .geq a0 (Value.int .i64 1) h fun t4 h1 =>
  oGuard t4 true (fun K => K a0 h1) h1 fun t6 h2 =>
  oGuard t4 true (fun K => oBin .leq t6 (Value.int .i64 63) h2 K) h2 fun t7 h3 =>
  oPick t4 t7 (Value.bool false) h3 fun t8 h4 =>
  K t8 h4
def E0_ballot_member (a0 : Value) : List Value := [a0, undef, undef, undef, undef, undef, undef, undef, undef]
def X_ballot_member (Qv : Post) (a0 : Value) (h : Hp) : Prop :=
  oBin .geq a0 (Value.int .i64 1) h fun t4 h1 =>
  oGuard t4 true (fun K => K a0 h1) h1 fun t6 h2 =>
  oGuard t4 true (fun K => oBin .leq t6 (Value.int .i64 63) h2 K) h2 fun t7 h3 =>
  oPick t4 t7 (Value.bool false) h3 fun t8 h4 =>
  Qv .ret (ul (E0_ballot_member a0) [(2, t8), (3, a0), (4, t4), (5, t4), (6, t6), (7, t7), (8, t8)]) h4
theorem ga_ballot_member (Qv : Post) (a0 : Value) (h : Hp) : aw Try.prog O_ballot_member (bodyC Try.f79) Qv (E0_ballot_member a0) h = X_ballot_member Qv a0 h := by kernel_rfl
theorem gb_ballot_member (a0 : Value) (h : Hp) (K : Kont) : X_ballot_member (qTop Try.prog Try.f79 K) a0 h = G_ballot_member a0 h K := by kernel_rfl
theorem gc_ballot_member (a0 : Value) (h : Hp) (K : Kont) : abody Try.prog O_ballot_member Try.f79 (bodyC Try.f79) [a0] h K = aw Try.prog O_ballot_member (bodyC Try.f79) (qTop Try.prog Try.f79 K) (E0_ballot_member a0) h := by kernel_rfl
theorem eq_ballot_member (a0 : Value) (h : Hp) (K : Kont) : abody Try.prog O_ballot_member Try.f79 (bodyC Try.f79) [a0] h K = G_ballot_member a0 h K := (gc_ballot_member a0 h K).trans ((ga_ballot_member _ a0 h).trans (gb_ballot_member a0 h K))
theorem ok_ballot_member {a0 : Value} {h : Hp} {K : Kont} (hk : G_ballot_member a0 h K) : C_ballot_member [a0] h K := ac_of_body prog_mixed (fn := Try.f79) Try.func79 (c := bodyC Try.f79) (by kernel_rfl) ((eq_ballot_member a0 h K).mpr hk)

/-! ### catenary/ballot.Count: function 81 -/
def O_ballot_Count : Od := []
def G_ballot_Count (a0 : Value) (h : Hp) (K : Kont) : Prop :=
  oBin .andNot a0 (Value.int .u64 1) h fun t4 h1 =>
  C_math_bits_OnesCount64 [t4] h1 fun t5 h2 =>
  K t5 h2
def E0_ballot_Count (a0 : Value) : List Value := [a0, undef, undef, undef, undef, undef]
def X_ballot_Count (Qv : Post) (a0 : Value) (h : Hp) : Prop :=
  oBin .andNot a0 (Value.int .u64 1) h fun t4 h1 =>
  C_math_bits_OnesCount64 [t4] h1 fun t5 h2 =>
  Qv .ret (ul (E0_ballot_Count a0) [(2, t5), (3, a0), (4, t4), (5, t5)]) h2
theorem ga_ballot_Count (Qv : Post) (a0 : Value) (h : Hp) : aw Try.prog O_ballot_Count (bodyC Try.f81) Qv (E0_ballot_Count a0) h = X_ballot_Count Qv a0 h := by kernel_rfl
theorem gb_ballot_Count (a0 : Value) (h : Hp) (K : Kont) : X_ballot_Count (qTop Try.prog Try.f81 K) a0 h = G_ballot_Count a0 h K := by kernel_rfl
theorem gc_ballot_Count (a0 : Value) (h : Hp) (K : Kont) : abody Try.prog O_ballot_Count Try.f81 (bodyC Try.f81) [a0] h K = aw Try.prog O_ballot_Count (bodyC Try.f81) (qTop Try.prog Try.f81 K) (E0_ballot_Count a0) h := by kernel_rfl
theorem eq_ballot_Count (a0 : Value) (h : Hp) (K : Kont) : abody Try.prog O_ballot_Count Try.f81 (bodyC Try.f81) [a0] h K = G_ballot_Count a0 h K := (gc_ballot_Count a0 h K).trans ((ga_ballot_Count _ a0 h).trans (gb_ballot_Count a0 h K))
theorem ok_ballot_Count {a0 : Value} {h : Hp} {K : Kont} (hk : G_ballot_Count a0 h K) : C_ballot_Count [a0] h K := ac_of_body prog_mixed (fn := Try.f81) Try.func81 (c := bodyC Try.f81) (by kernel_rfl) ((eq_ballot_Count a0 h K).mpr hk)

/-! ### catenary/ballot.Quorum: function 82 -/
def O_ballot_Quorum : Od := []
noncomputable def K_ballot_Quorum_0 : Code := (cB (cB (bodyC Try.f82)))
def G_ballot_Quorum (a0 : Value) (h : Hp) (K : Kont) : Prop :=
  oBin .lss a0 (Value.int .i64 1) h fun t4 h1 =>
  oIf t4
  (K (Value.int .i64 0) h1)
  (oBin .quo a0 (Value.int .i64 2) h1 fun t6 h2 =>
  oBin .add t6 (Value.int .i64 1) h2 fun t7 h3 =>
  K t7 h3)
def E0_ballot_Quorum (a0 : Value) : List Value := [a0, undef, undef, undef, undef, undef, undef, undef]
def X_ballot_Quorum (Qv : Post) (a0 : Value) (h : Hp) : Prop :=
  oBin .lss a0 (Value.int .i64 1) h fun t4 h1 =>
  oIf t4
  ((qSeq (aw Try.prog O_ballot_Quorum K_ballot_Quorum_0 Qv) Qv) .ret (ul (E0_ballot_Quorum a0) [(2, (Value.int .i64 0)), (3, a0), (4, t4)]) h1)
  (oBin .quo a0 (Value.int .i64 2) h1 fun t6 h2 =>
  oBin .add t6 (Value.int .i64 1) h2 fun t7 h3 =>
  Qv .ret (ul (E0_ballot_Quorum a0) [(2, t7), (3, a0), (4, t4), (5, a0), (6, t6), (7, t7)]) h3)
theorem ga_ballot_Quorum (Qv : Post) (a0 : Value) (h : Hp) : aw Try.prog O_ballot_Quorum (bodyC Try.f82) Qv (E0_ballot_Quorum a0) h = X_ballot_Quorum Qv a0 h := by kernel_rfl
theorem gb_ballot_Quorum (a0 : Value) (h : Hp) (K : Kont) : X_ballot_Quorum (qTop Try.prog Try.f82 K) a0 h = G_ballot_Quorum a0 h K := by kernel_rfl
theorem gc_ballot_Quorum (a0 : Value) (h : Hp) (K : Kont) : abody Try.prog O_ballot_Quorum Try.f82 (bodyC Try.f82) [a0] h K = aw Try.prog O_ballot_Quorum (bodyC Try.f82) (qTop Try.prog Try.f82 K) (E0_ballot_Quorum a0) h := by kernel_rfl
theorem eq_ballot_Quorum (a0 : Value) (h : Hp) (K : Kont) : abody Try.prog O_ballot_Quorum Try.f82 (bodyC Try.f82) [a0] h K = G_ballot_Quorum a0 h K := (gc_ballot_Quorum a0 h K).trans ((ga_ballot_Quorum _ a0 h).trans (gb_ballot_Quorum a0 h K))
theorem ok_ballot_Quorum {a0 : Value} {h : Hp} {K : Kont} (hk : G_ballot_Quorum a0 h K) : C_ballot_Quorum [a0] h K := ac_of_body prog_mixed (fn := Try.f82) Try.func82 (c := bodyC Try.f82) (by kernel_rfl) ((eq_ballot_Quorum a0 h K).mpr hk)

/-! ### (*catenary/lead.Lead).all: function 83 -/
def O_lead_Lead_all : Od := []
noncomputable def K_lead_Lead_all_0 : Code := (cI (cB (cA (cB (cB (bodyC Try.f83))))))
noncomputable def K_lead_Lead_all_1 : Code := (cB (cB (cB (bodyC Try.f83))))
def Q_lead_Lead_all_0 (K : Kont) : Post := qSeq (aw Try.prog O_lead_Lead_all K_lead_Lead_all_1 (qTop Try.prog Try.f83 K)) (qTop Try.prog Try.f83 K)
def Q_lead_Lead_all_1 (K : Kont) : Post := qBlk 0 (Q_lead_Lead_all_0 K)
def E_lead_Lead_all_1 (v0 : Value) (v3 : Value) (v11 : Value) (v12 : Value) (v13 : Value) (d : Nat → Value) : List Value := [v0, d 1, d 2, v3, d 4, d 5, d 6, d 7, d 8, d 9, d 10, v11, v12, v13, d 14, d 15, d 16, d 17, d 18, d 19, d 20, d 21, d 22, d 23, d 24, d 25, d 26, d 27]
def G_lead_Lead_all_1 (K : Kont) (v0 : Value) (v3 : Value) (v11 : Value) (v12 : Value) (v13 : Value) (d : Nat → Value) (h : Hp) : Prop := aw Try.prog O_lead_Lead_all K_lead_Lead_all_0 (Q_lead_Lead_all_1 K) (E_lead_Lead_all_1 v0 v3 v11 v12 v13 d) h
def Q_lead_Lead_all_2 (K : Kont) (s0 : Self) : Post := qSeq s0 (Q_lead_Lead_all_1 K)
noncomputable def K_lead_Lead_all_2 : Code := (cI (cI (cB (cA (cB (cB (bodyC Try.f83)))))))
noncomputable def K_lead_Lead_all_3 : Code := (cB (cB (cI (cI (cB (cA (cB (cB (bodyC Try.f83)))))))))
def G_lead_Lead_all (a0 : Value) (h : Hp) (K : Kont) : Prop :=
  oNilCheck a0 h fun t7 h1 =>
  oFieldAddr 6 t7 h1 fun t8 h2 =>
  oLd1 t8 h2 fun t9 h3 =>
  C_maps_Keys_map_int_Sapi_Vote_int_Sapi_Vote [t9] h3 fun t10 h4 =>
  C_slices_Sorted_int [t10] h4 fun t11 h5 =>
  oLen 0 t11 h5 fun t12 h6 =>
  G_lead_Lead_all_1 K a0 (Value.slice none 0 0) t11 t12 (Value.int .i64 0) (ud [(2, (Value.slice none 0 0)), (6, a0), (7, t7), (8, t8), (9, t9), (10, t10)] dz) h6
def E0_lead_Lead_all (a0 : Value) : List Value := [a0, undef, undef, undef, undef, undef, undef, undef, undef, undef, undef, undef, undef, undef, undef, undef, undef, undef, undef, undef, undef, undef, undef, undef, undef, undef, undef, undef]
def X_lead_Lead_all (Qv : Post) (a0 : Value) (h : Hp) : Prop :=
  oNilCheck a0 h fun t7 h1 =>
  oFieldAddr 6 t7 h1 fun t8 h2 =>
  oLd1 t8 h2 fun t9 h3 =>
  C_maps_Keys_map_int_Sapi_Vote_int_Sapi_Vote [t9] h3 fun t10 h4 =>
  C_slices_Sorted_int [t10] h4 fun t11 h5 =>
  oLen 0 t11 h5 fun t12 h6 =>
  aw Try.prog O_lead_Lead_all K_lead_Lead_all_0 (qBlk 0 (qSeq (aw Try.prog O_lead_Lead_all K_lead_Lead_all_1 Qv) Qv)) (ul (E0_lead_Lead_all a0) [(2, (Value.slice none 0 0)), (3, (Value.slice none 0 0)), (6, a0), (7, t7), (8, t8), (9, t9), (10, t10), (11, t11), (12, t12), (13, (Value.int .i64 0))]) h6
theorem ga_lead_Lead_all (Qv : Post) (a0 : Value) (h : Hp) : aw Try.prog O_lead_Lead_all (bodyC Try.f83) Qv (E0_lead_Lead_all a0) h = X_lead_Lead_all Qv a0 h := by kernel_rfl
theorem gb_lead_Lead_all (a0 : Value) (h : Hp) (K : Kont) : X_lead_Lead_all (qTop Try.prog Try.f83 K) a0 h = G_lead_Lead_all a0 h K := by kernel_rfl
theorem gc_lead_Lead_all (a0 : Value) (h : Hp) (K : Kont) : abody Try.prog O_lead_Lead_all Try.f83 (bodyC Try.f83) [a0] h K = aw Try.prog O_lead_Lead_all (bodyC Try.f83) (qTop Try.prog Try.f83 K) (E0_lead_Lead_all a0) h := by kernel_rfl
theorem eq_lead_Lead_all (a0 : Value) (h : Hp) (K : Kont) : abody Try.prog O_lead_Lead_all Try.f83 (bodyC Try.f83) [a0] h K = G_lead_Lead_all a0 h K := (gc_lead_Lead_all a0 h K).trans ((ga_lead_Lead_all _ a0 h).trans (gb_lead_Lead_all a0 h K))
theorem ok_lead_Lead_all {a0 : Value} {h : Hp} {K : Kont} (hk : G_lead_Lead_all a0 h K) : C_lead_Lead_all [a0] h K := ac_of_body prog_mixed (fn := Try.f83) Try.func83 (c := bodyC Try.f83) (by kernel_rfl) ((eq_lead_Lead_all a0 h K).mpr hk)
def B_lead_Lead_all_1 (K : Kont) (s0 : Self) (v0 : Value) (v3 : Value) (v11 : Value) (v12 : Value) (v13 : Value) (d : Nat → Value) (h : Hp) : Prop :=
  oBin .lss v13 v12 h fun t14 h1 =>
  oIf t14
  (oIdxS 1 v11 v13 h1 fun t15 h2 =>
  oLd1 t15 h2 fun t16 h3 =>
  oNilCheck v0 h3 fun t19 h4 =>
  oFieldAddr 6 t19 h4 fun t20 h5 =>
  oLd1 t20 h5 fun t21 h6 =>
  oLookup (.int .i64) (.slice none 0 0) t21 t16 false h6 fun t23 h7 =>
  oBuildSlice #[.slice none 0 0] 1 [(0 * 1, 1, t23)] h7 fun t24 h8 =>
  oAppend 1 24 #[.slice none 0 0] v3 t24 h8 fun t25 h9 =>
  oBin .add v13 (Value.int .i64 1) h9 fun t26 h10 =>
  s0 (E_lead_Lead_all_1 v0 t25 v11 v12 t26 (ud [(5, t16), (14, t14), (15, t15), (16, t16), (17, v3), (18, v0), (19, t19), (20, t20), (21, t21), (22, t16), (23, t23), (24, t24), (25, t25), (26, t26)] d)) h10)
  (K v3 h1)
def X_lead_Lead_all_1 (Qv : Post) (v0 : Value) (v3 : Value) (v11 : Value) (v12 : Value) (v13 : Value) (d : Nat → Value) (h : Hp) : Prop :=
  oBin .lss v13 v12 h fun t14 h1 =>
  oIf t14
  (oIdxS 1 v11 v13 h1 fun t15 h2 =>
  oLd1 t15 h2 fun t16 h3 =>
  oNilCheck v0 h3 fun t19 h4 =>
  oFieldAddr 6 t19 h4 fun t20 h5 =>
  oLd1 t20 h5 fun t21 h6 =>
  oLookup (.int .i64) (.slice none 0 0) t21 t16 false h6 fun t23 h7 =>
  oBuildSlice #[.slice none 0 0] 1 [(0 * 1, 1, t23)] h7 fun t24 h8 =>
  oAppend 1 24 #[.slice none 0 0] v3 t24 h8 fun t25 h9 =>
  oBin .add v13 (Value.int .i64 1) h9 fun t26 h10 =>
  Qv .normal (ul (E_lead_Lead_all_1 v0 v3 v11 v12 v13 d) [(3, t25), (5, t16), (13, t26), (14, t14), (15, t15), (16, t16), (17, v3), (18, v0), (19, t19), (20, t20), (21, t21), (22, t16), (23, t23), (24, t24), (25, t25), (26, t26)]) h10)
  ((qSeq (aw Try.prog O_lead_Lead_all K_lead_Lead_all_3 Qv) Qv) (.exit 0) (ul (E_lead_Lead_all_1 v0 v3 v11 v12 v13 d) [(14, t14)]) h1)
theorem ga_lead_Lead_all_1 (Qv : Post) (v0 : Value) (v3 : Value) (v11 : Value) (v12 : Value) (v13 : Value) (d : Nat → Value) (h : Hp) : aw Try.prog O_lead_Lead_all K_lead_Lead_all_2 Qv (E_lead_Lead_all_1 v0 v3 v11 v12 v13 d) h = X_lead_Lead_all_1 Qv v0 v3 v11 v12 v13 d h := by kernel_rfl
theorem gb_lead_Lead_all_1 (K : Kont) (s0 : Self) (v0 : Value) (v3 : Value) (v11 : Value) (v12 : Value) (v13 : Value) (d : Nat → Value) (h : Hp) : X_lead_Lead_all_1 (Q_lead_Lead_all_2 K s0) v0 v3 v11 v12 v13 d h = B_lead_Lead_all_1 K s0 v0 v3 v11 v12 v13 d h := by kernel_rfl
theorem beq_lead_Lead_all_1 (K : Kont) (s0 : Self) (v0 : Value) (v3 : Value) (v11 : Value) (v12 : Value) (v13 : Value) (d : Nat → Value) (h : Hp) : aw Try.prog O_lead_Lead_all K_lead_Lead_all_2 (Q_lead_Lead_all_2 K s0) (E_lead_Lead_all_1 v0 v3 v11 v12 v13 d) h = B_lead_Lead_all_1 K s0 v0 v3 v11 v12 v13 d h := (ga_lead_Lead_all_1 _ v0 v3 v11 v12 v13 d h).trans (gb_lead_Lead_all_1 K s0 v0 v3 v11 v12 v13 d h)
theorem rule_lead_Lead_all_1 {K : Kont} {v0 : Value} {v11 : Value} {v12 : Value} (Inv : Value → Value → Hp → Prop) (μ : Value → Value → Hp → Nat)
    (step : ∀ (s0 : Self) (v3 : Value) (v13 : Value) (d : Nat → Value) (h : Hp), Inv v3 v13 h → (∀ (v3' : Value) (v13' : Value) (d' : Nat → Value) (h' : Hp), Inv v3' v13' h' → μ v3' v13' h' < μ v3 v13 h → s0 (E_lead_Lead_all_1 v0 v3' v11 v12 v13' d') h') → B_lead_Lead_all_1 K s0 v0 v3 v11 v12 v13 d h) (v3 : Value) (v13 : Value) (d : Nat → Value) (h : Hp) (hi : Inv v3 v13 h) : G_lead_Lead_all_1 K v0 v3 v11 v12 v13 d h :=
  oLoop_rule (α := Value × Value × (Nat → Value)) (fun x => E_lead_Lead_all_1 v0 x.1 v11 v12 x.2.1 x.2.2) (fun x h => Inv x.1 x.2.1 h) (fun x h => μ x.1 x.2.1 h)
    (fun self x h hx hs => (beq_lead_Lead_all_1 K self v0 x.1 v11 v12 x.2.1 x.2.2 h).mpr (step self x.1 x.2.1 x.2.2 h hx (fun v3' v13' d' h' h1 h2 => hs ⟨v3', v13', d'⟩ h' h1 h2))) ⟨v3, v13, d⟩ h hi

/-! ### slices.ContainsFunc[[]catenary/api.Vote,catenary/api.Vote]: function 84 -/
def O_slices_ContainsFunc_Sapi_Vote_api_Vote : Od := []
def G_slices_ContainsFunc_Sapi_Vote_api_Vote (a0 a1 : Value) (h : Hp) (K : Kont) : Prop :=
  C_slices_IndexFunc_Sapi_Vote_api_Vote [a0, a1] h fun t7 h1 =>
  oBin .geq t7 (Value.int .i64 0) h1 fun t8 h2 =>
  K t8 h2
def E0_slices_ContainsFunc_Sapi_Vote_api_Vote (a0 a1 : Value) : List Value := [a0, a1, undef, undef, undef, undef, undef, undef, undef]
def X_slices_ContainsFunc_Sapi_Vote_api_Vote (Qv : Post) (a0 a1 : Value) (h : Hp) : Prop :=
  C_slices_IndexFunc_Sapi_Vote_api_Vote [a0, a1] h fun t7 h1 =>
  oBin .geq t7 (Value.int .i64 0) h1 fun t8 h2 =>
  Qv .ret (ul (E0_slices_ContainsFunc_Sapi_Vote_api_Vote a0 a1) [(4, t8), (5, a0), (6, a1), (7, t7), (8, t8)]) h2
theorem ga_slices_ContainsFunc_Sapi_Vote_api_Vote (Qv : Post) (a0 a1 : Value) (h : Hp) : aw Try.prog O_slices_ContainsFunc_Sapi_Vote_api_Vote (bodyC Try.f84) Qv (E0_slices_ContainsFunc_Sapi_Vote_api_Vote a0 a1) h = X_slices_ContainsFunc_Sapi_Vote_api_Vote Qv a0 a1 h := by kernel_rfl
theorem gb_slices_ContainsFunc_Sapi_Vote_api_Vote (a0 a1 : Value) (h : Hp) (K : Kont) : X_slices_ContainsFunc_Sapi_Vote_api_Vote (qTop Try.prog Try.f84 K) a0 a1 h = G_slices_ContainsFunc_Sapi_Vote_api_Vote a0 a1 h K := by kernel_rfl
theorem gc_slices_ContainsFunc_Sapi_Vote_api_Vote (a0 a1 : Value) (h : Hp) (K : Kont) : abody Try.prog O_slices_ContainsFunc_Sapi_Vote_api_Vote Try.f84 (bodyC Try.f84) [a0, a1] h K = aw Try.prog O_slices_ContainsFunc_Sapi_Vote_api_Vote (bodyC Try.f84) (qTop Try.prog Try.f84 K) (E0_slices_ContainsFunc_Sapi_Vote_api_Vote a0 a1) h := by kernel_rfl
theorem eq_slices_ContainsFunc_Sapi_Vote_api_Vote (a0 a1 : Value) (h : Hp) (K : Kont) : abody Try.prog O_slices_ContainsFunc_Sapi_Vote_api_Vote Try.f84 (bodyC Try.f84) [a0, a1] h K = G_slices_ContainsFunc_Sapi_Vote_api_Vote a0 a1 h K := (gc_slices_ContainsFunc_Sapi_Vote_api_Vote a0 a1 h K).trans ((ga_slices_ContainsFunc_Sapi_Vote_api_Vote _ a0 a1 h).trans (gb_slices_ContainsFunc_Sapi_Vote_api_Vote a0 a1 h K))
theorem ok_slices_ContainsFunc_Sapi_Vote_api_Vote {a0 a1 : Value} {h : Hp} {K : Kont} (hk : G_slices_ContainsFunc_Sapi_Vote_api_Vote a0 a1 h K) : C_slices_ContainsFunc_Sapi_Vote_api_Vote [a0, a1] h K := ac_of_body prog_mixed (fn := Try.f84) Try.func84 (c := bodyC Try.f84) (by kernel_rfl) ((eq_slices_ContainsFunc_Sapi_Vote_api_Vote a0 a1 h K).mpr hk)

/-! ### (*catenary/lead.Lead).proposed$1: function 85 -/
def O_lead_Lead_proposed_c1 : Od := []
def G_lead_Lead_proposed_c1 (a0 a1 : Value) (h : Hp) (K : Kont) : Prop :=
  oBox a0 h fun t2 h1 =>
  oFieldAddr 2 t2 h1 fun t4 h2 =>
  oLdN 4 t4 h2 fun t5 h3 =>
  oLdN 4 a1 h3 fun t6 h4 =>
  oEq 4 false (some [(0, (.int .i64)), (1, (.int .i64)), (2, (.int .u64)), (3, (.int .i64))]) t5 t6 h4 fun t7 h5 =>
  K t7 h5
def E0_lead_Lead_proposed_c1 (a0 a1 : Value) : List Value := [a0, a1, undef, undef, undef, undef, undef, undef]
def X_lead_Lead_proposed_c1 (Qv : Post) (a0 a1 : Value) (h : Hp) : Prop :=
  oBox a0 h fun t2 h1 =>
  oFieldAddr 2 t2 h1 fun t4 h2 =>
  oLdN 4 t4 h2 fun t5 h3 =>
  oLdN 4 a1 h3 fun t6 h4 =>
  oEq 4 false (some [(0, (.int .i64)), (1, (.int .i64)), (2, (.int .u64)), (3, (.int .i64))]) t5 t6 h4 fun t7 h5 =>
  Qv .ret (ul (E0_lead_Lead_proposed_c1 a0 a1) [(2, t2), (3, t7), (4, t4), (5, t5), (6, t6), (7, t7)]) h5
theorem ga_lead_Lead_proposed_c1 (Qv : Post) (a0 a1 : Value) (h : Hp) : aw Try.prog O_lead_Lead_proposed_c1 (bodyC Try.f85) Qv (E0_lead_Lead_proposed_c1 a0 a1) h = X_lead_Lead_proposed_c1 Qv a0 a1 h := by kernel_rfl
theorem gb_lead_Lead_proposed_c1 (a0 a1 : Value) (h : Hp) (K : Kont) : X_lead_Lead_proposed_c1 (qTop Try.prog Try.f85 K) a0 a1 h = G_lead_Lead_proposed_c1 a0 a1 h K := by kernel_rfl
theorem gc_lead_Lead_proposed_c1 (a0 a1 : Value) (h : Hp) (K : Kont) : abody Try.prog O_lead_Lead_proposed_c1 Try.f85 (bodyC Try.f85) [a0, a1] h K = aw Try.prog O_lead_Lead_proposed_c1 (bodyC Try.f85) (qTop Try.prog Try.f85 K) (E0_lead_Lead_proposed_c1 a0 a1) h := by kernel_rfl
theorem eq_lead_Lead_proposed_c1 (a0 a1 : Value) (h : Hp) (K : Kont) : abody Try.prog O_lead_Lead_proposed_c1 Try.f85 (bodyC Try.f85) [a0, a1] h K = G_lead_Lead_proposed_c1 a0 a1 h K := (gc_lead_Lead_proposed_c1 a0 a1 h K).trans ((ga_lead_Lead_proposed_c1 _ a0 a1 h).trans (gb_lead_Lead_proposed_c1 a0 a1 h K))
theorem ok_lead_Lead_proposed_c1 {a0 a1 : Value} {h : Hp} {K : Kont} (hk : G_lead_Lead_proposed_c1 a0 a1 h K) : C_lead_Lead_proposed_c1 [a0, a1] h K := ac_of_body prog_mixed (fn := Try.f85) Try.func85 (c := bodyC Try.f85) (by kernel_rfl) ((eq_lead_Lead_proposed_c1 a0 a1 h K).mpr hk)

end Go.Proofs.Ytdolepapmpcpiaa

/- What functions of the program ask of the seen heap (written by a program of this proof, vgen.py). -/
namespace Go.Proofs.Ytdolepapmpcpiaa
open Go
set_option linter.unusedSectionVars false
variable [Base]
set_option linter.unusedVariables false
set_option maxRecDepth 100000

/-! ### catenary/catenaryref07.Of: function 93 -/
def O_r07_Of : Od := []
noncomputable def K_r07_Of_0 : Code := (cB (cB (bodyC Try.f93)))
def G_r07_Of (a0 a1 : Value) (h : Hp) (K : Kont) : Prop :=
  oBin .lss a0 (Value.int .u64 1) h fun t7 h1 =>
  oGuard t7 false (fun K => K a0 h1) h1 fun t9 h2 =>
  oGuard t7 false (fun K => oBin .gtr t9 (Value.int .u64 1152921504606846975) h2 K) h2 fun t10 h3 =>
  oPick t7 (Value.bool true) t10 h3 fun t11 h4 =>
  oGuard t11 false (fun K => K a1 h4) h4 fun t13 h5 =>
  oGuard t11 false (fun K => C_r07_Master [t13] h5 K) h5 fun t14 h6 =>
  oGuard t11 false (fun K => oNot t14 h6 K) h6 fun t15 h7 =>
  oPick t11 (Value.bool true) t15 h7 fun t16 h8 =>
  oIf t16
  (K (.tuple #[(Value.int .u64 0), (Value.int .i64 1)]) h8)
  (oBin .mul a0 (Value.int .u64 8) h8 fun t18 h9 =>
  oConvInt .u64 a1 h9 fun t20 h10 =>
  oBin .add t18 t20 h10 fun t21 h11 =>
  K (.tuple #[t21, (Value.int .i64 0)]) h11)
def E0_r07_Of (a0 a1 : Value) : List Value := [a0, a1, undef, undef, undef, undef, undef, undef, undef, undef, undef, undef, undef, undef, undef, undef, undef, undef, undef, undef, undef, undef]
def X_r07_Of (Qv : Post) (a0 a1 : Value) (h : Hp) : Prop :=
  oBin .lss a0 (Value.int .u64 1) h fun t7 h1 =>
  oGuard t7 false (fun K => K a0 h1) h1 fun t9 h2 =>
  oGuard t7 false (fun K => oBin .gtr t9 (Value.int .u64 1152921504606846975) h2 K) h2 fun t10 h3 =>
  oPick t7 (Value.bool true) t10 h3 fun t11 h4 =>
  oGuard t11 false (fun K => K a1 h4) h4 fun t13 h5 =>
  oGuard t11 false (fun K => C_r07_Master [t13] h5 K) h5 fun t14 h6 =>
  oGuard t11 false (fun K => oNot t14 h6 K) h6 fun t15 h7 =>
  oPick t11 (Value.bool true) t15 h7 fun t16 h8 =>
  oIf t16
  ((qSeq (aw Try.prog O_r07_Of K_r07_Of_0 Qv) Qv) .ret (ul (E0_r07_Of a0 a1) [(4, (Value.int .u64 0)), (5, (Value.int .i64 1)), (6, a0), (7, t7), (8, t7), (9, t9), (10, t10), (11, t11), (12, t11), (13, t13), (14, t14), (15, t15), (16, t16)]) h8)
  (oBin .mul a0 (Value.int .u64 8) h8 fun t18 h9 =>
  oConvInt .u64 a1 h9 fun t20 h10 =>
  oBin .add t18 t20 h10 fun t21 h11 =>
  Qv .ret (ul (E0_r07_Of a0 a1) [(4, t21), (5, (Value.int .i64 0)), (6, a0), (7, t7), (8, t7), (9, t9), (10, t10), (11, t11), (12, t11), (13, t13), (14, t14), (15, t15), (16, t16), (17, a0), (18, t18), (19, a1), (20, t20), (21, t21)]) h11)
theorem ga_r07_Of (Qv : Post) (a0 a1 : Value) (h : Hp) : aw Try.prog O_r07_Of (bodyC Try.f93) Qv (E0_r07_Of a0 a1) h = X_r07_Of Qv a0 a1 h := by kernel_rfl
theorem gb_r07_Of (a0 a1 : Value) (h : Hp) (K : Kont) : X_r07_Of (qTop Try.prog Try.f93 K) a0 a1 h = G_r07_Of a0 a1 h K := by kernel_rfl
theorem gc_r07_Of (a0 a1 : Value) (h : Hp) (K : Kont) : abody Try.prog O_r07_Of Try.f93 (bodyC Try.f93) [a0, a1] h K = aw Try.prog O_r07_Of (bodyC Try.f93) (qTop Try.prog Try.f93 K) (E0_r07_Of a0 a1) h := by kernel_rfl
theorem eq_r07_Of (a0 a1 : Value) (h : Hp) (K : Kont) : abody Try.prog O_r07_Of Try.f93 (bodyC Try.f93) [a0, a1] h K = G_r07_Of a0 a1 h K := (gc_r07_Of a0 a1 h K).trans ((ga_r07_Of _ a0 a1 h).trans (gb_r07_Of a0 a1 h K))
theorem ok_r07_Of {a0 a1 : Value} {h : Hp} {K : Kont} (hk : G_r07_Of a0 a1 h K) : C_r07_Of [a0, a1] h K := ac_of_body prog_mixed (fn := Try.f93) Try.func93 (c := bodyC Try.f93) (by kernel_rfl) ((eq_r07_Of a0 a1 h K).mpr hk)

/-! ### math/bits.OnesCount64: function 94 -/
def O_math_bits_OnesCount64 : Od := []
def G_math_bits_OnesCount64 (a0 : Value) (h : Hp) (K : Kont) : Prop :=
  oBin .shr a0 (Value.int .u64 1) h fun t4 h1 =>
  oBin .and t4 (Value.int .u64 6148914691236517205) h1 fun t5 h2 =>
  oBin .and a0 (Value.int .u64 6148914691236517205) h2 fun t7 h3 =>
  oBin .add t5 t7 h3 fun t8 h4 =>
  oBin .shr t8 (Value.int .u64 2) h4 fun t10 h5 =>
  oBin .and t10 (Value.int .u64 3689348814741910323) h5 fun t11 h6 =>
  oBin .and t8 (Value.int .u64 3689348814741910323) h6 fun t13 h7 =>
  oBin .add t11 t13 h7 fun t14 h8 =>
  oBin .shr t14 (Value.int .u64 4) h8 fun t16 h9 =>
  oBin .add t16 t14 h9 fun t18 h10 =>
  oBin .and t18 (Value.int .u64 1085102592571150095) h10 fun t19 h11 =>
  oBin .shr t19 (Value.int .u64 8) h11 fun t22 h12 =>
  oBin .add t19 t22 h12 fun t23 h13 =>
  oBin .shr t23 (Value.int .u64 16) h13 fun t26 h14 =>
  oBin .add t23 t26 h14 fun t27 h15 =>
  oBin .shr t27 (Value.int .u64 32) h15 fun t30 h16 =>
  oBin .add t27 t30 h16 fun t31 h17 =>
  oConvInt .i64 t31 h17 fun t33 h18 =>
  oBin .and t33 (Value.int .i64 127) h18 fun t34 h19 =>
  K t34 h19
def E0_math_bits_OnesCount64 (a0 : Value) : List Value := [a0, undef, undef, undef, undef, undef, undef, undef, undef, undef, undef, undef, undef, undef, undef, undef, undef, undef, undef, undef, undef, undef, undef, undef, undef, undef, undef, undef, undef, undef, undef, undef, undef, undef, undef]
def X_math_bits_OnesCount64 (Qv : Post) (a0 : Value) (h : Hp) : Prop :=
  oBin .shr a0 (Value.int .u64 1) h fun t4 h1 =>
  oBin .and t4 (Value.int .u64 6148914691236517205) h1 fun t5 h2 =>
  oBin .and a0 (Value.int .u64 6148914691236517205) h2 fun t7 h3 =>
  oBin .add t5 t7 h3 fun t8 h4 =>
  oBin .shr t8 (Value.int .u64 2) h4 fun t10 h5 =>
  oBin .and t10 (Value.int .u64 3689348814741910323) h5 fun t11 h6 =>
  oBin .and t8 (Value.int .u64 3689348814741910323) h6 fun t13 h7 =>
  oBin .add t11 t13 h7 fun t14 h8 =>
  oBin .shr t14 (Value.int .u64 4) h8 fun t16 h9 =>
  oBin .add t16 t14 h9 fun t18 h10 =>
  oBin .and t18 (Value.int .u64 1085102592571150095) h10 fun t19 h11 =>
  oBin .shr t19 (Value.int .u64 8) h11 fun t22 h12 =>
  oBin .add t19 t22 h12 fun t23 h13 =>
  oBin .shr t23 (Value.int .u64 16) h13 fun t26 h14 =>
  oBin .add t23 t26 h14 fun t27 h15 =>
  oBin .shr t27 (Value.int .u64 32) h15 fun t30 h16 =>
  oBin .add t27 t30 h16 fun t31 h17 =>
  oConvInt .i64 t31 h17 fun t33 h18 =>
  oBin .and t33 (Value.int .i64 127) h18 fun t34 h19 =>
  Qv .ret (ul (E0_math_bits_OnesCount64 a0) [(0, t31), (2, t34), (3, a0), (4, t4), (5, t5), (6, a0), (7, t7), (8, t8), (9, t8), (10, t10), (11, t11), (12, t8), (13, t13), (14, t14), (15, t14), (16, t16), (17, t14), (18, t18), (19, t19), (20, t19), (21, t19), (22, t22), (23, t23), (24, t23), (25, t23), (26, t26), (27, t27), (28, t27), (29, t27), (30, t30), (31, t31), (32, t31), (33, t33), (34, t34)]) h19
theorem ga_math_bits_OnesCount64 (Qv : Post) (a0 : Value) (h : Hp) : aw Try.prog O_math_bits_OnesCount64 (bodyC Try.f94) Qv (E0_math_bits_OnesCount64 a0) h = X_math_bits_OnesCount64 Qv a0 h := by kernel_rfl
theorem gb_math_bits_OnesCount64 (a0 : Value) (h : Hp) (K : Kont) : X_math_bits_OnesCount64 (qTop Try.prog Try.f94 K) a0 h = G_math_bits_OnesCount64 a0 h K := by kernel_rfl
theorem gc_math_bits_OnesCount64 (a0 : Value) (h : Hp) (K : Kont) : abody Try.prog O_math_bits_OnesCount64 Try.f94 (bodyC Try.f94) [a0] h K = aw Try.prog O_math_bits_OnesCount64 (bodyC Try.f94) (qTop Try.prog Try.f94 K) (E0_math_bits_OnesCount64 a0) h := by kernel_rfl
theorem eq_math_bits_OnesCount64 (a0 : Value) (h : Hp) (K : Kont) : abody Try.prog O_math_bits_OnesCount64 Try.f94 (bodyC Try.f94) [a0] h K = G_math_bits_OnesCount64 a0 h K := (gc_math_bits_OnesCount64 a0 h K).trans ((ga_math_bits_OnesCount64 _ a0 h).trans (gb_math_bits_OnesCount64 a0 h K))
theorem ok_math_bits_OnesCount64 {a0 : Value} {h : Hp} {K : Kont} (hk : G_math_bits_OnesCount64 a0 h K) : C_math_bits_OnesCount64 [a0] h K := ac_of_body prog_mixed (fn := Try.f94) Try.func94 (c := bodyC Try.f94) (by kernel_rfl) ((eq_math_bits_OnesCount64 a0 h K).mpr hk)

/-! ### catenary/catenaryref07.Master: function 97 -/
def O_r07_Master : Od := []
def G_r07_Master (a0 : Value) (h : Hp) (K : Kont) : Prop :=
  oBin .geq a0 (Value.int .i64 1) h fun t4 h1 =>
  oGuard t4 true (fun K => K a0 h1) h1 fun t6 h2 =>
  oGuard t4 true (fun K => oBin .leq t6 (Value.int .i64 5) h2 K) h2 fun t7 h3 =>
  oPick t4 t7 (Value.bool false) h3 fun t8 h4 =>
  K t8 h4
def E0_r07_Master (a0 : Value) : List Value := [a0, undef, undef, undef, undef, undef, undef, undef, undef]
def X_r07_Master (Qv : Post) (a0 : Value) (h : Hp) : Prop :=
  oBin .geq a0 (Value.int .i64 1) h fun t4 h1 =>
  oGuard t4 true (fun K => K a0 h1) h1 fun t6 h2 =>
  oGuard t4 true (fun K => oBin .leq t6 (Value.int .i64 5) h2 K) h2 fun t7 h3 =>
  oPick t4 t7 (Value.bool false) h3 fun t8 h4 =>
  Qv .ret (ul (E0_r07_Master a0) [(2, t8), (3, a0), (4, t4), (5, t4), (6, t6), (7, t7), (8, t8)]) h4
theorem ga_r07_Master (Qv : Post) (a0 : Value) (h : Hp) : aw Try.prog O_r07_Master (bodyC Try.f97) Qv (E0_r07_Master a0) h = X_r07_Master Qv a0 h := by kernel_rfl
theorem gb_r07_Master (a0 : Value) (h : Hp) (K : Kont) : X_r07_Master (qTop Try.prog Try.f97 K) a0 h = G_r07_Master a0 h K := by kernel_rfl
theorem gc_r07_Master (a0 : Value) (h : Hp) (K : Kont) : abody Try.prog O_r07_Master Try.f97 (bodyC Try.f97) [a0] h K = aw Try.prog O_r07_Master (bodyC Try.f97) (qTop Try.prog Try.f97 K) (E0_r07_Master a0) h := by kernel_rfl
theorem eq_r07_Master (a0 : Value) (h : Hp) (K : Kont) : abody Try.prog O_r07_Master Try.f97 (bodyC Try.f97) [a0] h K = G_r07_Master a0 h K := (gc_r07_Master a0 h K).trans ((ga_r07_Master _ a0 h).trans (gb_r07_Master a0 h K))
theorem ok_r07_Master {a0 : Value} {h : Hp} {K : Kont} (hk : G_r07_Master a0 h K) : C_r07_Master [a0] h K := ac_of_body prog_mixed (fn := Try.f97) Try.func97 (c := bodyC Try.f97) (by kernel_rfl) ((eq_r07_Master a0 h K).mpr hk)

end Go.Proofs.Ytdolepapmpcpiaa

/- All printed parts together. -/

