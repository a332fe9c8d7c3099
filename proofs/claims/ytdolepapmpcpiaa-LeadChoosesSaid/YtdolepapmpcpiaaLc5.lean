/- Lemmas for the theorem of the last text; no condition. -/
import Derived.Test.YtdolepapmpcpiaaLc0
import Derived.Test.YtdolepapmpcpiaaLc1
import Derived.Test.YtdolepapmpcpiaaLc2
import Derived.Test.YtdolepapmpcpiaaLc3
import Derived.Test.YtdolepapmpcpiaaLc4
import Derived.Test.YtdolepapmpcpiaaProg
/- What functions of the program ask of the seen heap (written by a program of this proof, vgen.py). -/
namespace Go.Proofs.Ytdolepapmpcpiaa
open Go
set_option linter.unusedSectionVars false
variable [Base]
set_option linter.unusedVariables false
set_option maxRecDepth 100000

/-! ### (*catenary/lead.Lead).Start: function 28 -/
def O_lead_Lead_Start : Od := [(5, (.one 0 true (.one 1 true (.one 2 true (.one 3 true (.one 4 true (.one 6 true (.one 7 true (.one 8 true (.one 9 true (.one 5 false (.one 10 false (.one 11 true (.one 12 true (.one 13 true (.one 14 true (.one 15 true .nil)))))))))))))))))]
noncomputable def K_lead_Lead_Start_0 : Code := (cB (cB (bodyC Try.f28)))
noncomputable def K_lead_Lead_Start_1 : Code := (cB (cB (cB (cB (bodyC Try.f28)))))
def G_lead_Lead_Start (a0 a1 a2 : Value) (h : Hp) (K : Kont) : Prop :=
  oEq 1 false none a0 (Value.pointer none) h fun t12 h1 =>
  oIf t12
  (K (.tuple #[(Value.int .u64 0), (Value.int .i64 2)]) h1)
  (oBin .lss a2 (Value.int .i64 0) h1 fun t15 h2 =>
  oGuard t15 false (fun K => K a2 h2) h2 fun t17 h3 =>
  oGuard t15 false (fun K => oBin .gtr t17 (Value.int .i64 512) h3 K) h3 fun t18 h4 =>
  oPick t15 (Value.bool true) t18 h4 fun t19 h5 =>
  oIf t19
  (K (.tuple #[(Value.int .u64 0), (Value.int .i64 1)]) h5)
  (oNilCheck a0 h5 fun t23 h6 =>
  oFieldAddr 3 t23 h6 fun t24 h7 =>
  oLd1 t24 h7 fun t25 h8 =>
  oNilCheck a0 h8 fun t28 h9 =>
  oFieldAddr 0 t28 h9 fun t29 h10 =>
  oLd1 t29 h10 fun t30 h11 =>
  oMinMax true [a1, t25] h11 fun t26 h12 =>
  ((oLd1 t29 h11 (fun v' _ => v' = t30) → oLd1 t29 h12 (fun v' _ => v' = t30)) ∧ True) ∧
  C_ballot_Next [t26, t30] h12 fun t31 h13 =>
  ((oLd1 t24 h12 (fun v' _ => v' = t25) → oLd1 t24 h13 (fun v' _ => v' = t25)) ∧ True) ∧
  oExtract t31 0 h13 fun t32 h14 =>
  oExtract t31 1 h14 fun t33 h15 =>
  oBin .neq t33 (Value.int .i64 0) h15 fun t35 h16 =>
  oIf t35
  (K (.tuple #[(Value.int .u64 0), t33]) h16)
  (oNilCheck a0 h16 fun t44 h17 =>
  oFieldAddr 2 t44 h17 fun t45 h18 =>
  oSt 1 t45 (Value.int .i64 1) h18 fun _ h19 =>
  oNilCheck a0 h19 fun t46 h20 =>
  oFieldAddr 3 t46 h20 fun t47 h21 =>
  oSt 1 t47 t32 h21 fun _ h22 =>
  oNilCheck a0 h22 fun t48 h23 =>
  oFieldAddr 4 t48 h23 fun t49 h24 =>
  oSt 1 t49 a2 h24 fun _ h25 =>
  oNilCheck a0 h25 fun t50 h26 =>
  oFieldAddr 5 t50 h26 fun t51 h27 =>
  oSt 1 t51 a2 h27 fun _ h28 =>
  oMakeMap h28 fun t54 h29 =>
  oMakeMap h29 fun t55 h30 =>
  oNilCheck a0 h30 fun t56 h31 =>
  oFieldAddr 6 t56 h31 fun t57 h32 =>
  oSt 1 t57 t54 h32 fun _ h33 =>
  oNilCheck a0 h33 fun t58 h34 =>
  oFieldAddr 7 t58 h34 fun t59 h35 =>
  oSt 1 t59 t55 h35 fun _ h36 =>
  K (.tuple #[t32, (Value.int .i64 0)]) h36)))
def E0_lead_Lead_Start (a0 a1 a2 : Value) : List Value := [a0, a1, a2, undef, undef, undef, undef, undef, undef, undef, undef, undef, undef, undef, undef, undef, undef, undef, undef, undef, undef, undef, undef, undef, undef, undef, undef, undef, undef, undef, undef, undef, undef, undef, undef, undef, undef, undef, undef, undef, undef, undef, undef, undef, undef, undef, undef, undef, undef, undef, undef, undef, undef, undef, undef, undef, undef, undef, undef, undef, undef]
def X_lead_Lead_Start (Qv : Post) (a0 a1 a2 : Value) (h : Hp) : Prop :=
  oEq 1 false none a0 (Value.pointer none) h fun t12 h1 =>
  oIf t12
  ((qBlk 0 (qSeq (aw Try.prog O_lead_Lead_Start K_lead_Lead_Start_0 Qv) Qv)) .ret (ul (E0_lead_Lead_Start a0 a1 a2) [(6, (Value.int .u64 0)), (7, (Value.int .i64 2)), (10, t12), (11, a0), (12, t12)]) h1)
  (oBin .lss a2 (Value.int .i64 0) h1 fun t15 h2 =>
  oGuard t15 false (fun K => K a2 h2) h2 fun t17 h3 =>
  oGuard t15 false (fun K => oBin .gtr t17 (Value.int .i64 512) h3 K) h3 fun t18 h4 =>
  oPick t15 (Value.bool true) t18 h4 fun t19 h5 =>
  oIf t19
  ((qBlk 0 (qSeq (aw Try.prog O_lead_Lead_Start K_lead_Lead_Start_0 Qv) Qv)) .ret (ul (E0_lead_Lead_Start a0 a1 a2) [(6, (Value.int .u64 0)), (7, (Value.int .i64 1)), (10, t12), (11, a0), (12, t12), (13, t19), (14, a2), (15, t15), (16, t15), (17, t17), (18, t18), (19, t19)]) h5)
  (oNilCheck a0 h5 fun t23 h6 =>
  oFieldAddr 3 t23 h6 fun t24 h7 =>
  oLd1 t24 h7 fun t25 h8 =>
  oNilCheck a0 h8 fun t28 h9 =>
  oFieldAddr 0 t28 h9 fun t29 h10 =>
  oLd1 t29 h10 fun t30 h11 =>
  oMinMax true [a1, t25] h11 fun t26 h12 =>
  ((oLd1 t29 h11 (fun v' _ => v' = t30) → oLd1 t29 h12 (fun v' _ => v' = t30)) ∧ True) ∧
  C_ballot_Next [t26, t30] h12 fun t31 h13 =>
  ((oLd1 t24 h12 (fun v' _ => v' = t25) → oLd1 t24 h13 (fun v' _ => v' = t25)) ∧ True) ∧
  oExtract t31 0 h13 fun t32 h14 =>
  oExtract t31 1 h14 fun t33 h15 =>
  oBin .neq t33 (Value.int .i64 0) h15 fun t35 h16 =>
  oIf t35
  ((qSeq (aw Try.prog O_lead_Lead_Start K_lead_Lead_Start_1 Qv) Qv) .ret (ul (E0_lead_Lead_Start a0 a1 a2) [(6, (Value.int .u64 0)), (7, t33), (8, t32), (9, t33), (10, t12), (11, a0), (12, t12), (13, t19), (14, a2), (15, t15), (16, t15), (17, t17), (18, t18), (19, t19), (20, t31), (21, a1), (22, a0), (23, t23), (24, t24), (25, t25), (26, t26), (27, a0), (28, t28), (29, t29), (30, t30), (31, t31), (32, t32), (33, t33), (34, t33), (35, t35), (36, t33)]) h16)
  (oNilCheck a0 h16 fun t44 h17 =>
  oFieldAddr 2 t44 h17 fun t45 h18 =>
  oSt 1 t45 (Value.int .i64 1) h18 fun _ h19 =>
  oNilCheck a0 h19 fun t46 h20 =>
  oFieldAddr 3 t46 h20 fun t47 h21 =>
  oSt 1 t47 t32 h21 fun _ h22 =>
  oNilCheck a0 h22 fun t48 h23 =>
  oFieldAddr 4 t48 h23 fun t49 h24 =>
  oSt 1 t49 a2 h24 fun _ h25 =>
  oNilCheck a0 h25 fun t50 h26 =>
  oFieldAddr 5 t50 h26 fun t51 h27 =>
  oSt 1 t51 a2 h27 fun _ h28 =>
  oMakeMap h28 fun t54 h29 =>
  oMakeMap h29 fun t55 h30 =>
  oNilCheck a0 h30 fun t56 h31 =>
  oFieldAddr 6 t56 h31 fun t57 h32 =>
  oSt 1 t57 t54 h32 fun _ h33 =>
  oNilCheck a0 h33 fun t58 h34 =>
  oFieldAddr 7 t58 h34 fun t59 h35 =>
  oSt 1 t59 t55 h35 fun _ h36 =>
  Qv .ret (ul (E0_lead_Lead_Start a0 a1 a2) [(6, t32), (7, (Value.int .i64 0)), (8, t32), (9, t33), (10, t12), (11, a0), (12, t12), (13, t19), (14, a2), (15, t15), (16, t15), (17, t17), (18, t18), (19, t19), (20, t31), (21, a1), (22, a0), (23, t23), (24, t24), (25, t25), (26, t26), (27, a0), (28, t28), (29, t29), (30, t30), (31, t31), (32, t32), (33, t33), (34, t33), (35, t35), (37, a0), (38, a0), (39, a0), (40, a0), (41, t32), (42, a2), (43, a2), (44, t44), (45, t45), (46, t46), (47, t47), (48, t48), (49, t49), (50, t50), (51, t51), (52, a0), (53, a0), (54, t54), (55, t55), (56, t56), (57, t57), (58, t58), (59, t59), (60, t32)]) h36)))
theorem ga_lead_Lead_Start (Qv : Post) (a0 a1 a2 : Value) (h : Hp) : aw Try.prog O_lead_Lead_Start (bodyC Try.f28) Qv (E0_lead_Lead_Start a0 a1 a2) h = X_lead_Lead_Start Qv a0 a1 a2 h := by kernel_rfl
theorem gb_lead_Lead_Start (a0 a1 a2 : Value) (h : Hp) (K : Kont) : X_lead_Lead_Start (qTop Try.prog Try.f28 K) a0 a1 a2 h = G_lead_Lead_Start a0 a1 a2 h K := by kernel_rfl
theorem gc_lead_Lead_Start (a0 a1 a2 : Value) (h : Hp) (K : Kont) : abody Try.prog O_lead_Lead_Start Try.f28 (bodyC Try.f28) [a0, a1, a2] h K = aw Try.prog O_lead_Lead_Start (bodyC Try.f28) (qTop Try.prog Try.f28 K) (E0_lead_Lead_Start a0 a1 a2) h := by kernel_rfl
theorem eq_lead_Lead_Start (a0 a1 a2 : Value) (h : Hp) (K : Kont) : abody Try.prog O_lead_Lead_Start Try.f28 (bodyC Try.f28) [a0, a1, a2] h K = G_lead_Lead_Start a0 a1 a2 h K := (gc_lead_Lead_Start a0 a1 a2 h K).trans ((ga_lead_Lead_Start _ a0 a1 a2 h).trans (gb_lead_Lead_Start a0 a1 a2 h K))
theorem ok_lead_Lead_Start {a0 a1 a2 : Value} {h : Hp} {K : Kont} (hk : G_lead_Lead_Start a0 a1 a2 h K) : C_lead_Lead_Start [a0, a1, a2] h K := ac_of_body prog_mixed (fn := Try.f28) Try.func28 (c := bodyC Try.f28) (by kernel_rfl) ((eq_lead_Lead_Start a0 a1 a2 h K).mpr hk)

/-! ### (*catenary/lead.Lead).Promise: function 29 -/
def O_lead_Lead_Promise : Od := [(5, (.one 0 true (.one 1 true (.one 2 true (.one 3 true (.one 4 true (.one 5 true (.one 7 true (.one 6 false (.one 8 false (.one 9 false .nil)))))))))))]
noncomputable def K_lead_Lead_Promise_0 : Code := (cB (cB (cB (bodyC Try.f29))))
def E_lead_Lead_Promise_1 (v4 : Value) (d : Nat → Value) : List Value := [d 0, d 1, d 2, d 3, v4, d 5, d 6, d 7, d 8, d 9, d 10, d 11, d 12, d 13, d 14, d 15, d 16, d 17, d 18, d 19, d 20, d 21, d 22, d 23, d 24, d 25, d 26, d 27, d 28, d 29, d 30, d 31, d 32, d 33, d 34, d 35, d 36, d 37, d 38, d 39, d 40, d 41, d 42, d 43, d 44, d 45, d 46, d 47, d 48, d 49, d 50, d 51, d 52, d 53, d 54, d 55, d 56, d 57, d 58, d 59, d 60, d 61, d 62, d 63]
def G_lead_Lead_Promise_1 (K : Kont) (v4 : Value) (d : Nat → Value) (h : Hp) : Prop := aw Try.prog O_lead_Lead_Promise K_lead_Lead_Promise_0 (qTop Try.prog Try.f29 K) (E_lead_Lead_Promise_1 v4 d) h
noncomputable def K_lead_Lead_Promise_1 : Code := (cB (cB (bodyC Try.f29)))
noncomputable def K_lead_Lead_Promise_2 : Code := (cB (cB (cB (cB (cB (bodyC Try.f29))))))
def G_lead_Lead_Promise (a0 a1 a2 a3 : Value) (h : Hp) (K : Kont) : Prop :=
  oBox a0 h fun t4 h1 =>
  oLd1 t4 h1 fun t13 h2 =>
  C_lead_Lead_is [t13, (Value.int .i64 1), a1] h2 fun t15 h3 =>
  oNot t15 h3 fun t16 h4 =>
  oGuard t16 false (fun K => oLd1 t4 h4 K) h4 fun t18 h5 =>
  oGuard t16 false (fun K => K a2 h5) h5 fun t19 h6 =>
  oGuard t16 false (fun K => C_lead_Lead_master [t18, t19] h6 K) h6 fun t20 h7 =>
  oGuard t16 false (fun K => oNot t20 h7 K) h7 fun t21 h8 =>
  oPick t16 (Value.bool true) t21 h8 fun t22 h9 =>
  oIf t22
  (K (.tuple #[(Value.slice none 0 0), (Value.bool false)]) h9)
  (oLd1 t4 h9 fun t24 h10 =>
  oNilCheck t24 h10 fun t25 h11 =>
  oFieldAddr 6 t25 h11 fun t26 h12 =>
  oLd1 t26 h12 fun t27 h13 =>
  oLookup (.int .i64) (.slice none 0 0) t27 a2 true h13 fun t29 h14 =>
  oExtract t29 0 h14 fun t30 h15 =>
  oExtract t29 1 h15 fun t31 h16 =>
  oNot t31 h16 fun t33 h17 =>
  oIf t33
  (oLd1 t4 h17 fun t34 h18 =>
  oNilCheck t34 h18 fun t35 h19 =>
  oFieldAddr 6 t35 h19 fun t36 h20 =>
  oLd1 t36 h20 fun t37 h21 =>
  C_slices_Clone_Sapi_Vote_api_Vote [a3] h21 fun t40 h22 =>
  ((oLd1 t36 h21 (fun v' _ => v' = t37) → oLd1 t36 h22 (fun v' _ => v' = t37)) ∧ (oLd1 t4 h21 (fun v' _ => v' = t34) → oLd1 t4 h22 (fun v' _ => v' = t34)) ∧ True) ∧
  C_slices_DeleteFunc_Sapi_Vote_api_Vote [t40, (.func (Go.Fn.func 56) #[] #[t4])] h22 fun t42 h23 =>
  ((oLd1 t36 h22 (fun v' _ => v' = t37) → oLd1 t36 h23 (fun v' _ => v' = t37)) ∧ (oLd1 t4 h22 (fun v' _ => v' = t34) → oLd1 t4 h23 (fun v' _ => v' = t34)) ∧ True) ∧
  oMapUpdate (.int .i64) t37 a2 t42 h23 fun _ h24 =>
  (True) ∧
  G_lead_Lead_Promise_1 K t4 (ud [(0, a0), (1, a1), (2, a2), (3, a3), (8, (Value.slice none 0 0)), (9, (Value.bool false)), (10, t30), (11, t31), (13, t13), (14, a1), (15, t15), (16, t16), (17, t16), (18, t18), (19, t19), (20, t20), (21, t21), (22, t22), (23, t29), (24, t24), (25, t25), (26, t26), (27, t27), (28, a2), (29, t29), (30, t30), (31, t31), (32, t31), (33, t33), (34, t34), (35, t35), (36, t36), (37, t37), (38, a2), (39, a3), (40, t40), (41, (.func (Go.Fn.func 56) #[] #[t4])), (42, t42)] dz) h24)
  (G_lead_Lead_Promise_1 K t4 (ud [(0, a0), (1, a1), (2, a2), (3, a3), (8, (Value.slice none 0 0)), (9, (Value.bool false)), (10, t30), (11, t31), (13, t13), (14, a1), (15, t15), (16, t16), (17, t16), (18, t18), (19, t19), (20, t20), (21, t21), (22, t22), (23, t29), (24, t24), (25, t25), (26, t26), (27, t27), (28, a2), (29, t29), (30, t30), (31, t31), (32, t31), (33, t33)] dz) h17))
def E0_lead_Lead_Promise (a0 a1 a2 a3 : Value) : List Value := [a0, a1, a2, a3, undef, undef, undef, undef, undef, undef, undef, undef, undef, undef, undef, undef, undef, undef, undef, undef, undef, undef, undef, undef, undef, undef, undef, undef, undef, undef, undef, undef, undef, undef, undef, undef, undef, undef, undef, undef, undef, undef, undef, undef, undef, undef, undef, undef, undef, undef, undef, undef, undef, undef, undef, undef, undef, undef, undef, undef, undef, undef, undef, undef]
def X_lead_Lead_Promise (Qv : Post) (a0 a1 a2 a3 : Value) (h : Hp) : Prop :=
  oBox a0 h fun t4 h1 =>
  oLd1 t4 h1 fun t13 h2 =>
  C_lead_Lead_is [t13, (Value.int .i64 1), a1] h2 fun t15 h3 =>
  oNot t15 h3 fun t16 h4 =>
  oGuard t16 false (fun K => oLd1 t4 h4 K) h4 fun t18 h5 =>
  oGuard t16 false (fun K => K a2 h5) h5 fun t19 h6 =>
  oGuard t16 false (fun K => C_lead_Lead_master [t18, t19] h6 K) h6 fun t20 h7 =>
  oGuard t16 false (fun K => oNot t20 h7 K) h7 fun t21 h8 =>
  oPick t16 (Value.bool true) t21 h8 fun t22 h9 =>
  oIf t22
  ((qSeq (aw Try.prog O_lead_Lead_Promise K_lead_Lead_Promise_1 Qv) Qv) .ret (ul (E0_lead_Lead_Promise a0 a1 a2 a3) [(4, t4), (8, (Value.slice none 0 0)), (9, (Value.bool false)), (13, t13), (14, a1), (15, t15), (16, t16), (17, t16), (18, t18), (19, t19), (20, t20), (21, t21), (22, t22)]) h9)
  (oLd1 t4 h9 fun t24 h10 =>
  oNilCheck t24 h10 fun t25 h11 =>
  oFieldAddr 6 t25 h11 fun t26 h12 =>
  oLd1 t26 h12 fun t27 h13 =>
  oLookup (.int .i64) (.slice none 0 0) t27 a2 true h13 fun t29 h14 =>
  oExtract t29 0 h14 fun t30 h15 =>
  oExtract t29 1 h15 fun t31 h16 =>
  oNot t31 h16 fun t33 h17 =>
  oIf t33
  (oLd1 t4 h17 fun t34 h18 =>
  oNilCheck t34 h18 fun t35 h19 =>
  oFieldAddr 6 t35 h19 fun t36 h20 =>
  oLd1 t36 h20 fun t37 h21 =>
  C_slices_Clone_Sapi_Vote_api_Vote [a3] h21 fun t40 h22 =>
  ((oLd1 t36 h21 (fun v' _ => v' = t37) → oLd1 t36 h22 (fun v' _ => v' = t37)) ∧ (oLd1 t4 h21 (fun v' _ => v' = t34) → oLd1 t4 h22 (fun v' _ => v' = t34)) ∧ True) ∧
  C_slices_DeleteFunc_Sapi_Vote_api_Vote [t40, (.func (Go.Fn.func 56) #[] #[t4])] h22 fun t42 h23 =>
  ((oLd1 t36 h22 (fun v' _ => v' = t37) → oLd1 t36 h23 (fun v' _ => v' = t37)) ∧ (oLd1 t4 h22 (fun v' _ => v' = t34) → oLd1 t4 h23 (fun v' _ => v' = t34)) ∧ True) ∧
  oMapUpdate (.int .i64) t37 a2 t42 h23 fun _ h24 =>
  (True) ∧
  (qSeq (aw Try.prog O_lead_Lead_Promise K_lead_Lead_Promise_0 Qv) Qv) .normal (ul (E0_lead_Lead_Promise a0 a1 a2 a3) [(4, t4), (8, (Value.slice none 0 0)), (9, (Value.bool false)), (10, t30), (11, t31), (13, t13), (14, a1), (15, t15), (16, t16), (17, t16), (18, t18), (19, t19), (20, t20), (21, t21), (22, t22), (23, t29), (24, t24), (25, t25), (26, t26), (27, t27), (28, a2), (29, t29), (30, t30), (31, t31), (32, t31), (33, t33), (34, t34), (35, t35), (36, t36), (37, t37), (38, a2), (39, a3), (40, t40), (41, (.func (Go.Fn.func 56) #[] #[t4])), (42, t42)]) h24)
  ((qSeq (aw Try.prog O_lead_Lead_Promise K_lead_Lead_Promise_0 Qv) Qv) .normal (ul (E0_lead_Lead_Promise a0 a1 a2 a3) [(4, t4), (8, (Value.slice none 0 0)), (9, (Value.bool false)), (10, t30), (11, t31), (13, t13), (14, a1), (15, t15), (16, t16), (17, t16), (18, t18), (19, t19), (20, t20), (21, t21), (22, t22), (23, t29), (24, t24), (25, t25), (26, t26), (27, t27), (28, a2), (29, t29), (30, t30), (31, t31), (32, t31), (33, t33)]) h17))
theorem ga_lead_Lead_Promise (Qv : Post) (a0 a1 a2 a3 : Value) (h : Hp) : aw Try.prog O_lead_Lead_Promise (bodyC Try.f29) Qv (E0_lead_Lead_Promise a0 a1 a2 a3) h = X_lead_Lead_Promise Qv a0 a1 a2 a3 h := by kernel_rfl
theorem gb_lead_Lead_Promise (a0 a1 a2 a3 : Value) (h : Hp) (K : Kont) : X_lead_Lead_Promise (qTop Try.prog Try.f29 K) a0 a1 a2 a3 h = G_lead_Lead_Promise a0 a1 a2 a3 h K := by kernel_rfl
theorem gc_lead_Lead_Promise (a0 a1 a2 a3 : Value) (h : Hp) (K : Kont) : abody Try.prog O_lead_Lead_Promise Try.f29 (bodyC Try.f29) [a0, a1, a2, a3] h K = aw Try.prog O_lead_Lead_Promise (bodyC Try.f29) (qTop Try.prog Try.f29 K) (E0_lead_Lead_Promise a0 a1 a2 a3) h := by kernel_rfl
theorem eq_lead_Lead_Promise (a0 a1 a2 a3 : Value) (h : Hp) (K : Kont) : abody Try.prog O_lead_Lead_Promise Try.f29 (bodyC Try.f29) [a0, a1, a2, a3] h K = G_lead_Lead_Promise a0 a1 a2 a3 h K := (gc_lead_Lead_Promise a0 a1 a2 a3 h K).trans ((ga_lead_Lead_Promise _ a0 a1 a2 a3 h).trans (gb_lead_Lead_Promise a0 a1 a2 a3 h K))
theorem ok_lead_Lead_Promise {a0 a1 a2 a3 : Value} {h : Hp} {K : Kont} (hk : G_lead_Lead_Promise a0 a1 a2 a3 h K) : C_lead_Lead_Promise [a0, a1, a2, a3] h K := ac_of_body prog_mixed (fn := Try.f29) Try.func29 (c := bodyC Try.f29) (by kernel_rfl) ((eq_lead_Lead_Promise a0 a1 a2 a3 h K).mpr hk)
def R_lead_Lead_Promise_1 (K : Kont) (v4 : Value) (d : Nat → Value) (h : Hp) : Prop :=
  oLd1 v4 h fun t43 h1 =>
  oNilCheck t43 h1 fun t44 h2 =>
  oFieldAddr 6 t44 h2 fun t45 h3 =>
  oLd1 t45 h3 fun t46 h4 =>
  C_maps_Keys_map_int_Sapi_Vote_int_Sapi_Vote [t46] h4 fun t47 h5 =>
  C_slices_Collect_int [t47] h5 fun t48 h6 =>
  C_ballot_With [(Value.int .u64 0), t48] h6 fun t49 h7 =>
  oLd1 v4 h7 fun t51 h8 =>
  oNilCheck t51 h8 fun t52 h9 =>
  oFieldAddr 1 t52 h9 fun t53 h10 =>
  oLd1 t53 h10 fun t54 h11 =>
  C_ballot_Enough [t49, t54] h11 fun t55 h12 =>
  oNot t55 h12 fun t56 h13 =>
  oIf t56
  (K (.tuple #[(Value.slice none 0 0), (Value.bool false)]) h13)
  (oLd1 v4 h13 fun t57 h14 =>
  oNilCheck t57 h14 fun t58 h15 =>
  oFieldAddr 2 t58 h15 fun t59 h16 =>
  oSt 1 t59 (Value.int .i64 2) h16 fun _ h17 =>
  oLd1 v4 h17 fun t60 h18 =>
  C_lead_Lead_fill [t60] h18 fun t61 h19 =>
  oLd1 v4 h19 fun t62 h20 =>
  C_lead_Lead_Open [t62] h20 fun t63 h21 =>
  K (.tuple #[t63, (Value.bool true)]) h21)
def X_lead_Lead_Promise_1 (Qv : Post) (v4 : Value) (d : Nat → Value) (h : Hp) : Prop :=
  oLd1 v4 h fun t43 h1 =>
  oNilCheck t43 h1 fun t44 h2 =>
  oFieldAddr 6 t44 h2 fun t45 h3 =>
  oLd1 t45 h3 fun t46 h4 =>
  C_maps_Keys_map_int_Sapi_Vote_int_Sapi_Vote [t46] h4 fun t47 h5 =>
  C_slices_Collect_int [t47] h5 fun t48 h6 =>
  C_ballot_With [(Value.int .u64 0), t48] h6 fun t49 h7 =>
  oLd1 v4 h7 fun t51 h8 =>
  oNilCheck t51 h8 fun t52 h9 =>
  oFieldAddr 1 t52 h9 fun t53 h10 =>
  oLd1 t53 h10 fun t54 h11 =>
  C_ballot_Enough [t49, t54] h11 fun t55 h12 =>
  oNot t55 h12 fun t56 h13 =>
  oIf t56
  ((qSeq (aw Try.prog O_lead_Lead_Promise K_lead_Lead_Promise_2 Qv) Qv) .ret (ul (E_lead_Lead_Promise_1 v4 d) [(8, (Value.slice none 0 0)), (9, (Value.bool false)), (12, t49), (43, t43), (44, t44), (45, t45), (46, t46), (47, t47), (48, t48), (49, t49), (50, t49), (51, t51), (52, t52), (53, t53), (54, t54), (55, t55), (56, t56)]) h13)
  (oLd1 v4 h13 fun t57 h14 =>
  oNilCheck t57 h14 fun t58 h15 =>
  oFieldAddr 2 t58 h15 fun t59 h16 =>
  oSt 1 t59 (Value.int .i64 2) h16 fun _ h17 =>
  oLd1 v4 h17 fun t60 h18 =>
  C_lead_Lead_fill [t60] h18 fun t61 h19 =>
  oLd1 v4 h19 fun t62 h20 =>
  C_lead_Lead_Open [t62] h20 fun t63 h21 =>
  Qv .ret (ul (E_lead_Lead_Promise_1 v4 d) [(8, t63), (9, (Value.bool true)), (12, t49), (43, t43), (44, t44), (45, t45), (46, t46), (47, t47), (48, t48), (49, t49), (50, t49), (51, t51), (52, t52), (53, t53), (54, t54), (55, t55), (56, t56), (57, t57), (58, t58), (59, t59), (60, t60), (61, t61), (62, t62), (63, t63)]) h21)
theorem ga_lead_Lead_Promise_1 (Qv : Post) (v4 : Value) (d : Nat → Value) (h : Hp) : aw Try.prog O_lead_Lead_Promise K_lead_Lead_Promise_0 Qv (E_lead_Lead_Promise_1 v4 d) h = X_lead_Lead_Promise_1 Qv v4 d h := by kernel_rfl
theorem gb_lead_Lead_Promise_1 (K : Kont) (v4 : Value) (d : Nat → Value) (h : Hp) : X_lead_Lead_Promise_1 (qTop Try.prog Try.f29 K) v4 d h = R_lead_Lead_Promise_1 K v4 d h := by kernel_rfl
theorem req_lead_Lead_Promise_1 (K : Kont) (v4 : Value) (d : Nat → Value) (h : Hp) : G_lead_Lead_Promise_1 K v4 d h = R_lead_Lead_Promise_1 K v4 d h := (ga_lead_Lead_Promise_1 _ v4 d h).trans (gb_lead_Lead_Promise_1 K v4 d h)

/-! ### (*catenary/lead.Lead).Next: function 30 -/
def O_lead_Lead_Next : Od := []
noncomputable def K_lead_Lead_Next_0 : Code := (cB (cB (bodyC Try.f30)))
def G_lead_Lead_Next (a0 : Value) (h : Hp) (K : Kont) : Prop :=
  oEq 1 false none a0 (Value.pointer none) h fun t4 h1 =>
  oIf t4
  (K (Value.int .i64 0) h1)
  (oNilCheck a0 h1 fun t6 h2 =>
  oFieldAddr 5 t6 h2 fun t7 h3 =>
  oLd1 t7 h3 fun t8 h4 =>
  K t8 h4)
def E0_lead_Lead_Next (a0 : Value) : List Value := [a0, undef, undef, undef, undef, undef, undef, undef, undef]
def X_lead_Lead_Next (Qv : Post) (a0 : Value) (h : Hp) : Prop :=
  oEq 1 false none a0 (Value.pointer none) h fun t4 h1 =>
  oIf t4
  ((qSeq (aw Try.prog O_lead_Lead_Next K_lead_Lead_Next_0 Qv) Qv) .ret (ul (E0_lead_Lead_Next a0) [(2, (Value.int .i64 0)), (3, a0), (4, t4)]) h1)
  (oNilCheck a0 h1 fun t6 h2 =>
  oFieldAddr 5 t6 h2 fun t7 h3 =>
  oLd1 t7 h3 fun t8 h4 =>
  Qv .ret (ul (E0_lead_Lead_Next a0) [(2, t8), (3, a0), (4, t4), (5, a0), (6, t6), (7, t7), (8, t8)]) h4)
theorem ga_lead_Lead_Next (Qv : Post) (a0 : Value) (h : Hp) : aw Try.prog O_lead_Lead_Next (bodyC Try.f30) Qv (E0_lead_Lead_Next a0) h = X_lead_Lead_Next Qv a0 h := by kernel_rfl
theorem gb_lead_Lead_Next (a0 : Value) (h : Hp) (K : Kont) : X_lead_Lead_Next (qTop Try.prog Try.f30 K) a0 h = G_lead_Lead_Next a0 h K := by kernel_rfl
theorem gc_lead_Lead_Next (a0 : Value) (h : Hp) (K : Kont) : abody Try.prog O_lead_Lead_Next Try.f30 (bodyC Try.f30) [a0] h K = aw Try.prog O_lead_Lead_Next (bodyC Try.f30) (qTop Try.prog Try.f30 K) (E0_lead_Lead_Next a0) h := by kernel_rfl
theorem eq_lead_Lead_Next (a0 : Value) (h : Hp) (K : Kont) : abody Try.prog O_lead_Lead_Next Try.f30 (bodyC Try.f30) [a0] h K = G_lead_Lead_Next a0 h K := (gc_lead_Lead_Next a0 h K).trans ((ga_lead_Lead_Next _ a0 h).trans (gb_lead_Lead_Next a0 h K))
theorem ok_lead_Lead_Next {a0 : Value} {h : Hp} {K : Kont} (hk : G_lead_Lead_Next a0 h K) : C_lead_Lead_Next [a0] h K := ac_of_body prog_mixed (fn := Try.f30) Try.func30 (c := bodyC Try.f30) (by kernel_rfl) ((eq_lead_Lead_Next a0 h K).mpr hk)

/-! ### (*catenary/lead.Lead).Propose: function 31 -/
def O_lead_Lead_Propose : Od := []
noncomputable def K_lead_Lead_Propose_0 : Code := (cB (cB (bodyC Try.f31)))
noncomputable def K_lead_Lead_Propose_1 : Code := (cB (cB (cB (bodyC Try.f31))))
noncomputable def K_lead_Lead_Propose_2 : Code := (cB (cB (cB (cB (bodyC Try.f31)))))
def G_lead_Lead_Propose (a0 a1 : Value) (h : Hp) (K : Kont) : Prop :=
  oBox a1 h fun t3 h1 =>
  oAlloc #[.int .i64 0, .int .u64 0, .int .i64 0, .int .i64 0, .int .u64 0, .int .i64 0] h1 fun t4 h2 =>
  oEq 1 false none a0 (Value.pointer none) h2 fun t9 h3 =>
  oIf t9
  (oBuild #[.int .i64 0, .int .u64 0, .int .i64 0, .int .i64 0, .int .u64 0, .int .i64 0] [] h3 fun t10 h4 =>
  oSt 6 t4 t10 h4 fun _ h5 =>
  oLdN 6 t4 h5 fun r1 _ =>
  K (.tuple #[r1, (Value.int .i64 2)]) h5)
  (oNilCheck a0 h3 fun t13 h6 =>
  oFieldAddr 2 t13 h6 fun t14 h7 =>
  oLd1 t14 h7 fun t15 h8 =>
  oBin .neq t15 (Value.int .i64 2) h8 fun t16 h9 =>
  oIf t16
  (oBuild #[.int .i64 0, .int .u64 0, .int .i64 0, .int .i64 0, .int .u64 0, .int .i64 0] [] h9 fun t17 h10 =>
  oSt 6 t4 t17 h10 fun _ h11 =>
  oLdN 6 t4 h11 fun r2 _ =>
  K (.tuple #[r2, (Value.int .i64 12)]) h11)
  (oLdN 4 t3 h9 fun t18 h12 =>
  C_cmds_Check [t18] h12 fun t19 h13 =>
  oBin .neq t19 (Value.int .i64 0) h13 fun t21 h14 =>
  oIf t21
  (oBuild #[.int .i64 0, .int .u64 0, .int .i64 0, .int .i64 0, .int .u64 0, .int .i64 0] [] h14 fun t22 h15 =>
  oSt 6 t4 t22 h15 fun _ h16 =>
  oLdN 6 t4 h16 fun r3 _ =>
  K (.tuple #[r3, t19]) h16)
  (oFieldAddr 0 t3 h14 fun t25 h17 =>
  oLd1 t25 h17 fun t26 h18 =>
  oBin .neq t26 (Value.int .i64 0) h18 fun t27 h19 =>
  oGuard t27 true (fun K => K a0 h19) h19 fun t29 h20 =>
  oGuard t27 true (fun K => oLdN 4 t3 h20 K) h20 fun t30 h21 =>
  oGuard t27 true (fun K => C_lead_Lead_proposed [t29, t30] h21 K) h21 fun t31 h22 =>
  oPick t27 t31 (Value.bool false) h22 fun t32 h23 =>
  oIf t32
  (oBuild #[.int .i64 0, .int .u64 0, .int .i64 0, .int .i64 0, .int .u64 0, .int .i64 0] [] h23 fun t33 h24 =>
  oSt 6 t4 t33 h24 fun _ h25 =>
  oLdN 6 t4 h25 fun r4 _ =>
  K (.tuple #[r4, (Value.int .i64 8)]) h25)
  (oNilCheck a0 h23 fun t36 h26 =>
  oFieldAddr 7 t36 h26 fun t37 h27 =>
  oLd1 t37 h27 fun t38 h28 =>
  oLen 2 t38 h28 fun t39 h29 =>
  oBin .geq t39 (Value.int .i64 8) h29 fun t40 h30 =>
  oGuard t40 false (fun K => K a0 h30) h30 fun t42 h31 =>
  oGuard t40 false (fun K => oNilCheck t42 h31 K) h31 fun t43 h32 =>
  oGuard t40 false (fun K => oFieldAddr 5 t43 h32 K) h32 fun t44 h33 =>
  oGuard t40 false (fun K => oLd1 t44 h33 K) h33 fun t45 h34 =>
  oGuard t40 false (fun K => oBin .geq t45 (Value.int .i64 512) h34 K) h34 fun t46 h35 =>
  oPick t40 (Value.bool true) t46 h35 fun t47 h36 =>
  oIf t47
  (oBuild #[.int .i64 0, .int .u64 0, .int .i64 0, .int .i64 0, .int .u64 0, .int .i64 0] [] h36 fun t48 h37 =>
  oSt 6 t4 t48 h37 fun _ h38 =>
  oLdN 6 t4 h38 fun r5 _ =>
  K (.tuple #[r5, (Value.int .i64 9)]) h38)
  (oLdN 4 t3 h36 fun t51 h39 =>
  C_lead_Lead_lay [a0, t51] h39 fun t52 h40 =>
  C_lead_Lead_vote [a0, t52] h40 fun t53 h41 =>
  oSt 6 t4 t53 h41 fun _ h42 =>
  oLdN 6 t4 h42 fun r6 _ =>
  K (.tuple #[r6, (Value.int .i64 0)]) h42)))))
def E0_lead_Lead_Propose (a0 a1 : Value) : List Value := [a0, a1, undef, undef, undef, undef, undef, undef, undef, undef, undef, undef, undef, undef, undef, undef, undef, undef, undef, undef, undef, undef, undef, undef, undef, undef, undef, undef, undef, undef, undef, undef, undef, undef, undef, undef, undef, undef, undef, undef, undef, undef, undef, undef, undef, undef, undef, undef, undef, undef, undef, undef, undef, undef]
def X_lead_Lead_Propose (Qv : Post) (a0 a1 : Value) (h : Hp) : Prop :=
  oBox a1 h fun t3 h1 =>
  oAlloc #[.int .i64 0, .int .u64 0, .int .i64 0, .int .i64 0, .int .u64 0, .int .i64 0] h1 fun t4 h2 =>
  oEq 1 false none a0 (Value.pointer none) h2 fun t9 h3 =>
  oIf t9
  (oBuild #[.int .i64 0, .int .u64 0, .int .i64 0, .int .i64 0, .int .u64 0, .int .i64 0] [] h3 fun t10 h4 =>
  oSt 6 t4 t10 h4 fun _ h5 =>
  (qBlk 0 (qSeq (aw Try.prog O_lead_Lead_Propose K_lead_Lead_Propose_0 Qv) Qv)) .ret (ul (E0_lead_Lead_Propose a0 a1) [(3, t3), (4, t4), (5, (Value.int .i64 2)), (7, t9), (8, a0), (9, t9), (10, t10)]) h5)
  (oNilCheck a0 h3 fun t13 h6 =>
  oFieldAddr 2 t13 h6 fun t14 h7 =>
  oLd1 t14 h7 fun t15 h8 =>
  oBin .neq t15 (Value.int .i64 2) h8 fun t16 h9 =>
  oIf t16
  (oBuild #[.int .i64 0, .int .u64 0, .int .i64 0, .int .i64 0, .int .u64 0, .int .i64 0] [] h9 fun t17 h10 =>
  oSt 6 t4 t17 h10 fun _ h11 =>
  (qBlk 0 (qSeq (aw Try.prog O_lead_Lead_Propose K_lead_Lead_Propose_0 Qv) Qv)) .ret (ul (E0_lead_Lead_Propose a0 a1) [(3, t3), (4, t4), (5, (Value.int .i64 12)), (7, t9), (8, a0), (9, t9), (11, t16), (12, a0), (13, t13), (14, t14), (15, t15), (16, t16), (17, t17)]) h11)
  (oLdN 4 t3 h9 fun t18 h12 =>
  C_cmds_Check [t18] h12 fun t19 h13 =>
  oBin .neq t19 (Value.int .i64 0) h13 fun t21 h14 =>
  oIf t21
  (oBuild #[.int .i64 0, .int .u64 0, .int .i64 0, .int .i64 0, .int .u64 0, .int .i64 0] [] h14 fun t22 h15 =>
  oSt 6 t4 t22 h15 fun _ h16 =>
  (qSeq (aw Try.prog O_lead_Lead_Propose K_lead_Lead_Propose_1 Qv) Qv) .ret (ul (E0_lead_Lead_Propose a0 a1) [(3, t3), (4, t4), (5, t19), (6, t19), (7, t9), (8, a0), (9, t9), (11, t16), (12, a0), (13, t13), (14, t14), (15, t15), (16, t16), (18, t18), (19, t19), (20, t19), (21, t21), (22, t22), (23, t19)]) h16)
  (oFieldAddr 0 t3 h14 fun t25 h17 =>
  oLd1 t25 h17 fun t26 h18 =>
  oBin .neq t26 (Value.int .i64 0) h18 fun t27 h19 =>
  oGuard t27 true (fun K => K a0 h19) h19 fun t29 h20 =>
  oGuard t27 true (fun K => oLdN 4 t3 h20 K) h20 fun t30 h21 =>
  oGuard t27 true (fun K => C_lead_Lead_proposed [t29, t30] h21 K) h21 fun t31 h22 =>
  oPick t27 t31 (Value.bool false) h22 fun t32 h23 =>
  oIf t32
  (oBuild #[.int .i64 0, .int .u64 0, .int .i64 0, .int .i64 0, .int .u64 0, .int .i64 0] [] h23 fun t33 h24 =>
  oSt 6 t4 t33 h24 fun _ h25 =>
  (qBlk 1 (qSeq (aw Try.prog O_lead_Lead_Propose K_lead_Lead_Propose_2 Qv) Qv)) .ret (ul (E0_lead_Lead_Propose a0 a1) [(3, t3), (4, t4), (5, (Value.int .i64 8)), (6, t19), (7, t9), (8, a0), (9, t9), (11, t16), (12, a0), (13, t13), (14, t14), (15, t15), (16, t16), (18, t18), (19, t19), (20, t19), (21, t21), (24, t32), (25, t25), (26, t26), (27, t27), (28, t27), (29, t29), (30, t30), (31, t31), (32, t32), (33, t33)]) h25)
  (oNilCheck a0 h23 fun t36 h26 =>
  oFieldAddr 7 t36 h26 fun t37 h27 =>
  oLd1 t37 h27 fun t38 h28 =>
  oLen 2 t38 h28 fun t39 h29 =>
  oBin .geq t39 (Value.int .i64 8) h29 fun t40 h30 =>
  oGuard t40 false (fun K => K a0 h30) h30 fun t42 h31 =>
  oGuard t40 false (fun K => oNilCheck t42 h31 K) h31 fun t43 h32 =>
  oGuard t40 false (fun K => oFieldAddr 5 t43 h32 K) h32 fun t44 h33 =>
  oGuard t40 false (fun K => oLd1 t44 h33 K) h33 fun t45 h34 =>
  oGuard t40 false (fun K => oBin .geq t45 (Value.int .i64 512) h34 K) h34 fun t46 h35 =>
  oPick t40 (Value.bool true) t46 h35 fun t47 h36 =>
  oIf t47
  (oBuild #[.int .i64 0, .int .u64 0, .int .i64 0, .int .i64 0, .int .u64 0, .int .i64 0] [] h36 fun t48 h37 =>
  oSt 6 t4 t48 h37 fun _ h38 =>
  (qBlk 1 (qSeq (aw Try.prog O_lead_Lead_Propose K_lead_Lead_Propose_2 Qv) Qv)) .ret (ul (E0_lead_Lead_Propose a0 a1) [(3, t3), (4, t4), (5, (Value.int .i64 9)), (6, t19), (7, t9), (8, a0), (9, t9), (11, t16), (12, a0), (13, t13), (14, t14), (15, t15), (16, t16), (18, t18), (19, t19), (20, t19), (21, t21), (24, t32), (25, t25), (26, t26), (27, t27), (28, t27), (29, t29), (30, t30), (31, t31), (32, t32), (34, t47), (35, a0), (36, t36), (37, t37), (38, t38), (39, t39), (40, t40), (41, t40), (42, t42), (43, t43), (44, t44), (45, t45), (46, t46), (47, t47), (48, t48)]) h38)
  (oLdN 4 t3 h36 fun t51 h39 =>
  C_lead_Lead_lay [a0, t51] h39 fun t52 h40 =>
  C_lead_Lead_vote [a0, t52] h40 fun t53 h41 =>
  oSt 6 t4 t53 h41 fun _ h42 =>
  Qv .ret (ul (E0_lead_Lead_Propose a0 a1) [(3, t3), (4, t4), (5, (Value.int .i64 0)), (6, t19), (7, t9), (8, a0), (9, t9), (11, t16), (12, a0), (13, t13), (14, t14), (15, t15), (16, t16), (18, t18), (19, t19), (20, t19), (21, t21), (24, t32), (25, t25), (26, t26), (27, t27), (28, t27), (29, t29), (30, t30), (31, t31), (32, t32), (34, t47), (35, a0), (36, t36), (37, t37), (38, t38), (39, t39), (40, t40), (41, t40), (42, t42), (43, t43), (44, t44), (45, t45), (46, t46), (47, t47), (49, a0), (50, a0), (51, t51), (52, t52), (53, t53)]) h42)))))
theorem ga_lead_Lead_Propose (Qv : Post) (a0 a1 : Value) (h : Hp) : aw Try.prog O_lead_Lead_Propose (bodyC Try.f31) Qv (E0_lead_Lead_Propose a0 a1) h = X_lead_Lead_Propose Qv a0 a1 h := by kernel_rfl
theorem gb_lead_Lead_Propose (a0 a1 : Value) (h : Hp) (K : Kont) : X_lead_Lead_Propose (qTop Try.prog Try.f31 K) a0 a1 h = G_lead_Lead_Propose a0 a1 h K := by kernel_rfl
theorem gc_lead_Lead_Propose (a0 a1 : Value) (h : Hp) (K : Kont) : abody Try.prog O_lead_Lead_Propose Try.f31 (bodyC Try.f31) [a0, a1] h K = aw Try.prog O_lead_Lead_Propose (bodyC Try.f31) (qTop Try.prog Try.f31 K) (E0_lead_Lead_Propose a0 a1) h := by kernel_rfl
theorem eq_lead_Lead_Propose (a0 a1 : Value) (h : Hp) (K : Kont) : abody Try.prog O_lead_Lead_Propose Try.f31 (bodyC Try.f31) [a0, a1] h K = G_lead_Lead_Propose a0 a1 h K := (gc_lead_Lead_Propose a0 a1 h K).trans ((ga_lead_Lead_Propose _ a0 a1 h).trans (gb_lead_Lead_Propose a0 a1 h K))
theorem ok_lead_Lead_Propose {a0 a1 : Value} {h : Hp} {K : Kont} (hk : G_lead_Lead_Propose a0 a1 h K) : C_lead_Lead_Propose [a0, a1] h K := ac_of_body prog_mixed (fn := Try.f31) Try.func31 (c := bodyC Try.f31) (by kernel_rfl) ((eq_lead_Lead_Propose a0 a1 h K).mpr hk)

/-! ### (*catenary/lead.Lead).Accepted: function 32 -/
def O_lead_Lead_Accepted : Od := [(7, (.one 0 true (.one 1 true (.one 2 true (.one 3 true (.one 4 true (.one 5 true (.one 6 false .nil)))))))), (8, (.one 0 true (.one 1 true (.one 2 true (.one 3 true (.one 4 true (.one 5 true (.one 6 false (.one 7 true .nil)))))))))]
noncomputable def K_lead_Lead_Accepted_0 : Code := (cB (cB (bodyC Try.f32)))
noncomputable def K_lead_Lead_Accepted_1 : Code := (cB (cB (cB (cB (bodyC Try.f32)))))
noncomputable def K_lead_Lead_Accepted_2 : Code := (cB (cB (cB (cB (cB (cB (cB (bodyC Try.f32))))))))
def G_lead_Lead_Accepted (a0 a1 a2 a3 : Value) (h : Hp) (K : Kont) : Prop :=
  oAlloc #[.int .i64 0, .int .u64 0, .int .i64 0, .int .i64 0, .int .u64 0, .int .i64 0] h fun t8 h1 =>
  C_lead_Lead_is [a0, (Value.int .i64 2), a1] h1 fun t15 h2 =>
  oNot t15 h2 fun t16 h3 =>
  oGuard t16 false (fun K => K a0 h3) h3 fun t18 h4 =>
  oGuard t16 false (fun K => K a3 h4) h4 fun t19 h5 =>
  oGuard t16 false (fun K => C_lead_Lead_master [t18, t19] h5 K) h5 fun t20 h6 =>
  oGuard t16 false (fun K => oNot t20 h6 K) h6 fun t21 h7 =>
  oPick t16 (Value.bool true) t21 h7 fun t22 h8 =>
  oIf t22
  (oBuild #[.int .i64 0, .int .u64 0, .int .i64 0, .int .i64 0, .int .u64 0, .int .i64 0] [] h8 fun t23 h9 =>
  oSt 6 t8 t23 h9 fun _ h10 =>
  oLdN 6 t8 h10 fun r1 _ =>
  K (.tuple #[r1, (Value.bool false)]) h10)
  (oNilCheck a0 h8 fun t26 h11 =>
  oFieldAddr 7 t26 h11 fun t27 h12 =>
  oLd1 t27 h12 fun t28 h13 =>
  oLookup (.int .i64) (.agg #[.int .i64 0, .int .i64 0, .int .u64 0, .int .i64 0, .int .u64 0]) t28 a2 true h13 fun t30 h14 =>
  oExtract t30 0 h14 fun t31 h15 =>
  oExtract t30 1 h15 fun t32 h16 =>
  oAlloc #[.int .i64 0, .int .i64 0, .int .u64 0, .int .i64 0, .int .u64 0] h16 fun t10 h17 =>
  oSt 5 t10 t31 h17 fun _ h18 =>
  oNot t32 h18 fun t34 h19 =>
  oIf t34
  (oBuild #[.int .i64 0, .int .u64 0, .int .i64 0, .int .i64 0, .int .u64 0, .int .i64 0] [] h19 fun t35 h20 =>
  oSt 6 t8 t35 h20 fun _ h21 =>
  oLdN 6 t8 h21 fun r2 _ =>
  K (.tuple #[r2, (Value.bool false)]) h21)
  (oFieldAddr 4 t10 h19 fun t36 h22 =>
  oLd1 t36 h22 fun t37 h23 =>
  oBuildSlice #[.int .i64 0] 1 [(0 * 1, 1, a3)] h23 fun t39 h24 =>
  C_ballot_With [t37, t39] h24 fun t40 h25 =>
  oFieldAddr 4 t10 h25 fun t41 h26 =>
  oSt 1 t41 t40 h26 fun _ h27 =>
  oNilCheck a0 h27 fun t43 h28 =>
  oFieldAddr 7 t43 h28 fun t44 h29 =>
  oLd1 t44 h29 fun t45 h30 =>
  oLdN 5 t10 h30 fun t47 h31 =>
  oMapUpdate (.int .i64) t45 a2 t47 h31 fun _ h32 =>
  (True) ∧
  oFieldAddr 4 t10 h32 fun t48 h33 =>
  oLd1 t48 h33 fun t49 h34 =>
  oNilCheck a0 h34 fun t51 h35 =>
  oFieldAddr 1 t51 h35 fun t52 h36 =>
  oLd1 t52 h36 fun t53 h37 =>
  C_ballot_Enough [t49, t53] h37 fun t54 h38 =>
  (True) ∧
  oNot t54 h38 fun t55 h39 =>
  oIf t55
  (oBuild #[.int .i64 0, .int .u64 0, .int .i64 0, .int .i64 0, .int .u64 0, .int .i64 0] [] h39 fun t56 h40 =>
  oSt 6 t8 t56 h40 fun _ h41 =>
  oLdN 6 t8 h41 fun r3 _ =>
  K (.tuple #[r3, (Value.bool false)]) h41)
  (C_lead_Lead_vote [a0, a2] h39 fun t59 h42 =>
  oAlloc #[.int .i64 0, .int .u64 0, .int .i64 0, .int .i64 0, .int .u64 0, .int .i64 0] h42 fun t12 h43 =>
  oSt 6 t12 t59 h43 fun _ h44 =>
  oNilCheck a0 h44 fun t61 h45 =>
  oFieldAddr 7 t61 h45 fun t62 h46 =>
  oLd1 t62 h46 fun t63 h47 =>
  oDelete (.int .i64) t63 a2 h47 fun _ h48 =>
  oLdN 6 t12 h48 fun t65 h49 =>
  oSt 6 t8 t65 h49 fun _ h50 =>
  oLdN 6 t8 h50 fun r4 _ =>
  K (.tuple #[r4, (Value.bool true)]) h50)))
def E0_lead_Lead_Accepted (a0 a1 a2 a3 : Value) : List Value := [a0, a1, a2, a3, undef, undef, undef, undef, undef, undef, undef, undef, undef, undef, undef, undef, undef, undef, undef, undef, undef, undef, undef, undef, undef, undef, undef, undef, undef, undef, undef, undef, undef, undef, undef, undef, undef, undef, undef, undef, undef, undef, undef, undef, undef, undef, undef, undef, undef, undef, undef, undef, undef, undef, undef, undef, undef, undef, undef, undef, undef, undef, undef, undef, undef, undef]
def X_lead_Lead_Accepted (Qv : Post) (a0 a1 a2 a3 : Value) (h : Hp) : Prop :=
  oAlloc #[.int .i64 0, .int .u64 0, .int .i64 0, .int .i64 0, .int .u64 0, .int .i64 0] h fun t8 h1 =>
  C_lead_Lead_is [a0, (Value.int .i64 2), a1] h1 fun t15 h2 =>
  oNot t15 h2 fun t16 h3 =>
  oGuard t16 false (fun K => K a0 h3) h3 fun t18 h4 =>
  oGuard t16 false (fun K => K a3 h4) h4 fun t19 h5 =>
  oGuard t16 false (fun K => C_lead_Lead_master [t18, t19] h5 K) h5 fun t20 h6 =>
  oGuard t16 false (fun K => oNot t20 h6 K) h6 fun t21 h7 =>
  oPick t16 (Value.bool true) t21 h7 fun t22 h8 =>
  oIf t22
  (oBuild #[.int .i64 0, .int .u64 0, .int .i64 0, .int .i64 0, .int .u64 0, .int .i64 0] [] h8 fun t23 h9 =>
  oSt 6 t8 t23 h9 fun _ h10 =>
  (qSeq (aw Try.prog O_lead_Lead_Accepted K_lead_Lead_Accepted_0 Qv) Qv) .ret (ul (E0_lead_Lead_Accepted a0 a1 a2 a3) [(8, t8), (9, (Value.bool false)), (13, a0), (14, a1), (15, t15), (16, t16), (17, t16), (18, t18), (19, t19), (20, t20), (21, t21), (22, t22), (23, t23)]) h10)
  (oNilCheck a0 h8 fun t26 h11 =>
  oFieldAddr 7 t26 h11 fun t27 h12 =>
  oLd1 t27 h12 fun t28 h13 =>
  oLookup (.int .i64) (.agg #[.int .i64 0, .int .i64 0, .int .u64 0, .int .i64 0, .int .u64 0]) t28 a2 true h13 fun t30 h14 =>
  oExtract t30 0 h14 fun t31 h15 =>
  oExtract t30 1 h15 fun t32 h16 =>
  oAlloc #[.int .i64 0, .int .i64 0, .int .u64 0, .int .i64 0, .int .u64 0] h16 fun t10 h17 =>
  oSt 5 t10 t31 h17 fun _ h18 =>
  oNot t32 h18 fun t34 h19 =>
  oIf t34
  (oBuild #[.int .i64 0, .int .u64 0, .int .i64 0, .int .i64 0, .int .u64 0, .int .i64 0] [] h19 fun t35 h20 =>
  oSt 6 t8 t35 h20 fun _ h21 =>
  (qSeq (aw Try.prog O_lead_Lead_Accepted K_lead_Lead_Accepted_1 Qv) Qv) .ret (ul (E0_lead_Lead_Accepted a0 a1 a2 a3) [(8, t8), (9, (Value.bool false)), (10, t10), (11, t32), (13, a0), (14, a1), (15, t15), (16, t16), (17, t16), (18, t18), (19, t19), (20, t20), (21, t21), (22, t22), (24, t30), (25, a0), (26, t26), (27, t27), (28, t28), (29, a2), (30, t30), (31, t31), (32, t32), (33, t32), (34, t34), (35, t35)]) h21)
  (oFieldAddr 4 t10 h19 fun t36 h22 =>
  oLd1 t36 h22 fun t37 h23 =>
  oBuildSlice #[.int .i64 0] 1 [(0 * 1, 1, a3)] h23 fun t39 h24 =>
  C_ballot_With [t37, t39] h24 fun t40 h25 =>
  oFieldAddr 4 t10 h25 fun t41 h26 =>
  oSt 1 t41 t40 h26 fun _ h27 =>
  oNilCheck a0 h27 fun t43 h28 =>
  oFieldAddr 7 t43 h28 fun t44 h29 =>
  oLd1 t44 h29 fun t45 h30 =>
  oLdN 5 t10 h30 fun t47 h31 =>
  oMapUpdate (.int .i64) t45 a2 t47 h31 fun _ h32 =>
  (True) ∧
  oFieldAddr 4 t10 h32 fun t48 h33 =>
  oLd1 t48 h33 fun t49 h34 =>
  oNilCheck a0 h34 fun t51 h35 =>
  oFieldAddr 1 t51 h35 fun t52 h36 =>
  oLd1 t52 h36 fun t53 h37 =>
  C_ballot_Enough [t49, t53] h37 fun t54 h38 =>
  (True) ∧
  oNot t54 h38 fun t55 h39 =>
  oIf t55
  (oBuild #[.int .i64 0, .int .u64 0, .int .i64 0, .int .i64 0, .int .u64 0, .int .i64 0] [] h39 fun t56 h40 =>
  oSt 6 t8 t56 h40 fun _ h41 =>
  (qSeq (aw Try.prog O_lead_Lead_Accepted K_lead_Lead_Accepted_2 Qv) Qv) .ret (ul (E0_lead_Lead_Accepted a0 a1 a2 a3) [(8, t8), (9, (Value.bool false)), (10, t10), (11, t32), (13, a0), (14, a1), (15, t15), (16, t16), (17, t16), (18, t18), (19, t19), (20, t20), (21, t21), (22, t22), (24, t30), (25, a0), (26, t26), (27, t27), (28, t28), (29, a2), (30, t30), (31, t31), (32, t32), (33, t32), (34, t34), (36, t36), (37, t37), (38, a3), (39, t39), (40, t40), (41, t41), (42, a0), (43, t43), (44, t44), (45, t45), (46, a2), (47, t47), (48, t48), (49, t49), (50, a0), (51, t51), (52, t52), (53, t53), (54, t54), (55, t55), (56, t56)]) h41)
  (C_lead_Lead_vote [a0, a2] h39 fun t59 h42 =>
  oAlloc #[.int .i64 0, .int .u64 0, .int .i64 0, .int .i64 0, .int .u64 0, .int .i64 0] h42 fun t12 h43 =>
  oSt 6 t12 t59 h43 fun _ h44 =>
  oNilCheck a0 h44 fun t61 h45 =>
  oFieldAddr 7 t61 h45 fun t62 h46 =>
  oLd1 t62 h46 fun t63 h47 =>
  oDelete (.int .i64) t63 a2 h47 fun _ h48 =>
  oLdN 6 t12 h48 fun t65 h49 =>
  oSt 6 t8 t65 h49 fun _ h50 =>
  Qv .ret (ul (E0_lead_Lead_Accepted a0 a1 a2 a3) [(8, t8), (9, (Value.bool true)), (10, t10), (11, t32), (12, t12), (13, a0), (14, a1), (15, t15), (16, t16), (17, t16), (18, t18), (19, t19), (20, t20), (21, t21), (22, t22), (24, t30), (25, a0), (26, t26), (27, t27), (28, t28), (29, a2), (30, t30), (31, t31), (32, t32), (33, t32), (34, t34), (36, t36), (37, t37), (38, a3), (39, t39), (40, t40), (41, t41), (42, a0), (43, t43), (44, t44), (45, t45), (46, a2), (47, t47), (48, t48), (49, t49), (50, a0), (51, t51), (52, t52), (53, t53), (54, t54), (55, t55), (57, a0), (58, a2), (59, t59), (60, a0), (61, t61), (62, t62), (63, t63), (64, a2), (65, t65)]) h50)))
theorem ga_lead_Lead_Accepted (Qv : Post) (a0 a1 a2 a3 : Value) (h : Hp) : aw Try.prog O_lead_Lead_Accepted (bodyC Try.f32) Qv (E0_lead_Lead_Accepted a0 a1 a2 a3) h = X_lead_Lead_Accepted Qv a0 a1 a2 a3 h := by kernel_rfl
theorem gb_lead_Lead_Accepted (a0 a1 a2 a3 : Value) (h : Hp) (K : Kont) : X_lead_Lead_Accepted (qTop Try.prog Try.f32 K) a0 a1 a2 a3 h = G_lead_Lead_Accepted a0 a1 a2 a3 h K := by kernel_rfl
theorem gc_lead_Lead_Accepted (a0 a1 a2 a3 : Value) (h : Hp) (K : Kont) : abody Try.prog O_lead_Lead_Accepted Try.f32 (bodyC Try.f32) [a0, a1, a2, a3] h K = aw Try.prog O_lead_Lead_Accepted (bodyC Try.f32) (qTop Try.prog Try.f32 K) (E0_lead_Lead_Accepted a0 a1 a2 a3) h := by kernel_rfl
theorem eq_lead_Lead_Accepted (a0 a1 a2 a3 : Value) (h : Hp) (K : Kont) : abody Try.prog O_lead_Lead_Accepted Try.f32 (bodyC Try.f32) [a0, a1, a2, a3] h K = G_lead_Lead_Accepted a0 a1 a2 a3 h K := (gc_lead_Lead_Accepted a0 a1 a2 a3 h K).trans ((ga_lead_Lead_Accepted _ a0 a1 a2 a3 h).trans (gb_lead_Lead_Accepted a0 a1 a2 a3 h K))
theorem ok_lead_Lead_Accepted {a0 a1 a2 a3 : Value} {h : Hp} {K : Kont} (hk : G_lead_Lead_Accepted a0 a1 a2 a3 h K) : C_lead_Lead_Accepted [a0, a1, a2, a3] h K := ac_of_body prog_mixed (fn := Try.f32) Try.func32 (c := bodyC Try.f32) (by kernel_rfl) ((eq_lead_Lead_Accepted a0 a1 a2 a3 h K).mpr hk)

/-! ### (*catenary/lead.Lead).Open: function 33 -/
def O_lead_Lead_Open : Od := []
noncomputable def K_lead_Lead_Open_0 : Code := (cI (cB (cA (cB (cB (cB (bodyC Try.f33)))))))
noncomputable def K_lead_Lead_Open_1 : Code := (cB (cB (cB (cB (bodyC Try.f33)))))
def Q_lead_Lead_Open_0 (K : Kont) : Post := qSeq (aw Try.prog O_lead_Lead_Open K_lead_Lead_Open_1 (qTop Try.prog Try.f33 K)) (qTop Try.prog Try.f33 K)
def Q_lead_Lead_Open_1 (K : Kont) : Post := qBlk 0 (Q_lead_Lead_Open_0 K)
def E_lead_Lead_Open_1 (v0 : Value) (v3 : Value) (v13 : Value) (v14 : Value) (v15 : Value) (d : Nat → Value) : List Value := [v0, d 1, d 2, v3, d 4, d 5, d 6, d 7, d 8, d 9, d 10, d 11, d 12, v13, v14, v15, d 16, d 17, d 18, d 19, d 20, d 21, d 22, d 23, d 24, d 25, d 26]
def G_lead_Lead_Open_1 (K : Kont) (v0 : Value) (v3 : Value) (v13 : Value) (v14 : Value) (v15 : Value) (d : Nat → Value) (h : Hp) : Prop := aw Try.prog O_lead_Lead_Open K_lead_Lead_Open_0 (Q_lead_Lead_Open_1 K) (E_lead_Lead_Open_1 v0 v3 v13 v14 v15 d) h
noncomputable def K_lead_Lead_Open_2 : Code := (cB (cB (bodyC Try.f33)))
def Q_lead_Lead_Open_2 (K : Kont) (s0 : Self) : Post := qSeq s0 (Q_lead_Lead_Open_1 K)
noncomputable def K_lead_Lead_Open_3 : Code := (cI (cI (cB (cA (cB (cB (cB (bodyC Try.f33))))))))
noncomputable def K_lead_Lead_Open_4 : Code := (cB (cB (cI (cI (cB (cA (cB (cB (cB (bodyC Try.f33))))))))))
def G_lead_Lead_Open (a0 : Value) (h : Hp) (K : Kont) : Prop :=
  oEq 1 false none a0 (Value.pointer none) h fun t7 h1 =>
  oIf t7
  (K (Value.slice none 0 0) h1)
  (oNilCheck a0 h1 fun t9 h2 =>
  oFieldAddr 7 t9 h2 fun t10 h3 =>
  oLd1 t10 h3 fun t11 h4 =>
  C_maps_Keys_map_int_lead_proposal_int_lead_proposal [t11] h4 fun t12 h5 =>
  C_slices_Sorted_int [t12] h5 fun t13 h6 =>
  oLen 0 t13 h6 fun t14 h7 =>
  G_lead_Lead_Open_1 K a0 (Value.slice none 0 0) t13 t14 (Value.int .i64 0) (ud [(2, (Value.slice none 0 0)), (6, a0), (7, t7), (8, a0), (9, t9), (10, t10), (11, t11), (12, t12)] dz) h7)
def E0_lead_Lead_Open (a0 : Value) : List Value := [a0, undef, undef, undef, undef, undef, undef, undef, undef, undef, undef, undef, undef, undef, undef, undef, undef, undef, undef, undef, undef, undef, undef, undef, undef, undef, undef]
def X_lead_Lead_Open (Qv : Post) (a0 : Value) (h : Hp) : Prop :=
  oEq 1 false none a0 (Value.pointer none) h fun t7 h1 =>
  oIf t7
  ((qSeq (aw Try.prog O_lead_Lead_Open K_lead_Lead_Open_2 Qv) Qv) .ret (ul (E0_lead_Lead_Open a0) [(2, (Value.slice none 0 0)), (6, a0), (7, t7)]) h1)
  (oNilCheck a0 h1 fun t9 h2 =>
  oFieldAddr 7 t9 h2 fun t10 h3 =>
  oLd1 t10 h3 fun t11 h4 =>
  C_maps_Keys_map_int_lead_proposal_int_lead_proposal [t11] h4 fun t12 h5 =>
  C_slices_Sorted_int [t12] h5 fun t13 h6 =>
  oLen 0 t13 h6 fun t14 h7 =>
  aw Try.prog O_lead_Lead_Open K_lead_Lead_Open_0 (qBlk 0 (qSeq (aw Try.prog O_lead_Lead_Open K_lead_Lead_Open_1 Qv) Qv)) (ul (E0_lead_Lead_Open a0) [(2, (Value.slice none 0 0)), (3, (Value.slice none 0 0)), (6, a0), (7, t7), (8, a0), (9, t9), (10, t10), (11, t11), (12, t12), (13, t13), (14, t14), (15, (Value.int .i64 0))]) h7)
theorem ga_lead_Lead_Open (Qv : Post) (a0 : Value) (h : Hp) : aw Try.prog O_lead_Lead_Open (bodyC Try.f33) Qv (E0_lead_Lead_Open a0) h = X_lead_Lead_Open Qv a0 h := by kernel_rfl
theorem gb_lead_Lead_Open (a0 : Value) (h : Hp) (K : Kont) : X_lead_Lead_Open (qTop Try.prog Try.f33 K) a0 h = G_lead_Lead_Open a0 h K := by kernel_rfl
theorem gc_lead_Lead_Open (a0 : Value) (h : Hp) (K : Kont) : abody Try.prog O_lead_Lead_Open Try.f33 (bodyC Try.f33) [a0] h K = aw Try.prog O_lead_Lead_Open (bodyC Try.f33) (qTop Try.prog Try.f33 K) (E0_lead_Lead_Open a0) h := by kernel_rfl
theorem eq_lead_Lead_Open (a0 : Value) (h : Hp) (K : Kont) : abody Try.prog O_lead_Lead_Open Try.f33 (bodyC Try.f33) [a0] h K = G_lead_Lead_Open a0 h K := (gc_lead_Lead_Open a0 h K).trans ((ga_lead_Lead_Open _ a0 h).trans (gb_lead_Lead_Open a0 h K))
theorem ok_lead_Lead_Open {a0 : Value} {h : Hp} {K : Kont} (hk : G_lead_Lead_Open a0 h K) : C_lead_Lead_Open [a0] h K := ac_of_body prog_mixed (fn := Try.f33) Try.func33 (c := bodyC Try.f33) (by kernel_rfl) ((eq_lead_Lead_Open a0 h K).mpr hk)
def B_lead_Lead_Open_1 (K : Kont) (s0 : Self) (v0 : Value) (v3 : Value) (v13 : Value) (v14 : Value) (v15 : Value) (d : Nat → Value) (h : Hp) : Prop :=
  oBin .lss v15 v14 h fun t16 h1 =>
  oIf t16
  (oIdxS 1 v13 v15 h1 fun t17 h2 =>
  oLd1 t17 h2 fun t18 h3 =>
  C_lead_Lead_vote [v0, t18] h3 fun t22 h4 =>
  oBuildSlice #[.int .i64 0, .int .u64 0, .int .i64 0, .int .i64 0, .int .u64 0, .int .i64 0] 1 [(0 * 6, 6, t22)] h4 fun t23 h5 =>
  oAppend 6 48 #[.int .i64 0, .int .u64 0, .int .i64 0, .int .i64 0, .int .u64 0, .int .i64 0] v3 t23 h5 fun t24 h6 =>
  oBin .add v15 (Value.int .i64 1) h6 fun t25 h7 =>
  s0 (E_lead_Lead_Open_1 v0 t24 v13 v14 t25 (ud [(5, t18), (16, t16), (17, t17), (18, t18), (19, v3), (20, v0), (21, t18), (22, t22), (23, t23), (24, t24), (25, t25)] d)) h7)
  (K v3 h1)
def X_lead_Lead_Open_1 (Qv : Post) (v0 : Value) (v3 : Value) (v13 : Value) (v14 : Value) (v15 : Value) (d : Nat → Value) (h : Hp) : Prop :=
  oBin .lss v15 v14 h fun t16 h1 =>
  oIf t16
  (oIdxS 1 v13 v15 h1 fun t17 h2 =>
  oLd1 t17 h2 fun t18 h3 =>
  C_lead_Lead_vote [v0, t18] h3 fun t22 h4 =>
  oBuildSlice #[.int .i64 0, .int .u64 0, .int .i64 0, .int .i64 0, .int .u64 0, .int .i64 0] 1 [(0 * 6, 6, t22)] h4 fun t23 h5 =>
  oAppend 6 48 #[.int .i64 0, .int .u64 0, .int .i64 0, .int .i64 0, .int .u64 0, .int .i64 0] v3 t23 h5 fun t24 h6 =>
  oBin .add v15 (Value.int .i64 1) h6 fun t25 h7 =>
  Qv .normal (ul (E_lead_Lead_Open_1 v0 v3 v13 v14 v15 d) [(3, t24), (5, t18), (15, t25), (16, t16), (17, t17), (18, t18), (19, v3), (20, v0), (21, t18), (22, t22), (23, t23), (24, t24), (25, t25)]) h7)
  ((qSeq (aw Try.prog O_lead_Lead_Open K_lead_Lead_Open_4 Qv) Qv) (.exit 0) (ul (E_lead_Lead_Open_1 v0 v3 v13 v14 v15 d) [(16, t16)]) h1)
theorem ga_lead_Lead_Open_1 (Qv : Post) (v0 : Value) (v3 : Value) (v13 : Value) (v14 : Value) (v15 : Value) (d : Nat → Value) (h : Hp) : aw Try.prog O_lead_Lead_Open K_lead_Lead_Open_3 Qv (E_lead_Lead_Open_1 v0 v3 v13 v14 v15 d) h = X_lead_Lead_Open_1 Qv v0 v3 v13 v14 v15 d h := by kernel_rfl
theorem gb_lead_Lead_Open_1 (K : Kont) (s0 : Self) (v0 : Value) (v3 : Value) (v13 : Value) (v14 : Value) (v15 : Value) (d : Nat → Value) (h : Hp) : X_lead_Lead_Open_1 (Q_lead_Lead_Open_2 K s0) v0 v3 v13 v14 v15 d h = B_lead_Lead_Open_1 K s0 v0 v3 v13 v14 v15 d h := by kernel_rfl
theorem beq_lead_Lead_Open_1 (K : Kont) (s0 : Self) (v0 : Value) (v3 : Value) (v13 : Value) (v14 : Value) (v15 : Value) (d : Nat → Value) (h : Hp) : aw Try.prog O_lead_Lead_Open K_lead_Lead_Open_3 (Q_lead_Lead_Open_2 K s0) (E_lead_Lead_Open_1 v0 v3 v13 v14 v15 d) h = B_lead_Lead_Open_1 K s0 v0 v3 v13 v14 v15 d h := (ga_lead_Lead_Open_1 _ v0 v3 v13 v14 v15 d h).trans (gb_lead_Lead_Open_1 K s0 v0 v3 v13 v14 v15 d h)
theorem rule_lead_Lead_Open_1 {K : Kont} {v0 : Value} {v13 : Value} {v14 : Value} (Inv : Value → Value → Hp → Prop) (μ : Value → Value → Hp → Nat)
    (step : ∀ (s0 : Self) (v3 : Value) (v15 : Value) (d : Nat → Value) (h : Hp), Inv v3 v15 h → (∀ (v3' : Value) (v15' : Value) (d' : Nat → Value) (h' : Hp), Inv v3' v15' h' → μ v3' v15' h' < μ v3 v15 h → s0 (E_lead_Lead_Open_1 v0 v3' v13 v14 v15' d') h') → B_lead_Lead_Open_1 K s0 v0 v3 v13 v14 v15 d h) (v3 : Value) (v15 : Value) (d : Nat → Value) (h : Hp) (hi : Inv v3 v15 h) : G_lead_Lead_Open_1 K v0 v3 v13 v14 v15 d h :=
  oLoop_rule (α := Value × Value × (Nat → Value)) (fun x => E_lead_Lead_Open_1 v0 x.1 v13 v14 x.2.1 x.2.2) (fun x h => Inv x.1 x.2.1 h) (fun x h => μ x.1 x.2.1 h)
    (fun self x h hx hs => (beq_lead_Lead_Open_1 K self v0 x.1 v13 v14 x.2.1 x.2.2 h).mpr (step self x.1 x.2.1 x.2.2 h hx (fun v3' v15' d' h' h1 h2 => hs ⟨v3', v15', d'⟩ h' h1 h2))) ⟨v3, v15, d⟩ h hi

end Go.Proofs.Ytdolepapmpcpiaa

/- What functions of the program ask of the seen heap (written by a program of this proof, vgen.py). -/
namespace Go.Proofs.Ytdolepapmpcpiaa
open Go
set_option linter.unusedSectionVars false
variable [Base]
set_option linter.unusedVariables false
set_option maxRecDepth 100000

/-! ### (*catenary/lead.Lead).State: function 35 -/
def O_lead_Lead_State : Od := []
noncomputable def K_lead_Lead_State_0 : Code := (cB (cB (bodyC Try.f35)))
def G_lead_Lead_State (a0 : Value) (h : Hp) (K : Kont) : Prop :=
  oEq 1 false none a0 (Value.pointer none) h fun t4 h1 =>
  oIf t4
  (K (Value.int .i64 0) h1)
  (oNilCheck a0 h1 fun t6 h2 =>
  oFieldAddr 2 t6 h2 fun t7 h3 =>
  oLd1 t7 h3 fun t8 h4 =>
  K t8 h4)
def E0_lead_Lead_State (a0 : Value) : List Value := [a0, undef, undef, undef, undef, undef, undef, undef, undef]
def X_lead_Lead_State (Qv : Post) (a0 : Value) (h : Hp) : Prop :=
  oEq 1 false none a0 (Value.pointer none) h fun t4 h1 =>
  oIf t4
  ((qSeq (aw Try.prog O_lead_Lead_State K_lead_Lead_State_0 Qv) Qv) .ret (ul (E0_lead_Lead_State a0) [(2, (Value.int .i64 0)), (3, a0), (4, t4)]) h1)
  (oNilCheck a0 h1 fun t6 h2 =>
  oFieldAddr 2 t6 h2 fun t7 h3 =>
  oLd1 t7 h3 fun t8 h4 =>
  Qv .ret (ul (E0_lead_Lead_State a0) [(2, t8), (3, a0), (4, t4), (5, a0), (6, t6), (7, t7), (8, t8)]) h4)
theorem ga_lead_Lead_State (Qv : Post) (a0 : Value) (h : Hp) : aw Try.prog O_lead_Lead_State (bodyC Try.f35) Qv (E0_lead_Lead_State a0) h = X_lead_Lead_State Qv a0 h := by kernel_rfl
theorem gb_lead_Lead_State (a0 : Value) (h : Hp) (K : Kont) : X_lead_Lead_State (qTop Try.prog Try.f35 K) a0 h = G_lead_Lead_State a0 h K := by kernel_rfl
theorem gc_lead_Lead_State (a0 : Value) (h : Hp) (K : Kont) : abody Try.prog O_lead_Lead_State Try.f35 (bodyC Try.f35) [a0] h K = aw Try.prog O_lead_Lead_State (bodyC Try.f35) (qTop Try.prog Try.f35 K) (E0_lead_Lead_State a0) h := by kernel_rfl
theorem eq_lead_Lead_State (a0 : Value) (h : Hp) (K : Kont) : abody Try.prog O_lead_Lead_State Try.f35 (bodyC Try.f35) [a0] h K = G_lead_Lead_State a0 h K := (gc_lead_Lead_State a0 h K).trans ((ga_lead_Lead_State _ a0 h).trans (gb_lead_Lead_State a0 h K))
theorem ok_lead_Lead_State {a0 : Value} {h : Hp} {K : Kont} (hk : G_lead_Lead_State a0 h K) : C_lead_Lead_State [a0] h K := ac_of_body prog_mixed (fn := Try.f35) Try.func35 (c := bodyC Try.f35) (by kernel_rfl) ((eq_lead_Lead_State a0 h K).mpr hk)

/-! ### (*catenary/lead.Lead).Ballot: function 36 -/
def O_lead_Lead_Ballot : Od := []
noncomputable def K_lead_Lead_Ballot_0 : Code := (cB (cB (bodyC Try.f36)))
def G_lead_Lead_Ballot (a0 : Value) (h : Hp) (K : Kont) : Prop :=
  oEq 1 false none a0 (Value.pointer none) h fun t4 h1 =>
  oIf t4
  (K (Value.int .u64 0) h1)
  (oNilCheck a0 h1 fun t6 h2 =>
  oFieldAddr 3 t6 h2 fun t7 h3 =>
  oLd1 t7 h3 fun t8 h4 =>
  K t8 h4)
def E0_lead_Lead_Ballot (a0 : Value) : List Value := [a0, undef, undef, undef, undef, undef, undef, undef, undef]
def X_lead_Lead_Ballot (Qv : Post) (a0 : Value) (h : Hp) : Prop :=
  oEq 1 false none a0 (Value.pointer none) h fun t4 h1 =>
  oIf t4
  ((qSeq (aw Try.prog O_lead_Lead_Ballot K_lead_Lead_Ballot_0 Qv) Qv) .ret (ul (E0_lead_Lead_Ballot a0) [(2, (Value.int .u64 0)), (3, a0), (4, t4)]) h1)
  (oNilCheck a0 h1 fun t6 h2 =>
  oFieldAddr 3 t6 h2 fun t7 h3 =>
  oLd1 t7 h3 fun t8 h4 =>
  Qv .ret (ul (E0_lead_Lead_Ballot a0) [(2, t8), (3, a0), (4, t4), (5, a0), (6, t6), (7, t7), (8, t8)]) h4)
theorem ga_lead_Lead_Ballot (Qv : Post) (a0 : Value) (h : Hp) : aw Try.prog O_lead_Lead_Ballot (bodyC Try.f36) Qv (E0_lead_Lead_Ballot a0) h = X_lead_Lead_Ballot Qv a0 h := by kernel_rfl
theorem gb_lead_Lead_Ballot (a0 : Value) (h : Hp) (K : Kont) : X_lead_Lead_Ballot (qTop Try.prog Try.f36 K) a0 h = G_lead_Lead_Ballot a0 h K := by kernel_rfl
theorem gc_lead_Lead_Ballot (a0 : Value) (h : Hp) (K : Kont) : abody Try.prog O_lead_Lead_Ballot Try.f36 (bodyC Try.f36) [a0] h K = aw Try.prog O_lead_Lead_Ballot (bodyC Try.f36) (qTop Try.prog Try.f36 K) (E0_lead_Lead_Ballot a0) h := by kernel_rfl
theorem eq_lead_Lead_Ballot (a0 : Value) (h : Hp) (K : Kont) : abody Try.prog O_lead_Lead_Ballot Try.f36 (bodyC Try.f36) [a0] h K = G_lead_Lead_Ballot a0 h K := (gc_lead_Lead_Ballot a0 h K).trans ((ga_lead_Lead_Ballot _ a0 h).trans (gb_lead_Lead_Ballot a0 h K))
theorem ok_lead_Lead_Ballot {a0 : Value} {h : Hp} {K : Kont} (hk : G_lead_Lead_Ballot a0 h K) : C_lead_Lead_Ballot [a0] h K := ac_of_body prog_mixed (fn := Try.f36) Try.func36 (c := bodyC Try.f36) (by kernel_rfl) ((eq_lead_Lead_Ballot a0 h K).mpr hk)

/-! ### (*catenary/lead.Lead).From: function 37 -/
def O_lead_Lead_From : Od := []
noncomputable def K_lead_Lead_From_0 : Code := (cB (cB (bodyC Try.f37)))
def G_lead_Lead_From (a0 : Value) (h : Hp) (K : Kont) : Prop :=
  oEq 1 false none a0 (Value.pointer none) h fun t4 h1 =>
  oIf t4
  (K (Value.int .i64 0) h1)
  (oNilCheck a0 h1 fun t6 h2 =>
  oFieldAddr 4 t6 h2 fun t7 h3 =>
  oLd1 t7 h3 fun t8 h4 =>
  K t8 h4)
def E0_lead_Lead_From (a0 : Value) : List Value := [a0, undef, undef, undef, undef, undef, undef, undef, undef]
def X_lead_Lead_From (Qv : Post) (a0 : Value) (h : Hp) : Prop :=
  oEq 1 false none a0 (Value.pointer none) h fun t4 h1 =>
  oIf t4
  ((qSeq (aw Try.prog O_lead_Lead_From K_lead_Lead_From_0 Qv) Qv) .ret (ul (E0_lead_Lead_From a0) [(2, (Value.int .i64 0)), (3, a0), (4, t4)]) h1)
  (oNilCheck a0 h1 fun t6 h2 =>
  oFieldAddr 4 t6 h2 fun t7 h3 =>
  oLd1 t7 h3 fun t8 h4 =>
  Qv .ret (ul (E0_lead_Lead_From a0) [(2, t8), (3, a0), (4, t4), (5, a0), (6, t6), (7, t7), (8, t8)]) h4)
theorem ga_lead_Lead_From (Qv : Post) (a0 : Value) (h : Hp) : aw Try.prog O_lead_Lead_From (bodyC Try.f37) Qv (E0_lead_Lead_From a0) h = X_lead_Lead_From Qv a0 h := by kernel_rfl
theorem gb_lead_Lead_From (a0 : Value) (h : Hp) (K : Kont) : X_lead_Lead_From (qTop Try.prog Try.f37 K) a0 h = G_lead_Lead_From a0 h K := by kernel_rfl
theorem gc_lead_Lead_From (a0 : Value) (h : Hp) (K : Kont) : abody Try.prog O_lead_Lead_From Try.f37 (bodyC Try.f37) [a0] h K = aw Try.prog O_lead_Lead_From (bodyC Try.f37) (qTop Try.prog Try.f37 K) (E0_lead_Lead_From a0) h := by kernel_rfl
theorem eq_lead_Lead_From (a0 : Value) (h : Hp) (K : Kont) : abody Try.prog O_lead_Lead_From Try.f37 (bodyC Try.f37) [a0] h K = G_lead_Lead_From a0 h K := (gc_lead_Lead_From a0 h K).trans ((ga_lead_Lead_From _ a0 h).trans (gb_lead_Lead_From a0 h K))
theorem ok_lead_Lead_From {a0 : Value} {h : Hp} {K : Kont} (hk : G_lead_Lead_From a0 h K) : C_lead_Lead_From [a0] h K := ac_of_body prog_mixed (fn := Try.f37) Try.func37 (c := bodyC Try.f37) (by kernel_rfl) ((eq_lead_Lead_From a0 h K).mpr hk)

/-! ### (*catenary/lead.Lead).Refuse: function 39 -/
def O_lead_Lead_Refuse : Od := []
noncomputable def K_lead_Lead_Refuse_0 : Code := (cB (cB (bodyC Try.f39)))
def G_lead_Lead_Refuse (a0 a1 : Value) (h : Hp) (K : Kont) : Prop :=
  oEq 1 false none a0 (Value.pointer none) h fun t6 h1 =>
  oGuard t6 false (fun K => K a0 h1) h1 fun t8 h2 =>
  oGuard t6 false (fun K => oNilCheck t8 h2 K) h2 fun t9 h3 =>
  oGuard t6 false (fun K => oFieldAddr 2 t9 h3 K) h3 fun t10 h4 =>
  oGuard t6 false (fun K => oLd1 t10 h4 K) h4 fun t11 h5 =>
  oGuard t6 false (fun K => oBin .eql t11 (Value.int .i64 0) h5 K) h5 fun t12 h6 =>
  oPick t6 (Value.bool true) t12 h6 fun t13 h7 =>
  oGuard t13 false (fun K => K a1 h7) h7 fun t15 h8 =>
  oGuard t13 false (fun K => K a0 h8) h8 fun t16 h9 =>
  oGuard t13 false (fun K => oNilCheck t16 h9 K) h9 fun t17 h10 =>
  oGuard t13 false (fun K => oFieldAddr 3 t17 h10 K) h10 fun t18 h11 =>
  oGuard t13 false (fun K => oLd1 t18 h11 K) h11 fun t19 h12 =>
  oGuard t13 false (fun K => oBin .leq t15 t19 h12 K) h12 fun t20 h13 =>
  oPick t13 (Value.bool true) t20 h13 fun t21 h14 =>
  oIf t21
  (K (Value.bool false) h14)
  (oNilCheck a0 h14 fun t23 h15 =>
  oFieldAddr 2 t23 h15 fun t24 h16 =>
  oSt 1 t24 (Value.int .i64 0) h16 fun _ h17 =>
  oNilCheck a0 h17 fun t26 h18 =>
  oFieldAddr 7 t26 h18 fun t27 h19 =>
  oLd1 t27 h19 fun t28 h20 =>
  oClearMap t28 h20 fun _ h21 =>
  oNilCheck a0 h21 fun t30 h22 =>
  oFieldAddr 6 t30 h22 fun t31 h23 =>
  oLd1 t31 h23 fun t32 h24 =>
  oClearMap t32 h24 fun _ h25 =>
  K (Value.bool true) h25)
def E0_lead_Lead_Refuse (a0 a1 : Value) : List Value := [a0, a1, undef, undef, undef, undef, undef, undef, undef, undef, undef, undef, undef, undef, undef, undef, undef, undef, undef, undef, undef, undef, undef, undef, undef, undef, undef, undef, undef, undef, undef, undef, undef]
def X_lead_Lead_Refuse (Qv : Post) (a0 a1 : Value) (h : Hp) : Prop :=
  oEq 1 false none a0 (Value.pointer none) h fun t6 h1 =>
  oGuard t6 false (fun K => K a0 h1) h1 fun t8 h2 =>
  oGuard t6 false (fun K => oNilCheck t8 h2 K) h2 fun t9 h3 =>
  oGuard t6 false (fun K => oFieldAddr 2 t9 h3 K) h3 fun t10 h4 =>
  oGuard t6 false (fun K => oLd1 t10 h4 K) h4 fun t11 h5 =>
  oGuard t6 false (fun K => oBin .eql t11 (Value.int .i64 0) h5 K) h5 fun t12 h6 =>
  oPick t6 (Value.bool true) t12 h6 fun t13 h7 =>
  oGuard t13 false (fun K => K a1 h7) h7 fun t15 h8 =>
  oGuard t13 false (fun K => K a0 h8) h8 fun t16 h9 =>
  oGuard t13 false (fun K => oNilCheck t16 h9 K) h9 fun t17 h10 =>
  oGuard t13 false (fun K => oFieldAddr 3 t17 h10 K) h10 fun t18 h11 =>
  oGuard t13 false (fun K => oLd1 t18 h11 K) h11 fun t19 h12 =>
  oGuard t13 false (fun K => oBin .leq t15 t19 h12 K) h12 fun t20 h13 =>
  oPick t13 (Value.bool true) t20 h13 fun t21 h14 =>
  oIf t21
  ((qSeq (aw Try.prog O_lead_Lead_Refuse K_lead_Lead_Refuse_0 Qv) Qv) .ret (ul (E0_lead_Lead_Refuse a0 a1) [(4, (Value.bool false)), (5, a0), (6, t6), (7, t6), (8, t8), (9, t9), (10, t10), (11, t11), (12, t12), (13, t13), (14, t13), (15, t15), (16, t16), (17, t17), (18, t18), (19, t19), (20, t20), (21, t21)]) h14)
  (oNilCheck a0 h14 fun t23 h15 =>
  oFieldAddr 2 t23 h15 fun t24 h16 =>
  oSt 1 t24 (Value.int .i64 0) h16 fun _ h17 =>
  oNilCheck a0 h17 fun t26 h18 =>
  oFieldAddr 7 t26 h18 fun t27 h19 =>
  oLd1 t27 h19 fun t28 h20 =>
  oClearMap t28 h20 fun _ h21 =>
  oNilCheck a0 h21 fun t30 h22 =>
  oFieldAddr 6 t30 h22 fun t31 h23 =>
  oLd1 t31 h23 fun t32 h24 =>
  oClearMap t32 h24 fun _ h25 =>
  Qv .ret (ul (E0_lead_Lead_Refuse a0 a1) [(4, (Value.bool true)), (5, a0), (6, t6), (7, t6), (8, t8), (9, t9), (10, t10), (11, t11), (12, t12), (13, t13), (14, t13), (15, t15), (16, t16), (17, t17), (18, t18), (19, t19), (20, t20), (21, t21), (22, a0), (23, t23), (24, t24), (25, a0), (26, t26), (27, t27), (28, t28), (29, a0), (30, t30), (31, t31), (32, t32)]) h25)
theorem ga_lead_Lead_Refuse (Qv : Post) (a0 a1 : Value) (h : Hp) : aw Try.prog O_lead_Lead_Refuse (bodyC Try.f39) Qv (E0_lead_Lead_Refuse a0 a1) h = X_lead_Lead_Refuse Qv a0 a1 h := by kernel_rfl
theorem gb_lead_Lead_Refuse (a0 a1 : Value) (h : Hp) (K : Kont) : X_lead_Lead_Refuse (qTop Try.prog Try.f39 K) a0 a1 h = G_lead_Lead_Refuse a0 a1 h K := by kernel_rfl
theorem gc_lead_Lead_Refuse (a0 a1 : Value) (h : Hp) (K : Kont) : abody Try.prog O_lead_Lead_Refuse Try.f39 (bodyC Try.f39) [a0, a1] h K = aw Try.prog O_lead_Lead_Refuse (bodyC Try.f39) (qTop Try.prog Try.f39 K) (E0_lead_Lead_Refuse a0 a1) h := by kernel_rfl
theorem eq_lead_Lead_Refuse (a0 a1 : Value) (h : Hp) (K : Kont) : abody Try.prog O_lead_Lead_Refuse Try.f39 (bodyC Try.f39) [a0, a1] h K = G_lead_Lead_Refuse a0 a1 h K := (gc_lead_Lead_Refuse a0 a1 h K).trans ((ga_lead_Lead_Refuse _ a0 a1 h).trans (gb_lead_Lead_Refuse a0 a1 h K))
theorem ok_lead_Lead_Refuse {a0 a1 : Value} {h : Hp} {K : Kont} (hk : G_lead_Lead_Refuse a0 a1 h K) : C_lead_Lead_Refuse [a0, a1] h K := ac_of_body prog_mixed (fn := Try.f39) Try.func39 (c := bodyC Try.f39) (by kernel_rfl) ((eq_lead_Lead_Refuse a0 a1 h K).mpr hk)

end Go.Proofs.Ytdolepapmpcpiaa

/- What functions of the program ask of the seen heap (written by a program of this proof, vgen.py). -/
namespace Go.Proofs.Ytdolepapmpcpiaa
open Go
set_option linter.unusedSectionVars false
variable [Base]
set_option linter.unusedVariables false
set_option maxRecDepth 100000

/-! ### catenary/catenaryref11.Prepare: function 42 -/
def O_r11_Prepare : Od := [(6, (.one 0 true (.one 1 true (.one 2 true (.one 3 true (.one 4 false (.one 5 false (.one 6 true (.one 7 true .nil)))))))))]
noncomputable def K_r11_Prepare_0 : Code := (cB (cB (bodyC Try.f42)))
noncomputable def K_r11_Prepare_1 : Code := (cB (cB (cB (bodyC Try.f42))))
def G_r11_Prepare (a0 a1 a2 : Value) (h : Hp) (K : Kont) : Prop :=
  oBox a0 h fun t3 h1 =>
  oAlloc #[.int .u64 0, .slice none 0 0] h1 fun t6 h2 =>
  C_r07_Is [a1] h2 fun t10 h3 =>
  oNot t10 h3 fun t11 h4 =>
  oGuard t11 false (fun K => K a2 h4) h4 fun t13 h5 =>
  oGuard t11 false (fun K => oBin .lss t13 (Value.int .i64 0) h5 K) h5 fun t14 h6 =>
  oPick t11 (Value.bool true) t14 h6 fun t15 h7 =>
  oGuard t15 false (fun K => K a2 h7) h7 fun t17 h8 =>
  oGuard t15 false (fun K => oBin .gtr t17 (Value.int .i64 512) h8 K) h8 fun t18 h9 =>
  oPick t15 (Value.bool true) t18 h9 fun t19 h10 =>
  oIf t19
  (oLdN 2 t3 h10 fun t20 h11 =>
  oSt 2 t6 t20 h11 fun _ h12 =>
  oLdN 2 t6 h12 fun r1 _ =>
  K (.tuple #[r1, (Value.slice none 0 0), (Value.int .i64 1)]) h12)
  (oFieldAddr 0 t3 h10 fun t22 h13 =>
  oLd1 t22 h13 fun t23 h14 =>
  oBin .lss a1 t23 h14 fun t24 h15 =>
  oIf t24
  (oLdN 2 t3 h15 fun t25 h16 =>
  oSt 2 t6 t25 h16 fun _ h17 =>
  oLdN 2 t6 h17 fun r2 _ =>
  K (.tuple #[r2, (Value.slice none 0 0), (Value.int .i64 10)]) h17)
  (oFieldAddr 0 t3 h15 fun t27 h18 =>
  oSt 1 t27 a1 h18 fun _ h19 =>
  oLdN 2 t3 h19 fun t28 h20 =>
  oFieldAddr 1 t3 h20 fun t29 h21 =>
  oLd1 t29 h21 fun t30 h22 =>
  C_r11_From [t30, a2] h22 fun t32 h23 =>
  ((oLdN 2 t3 h22 (fun v' _ => v' = t28) → oLdN 2 t3 h23 (fun v' _ => v' = t28)) ∧ True) ∧
  oSt 2 t6 t28 h23 fun _ h24 =>
  ((oLd1 t29 h23 (fun v' _ => v' = t30) → oLd1 t29 h24 (fun v' _ => v' = t30)) ∧ True) ∧
  oLdN 2 t6 h24 fun r3 _ =>
  K (.tuple #[r3, t32, (Value.int .i64 0)]) h24))
def E0_r11_Prepare (a0 a1 a2 : Value) : List Value := [a0, a1, a2, undef, undef, undef, undef, undef, undef, undef, undef, undef, undef, undef, undef, undef, undef, undef, undef, undef, undef, undef, undef, undef, undef, undef, undef, undef, undef, undef, undef, undef, undef]
def X_r11_Prepare (Qv : Post) (a0 a1 a2 : Value) (h : Hp) : Prop :=
  oBox a0 h fun t3 h1 =>
  oAlloc #[.int .u64 0, .slice none 0 0] h1 fun t6 h2 =>
  C_r07_Is [a1] h2 fun t10 h3 =>
  oNot t10 h3 fun t11 h4 =>
  oGuard t11 false (fun K => K a2 h4) h4 fun t13 h5 =>
  oGuard t11 false (fun K => oBin .lss t13 (Value.int .i64 0) h5 K) h5 fun t14 h6 =>
  oPick t11 (Value.bool true) t14 h6 fun t15 h7 =>
  oGuard t15 false (fun K => K a2 h7) h7 fun t17 h8 =>
  oGuard t15 false (fun K => oBin .gtr t17 (Value.int .i64 512) h8 K) h8 fun t18 h9 =>
  oPick t15 (Value.bool true) t18 h9 fun t19 h10 =>
  oIf t19
  (oLdN 2 t3 h10 fun t20 h11 =>
  oSt 2 t6 t20 h11 fun _ h12 =>
  (qSeq (aw Try.prog O_r11_Prepare K_r11_Prepare_0 Qv) Qv) .ret (ul (E0_r11_Prepare a0 a1 a2) [(3, t3), (6, t6), (7, (Value.slice none 0 0)), (8, (Value.int .i64 1)), (9, a1), (10, t10), (11, t11), (12, t11), (13, t13), (14, t14), (15, t15), (16, t15), (17, t17), (18, t18), (19, t19), (20, t20)]) h12)
  (oFieldAddr 0 t3 h10 fun t22 h13 =>
  oLd1 t22 h13 fun t23 h14 =>
  oBin .lss a1 t23 h14 fun t24 h15 =>
  oIf t24
  (oLdN 2 t3 h15 fun t25 h16 =>
  oSt 2 t6 t25 h16 fun _ h17 =>
  (qSeq (aw Try.prog O_r11_Prepare K_r11_Prepare_1 Qv) Qv) .ret (ul (E0_r11_Prepare a0 a1 a2) [(3, t3), (6, t6), (7, (Value.slice none 0 0)), (8, (Value.int .i64 10)), (9, a1), (10, t10), (11, t11), (12, t11), (13, t13), (14, t14), (15, t15), (16, t15), (17, t17), (18, t18), (19, t19), (21, a1), (22, t22), (23, t23), (24, t24), (25, t25)]) h17)
  (oFieldAddr 0 t3 h15 fun t27 h18 =>
  oSt 1 t27 a1 h18 fun _ h19 =>
  oLdN 2 t3 h19 fun t28 h20 =>
  oFieldAddr 1 t3 h20 fun t29 h21 =>
  oLd1 t29 h21 fun t30 h22 =>
  C_r11_From [t30, a2] h22 fun t32 h23 =>
  ((oLdN 2 t3 h22 (fun v' _ => v' = t28) → oLdN 2 t3 h23 (fun v' _ => v' = t28)) ∧ True) ∧
  oSt 2 t6 t28 h23 fun _ h24 =>
  ((oLd1 t29 h23 (fun v' _ => v' = t30) → oLd1 t29 h24 (fun v' _ => v' = t30)) ∧ True) ∧
  Qv .ret (ul (E0_r11_Prepare a0 a1 a2) [(3, t3), (6, t6), (7, t32), (8, (Value.int .i64 0)), (9, a1), (10, t10), (11, t11), (12, t11), (13, t13), (14, t14), (15, t15), (16, t15), (17, t17), (18, t18), (19, t19), (21, a1), (22, t22), (23, t23), (24, t24), (26, a1), (27, t27), (28, t28), (29, t29), (30, t30), (31, a2), (32, t32)]) h24))
theorem ga_r11_Prepare (Qv : Post) (a0 a1 a2 : Value) (h : Hp) : aw Try.prog O_r11_Prepare (bodyC Try.f42) Qv (E0_r11_Prepare a0 a1 a2) h = X_r11_Prepare Qv a0 a1 a2 h := by kernel_rfl
theorem gb_r11_Prepare (a0 a1 a2 : Value) (h : Hp) (K : Kont) : X_r11_Prepare (qTop Try.prog Try.f42 K) a0 a1 a2 h = G_r11_Prepare a0 a1 a2 h K := by kernel_rfl
theorem gc_r11_Prepare (a0 a1 a2 : Value) (h : Hp) (K : Kont) : abody Try.prog O_r11_Prepare Try.f42 (bodyC Try.f42) [a0, a1, a2] h K = aw Try.prog O_r11_Prepare (bodyC Try.f42) (qTop Try.prog Try.f42 K) (E0_r11_Prepare a0 a1 a2) h := by kernel_rfl
theorem eq_r11_Prepare (a0 a1 a2 : Value) (h : Hp) (K : Kont) : abody Try.prog O_r11_Prepare Try.f42 (bodyC Try.f42) [a0, a1, a2] h K = G_r11_Prepare a0 a1 a2 h K := (gc_r11_Prepare a0 a1 a2 h K).trans ((ga_r11_Prepare _ a0 a1 a2 h).trans (gb_r11_Prepare a0 a1 a2 h K))
theorem ok_r11_Prepare {a0 a1 a2 : Value} {h : Hp} {K : Kont} (hk : G_r11_Prepare a0 a1 a2 h K) : C_r11_Prepare [a0, a1, a2] h K := ac_of_body prog_mixed (fn := Try.f42) Try.func42 (c := bodyC Try.f42) (by kernel_rfl) ((eq_r11_Prepare a0 a1 a2 h K).mpr hk)

/-! ### catenary/catenaryref11.Accept: function 43 -/
def O_r11_Accept : Od := []
noncomputable def K_r11_Accept_0 : Code := (cB (cB (bodyC Try.f43)))
noncomputable def K_r11_Accept_1 : Code := (cB (cB (cB (bodyC Try.f43))))
noncomputable def K_r11_Accept_2 : Code := (cB (cB (cB (cB (bodyC Try.f43)))))
def G_r11_Accept (a0 a1 a2 a3 : Value) (h : Hp) (K : Kont) : Prop :=
  oBox a0 h fun t4 h1 =>
  oBox a3 h1 fun t7 h2 =>
  oAlloc #[.int .u64 0, .slice none 0 0] h2 fun t8 h3 =>
  C_r07_Is [a1] h3 fun t12 h4 =>
  oNot t12 h4 fun t13 h5 =>
  oGuard t13 false (fun K => K a2 h5) h5 fun t15 h6 =>
  oGuard t13 false (fun K => oBin .lss t15 (Value.int .i64 0) h6 K) h6 fun t16 h7 =>
  oPick t13 (Value.bool true) t16 h7 fun t17 h8 =>
  oGuard t17 false (fun K => K a2 h8) h8 fun t19 h9 =>
  oGuard t17 false (fun K => oBin .gtr t19 (Value.int .i64 511) h9 K) h9 fun t20 h10 =>
  oPick t17 (Value.bool true) t20 h10 fun t21 h11 =>
  oIf t21
  (oLdN 2 t4 h11 fun t22 h12 =>
  oSt 2 t8 t22 h12 fun _ h13 =>
  oLdN 2 t8 h13 fun r1 _ =>
  K (.tuple #[r1, (Value.int .i64 1)]) h13)
  (oLdN 4 t7 h11 fun t23 h14 =>
  C_r08_Check [t23] h14 fun t24 h15 =>
  oBin .neq t24 (Value.int .i64 0) h15 fun t26 h16 =>
  oIf t26
  (oLdN 2 t4 h16 fun t27 h17 =>
  oSt 2 t8 t27 h17 fun _ h18 =>
  oLdN 2 t8 h18 fun r2 _ =>
  K (.tuple #[r2, t24]) h18)
  (oFieldAddr 0 t4 h16 fun t30 h19 =>
  oLd1 t30 h19 fun t31 h20 =>
  oBin .lss a1 t31 h20 fun t32 h21 =>
  oIf t32
  (oLdN 2 t4 h21 fun t33 h22 =>
  oSt 2 t8 t33 h22 fun _ h23 =>
  oLdN 2 t8 h23 fun r3 _ =>
  K (.tuple #[r3, (Value.int .i64 10)]) h23)
  (oFieldAddr 0 t4 h21 fun t35 h24 =>
  oSt 1 t35 a1 h24 fun _ h25 =>
  oFieldAddr 1 t4 h25 fun t36 h26 =>
  oLd1 t36 h26 fun t37 h27 =>
  oLdN 4 t7 h27 fun t40 h28 =>
  oBuild #[.int .i64 0, .int .u64 0, .int .i64 0, .int .i64 0, .int .u64 0, .int .i64 0] [(0, 1, a2), (1, 1, a1), (2, 4, t40)] h28 fun t41 h29 =>
  C_r11_Put [t37, t41] h29 fun t42 h30 =>
  oFieldAddr 1 t4 h30 fun t43 h31 =>
  oSt 1 t43 t42 h31 fun _ h32 =>
  oLdN 2 t4 h32 fun t44 h33 =>
  oSt 2 t8 t44 h33 fun _ h34 =>
  oLdN 2 t8 h34 fun r4 _ =>
  K (.tuple #[r4, (Value.int .i64 0)]) h34)))
def E0_r11_Accept (a0 a1 a2 a3 : Value) : List Value := [a0, a1, a2, a3, undef, undef, undef, undef, undef, undef, undef, undef, undef, undef, undef, undef, undef, undef, undef, undef, undef, undef, undef, undef, undef, undef, undef, undef, undef, undef, undef, undef, undef, undef, undef, undef, undef, undef, undef, undef, undef, undef, undef, undef, undef]
def X_r11_Accept (Qv : Post) (a0 a1 a2 a3 : Value) (h : Hp) : Prop :=
  oBox a0 h fun t4 h1 =>
  oBox a3 h1 fun t7 h2 =>
  oAlloc #[.int .u64 0, .slice none 0 0] h2 fun t8 h3 =>
  C_r07_Is [a1] h3 fun t12 h4 =>
  oNot t12 h4 fun t13 h5 =>
  oGuard t13 false (fun K => K a2 h5) h5 fun t15 h6 =>
  oGuard t13 false (fun K => oBin .lss t15 (Value.int .i64 0) h6 K) h6 fun t16 h7 =>
  oPick t13 (Value.bool true) t16 h7 fun t17 h8 =>
  oGuard t17 false (fun K => K a2 h8) h8 fun t19 h9 =>
  oGuard t17 false (fun K => oBin .gtr t19 (Value.int .i64 511) h9 K) h9 fun t20 h10 =>
  oPick t17 (Value.bool true) t20 h10 fun t21 h11 =>
  oIf t21
  (oLdN 2 t4 h11 fun t22 h12 =>
  oSt 2 t8 t22 h12 fun _ h13 =>
  (qSeq (aw Try.prog O_r11_Accept K_r11_Accept_0 Qv) Qv) .ret (ul (E0_r11_Accept a0 a1 a2 a3) [(4, t4), (7, t7), (8, t8), (9, (Value.int .i64 1)), (11, a1), (12, t12), (13, t13), (14, t13), (15, t15), (16, t16), (17, t17), (18, t17), (19, t19), (20, t20), (21, t21), (22, t22)]) h13)
  (oLdN 4 t7 h11 fun t23 h14 =>
  C_r08_Check [t23] h14 fun t24 h15 =>
  oBin .neq t24 (Value.int .i64 0) h15 fun t26 h16 =>
  oIf t26
  (oLdN 2 t4 h16 fun t27 h17 =>
  oSt 2 t8 t27 h17 fun _ h18 =>
  (qSeq (aw Try.prog O_r11_Accept K_r11_Accept_1 Qv) Qv) .ret (ul (E0_r11_Accept a0 a1 a2 a3) [(4, t4), (7, t7), (8, t8), (9, t24), (10, t24), (11, a1), (12, t12), (13, t13), (14, t13), (15, t15), (16, t16), (17, t17), (18, t17), (19, t19), (20, t20), (21, t21), (23, t23), (24, t24), (25, t24), (26, t26), (27, t27), (28, t24)]) h18)
  (oFieldAddr 0 t4 h16 fun t30 h19 =>
  oLd1 t30 h19 fun t31 h20 =>
  oBin .lss a1 t31 h20 fun t32 h21 =>
  oIf t32
  (oLdN 2 t4 h21 fun t33 h22 =>
  oSt 2 t8 t33 h22 fun _ h23 =>
  (qSeq (aw Try.prog O_r11_Accept K_r11_Accept_2 Qv) Qv) .ret (ul (E0_r11_Accept a0 a1 a2 a3) [(4, t4), (7, t7), (8, t8), (9, (Value.int .i64 10)), (10, t24), (11, a1), (12, t12), (13, t13), (14, t13), (15, t15), (16, t16), (17, t17), (18, t17), (19, t19), (20, t20), (21, t21), (23, t23), (24, t24), (25, t24), (26, t26), (29, a1), (30, t30), (31, t31), (32, t32), (33, t33)]) h23)
  (oFieldAddr 0 t4 h21 fun t35 h24 =>
  oSt 1 t35 a1 h24 fun _ h25 =>
  oFieldAddr 1 t4 h25 fun t36 h26 =>
  oLd1 t36 h26 fun t37 h27 =>
  oLdN 4 t7 h27 fun t40 h28 =>
  oBuild #[.int .i64 0, .int .u64 0, .int .i64 0, .int .i64 0, .int .u64 0, .int .i64 0] [(0, 1, a2), (1, 1, a1), (2, 4, t40)] h28 fun t41 h29 =>
  C_r11_Put [t37, t41] h29 fun t42 h30 =>
  oFieldAddr 1 t4 h30 fun t43 h31 =>
  oSt 1 t43 t42 h31 fun _ h32 =>
  oLdN 2 t4 h32 fun t44 h33 =>
  oSt 2 t8 t44 h33 fun _ h34 =>
  Qv .ret (ul (E0_r11_Accept a0 a1 a2 a3) [(4, t4), (7, t7), (8, t8), (9, (Value.int .i64 0)), (10, t24), (11, a1), (12, t12), (13, t13), (14, t13), (15, t15), (16, t16), (17, t17), (18, t17), (19, t19), (20, t20), (21, t21), (23, t23), (24, t24), (25, t24), (26, t26), (29, a1), (30, t30), (31, t31), (32, t32), (34, a1), (35, t35), (36, t36), (37, t37), (38, a2), (39, a1), (40, t40), (41, t41), (42, t42), (43, t43), (44, t44)]) h34)))
theorem ga_r11_Accept (Qv : Post) (a0 a1 a2 a3 : Value) (h : Hp) : aw Try.prog O_r11_Accept (bodyC Try.f43) Qv (E0_r11_Accept a0 a1 a2 a3) h = X_r11_Accept Qv a0 a1 a2 a3 h := by kernel_rfl
theorem gb_r11_Accept (a0 a1 a2 a3 : Value) (h : Hp) (K : Kont) : X_r11_Accept (qTop Try.prog Try.f43 K) a0 a1 a2 a3 h = G_r11_Accept a0 a1 a2 a3 h K := by kernel_rfl
theorem gc_r11_Accept (a0 a1 a2 a3 : Value) (h : Hp) (K : Kont) : abody Try.prog O_r11_Accept Try.f43 (bodyC Try.f43) [a0, a1, a2, a3] h K = aw Try.prog O_r11_Accept (bodyC Try.f43) (qTop Try.prog Try.f43 K) (E0_r11_Accept a0 a1 a2 a3) h := by kernel_rfl
theorem eq_r11_Accept (a0 a1 a2 a3 : Value) (h : Hp) (K : Kont) : abody Try.prog O_r11_Accept Try.f43 (bodyC Try.f43) [a0, a1, a2, a3] h K = G_r11_Accept a0 a1 a2 a3 h K := (gc_r11_Accept a0 a1 a2 a3 h K).trans ((ga_r11_Accept _ a0 a1 a2 a3 h).trans (gb_r11_Accept a0 a1 a2 a3 h K))
theorem ok_r11_Accept {a0 a1 a2 a3 : Value} {h : Hp} {K : Kont} (hk : G_r11_Accept a0 a1 a2 a3 h K) : C_r11_Accept [a0, a1, a2, a3] h K := ac_of_body prog_mixed (fn := Try.f43) Try.func43 (c := bodyC Try.f43) (by kernel_rfl) ((eq_r11_Accept a0 a1 a2 a3 h K).mpr hk)

/-! ### catenary/accept.rising: function 44 -/
def O_accept_rising : Od := []
noncomputable def K_accept_rising_0 : Code := (cI (cB (cA (cB (cB (bodyC Try.f44))))))
noncomputable def K_accept_rising_1 : Code := (cB (cB (cB (bodyC Try.f44))))
def Q_accept_rising_0 (K : Kont) : Post := qSeq (aw Try.prog O_accept_rising K_accept_rising_1 (qTop Try.prog Try.f44 K)) (qTop Try.prog Try.f44 K)
def Q_accept_rising_1 (K : Kont) : Post := qBlk 0 (Q_accept_rising_0 K)
def E_accept_rising_1 (v0 : Value) (v1 : Value) (v5 : Value) (v10 : Value) (v11 : Value) (v12 : Value) (d : Nat → Value) : List Value := [v0, v1, d 2, d 3, d 4, v5, d 6, d 7, d 8, d 9, v10, v11, v12, d 13, d 14, d 15, d 16, d 17, d 18, d 19, d 20, d 21, d 22, d 23, d 24, d 25, d 26]
def G_accept_rising_1 (K : Kont) (v0 : Value) (v1 : Value) (v5 : Value) (v10 : Value) (v11 : Value) (v12 : Value) (d : Nat → Value) (h : Hp) : Prop := aw Try.prog O_accept_rising K_accept_rising_0 (Q_accept_rising_1 K) (E_accept_rising_1 v0 v1 v5 v10 v11 v12 d) h
def Q_accept_rising_2 (K : Kont) (s0 : Self) : Post := qSeq s0 (Q_accept_rising_1 K)
noncomputable def K_accept_rising_2 : Code := (cI (cI (cB (cA (cB (cB (bodyC Try.f44)))))))
noncomputable def K_accept_rising_3 : Code := (cB (cB (cB (cI (cI (cB (cA (cB (cB (bodyC Try.f44))))))))))
def E_accept_rising_2 (v0 : Value) (v1 : Value) (v5 : Value) (v10 : Value) (v11 : Value) (v12 : Value) (d : Nat → Value) : List Value := [v0, v1, d 2, d 3, d 4, v5, d 6, d 7, d 8, d 9, v10, v11, v12, d 13, d 14, d 15, d 16, d 17, d 18, d 19, d 20, d 21, d 22, d 23, d 24, d 25, d 26]
def G_accept_rising_2 (K : Kont) (s0 : Self) (v0 : Value) (v1 : Value) (v5 : Value) (v10 : Value) (v11 : Value) (v12 : Value) (d : Nat → Value) (h : Hp) : Prop := aw Try.prog O_accept_rising K_accept_rising_3 (Q_accept_rising_2 K s0) (E_accept_rising_2 v0 v1 v5 v10 v11 v12 d) h
noncomputable def K_accept_rising_4 : Code := (cB (cB (cI (cI (cB (cA (cB (cB (bodyC Try.f44)))))))))
def G_accept_rising (a0 a1 : Value) (h : Hp) (K : Kont) : Prop :=
  C_maps_Keys_map_int_api_Vote_int_api_Vote [a0] h fun t9 h1 =>
  C_slices_Sorted_int [t9] h1 fun t10 h2 =>
  oLen 0 t10 h2 fun t11 h3 =>
  G_accept_rising_1 K a0 a1 (Value.slice none 0 0) t10 t11 (Value.int .i64 0) (ud [(4, (Value.slice none 0 0)), (8, a0), (9, t9)] dz) h3
def E0_accept_rising (a0 a1 : Value) : List Value := [a0, a1, undef, undef, undef, undef, undef, undef, undef, undef, undef, undef, undef, undef, undef, undef, undef, undef, undef, undef, undef, undef, undef, undef, undef, undef, undef]
def X_accept_rising (Qv : Post) (a0 a1 : Value) (h : Hp) : Prop :=
  C_maps_Keys_map_int_api_Vote_int_api_Vote [a0] h fun t9 h1 =>
  C_slices_Sorted_int [t9] h1 fun t10 h2 =>
  oLen 0 t10 h2 fun t11 h3 =>
  aw Try.prog O_accept_rising K_accept_rising_0 (qBlk 0 (qSeq (aw Try.prog O_accept_rising K_accept_rising_1 Qv) Qv)) (ul (E0_accept_rising a0 a1) [(4, (Value.slice none 0 0)), (5, (Value.slice none 0 0)), (8, a0), (9, t9), (10, t10), (11, t11), (12, (Value.int .i64 0))]) h3
theorem ga_accept_rising (Qv : Post) (a0 a1 : Value) (h : Hp) : aw Try.prog O_accept_rising (bodyC Try.f44) Qv (E0_accept_rising a0 a1) h = X_accept_rising Qv a0 a1 h := by kernel_rfl
theorem gb_accept_rising (a0 a1 : Value) (h : Hp) (K : Kont) : X_accept_rising (qTop Try.prog Try.f44 K) a0 a1 h = G_accept_rising a0 a1 h K := by kernel_rfl
theorem gc_accept_rising (a0 a1 : Value) (h : Hp) (K : Kont) : abody Try.prog O_accept_rising Try.f44 (bodyC Try.f44) [a0, a1] h K = aw Try.prog O_accept_rising (bodyC Try.f44) (qTop Try.prog Try.f44 K) (E0_accept_rising a0 a1) h := by kernel_rfl
theorem eq_accept_rising (a0 a1 : Value) (h : Hp) (K : Kont) : abody Try.prog O_accept_rising Try.f44 (bodyC Try.f44) [a0, a1] h K = G_accept_rising a0 a1 h K := (gc_accept_rising a0 a1 h K).trans ((ga_accept_rising _ a0 a1 h).trans (gb_accept_rising a0 a1 h K))
theorem ok_accept_rising {a0 a1 : Value} {h : Hp} {K : Kont} (hk : G_accept_rising a0 a1 h K) : C_accept_rising [a0, a1] h K := ac_of_body prog_mixed (fn := Try.f44) Try.func44 (c := bodyC Try.f44) (by kernel_rfl) ((eq_accept_rising a0 a1 h K).mpr hk)
def B_accept_rising_1 (K : Kont) (s0 : Self) (v0 : Value) (v1 : Value) (v5 : Value) (v10 : Value) (v11 : Value) (v12 : Value) (d : Nat → Value) (h : Hp) : Prop :=
  oBin .lss v12 v11 h fun t13 h1 =>
  oIf t13
  (oIdxS 1 v10 v12 h1 fun t14 h2 =>
  oLd1 t14 h2 fun t15 h3 =>
  oBin .geq t15 v1 h3 fun t18 h4 =>
  oIf t18
  (oLookup (.int .i64) (.agg #[.int .i64 0, .int .u64 0, .int .i64 0, .int .i64 0, .int .u64 0, .int .i64 0]) v0 t15 false h4 fun t22 h5 =>
  oBuildSlice #[.int .i64 0, .int .u64 0, .int .i64 0, .int .i64 0, .int .u64 0, .int .i64 0] 1 [(0 * 6, 6, t22)] h5 fun t23 h6 =>
  oAppend 6 48 #[.int .i64 0, .int .u64 0, .int .i64 0, .int .i64 0, .int .u64 0, .int .i64 0] v5 t23 h6 fun t24 h7 =>
  G_accept_rising_2 K s0 v0 v1 t24 v10 v11 v12 (ud [(7, t15), (13, t13), (14, t14), (15, t15), (16, t15), (17, v1), (18, t18), (19, v5), (20, v0), (21, t15), (22, t22), (23, t23), (24, t24)] d) h7)
  (G_accept_rising_2 K s0 v0 v1 v5 v10 v11 v12 (ud [(7, t15), (13, t13), (14, t14), (15, t15), (16, t15), (17, v1), (18, t18)] d) h4))
  (K v5 h1)
def X_accept_rising_1 (Qv : Post) (v0 : Value) (v1 : Value) (v5 : Value) (v10 : Value) (v11 : Value) (v12 : Value) (d : Nat → Value) (h : Hp) : Prop :=
  oBin .lss v12 v11 h fun t13 h1 =>
  oIf t13
  (oIdxS 1 v10 v12 h1 fun t14 h2 =>
  oLd1 t14 h2 fun t15 h3 =>
  oBin .geq t15 v1 h3 fun t18 h4 =>
  oIf t18
  (oLookup (.int .i64) (.agg #[.int .i64 0, .int .u64 0, .int .i64 0, .int .i64 0, .int .u64 0, .int .i64 0]) v0 t15 false h4 fun t22 h5 =>
  oBuildSlice #[.int .i64 0, .int .u64 0, .int .i64 0, .int .i64 0, .int .u64 0, .int .i64 0] 1 [(0 * 6, 6, t22)] h5 fun t23 h6 =>
  oAppend 6 48 #[.int .i64 0, .int .u64 0, .int .i64 0, .int .i64 0, .int .u64 0, .int .i64 0] v5 t23 h6 fun t24 h7 =>
  (qBlk 1 (qSeq (aw Try.prog O_accept_rising K_accept_rising_3 Qv) Qv)) .normal (ul (E_accept_rising_1 v0 v1 v5 v10 v11 v12 d) [(5, t24), (7, t15), (13, t13), (14, t14), (15, t15), (16, t15), (17, v1), (18, t18), (19, v5), (20, v0), (21, t15), (22, t22), (23, t23), (24, t24)]) h7)
  ((qBlk 1 (qSeq (aw Try.prog O_accept_rising K_accept_rising_3 Qv) Qv)) .normal (ul (E_accept_rising_1 v0 v1 v5 v10 v11 v12 d) [(7, t15), (13, t13), (14, t14), (15, t15), (16, t15), (17, v1), (18, t18)]) h4))
  ((qSeq (aw Try.prog O_accept_rising K_accept_rising_4 Qv) Qv) (.exit 0) (ul (E_accept_rising_1 v0 v1 v5 v10 v11 v12 d) [(13, t13)]) h1)
theorem ga_accept_rising_1 (Qv : Post) (v0 : Value) (v1 : Value) (v5 : Value) (v10 : Value) (v11 : Value) (v12 : Value) (d : Nat → Value) (h : Hp) : aw Try.prog O_accept_rising K_accept_rising_2 Qv (E_accept_rising_1 v0 v1 v5 v10 v11 v12 d) h = X_accept_rising_1 Qv v0 v1 v5 v10 v11 v12 d h := by kernel_rfl
theorem gb_accept_rising_1 (K : Kont) (s0 : Self) (v0 : Value) (v1 : Value) (v5 : Value) (v10 : Value) (v11 : Value) (v12 : Value) (d : Nat → Value) (h : Hp) : X_accept_rising_1 (Q_accept_rising_2 K s0) v0 v1 v5 v10 v11 v12 d h = B_accept_rising_1 K s0 v0 v1 v5 v10 v11 v12 d h := by kernel_rfl
theorem beq_accept_rising_1 (K : Kont) (s0 : Self) (v0 : Value) (v1 : Value) (v5 : Value) (v10 : Value) (v11 : Value) (v12 : Value) (d : Nat → Value) (h : Hp) : aw Try.prog O_accept_rising K_accept_rising_2 (Q_accept_rising_2 K s0) (E_accept_rising_1 v0 v1 v5 v10 v11 v12 d) h = B_accept_rising_1 K s0 v0 v1 v5 v10 v11 v12 d h := (ga_accept_rising_1 _ v0 v1 v5 v10 v11 v12 d h).trans (gb_accept_rising_1 K s0 v0 v1 v5 v10 v11 v12 d h)
theorem rule_accept_rising_1 {K : Kont} {v0 : Value} {v1 : Value} {v10 : Value} {v11 : Value} (Inv : Value → Value → Hp → Prop) (μ : Value → Value → Hp → Nat)
    (step : ∀ (s0 : Self) (v5 : Value) (v12 : Value) (d : Nat → Value) (h : Hp), Inv v5 v12 h → (∀ (v5' : Value) (v12' : Value) (d' : Nat → Value) (h' : Hp), Inv v5' v12' h' → μ v5' v12' h' < μ v5 v12 h → s0 (E_accept_rising_1 v0 v1 v5' v10 v11 v12' d') h') → B_accept_rising_1 K s0 v0 v1 v5 v10 v11 v12 d h) (v5 : Value) (v12 : Value) (d : Nat → Value) (h : Hp) (hi : Inv v5 v12 h) : G_accept_rising_1 K v0 v1 v5 v10 v11 v12 d h :=
  oLoop_rule (α := Value × Value × (Nat → Value)) (fun x => E_accept_rising_1 v0 v1 x.1 v10 v11 x.2.1 x.2.2) (fun x h => Inv x.1 x.2.1 h) (fun x h => μ x.1 x.2.1 h)
    (fun self x h hx hs => (beq_accept_rising_1 K self v0 v1 x.1 v10 v11 x.2.1 x.2.2 h).mpr (step self x.1 x.2.1 x.2.2 h hx (fun v5' v12' d' h' h1 h2 => hs ⟨v5', v12', d'⟩ h' h1 h2))) ⟨v5, v12, d⟩ h hi
def R_accept_rising_2 (K : Kont) (s0 : Self) (v0 : Value) (v1 : Value) (v5 : Value) (v10 : Value) (v11 : Value) (v12 : Value) (d : Nat → Value) (h : Hp) : Prop :=
  oBin .add v12 (Value.int .i64 1) h fun t25 h1 =>
  s0 (E_accept_rising_1 v0 v1 v5 v10 v11 t25 (ud [(25, t25)] d)) h1
def X_accept_rising_2 (Qv : Post) (v0 : Value) (v1 : Value) (v5 : Value) (v10 : Value) (v11 : Value) (v12 : Value) (d : Nat → Value) (h : Hp) : Prop :=
  oBin .add v12 (Value.int .i64 1) h fun t25 h1 =>
  Qv .normal (ul (E_accept_rising_2 v0 v1 v5 v10 v11 v12 d) [(12, t25), (25, t25)]) h1
theorem ga_accept_rising_2 (Qv : Post) (v0 : Value) (v1 : Value) (v5 : Value) (v10 : Value) (v11 : Value) (v12 : Value) (d : Nat → Value) (h : Hp) : aw Try.prog O_accept_rising K_accept_rising_3 Qv (E_accept_rising_2 v0 v1 v5 v10 v11 v12 d) h = X_accept_rising_2 Qv v0 v1 v5 v10 v11 v12 d h := by kernel_rfl
theorem gb_accept_rising_2 (K : Kont) (s0 : Self) (v0 : Value) (v1 : Value) (v5 : Value) (v10 : Value) (v11 : Value) (v12 : Value) (d : Nat → Value) (h : Hp) : X_accept_rising_2 (Q_accept_rising_2 K s0) v0 v1 v5 v10 v11 v12 d h = R_accept_rising_2 K s0 v0 v1 v5 v10 v11 v12 d h := by kernel_rfl
theorem req_accept_rising_2 (K : Kont) (s0 : Self) (v0 : Value) (v1 : Value) (v5 : Value) (v10 : Value) (v11 : Value) (v12 : Value) (d : Nat → Value) (h : Hp) : G_accept_rising_2 K s0 v0 v1 v5 v10 v11 v12 d h = R_accept_rising_2 K s0 v0 v1 v5 v10 v11 v12 d h := (ga_accept_rising_2 _ v0 v1 v5 v10 v11 v12 d h).trans (gb_accept_rising_2 K s0 v0 v1 v5 v10 v11 v12 d h)

/-! ### catenary/ballot.Is: function 45 -/
def O_ballot_Is : Od := []
def G_ballot_Is (a0 : Value) (h : Hp) (K : Kont) : Prop :=
  oBin .quo a0 (Value.int .u64 8) h fun t4 h1 =>
  oBin .geq t4 (Value.int .u64 1) h1 fun t5 h2 =>
  oGuard t5 true (fun K => K a0 h2) h2 fun t7 h3 =>
  oGuard t5 true (fun K => oBin .quo t7 (Value.int .u64 8) h3 K) h3 fun t8 h4 =>
  oGuard t5 true (fun K => oBin .lss t8 (Value.int .u64 1152921504606846976) h4 K) h4 fun t9 h5 =>
  oPick t5 t9 (Value.bool false) h5 fun t10 h6 =>
  oGuard t10 true (fun K => K a0 h6) h6 fun t12 h7 =>
  oGuard t10 true (fun K => oBin .rem t12 (Value.int .u64 8) h7 K) h7 fun t13 h8 =>
  oGuard t10 true (fun K => oConvInt .i64 t13 h8 K) h8 fun t14 h9 =>
  oGuard t10 true (fun K => C_ballot_master [t14] h9 K) h9 fun t15 h10 =>
  oPick t10 t15 (Value.bool false) h10 fun t16 h11 =>
  K t16 h11
def E0_ballot_Is (a0 : Value) : List Value := [a0, undef, undef, undef, undef, undef, undef, undef, undef, undef, undef, undef, undef, undef, undef, undef, undef]
def X_ballot_Is (Qv : Post) (a0 : Value) (h : Hp) : Prop :=
  oBin .quo a0 (Value.int .u64 8) h fun t4 h1 =>
  oBin .geq t4 (Value.int .u64 1) h1 fun t5 h2 =>
  oGuard t5 true (fun K => K a0 h2) h2 fun t7 h3 =>
  oGuard t5 true (fun K => oBin .quo t7 (Value.int .u64 8) h3 K) h3 fun t8 h4 =>
  oGuard t5 true (fun K => oBin .lss t8 (Value.int .u64 1152921504606846976) h4 K) h4 fun t9 h5 =>
  oPick t5 t9 (Value.bool false) h5 fun t10 h6 =>
  oGuard t10 true (fun K => K a0 h6) h6 fun t12 h7 =>
  oGuard t10 true (fun K => oBin .rem t12 (Value.int .u64 8) h7 K) h7 fun t13 h8 =>
  oGuard t10 true (fun K => oConvInt .i64 t13 h8 K) h8 fun t14 h9 =>
  oGuard t10 true (fun K => C_ballot_master [t14] h9 K) h9 fun t15 h10 =>
  oPick t10 t15 (Value.bool false) h10 fun t16 h11 =>
  Qv .ret (ul (E0_ballot_Is a0) [(2, t16), (3, a0), (4, t4), (5, t5), (6, t5), (7, t7), (8, t8), (9, t9), (10, t10), (11, t10), (12, t12), (13, t13), (14, t14), (15, t15), (16, t16)]) h11
theorem ga_ballot_Is (Qv : Post) (a0 : Value) (h : Hp) : aw Try.prog O_ballot_Is (bodyC Try.f45) Qv (E0_ballot_Is a0) h = X_ballot_Is Qv a0 h := by kernel_rfl
theorem gb_ballot_Is (a0 : Value) (h : Hp) (K : Kont) : X_ballot_Is (qTop Try.prog Try.f45 K) a0 h = G_ballot_Is a0 h K := by kernel_rfl
theorem gc_ballot_Is (a0 : Value) (h : Hp) (K : Kont) : abody Try.prog O_ballot_Is Try.f45 (bodyC Try.f45) [a0] h K = aw Try.prog O_ballot_Is (bodyC Try.f45) (qTop Try.prog Try.f45 K) (E0_ballot_Is a0) h := by kernel_rfl
theorem eq_ballot_Is (a0 : Value) (h : Hp) (K : Kont) : abody Try.prog O_ballot_Is Try.f45 (bodyC Try.f45) [a0] h K = G_ballot_Is a0 h K := (gc_ballot_Is a0 h K).trans ((ga_ballot_Is _ a0 h).trans (gb_ballot_Is a0 h K))
theorem ok_ballot_Is {a0 : Value} {h : Hp} {K : Kont} (hk : G_ballot_Is a0 h K) : C_ballot_Is [a0] h K := ac_of_body prog_mixed (fn := Try.f45) Try.func45 (c := bodyC Try.f45) (by kernel_rfl) ((eq_ballot_Is a0 h K).mpr hk)

end Go.Proofs.Ytdolepapmpcpiaa

