/- Code: what must hold before it, and that the model's machine does it. -/
import Derived.Test.YtdolepapmpcpiaaVCode2
import Derived.Scope
namespace Go.Proofs.Ytdolepapmpcpiaa
open Go Go.MapKept
set_option linter.unusedSectionVars false
variable [Base]
set_option linter.unusedVariables false
set_option linter.unusedSimpArgs false

variable {P : Program}

/-- How a piece of code is left. -/
inductive Ex where
  | normal
  | exit (id : Nat)
  | ret

abbrev Post := Ex → List Value → Hp → Prop

def loopN (B : (List Value → Hp → Prop) → List Value → Hp → Prop) : Nat → List Value → Hp → Prop
  | 0, _, _ => False
  | n + 1, env, h => B (loopN B n) env h
def oLoop (B : (List Value → Hp → Prop) → List Value → Hp → Prop) (env : List Value) (h : Hp) : Prop := ∃ n, loopN B n env h
def oIf (c : Value) (a b : Prop) : Prop :=
  match c with
  | .bool true => a
  | .bool false => b
  | _ => False
/-- What is left: k behind a normal end, Q behind any other. -/
def qSeq (k : List Value → Hp → Prop) (Q : Post) : Post
  | .normal, env, h => k env h
  | .exit id, env, h => Q (.exit id) env h
  | .ret, env, h => Q .ret env h
def qBlk (id : Nat) (Q : Post) : Post
  | .normal, env, h => Q .normal env h
  | .exit id', env, h => if id' = id then Q .normal env h else Q (.exit id') env h
  | .ret, env, h => Q .ret env h

/-- A table: the orders of a function's regions. -/
def odOf : List (Nat × OT) → Nat → OT
  | [], _ => .nil
  | (j, l) :: r, i => if j == i then l else odOf r i
abbrev Od := List (Nat × OT)

def aw (P : Program) (od : Od) : Code → Post → List Value → Hp → Prop
  | .skip, Q, env, h => Q .normal env h
  | .region id ops draw, Q, env, h =>
    match draw with
    | false => aregN P ops ops.toList (Q .normal) env h
    | true =>
      match ordOk ops (odOf od id) with
      | true => acanL P ops (Q .normal) (odOf od id) [] env h
      | false => False
  | .seq a b, Q, env, h => aw P od a (qSeq (aw P od b Q) Q) env h
  | .cond c x y, Q, env, h => oIf (ev env c) (aw P od x Q env h) (aw P od y Q env h)
  | .block id body, Q, env, h => aw P od body (qBlk id Q) env h
  | .loop body, Q, env, h => oLoop (fun self env h => aw P od body (qSeq self Q) env h) env h
  | .exit id, Q, env, h => Q (.exit id) env h
  | .ret, Q, env, h => Q .ret env h
  | _, _, _, _ => False

def up (Q : Post) : Exit → Act → World → Prop
  | .normal, a, w => ∃ env, a = actOf env ∧ Q .normal env (hv w)
  | .exit id, a, w => ∃ env, a = actOf env ∧ Q (.exit id) env (hv w)
  | .ret, a, w => ∃ env, a = actOf env ∧ Q .ret env (hv w)
  | _, _, _ => False

theorem aw_sound {od : Od} (hm : P.follows .mixedOrders = true) : ∀ (c : Code) (Q : Post) (env : List Value) (w : World), aw P od c Q env (hv w) → c.wp P (up Q) (actOf env) w
  | .skip, Q, env, w, h => wp_skip ⟨env, rfl, h⟩
  | .region id ops draw, Q, env, w, h => by
    cases draw with
    | false =>
      simp only [aw] at h
      refine wp_region ?_
      have := aregN_sound (P := P) (ops := ops) (Qn := Q .normal) (Q := up Q) (fun env w hq => ⟨env, rfl, hq⟩) ops.toList 0 env w rfl h
      rw [List.range_eq_range']
      simpa using this
    | true =>
      simp only [aw] at h
      split at h
      · rename_i hok
        simp only [ordOk, Bool.and_eq_true, beq_iff_eq] at hok
        refine wp_region_any hm ?_
        have ht : Tells ops (Array.replicate ops.size false) 0 := ⟨by simp, fun j => by simp [Array.getD_eq_getD_getElem?, Array.getElem?_replicate]; split <;> rfl⟩
        have := acanL_sound (P := P) (ops := ops) (Q := up Q) (Qn := Q .normal) hok.1 (fun c a w hx => hx) (fun env w hq => ⟨env, rfl, hq⟩) (odOf od id) [] _ 0 _ env { w with drawn := w.drawn + 1 } ht hok.2 h
        exact wpAny_of_G _ _ _ _ this
      · exact h.elim
  | .seq a b, Q, env, w, h => by
    simp only [aw] at h
    refine wp_seq (wp_mono (aw_sound hm a _ env w h) ?_)
    intro e a' w' hq
    cases e with
    | normal => obtain ⟨env', rfl, hq⟩ := hq; exact aw_sound hm b Q env' w' hq
    | exit id => exact hq
    | ret => exact hq
    | goto l => exact hq
    | panic c => exact hq
    | outgrown => exact hq
  | .cond c x y, Q, env, w, h => by
    simp only [aw, oIf] at h
    split at h
    · rename_i hc
      exact wp_cond_true (by rw [eval_actOf]; exact hc) (aw_sound hm x Q env w h)
    · rename_i hc
      exact wp_cond_false (by rw [eval_actOf]; exact hc) (aw_sound hm y Q env w h)
    · exact h.elim
  | .block id body, Q, env, w, h => by
    simp only [aw] at h
    refine wp_block (wp_mono (aw_sound hm body _ env w h) ?_)
    intro e a' w' hq
    cases e with
    | normal => exact hq
    | exit id' =>
      obtain ⟨env', rfl, hq⟩ := hq
      simp only [Exit.inBlock]
      by_cases he : id' = id
      · simp only [qBlk, if_pos he] at hq; rw [if_pos he]; exact ⟨env', rfl, hq⟩
      · simp only [qBlk, if_neg he] at hq; rw [if_neg he]; exact ⟨env', rfl, hq⟩
    | ret => exact hq
    | goto l => exact hq
    | panic c => exact hq
    | outgrown => exact hq
  | .loop body, Q, env, w, h => by
    simp only [aw] at h
    obtain ⟨n, h⟩ := h
    refine wp_loop_rounds n ?_
    induction n generalizing env w with
    | zero => exact h.elim
    | succ n ih =>
      simp only [loopN] at h
      rw [rounds_succ]
      refine wp_mono (aw_sound hm body _ env w h) ?_
      intro e a' w' hq
      cases e with
      | normal => obtain ⟨env', rfl, hq⟩ := hq; exact ih env' w' hq
      | exit id => exact hq
      | ret => exact hq
      | goto l => exact hq
      | panic c => exact hq
      | outgrown => exact hq
  | .exit id, Q, env, w, h => wp_exit ⟨env, rfl, h⟩
  | .ret, Q, env, w, h => wp_ret ⟨env, rfl, h⟩
  | .scope _, _, _, _, h => h.elim
  | .label _, _, _, _, h => h.elim
  | .goto _, _, _, _, h => h.elim
  | .rangeFunc _ _ _ _, _, _, _, h => h.elim
  | .refuse _, _, _, _, h => h.elim

/-! ### A function -/

/-- The results, read at the end. -/
def aresL (P : Program) : List ResultVar → List Value → Hp → (List Value → Prop) → Prop
  | [], env, h, K => K []
  | .tmp t :: r, env, h, K => aresL P r env h fun l => K (env.getD t undef :: l)
  | .cell a t :: r, env, h, K =>
    match lay P t with
    | some none => oLd1 (env.getD a undef) h fun v _ => aresL P r env h fun l => K (v :: l)
    | some (some n) => oLdN n (env.getD a undef) h fun v _ => aresL P r env h fun l => K (v :: l)
    | none => False
def tupleOf : List Value → Value
  | [v] => v
  | l => .tuple l.toArray
def aret (P : Program) (fn : Func) (env : List Value) (h : Hp) (K : Kont) : Prop := aresL P fn.results.toList env h fun l => K (tupleOf l) h

theorem ares_run {w : World} {env : List Value} : ∀ {l : List ResultVar} {K : List Value → Prop}, aresL P l env (hv w) K →
    ∃ vs, (l.mapM (fun | .tmp t => pure ((actOf env).tmps.getD t undef) | .cell a t => do loadVar t (← asAddr ((actOf env).tmps.getD a undef)) : ResultVar → Sem Value)).run P w = .ok vs w ∧ K vs
  | [], K, h => ⟨[], by simp, h⟩
  | .tmp t :: r, K, h => by
    obtain ⟨vs, hr, hk⟩ := ares_run (l := r) h
    have ht : (actOf env).tmps.getD t undef = env.getD t undef := by simp [actOf]
    exact ⟨_, by simp only [List.mapM_cons, Sem.run_bind, Sem.run_pure, Result.andThen, hr, ht], hk⟩
  | .cell a t :: r, K, h => by
    have ht : (actOf env).tmps.getD a undef = env.getD a undef := by simp [actOf]
    simp only [aresL] at h
    cases hl : lay P t with
    | none => simp [hl] at h
    | some l =>
      have hld := snd_load (P := P) (x := env.getD a undef) (w := w) (K := fun v _ => aresL P r env (hv w) fun l => K (v :: l)) hl (by cases l <;> simpa only [hl] using h)
      obtain ⟨v, hrun, hrest⟩ := hld
      obtain ⟨vs, hr, hk⟩ := ares_run (l := r) hrest
      refine ⟨v :: vs, ?_, hk⟩
      have hsa : (do loadVar t (← asAddr ((actOf env).tmps.getD a undef)) : Sem Value).run P w = .ok v w := by
        rw [ht]
        cases hx : env.getD a undef with
        | pointer p =>
          cases p with
          | none => cases l <;> (simp only [hl, oLd1, oLdN] at h; rw [hx] at h; exact h.elim)
          | some p => rw [hx] at hrun; simpa [asAddr, Instr.loadAt, Instr.sureAddr] using hrun
        | _ => cases l <;> (simp only [hl, oLd1, oLdN] at h; rw [hx] at h; exact h.elim)
      simp only [List.mapM_cons, Sem.run_bind] at hsa ⊢
      rw [hsa]
      simp only [Result.andThen, Sem.run_bind, hr, Sem.run_pure]

theorem aret_sound {fn : Func} {env : List Value} {w : World} {K : Kont} (h : aret P fn env (hv w) K) : ∃ v, (results fn (actOf env).tmps).run P w = .ok v w ∧ K v (hv w) := by
  obtain ⟨vs, hr, hk⟩ := ares_run h
  refine ⟨tupleOf vs, ?_, hk⟩
  unfold results
  rw [Array.mapM_eq_mapM_toList, Sem.run_bind, Sem.run_map]
  erw [hr]
  simp only [Result.andThen, Sem.run_pure]
  congr 1
  match vs with
  | [] => rfl
  | [v] => rfl
  | a :: b :: r => simp [tupleOf]

/-- A function's body, from its arguments on. -/
def qTop (P : Program) (fn : Func) (K : Kont) : Post
  | .normal, env, h => aret P fn env h K
  | .ret, env, h => aret P fn env h K
  | .exit _, _, _ => False
def abody (P : Program) (od : Od) (fn : Func) (c : Code) (args : List Value) (h : Hp) (K : Kont) : Prop :=
  aw P od c (qTop P fn K) (args ++ List.replicate (fn.ntmps - args.length) undef) h

theorem ac_of_body {od : Od} (hm : P.follows .mixedOrders = true) {f : FuncId} {fn : Func} {c : Code} (hf : P.funcs[f]? = some fn) (hb : fn.body = some c) {args : List Value} {h : Hp} {K : Kont} (hk : abody P od fn c args h K) : AC P f args.toArray h K := by
  rintro w rfl
  refine calls_of_wp hf hb ?_
  have := aw_sound hm c _ _ w hk
  have he : (actOf (args ++ List.replicate (fn.ntmps - args.length) undef)) = { tmps := args.toArray ++ Array.replicate (fn.ntmps - args.toArray.size) undef, defers := [] } := by simp [actOf]
  rw [← he]
  refine wp_mono this ?_
  intro e a' w' hq
  cases e with
  | normal =>
    obtain ⟨env, rfl, hq⟩ := hq
    obtain ⟨v, hr, hk⟩ := aret_sound hq
    exact ⟨rfl, v, hr, v, rfl, hk⟩
  | ret =>
    obtain ⟨env, rfl, hq⟩ := hq
    obtain ⟨v, hr, hk⟩ := aret_sound hq
    exact ⟨rfl, v, hr, v, rfl, hk⟩
  | exit id => obtain ⟨env, _, hq⟩ := hq; exact hq.elim
  | goto l => exact hq.elim
  | panic c => exact hq.elim
  | outgrown => exact hq.elim

/-- A loop: what holds at each round's head, and a measure that falls. -/
theorem oLoop_rule {α : Type} {B : (List Value → Hp → Prop) → List Value → Hp → Prop} (E : α → List Value) (Inv : α → Hp → Prop) (μ : α → Hp → Nat)
    (step : ∀ (self : List Value → Hp → Prop) (s : α) (h : Hp), Inv s h → (∀ s' h', Inv s' h' → μ s' h' < μ s h → self (E s') h') → B self (E s) h) (s : α) (h : Hp) (hi : Inv s h) : oLoop B (E s) h := by
  have key : ∀ (n : Nat) (s : α) (h : Hp), Inv s h → μ s h < n → loopN B n (E s) h := by
    intro n
    induction n with
    | zero => intro s h _ hm; omega
    | succ n ih => intro s h hi hm; exact step _ s h hi (fun s' h' hi' hm' => ih s' h' hi' (by omega))
  exact ⟨μ s h + 1, key _ s h hi (by omega)⟩

/-- Slots that nobody reads any more. -/
def dl (l : List Value) : Nat → Value := fun i => l.getD i undef

end Go.Proofs.Ytdolepapmpcpiaa
