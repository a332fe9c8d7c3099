/- Regions whose order is drawn: what only computes or reads is taken first. -/
import Derived.Test.YtdolepapmpcpiaaVCode
namespace Go.Proofs.Ytdolepapmpcpiaa
open Go Go.MapKept
set_option linter.unusedSectionVars false
variable [Base]
set_option linter.unusedVariables false
set_option linter.unusedSimpArgs false

variable {P : Program} {ops : Array Oper}

def ev (env : List Value) : Operand → Value
  | .tmp t => env.getD t undef
  | .const v => v
  | .global g => .pointer (some ⟨g, 0, none⟩)
  | .func f => .func (.func f) #[] #[]
def putE (env : List Value) (dst : Option Tmp) (v : Value) : List Value :=
  match dst with
  | some d => env.set d v
  | none => env
def actOf (env : List Value) : Act := ⟨env.toArray, []⟩
theorem eval_actOf (env : List Value) : (actOf env).eval = ev env := by
  funext x
  cases x <;> simp [Act.eval, ev, actOf]
theorem put_actOf (env : List Value) (dst : Option Tmp) (v : Value) : (actOf env).put dst v = actOf (putE env dst v) := by
  cases dst <;> simp [Act.put, putE, actOf]

/-- A guard's value. -/
def gval (ops : Array Oper) (j : Nat) (env : List Value) : Value :=
  match ops[j]? with
  | some o => match o.dst with
    | some d => env.getD d undef
    | none => undef
  | none => undef
def oGuard (g : Value) (want : Bool) (m : Kont → Prop) (h : Hp) (K : Kont) : Prop :=
  match g with
  | .bool b => match b, want with
    | true, true => m K
    | false, false => m K
    | true, false => K undef h
    | false, true => K undef h
  | _ => K undef h
theorem yielded_actOf (ops : Array Oper) (env : List Value) (j : Nat) : yielded ops (actOf env).tmps j = match gval ops j env with | .bool b => some b | _ => none := by
  unfold yielded gval actOf
  cases hj : ops[j]? with
  | none => rfl
  | some o =>
    cases hd : o.dst with
    | none => simp only [Option.bind_some, hd]; rfl
    | some d =>
      simp only [Option.bind_some, hd, List.getElem?_toArray, List.getD]
      cases env[d]? with
      | none => rfl
      | some v => cases v <;> rfl
/-- An operation, if it is wanted. -/
def aopG (P : Program) (ops : Array Oper) (o : Oper) (env : List Value) (h : Hp) (K : Kont) : Prop :=
  match o.guard with
  | none => aop P o (ev env) h K
  | some (j, want) => oGuard (gval ops j env) want (fun K => aop P o (ev env) h K) h K

theorem wanted_cases (o : Oper) (env : List Value) (h : Hp) (K : Kont) (hk : aopG P ops o env h K) :
    (Region.wanted o (yielded ops (actOf env).tmps) = true ∧ aop P o (ev env) h K) ∨ (Region.wanted o (yielded ops (actOf env).tmps) = false ∧ K undef h) := by
  unfold aopG at hk
  unfold Region.wanted
  cases hg : o.guard with
  | none => rw [hg] at hk; exact .inl ⟨rfl, hk⟩
  | some g =>
    obtain ⟨j, want⟩ := g
    simp only [hg] at hk
    simp only [yielded_actOf]
    unfold oGuard at hk
    split at hk
    · rename_i b hb
      try rw [hb]
      cases b <;> cases want <;> simp at hk ⊢ <;> first | exact .inl hk | exact hk
    · rename_i hb
      refine .inr ⟨?_, hk⟩
      cases hgv : gval ops j env <;> simp <;> exact absurd hgv (hb _)

theorem upon_of_ok {o : Oper} {a : Act} {r : Result Next} {K : Kont} {next : Act → World → Prop} {Q : Exit → Act → World → Prop} (h : OpOk P r K) (hn : ∀ v w', K v (hv w') → next (a.put o.dst v) w') : o.upon P a next Q r := by
  unfold OpOk at h
  split at h
  · exact hn _ _ h
  · exact hn _ _ h
  · simp only [Oper.upon]
    refine (h _ rfl).mono ?_
    rintro e w'' ⟨v, rfl, hk⟩
    exact hn _ _ hk
  · exact h.elim

theorem wpOp_of_aop {i : Nat} {o : Oper} (hi : ops[i]? = some o) {env : List Value} {w : World} {K : Kont} (hk : aopG P ops o env (hv w) K) {next : Act → World → Prop} {Q : Exit → Act → World → Prop}
    (hn : ∀ v w', K v (hv w') → next (actOf (putE env o.dst v)) w') : wpOp P ops Q i next (actOf env) w := by
  unfold wpOp
  simp only [hi]
  rcases wanted_cases o env (hv w) K hk with ⟨hw, ha⟩ | ⟨hw, ha⟩
  · simp only [hw, if_true]
    refine .inl ?_
    unfold Oper.wp
    rw [eval_actOf]
    exact upon_of_ok (aop_sound (fun f => rfl) ha) (fun v w' hk => by rw [put_actOf]; exact hn v w' hk)
  · simp only [hw, Bool.false_eq_true, if_false]
    rw [put_actOf]
    exact hn _ _ ha

/-! ### In the order of the text -/

def aregN (P : Program) (ops : Array Oper) : List Oper → (List Value → Hp → Prop) → List Value → Hp → Prop
  | [], Q, env, h => Q env h
  | o :: r, Q, env, h => aopG P ops o env h (fun v h' => aregN P ops r Q (putE env o.dst v) h')

theorem aregN_sound {Qn : List Value → Hp → Prop} {Q : Exit → Act → World → Prop} (hq : ∀ env w, Qn env (hv w) → Q .normal (actOf env) w) : ∀ (l : List Oper) (i : Nat) (env : List Value) (w : World),
    ops.toList.drop i = l → aregN P ops l Qn env (hv w) → wpOps P ops Q (List.range' i l.length) (actOf env) w
  | [], i, env, w, hl, hk => by simpa [wpOps] using hq _ _ hk
  | o :: r, i, env, w, hl, hk => by
    have hi : ops[i]? = some o := by
      have := congrArg (fun l => l[0]?) hl
      simpa using this
    have hr : ops.toList.drop (i + 1) = r := by
      have := congrArg List.tail hl
      simpa using this
    simp only [List.length_cons, List.range'_succ, wpOps_cons]
    exact wpOp_of_aop hi hk (fun v w' hk => aregN_sound hq r (i + 1) _ w' hr hk)

/-! ### Where an order is drawn -/

def indep (ops : Array Oper) (j i : Nat) : Bool :=
  match ops[j]? with
  | some oj => oj.after.toList.all fun e => !(Region.binds .any e) || e.on != i
  | none => true
abbrev HeldW := List (Nat × (World → Prop))
def wpAnyG (P : Program) (ops : Array Oper) (Q : Exit → Act → World → Prop) (H : HeldW) : Nat → Array Bool → Act → World → Prop
  | 0, listed, a, w => Region.ready .any ops listed = [] ∧ Q .normal a w
  | fuel + 1, listed, a, w =>
    (Region.ready .any ops listed = [] → Q .normal a w) ∧
    ∀ j ∈ Region.ready .any ops listed, wpOp P ops Q j (fun a' w' => (∀ p ∈ H, indep ops j p.1 = true → p.2 w → p.2 w') ∧ wpAnyG P ops Q H fuel (listed.setIfInBounds j true) a' w') a w

variable {Q : Exit → Act → World → Prop}
theorem wpAny_of_G {H : HeldW} : ∀ (fuel : Nat) (listed : Array Bool) (a : Act) (w : World), wpAnyG P ops Q H fuel listed a w → wpAny P .any ops Q fuel listed a w
  | 0, _, _, _, h => h
  | fuel + 1, _, _, _, h => ⟨h.1, fun i hi => wpOp_mono (fun a' w' h' => wpAny_of_G fuel _ a' w' h'.2) (h.2 i hi)⟩
theorem wpAnyG_weaken {H H' : HeldW} (hs : ∀ p ∈ H, p ∈ H') : ∀ (fuel : Nat) (listed : Array Bool) (a : Act) (w : World), wpAnyG P ops Q H' fuel listed a w → wpAnyG P ops Q H fuel listed a w
  | 0, _, _, _, h => h
  | fuel + 1, _, _, _, h => ⟨h.1, fun i hi => wpOp_mono (fun a' w' h' => ⟨fun p hp => h'.1 p (hs p hp), wpAnyG_weaken hs fuel _ a' w' h'.2⟩) (h.2 i hi)⟩

theorem indep_of_ready {j i : Nat} {listed : Array Bool} (hj : j ∈ Region.ready .any ops listed) (hi : i ∈ Region.ready .any ops listed) : indep ops j i = true := by
  obtain ⟨_, oj, hoj, hall⟩ := mem_ready.1 hj
  have hi0 := (mem_ready.1 hi).1
  unfold indep
  simp only [hoj, List.all_eq_true]
  intro e he
  cases hb : Region.binds .any e with
  | false => rfl
  | true =>
    have h1 := hall e (Array.mem_toList_iff.1 he) hb
    simp only [Bool.not_true, Bool.false_or, bne_iff_ne, ne_eq]
    intro heq
    rw [heq] at h1
    rcases Nat.lt_or_ge i listed.size with hl | hl
    · simp [hl] at hi0 h1; rw [hi0] at h1; cases h1
    · simp [Array.getElem?_eq_none hl] at h1

/-- What may come up now, and answers the same wherever its condition holds, may be taken now. -/
theorem wpAnyG_first {H : HeldW} {i : Nat} {oi : Oper} {v : Value} {S : World → Prop} (hi : ops[i]? = some oi) (hs : Region.noSelect ops = true) (hQ : ∀ c a w, ¬ Q (.panic c) a w) (hH : (i, S) ∈ H) :
    ∀ (fuel : Nat) (listed : Array Bool) (a : Act) (w : World),
      (∀ j oj, ops[j]? = some oj → j ≠ i → listed.getD j true = false → (∀ e ∈ oj.after, Region.binds .any e = true → e.on ≠ i) → oi.apart ops oj = true) →
      i ∈ Region.ready .any ops listed → YieldsIf P ops S oi v a → S w →
      wpAnyG P ops Q H fuel (listed.setIfInBounds i true) (a.put oi.dst v) w → wpAnyG P ops Q H (fuel + 1) listed a w := by
  have hsel := Region.noSelect_spec hs
  intro fuel
  induction fuel with
  | zero =>
    intro listed a w _ hr hy hS hg
    refine ⟨fun h => (by rw [h] at hr; cases hr), fun j hj => ?_⟩
    by_cases hji : j = i
    · subst hji; exact hy.wpOp hi hS ⟨fun p _ _ h => h, hg⟩
    · have := ready_mono hj hji
      rw [hg.1] at this
      cases this
  | succ fuel ih =>
    intro listed a w hfree hr hy hS hg
    refine ⟨fun h => (by rw [h] at hr; cases hr), fun j hj => ?_⟩
    by_cases hji : j = i
    · subst hji; exact hy.wpOp hi hS ⟨fun p _ _ h => h, hg⟩
    · have h1 := hg.2 j (ready_mono hj hji)
      have hind := indep_of_ready hj hr
      obtain ⟨hjun, oj, hoj, hall⟩ := mem_ready.1 hj
      have hnot : ∀ e ∈ oj.after, Region.binds .any e = true → e.on ≠ i := by
        intro e he hb
        unfold indep at hind
        simp only [hoj, List.all_eq_true] at hind
        have := hind e (Array.mem_toList_iff.2 he)
        simpa [hb] using this
      have h2 := wpOp_putIf hoj (hfree j oj hoj hji hjun hnot) (fun cs b => hsel i oi cs b hi) (fun cs b => hsel j oj cs b hoj) (fun c a w h => (hQ _ _ _ h).elim) hy h1
      refine wpOp_mono (fun a' w' h3 => ⟨h3.2.1, ih (listed.setIfInBounds j true) a' w' ?_ (ready_mono hr (Ne.symm hji)) h3.1 (h3.2.1 _ hH hind hS) ?_⟩) h2
      · intro k ok hk hki hun hno
        refine hfree k ok hk hki ?_ hno
        by_cases hjk : j = k
        · subst hjk; exact hjun
        · rw [getD_set_ne true hjk] at hun; exact hun
      · rw [Array.setIfInBounds_comm _ _ hji]
        exact h3.2.2

/-! ### The order that is walked -/

abbrev HeldA := List (Nat × (Hp → Prop))
def keepAll (ops : Array Oper) (j : Nat) (h h' : Hp) : HeldA → Prop
  | [] => True
  | p :: r => if indep ops j p.1 then (p.2 h → p.2 h') ∧ keepAll ops j h h' r else keepAll ops j h h' r
def oGuardH (g : Value) (want : Bool) (p : Prop) : Prop :=
  match g with
  | .bool b => match b, want with
    | true, true => p
    | false, false => p
    | true, false => True
    | false, true => True
  | _ => True
def holdP (P : Program) (ops : Array Oper) (o : Oper) (env : List Value) (v : Value) (h : Hp) : Prop :=
  match o.guard with
  | none => aop P o (ev env) h (fun v' _ => v' = v)
  | some (j, want) => oGuardH (gval ops j env) want (aop P o (ev env) h (fun v' _ => v' = v))
def holdOf (P : Program) (ops : Array Oper) (i : Nat) (o : Oper) (env : List Value) (v : Value) (H : HeldA) : HeldA :=
  if readOp o.op then (i, holdP P ops o env v) :: H else H
/-- The order that is walked: which operation, and whether it is taken ahead of all that may come up; at two that may come up, both ways. -/
inductive OT where
  | nil
  | one (i : Nat) (b : Bool) (r : OT)
  | both (i j : Nat) (ri rj : OT)
def acanL (P : Program) (ops : Array Oper) (Q : List Value → Hp → Prop) : OT → HeldA → List Value → Hp → Prop
  | .nil, _, env, h => Q env h
  | .one i b r, H, env, h =>
    match ops[i]? with
    | some o =>
      match b with
      | true => aopG P ops o env h (fun v h' => acanL P ops Q r (holdOf P ops i o env v H) (putE env o.dst v) h')
      | false => aopG P ops o env h (fun v h' => keepAll ops i h h' H ∧ acanL P ops Q r H (putE env o.dst v) h')
    | none => False
  | .both i j ri rj, H, env, h =>
    match ops[i]?, ops[j]? with
    | some oi, some oj =>
      aopG P ops oi env h (fun v h' => keepAll ops i h h' H ∧ acanL P ops Q ri H (putE env oi.dst v) h') ∧
      aopG P ops oj env h (fun v h' => keepAll ops j h h' H ∧ acanL P ops Q rj H (putE env oj.dst v) h')
    | _, _ => False

/-! The order is one that may be walked: by masks. -/
def afterMask (l : List Edge) : Nat :=
  match l with
  | [] => 0
  | e :: r => if Region.binds .any e then (1 <<< e.on) ||| afterMask r else afterMask r
def rdyM (o : Oper) (m : Nat) : Bool := afterMask o.after.toList &&& m == afterMask o.after.toList
def freeM (ops : Array Oper) (oi : Oper) (i m : Nat) : List Oper → Nat → Bool
  | [], _ => true
  | oj :: r, j => (j == i || m.testBit j || (afterMask oj.after.toList).testBit i || oi.apart ops oj) && freeM ops oi i m r (j + 1)
def onlyM (i k m : Nat) : List Oper → Nat → Bool
  | [], _ => true
  | oj :: r, j => (j == i || j == k || m.testBit j || !(rdyM oj m)) && onlyM i k m r (j + 1)
def ordGo (ops : Array Oper) : OT → Nat → Nat → Bool
  | .nil, m, n => n == 0 && onlyM ops.size ops.size m ops.toList 0
  | .one i b r, m, n =>
    match ops[i]?, n with
    | some o, n + 1 => !m.testBit i && rdyM o m && (match b with | true => roOp o.op && freeM ops o i m ops.toList 0 | false => onlyM i i m ops.toList 0) && ordGo ops r (m ||| (1 <<< i)) n
    | _, _ => false
  | .both i j ri rj, m, n =>
    match ops[i]?, ops[j]?, n with
    | some oi, some _, n + 1 => onlyM i j m ops.toList 0 && ordGo ops ri (m ||| (1 <<< i)) n && ordGo ops rj (m ||| (1 <<< j)) n && (!m.testBit i && rdyM oi m)
    | _, _, _ => false
def ordOk (ops : Array Oper) (t : OT) : Bool := Region.noSelect ops && ordGo ops t 0 ops.size

/-- The same conditions on worlds; what only computes has none. -/
def HW (H : HeldA) : HeldW := H.map fun p => (p.1, fun w => p.2 (hv w))

theorem keepAll_spec {j : Nat} {h h' : Hp} : ∀ {H : HeldA}, keepAll ops j h h' H → ∀ p ∈ H, indep ops j p.1 = true → p.2 h → p.2 h'
  | [], _, p, hp => by cases hp
  | q :: r, hk, p, hp => by
    unfold keepAll at hk
    intro hi
    cases hp with
    | head => rw [if_pos hi] at hk; exact hk.1
    | tail _ hp =>
      split at hk
      · exact keepAll_spec hk.2 p hp hi
      · exact keepAll_spec hk p hp hi

theorem yieldsIf_of {i : Nat} {o : Oper} (hi : ops[i]? = some o) (hro : roOp o.op = true) {env : List Value} {w : World} {K : Kont} (hk : aopG P ops o env (hv w) K) :
    ∃ v, K v (hv w) ∧ holdP P ops o env v (hv w) ∧ YieldsIf P ops (fun w' => readOp o.op = true → holdP P ops o env v (hv w')) o v (actOf env) := by
  rcases wanted_cases o env (hv w) K hk with ⟨hw, ha⟩ | ⟨hw, ha⟩
  · obtain ⟨v, h1, h2⟩ := ro_split hro ha
    have hp : ∀ h, holdP P ops o env v h ↔ aop P o (ev env) h (fun v' _ => v' = v) := by
      intro h
      unfold holdP
      unfold Region.wanted at hw
      cases hg : o.guard with
      | none => rfl
      | some g =>
        obtain ⟨j, want⟩ := g
        rw [hg] at hw
        simp only [yielded_actOf] at hw
        simp only
        cases hgv : gval ops j env <;> rw [hgv] at hw <;> simp at hw
        rename_i b
        subst hw
        cases b <;> rfl
    refine ⟨v, h2, (hp _).2 h1, .inl ⟨hw, fun w' hS => ?_⟩⟩
    rw [eval_actOf]
    have ha' : aop P o (ev env) (hv w') (fun v' _ => v' = v) := by
      cases hr : readOp o.op with
      | true => exact (hp _).1 (hS hr)
      | false =>
        have hp' : pureOp o.op = true := by simpa [roOp, hr] using hro
        exact pure_indep hp' h1
    obtain ⟨v', hrun, rfl⟩ := ro_sound hro ha'
    exact hrun
  · refine ⟨undef, ha, ?_, .inr ⟨hw, rfl⟩⟩
    unfold holdP
    unfold Region.wanted at hw
    cases hg : o.guard with
    | none => rw [hg] at hw; cases hw
    | some g =>
      obtain ⟨j, want⟩ := g
      rw [hg] at hw
      simp only [yielded_actOf] at hw
      simp only
      cases hgv : gval ops j env <;> rw [hgv] at hw <;> simp only [oGuardH]
      rename_i b
      cases b <;> cases want <;> simp at hw <;> trivial

theorem afterMask_bit : ∀ (l : List Edge) (i : Nat), (afterMask l).testBit i = true ↔ ∃ e ∈ l, Region.binds .any e = true ∧ e.on = i
  | [], i => by simp [afterMask]
  | e :: r, i => by
    unfold afterMask
    split
    · rename_i hb
      rw [Nat.testBit_or, Bool.or_eq_true, afterMask_bit r i]
      constructor
      · rintro (h | ⟨e', h1, h2⟩)
        · refine ⟨e, .head _, hb, ?_⟩
          rw [Nat.one_shiftLeft, Nat.testBit_two_pow] at h
          simpa using h
        · exact ⟨e', .tail _ h1, h2⟩
      · rintro ⟨e', h1, h2, h3⟩
        cases h1 with
        | head => left; rw [Nat.one_shiftLeft, Nat.testBit_two_pow]; simpa using h3
        | tail _ h1 => exact .inr ⟨e', h1, h2, h3⟩
    · rename_i hb
      rw [afterMask_bit r i]
      constructor
      · rintro ⟨e', h1, h2⟩; exact ⟨e', .tail _ h1, h2⟩
      · rintro ⟨e', h1, h2, h3⟩
        cases h1 with
        | head => exact absurd h2 hb
        | tail _ h1 => exact ⟨e', h1, h2, h3⟩

/-- The mask tells what has been listed. -/
def Tells (ops : Array Oper) (listed : Array Bool) (m : Nat) : Prop := listed.size = ops.size ∧ ∀ j, m.testBit j = listed.getD j false

theorem Tells.getD_true {listed : Array Bool} {m j : Nat} (t : Tells ops listed m) (hj : j < ops.size) : listed.getD j true = m.testBit j := by
  rw [t.2 j]
  have : j < listed.size := by rw [t.1]; exact hj
  simp [this]
theorem rdyM_spec {listed : Array Bool} {m : Nat} (t : Tells ops listed m) (o : Oper) : rdyM o m = true ↔ ∀ e ∈ o.after, Region.binds .any e = true → listed.getD e.on false = true := by
  unfold rdyM
  rw [beq_iff_eq]
  constructor
  · intro h e he hb
    have h1 : (afterMask o.after.toList).testBit e.on = true := (afterMask_bit _ _).2 ⟨e, Array.mem_toList_iff.2 he, hb, rfl⟩
    rw [← h, Nat.testBit_and, Bool.and_eq_true] at h1
    rw [← t.2]
    exact h1.2
  · intro h
    apply Nat.eq_of_testBit_eq
    intro i
    rw [Nat.testBit_and]
    cases hb : (afterMask o.after.toList).testBit i with
    | false => rfl
    | true =>
      obtain ⟨e, he, hbe, rfl⟩ := (afterMask_bit _ _).1 hb
      rw [t.2, h e (Array.mem_toList_iff.1 he) hbe]
      rfl
theorem Tells.set {listed : Array Bool} {m i : Nat} (t : Tells ops listed m) (hi : i < ops.size) : Tells ops (listed.setIfInBounds i true) (m ||| (1 <<< i)) := by
  refine ⟨by simp [t.1], fun j => ?_⟩
  rw [Nat.testBit_or, Nat.one_shiftLeft, Nat.testBit_two_pow, t.2 j]
  have hl : i < listed.size := by rw [t.1]; exact hi
  by_cases hij : i = j
  · subst hij; simp [hl]
  · simp [hij, Array.getD_eq_getD_getElem?, Array.getElem?_setIfInBounds_ne hij]
theorem freeM_spec {oi : Oper} {i m : Nat} : ∀ (l : List Oper) (k : Nat), freeM ops oi i m l k = true → ∀ j oj, l[j]? = some oj → k + j ≠ i → m.testBit (k + j) = false → (afterMask oj.after.toList).testBit i = false → oi.apart ops oj = true
  | [], k, _, j, oj, hj, _, _, _ => by simp at hj
  | o :: r, k, h, j, oj, hj, h1, h2, h3 => by
    simp only [freeM, Bool.and_eq_true, Bool.or_eq_true, beq_iff_eq] at h
    cases j with
    | zero =>
      simp only [List.getElem?_cons_zero, Option.some.injEq] at hj
      subst hj
      simp only [Nat.add_zero] at h1 h2
      rcases h.1 with ((h' | h') | h') | h'
      · exact absurd h' h1
      · rw [h2] at h'; cases h'
      · rw [h3] at h'; cases h'
      · exact h'
    | succ j =>
      simp only [List.getElem?_cons_succ] at hj
      exact freeM_spec r (k + 1) h.2 j oj hj (by omega) (by rw [show k + 1 + j = k + (j + 1) by omega]; exact h2) h3
theorem onlyM_spec {i k' m : Nat} : ∀ (l : List Oper) (k : Nat), onlyM i k' m l k = true → ∀ j oj, l[j]? = some oj → k + j ≠ i → k + j ≠ k' → m.testBit (k + j) = false → rdyM oj m = false
  | [], k, _, j, oj, hj, _, _, _ => by simp at hj
  | o :: r, k, h, j, oj, hj, h1, h1', h2 => by
    simp only [onlyM, Bool.and_eq_true, Bool.or_eq_true, beq_iff_eq, Bool.not_eq_true'] at h
    cases j with
    | zero =>
      simp only [List.getElem?_cons_zero, Option.some.injEq] at hj
      subst hj
      simp only [Nat.add_zero] at h1 h1' h2
      rcases h.1 with ((h' | h') | h') | h'
      · exact absurd h' h1
      · exact absurd h' h1'
      · rw [h2] at h'; cases h'
      · exact h'
    | succ j =>
      simp only [List.getElem?_cons_succ] at hj
      exact onlyM_spec r (k + 1) h.2 j oj hj (by omega) (by omega) (by rw [show k + 1 + j = k + (j + 1) by omega]; exact h2)
theorem only_ready {i k m : Nat} {listed : Array Bool} (ht : Tells ops listed m) (ho : onlyM i k m ops.toList 0 = true) {j : Nat} (hj : j ∈ Region.ready .any ops listed) : j = i ∨ j = k := by
  obtain ⟨h1, o, h2, h3⟩ := mem_ready.1 hj
  have hlt : j < ops.size := (Array.getElem?_eq_some_iff.1 h2).1
  by_cases e1 : j = i
  · exact .inl e1
  · by_cases e2 : j = k
    · exact .inr e2
    · have hf := onlyM_spec ops.toList 0 ho j o (by simpa using h2) (by omega) (by omega) (by rw [Nat.zero_add, ← ht.getD_true hlt]; exact h1)
      rw [(rdyM_spec ht o).2 h3] at hf
      cases hf
theorem keepAll_HW {j : Nat} {w w' : World} {H : HeldA} (hk : keepAll ops j (hv w) (hv w') H) : ∀ p ∈ HW H, indep ops j p.1 = true → p.2 w → p.2 w' := by
  intro p hp hind hpw
  simp only [HW, List.mem_map] at hp
  obtain ⟨q, hq', rfl⟩ := hp
  exact keepAll_spec hk q hq' hind hpw

theorem acanL_sound {Qn : List Value → Hp → Prop} (hs : Region.noSelect ops = true) (hQ : ∀ c a w, ¬ Q (.panic c) a w) (hq : ∀ env w, Qn env (hv w) → Q .normal (actOf env) w) :
    ∀ (l : OT) (H : HeldA) (listed : Array Bool) (m n : Nat) (env : List Value) (w : World), Tells ops listed m → ordGo ops l m n = true → acanL P ops Qn l H env (hv w) → wpAnyG P ops Q (HW H) n listed (actOf env) w
  | .nil, H, listed, m, n, env, w, ht, ho, hk => by
    simp only [ordGo, Bool.and_eq_true, beq_iff_eq] at ho
    obtain ⟨rfl, ho⟩ := ho
    refine ⟨?_, hq _ _ hk⟩
    rw [List.eq_nil_iff_forall_not_mem]
    intro j hj
    have hlt : j < ops.size := by
      obtain ⟨_, o, h2, _⟩ := mem_ready.1 hj
      exact (Array.getElem?_eq_some_iff.1 h2).1
    rcases only_ready ht ho hj with h | h <;> omega
  | .both i j ri rj, H, listed, m, n, env, w, ht, ho, hk => by
    unfold acanL at hk
    unfold ordGo at ho
    split at hk
    · rename_i oi oj hi hj
      cases n with
      | zero => simp [hi, hj] at ho
      | succ n =>
        simp only [hi, hj, Bool.and_eq_true] at ho
        obtain ⟨⟨⟨ho1, ho2⟩, ho3⟩, ho4⟩ := ho
        have hil : i < ops.size := (Array.getElem?_eq_some_iff.1 hi).1
        have hjl : j < ops.size := (Array.getElem?_eq_some_iff.1 hj).1
        refine ⟨?_, fun k hkm => ?_⟩
        · intro hnil
          have hmem : i ∈ Region.ready .any ops listed := mem_ready.2 ⟨by rw [ht.getD_true hil]; simpa using ho4.1, oi, hi, (rdyM_spec ht oi).1 ho4.2⟩
          rw [hnil] at hmem
          cases hmem
        · rcases only_ready ht ho1 hkm with rfl | rfl
          · exact wpOp_of_aop hi hk.1 (fun v w' hk => ⟨keepAll_HW hk.1, acanL_sound hs hQ hq ri H _ _ n _ w' (ht.set hil) ho2 hk.2⟩)
          · exact wpOp_of_aop hj hk.2 (fun v w' hk => ⟨keepAll_HW hk.1, acanL_sound hs hQ hq rj H _ _ n _ w' (ht.set hjl) ho3 hk.2⟩)
    · exact hk.elim
  | .one i b r, H, listed, m, n, env, w, ht, ho, hk => by
    unfold acanL at hk
    unfold ordGo at ho
    cases hi : ops[i]? with
    | none => rw [hi] at hk; exact hk.elim
    | some o =>
      cases n with
      | zero => simp [hi] at ho
      | succ n =>
      rw [hi] at hk
      simp only [hi] at ho
      have hlt : i < ops.size := (Array.getElem?_eq_some_iff.1 hi).1
      simp only [Bool.and_eq_true, Bool.not_eq_true'] at ho
      obtain ⟨⟨⟨hm0, hrdy⟩, hb⟩, hrest⟩ := ho
      have hmem : i ∈ Region.ready .any ops listed := mem_ready.2 ⟨by rw [ht.getD_true hlt]; exact hm0, o, hi, (rdyM_spec ht o).1 hrdy⟩
      cases b with
      | true =>
        simp only [Bool.and_eq_true] at hb hk
        obtain ⟨v, hk', hh, hy⟩ := yieldsIf_of hi hb.1 hk
        have ih := acanL_sound hs hQ hq r _ _ _ n _ w (ht.set hlt) hrest hk'
        have hfree : ∀ j oj, ops[j]? = some oj → j ≠ i → listed.getD j true = false → (∀ e ∈ oj.after, Region.binds .any e = true → e.on ≠ i) → o.apart ops oj = true := by
          intro j oj hj hji hun hno
          have hjl : j < ops.size := (Array.getElem?_eq_some_iff.1 hj).1
          refine freeM_spec ops.toList 0 hb.2 j oj (by simpa using hj) (by omega) (by rw [Nat.zero_add, ← ht.getD_true hjl]; exact hun) ?_
          cases hx : (afterMask oj.after.toList).testBit i with
          | false => rfl
          | true =>
            obtain ⟨e, he, hbe, heq⟩ := (afterMask_bit _ _).1 hx
            exact absurd heq (hno e (Array.mem_toList_iff.1 he) hbe)
        cases hr : readOp o.op with
        | true =>
          simp only [holdOf, hr, if_true] at ih
          refine wpAnyG_weaken (H' := HW ((i, holdP P ops o env v) :: H)) (by intro p hp; simp only [HW, List.map_cons]; exact .tail _ hp) _ _ _ _ ?_
          refine wpAnyG_first (v := v) (S := fun w' => holdP P ops o env v (hv w')) hi hs hQ (by simp [HW]) n listed _ w hfree hmem ?_ hh ?_
          · rcases hy with ⟨h1, h2⟩ | h1
            · exact .inl ⟨h1, fun w' hS => h2 w' (fun _ => hS)⟩
            · exact .inr h1
          · rw [put_actOf]; exact ih
        | false =>
          simp only [holdOf, hr, Bool.false_eq_true, if_false] at ih
          refine wpAnyG_weaken (H' := (i, fun _ => True) :: HW H) (fun p hp => .tail _ hp) _ _ _ _ ?_
          refine wpAnyG_first (v := v) (S := fun _ => True) hi hs hQ (.head _) n listed _ w hfree hmem ?_ trivial ?_
          · rcases hy with ⟨h1, h2⟩ | h1
            · exact .inl ⟨h1, fun w' _ => h2 w' (fun h => by rw [hr] at h; cases h)⟩
            · exact .inr h1
          · rw [put_actOf]
            have key : ∀ (fuel : Nat) (listed : Array Bool) (a : Act) (w : World), wpAnyG P ops Q (HW H) fuel listed a w → wpAnyG P ops Q ((i, fun _ => True) :: HW H) fuel listed a w := by
              intro fuel
              induction fuel with
              | zero => intro _ _ _ h; exact h
              | succ fuel ih2 =>
                intro listed a w h
                refine ⟨h.1, fun j hj => wpOp_mono (fun a' w' h' => ⟨fun p hp => ?_, ih2 _ _ _ h'.2⟩) (h.2 j hj)⟩
                cases hp with
                | head => intro _ _; trivial
                | tail _ hp => exact h'.1 p hp
            exact key _ _ _ _ ih
      | false =>
        simp only at hb hk
        refine ⟨fun h => (by rw [h] at hmem; cases hmem), fun j hj => ?_⟩
        have hji : j = i := by rcases only_ready ht hb hj with h | h <;> exact h
        subst hji
        exact wpOp_of_aop hi hk (fun v w' hk => ⟨keepAll_HW hk.1, acanL_sound hs hQ hq r H _ _ n _ w' (ht.set hlt) hrest hk.2⟩)

end Go.Proofs.Ytdolepapmpcpiaa
