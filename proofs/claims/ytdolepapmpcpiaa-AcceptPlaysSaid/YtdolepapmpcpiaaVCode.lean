/- Regions, in the order of the text or, where the model draws an order, with what only computes or reads taken first; code; loops. -/
import Derived.Test.YtdolepapmpcpiaaVRo
namespace Go.Proofs.Ytdolepapmpcpiaa
open Go Go.MapKept
set_option linter.unusedSectionVars false
variable [Base]
set_option linter.unusedVariables false
set_option linter.unusedSimpArgs false

variable {P : Program}

theorem ro_split {o : Oper} (hro : roOp o.op = true) {ρ : Operand → Value} {h : Hp} {K : Kont} (hk : aop P o ρ h K) : ∃ v, aop P o ρ h (fun v' _ => v' = v) ∧ K v h := by
  obtain ⟨dst, op, type, pos, after, guard⟩ := o
  cases op <;> simp only [roOp, pureOp, readOp, Bool.or_self, Bool.false_eq_true] at hro <;> simp only [aop] at hk ⊢
  case move x => exact ⟨_, rfl, hk⟩
  case assign x => exact ⟨_, rfl, hk⟩
  case pick c a b => unfold oPick at *; split at hk <;> first | exact ⟨_, rfl, hk⟩ | exact hk.elim
  case load t x =>
    unfold oLd1 oLdN at *
    split at hk
    · split at hk
      · obtain ⟨v, hv', hk⟩ := hk; exact ⟨_, ⟨v, hv', rfl⟩, hk⟩
      · exact hk.elim
    · split at hk
      · obtain ⟨v, hv', hk⟩ := hk; exact ⟨_, ⟨v, hv', rfl⟩, hk⟩
      · exact hk.elim
    · exact hk.elim
  case nilCheck x =>
    unfold oNilCheck at *
    split at hk
    all_goals first | exact ⟨_, rfl, hk⟩ | exact hk.elim
  case binOp op t x y yt =>
    unfold oBin oEq at *
    cases op <;> simp only at hk ⊢ <;> first
      | (obtain ⟨v, h1, hk⟩ := hk; exact ⟨v, ⟨v, h1, rfl⟩, hk⟩)
      | (split at hk
         · split at hk
           · rename_i hs; simp only [hs, if_true]; obtain ⟨v, h1, hk⟩ := hk; exact ⟨v, ⟨v, h1, rfl⟩, hk⟩
           · rename_i hs
             simp only [hs, Bool.false_eq_true, if_false]
             split at hk
             · obtain ⟨b, h1, hk⟩ := hk; exact ⟨_, ⟨b, h1, rfl⟩, hk⟩
             · exact hk.elim
         · exact hk.elim)
  case unOp op t x =>
    unfold oNeg oNot at *
    cases op <;> simp only at hk ⊢ <;> (split at hk <;> first | exact ⟨_, rfl, hk⟩ | exact hk.elim)
  case convert s d x =>
    unfold oConvInt at *
    split at hk
    · split at hk <;> first | exact ⟨_, rfl, hk⟩ | exact hk.elim
    · exact hk.elim
  case build t ps =>
    unfold oBuild at *
    split at hk
    · split at hk
      · split at hk
        · obtain ⟨cs, h1, hk⟩ := hk; exact ⟨_, ⟨cs, h1, rfl⟩, hk⟩
        · exact hk.elim
      · exact hk.elim
    · split at hk
      · obtain ⟨cs, h1, hk⟩ := hk; exact ⟨_, ⟨cs, h1, rfl⟩, hk⟩
      · exact hk.elim
    · exact hk.elim
  case makeFunc fn first cap => exact ⟨_, rfl, hk⟩
  case slice t x lo hi mx =>
    unfold oSlice at *
    split at hk
    · split at hk
      · split at hk
        · obtain ⟨m, hh, l, h1, h2, h3, h4, hk⟩ := hk; exact ⟨_, ⟨m, hh, l, h1, h2, h3, h4, rfl⟩, hk⟩
        · obtain ⟨hh, l, h1, h2, h3, hk⟩ := hk; exact ⟨_, ⟨hh, l, h1, h2, h3, rfl⟩, hk⟩
        · exact hk.elim
      · exact hk.elim
    · split at hk
      · obtain ⟨m, hh, l, h1, h2, h3, h4, hk⟩ := hk; exact ⟨_, ⟨m, hh, l, h1, h2, h3, h4, rfl⟩, hk⟩
      · obtain ⟨hh, l, h1, h2, h3, hk⟩ := hk; exact ⟨_, ⟨hh, l, h1, h2, h3, rfl⟩, hk⟩
      · exact hk.elim
    · exact hk.elim
  case fieldAddr s x f =>
    unfold oFieldAddr at *
    split at hk
    · split at hk
      · split at hk
        · split at hk
          · exact hk.elim
          · rename_i h0; simp only [h0, if_false]; split at hk <;> first | exact ⟨_, rfl, hk⟩ | exact hk.elim
        · exact hk.elim
      · exact hk.elim
    · exact hk.elim
  case field t x f =>
    unfold oField at *
    split at hk
    · split at hk
      · split at hk
        · split at hk
          · obtain ⟨v, h1, hk⟩ := hk; exact ⟨_, ⟨v, h1, rfl⟩, hk⟩
          · exact hk.elim
        · exact hk.elim
      · exact hk.elim
    · exact hk.elim
  case indexAddr t x i =>
    unfold oIdxS oIdxA at *
    split at hk
    · split at hk
      · split at hk
        · obtain ⟨h0, h1, hk⟩ := hk; exact ⟨_, ⟨h0, h1, rfl⟩, hk⟩
        · exact hk.elim
      · exact hk.elim
    · split at hk
      · split at hk
        · obtain ⟨h0, h1, hk⟩ := hk; exact ⟨_, ⟨h0, h1, rfl⟩, hk⟩
        · exact hk.elim
      · exact hk.elim
    · exact hk.elim
  case index t x i =>
    unfold oIndexArr oIndexStr at *
    split at hk
    · split at hk
      · split at hk
        · obtain ⟨h0, h1, v, h2, hk⟩ := hk; exact ⟨_, ⟨h0, h1, v, h2, rfl⟩, hk⟩
        · exact hk.elim
      · exact hk.elim
    · split at hk
      · obtain ⟨h0, c, h2, hk⟩ := hk; exact ⟨_, ⟨h0, c, h2, rfl⟩, hk⟩
      · exact hk.elim
    · exact hk.elim
  case lookup t m k ok =>
    unfold oLookup at *
    split at hk
    · split at hk
      · split at hk
        · rename_i hkd
          simp only [hkd, if_true]
          split at hk
          · exact ⟨_, rfl, hk⟩
          · obtain ⟨kv, f, h1, h2, hk⟩ := hk; exact ⟨_, ⟨kv, f, h1, h2, rfl⟩, hk⟩
          · exact hk.elim
        · exact hk.elim
      · exact hk.elim
    · exact hk.elim
  case extract x i =>
    unfold oExtract at *
    split at hk
    · obtain ⟨v, h1, hk⟩ := hk; exact ⟨_, ⟨v, h1, rfl⟩, hk⟩
    · exact hk.elim
  case call c =>
    obtain ⟨callee, args, ats⟩ := c
    cases callee with
    | value f => simp at hro
    | invoke r m => simp at hro
    | builtin b =>
      cases b <;> simp at hro
      simp only at hk ⊢
      generalize ats.toList = ats at *
      generalize List.map ρ args.toList = args at *
      unfold aBuiltin oLen at *
      split at hk
      all_goals first
        | (exfalso; rename_i h1; cases h1; done)
        | (exfalso; rename_i h1 _; cases h1; done)
        | (exfalso; rename_i h1 _ _; cases h1; done)
        | exact hk.elim
        | skip
      split at hk
      all_goals first
        | exact hk.elim
        | exact ⟨_, rfl, hk⟩
        | (split at hk
           all_goals first | (exfalso; simp_all; done) | exact ⟨_, rfl, hk⟩ | exact hk.elim | (obtain ⟨kv, h1, hk⟩ := hk; exact ⟨_, ⟨kv, h1, rfl⟩, hk⟩))

theorem pure_indep {o : Oper} (hp : pureOp o.op = true) {ρ : Operand → Value} {h h' : Hp} {v : Value} (hk : aop P o ρ h (fun v' _ => v' = v)) : aop P o ρ h' (fun v' _ => v' = v) := by
  obtain ⟨dst, op, type, pos, after, guard⟩ := o
  cases op <;> simp only [pureOp, Bool.false_eq_true] at hp <;> exact hk

end Go.Proofs.Ytdolepapmpcpiaa
