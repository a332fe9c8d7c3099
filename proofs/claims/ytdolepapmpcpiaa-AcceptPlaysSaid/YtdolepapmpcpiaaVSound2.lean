/- The soundness of the operations' rule, operation by operation. -/
import Derived.Test.YtdolepapmpcpiaaVSound
namespace Go.Proofs.Ytdolepapmpcpiaa
open Go Go.MapKept
set_option linter.unusedSectionVars false
variable [Base]
set_option linter.unusedVariables false
set_option linter.unusedSimpArgs false

variable {P : Program}

theorem ok_value {s : Sem Value} {w w' : World} {v : Value} {K : Kont} (h : s.run P w = .ok v w') (hk : K v (hv w')) : OpOk P ((do pure (Next.value (← s)) : Sem Next).run P w) K := by
  simp only [Sem.run_bind, h, Result.andThen, Sem.run_pure, OpOk]
  exact hk
theorem ok_unit {s : Sem Unit} {w w' : World} {K : Kont} (h : s.run P w = .ok () w') (hk : K undef (hv w')) : OpOk P ((do s; pure Next.skip : Sem Next).run P w) K := by
  simp only [Sem.run_bind, h, Result.andThen, Sem.run_pure, OpOk]
  exact hk

theorem snd_newVar {w : World} {t : TypeId} {c : Array Value} : (newRow t c).run P w = .ok ⟨w.heap.size, 0, none⟩ { w with heap := w.heap.push (.cells c t) } := by
  simp [newRow]
theorem hv_new {w : World} (hb : Base.b ≤ w.heap.size) (c : Array Value) (t : TypeId) : hv { w with heap := w.heap.push (.cells c t) } = (hv w).push (.cells c) := by
  rw [hv_push hb, abs_cells]

theorem snd_storeVar {w : World} {t : TypeId} {i : TypeInfo} (hi : P.info? t = some i) {b o : Nat} {v : Value} {c : Array Value} (hc : (hv w)[b]? = some (.cells c)) (hn : v.cells.size = i.size) (hl : o + i.size ≤ c.size)
    (h1 : v.cells.toList.all one = true) : ∃ w', (storeVar t ⟨b, o, none⟩ v).run P w = .ok () w' ∧ hv w' = (hv w).setIfInBounds b (.cells (setL c o v.cells.toList)) := by
  obtain ⟨w', hr, hw⟩ := run_storeCells (P := P) v.cells.toList w b o 0 c hc (by simp; omega) h1
  refine ⟨w', ?_, by simpa using hw⟩
  simp only [storeVar, Sem.run_bind, run_sizeOf' hi, Result.andThen, Sem.run_ite, hn, ne_eq, not_true_eq_false, if_false, Sem.run_pure]
  exact hr

theorem lay_none {t : TypeId} (h : lay P t = some none) : ∃ d, P.underlying t = some d ∧ isAggD d = false := by
  unfold lay at h
  split at h
  · rename_i i d hi hd
    refine ⟨d, hd, ?_⟩
    cases ha : isAggD d <;> simp [ha] at h ⊢
  · cases h
theorem lay_some {t : TypeId} {n : Nat} (h : lay P t = some (some n)) : ∃ d i, P.underlying t = some d ∧ isAggD d = true ∧ P.info? t = some i ∧ i.size = n := by
  unfold lay at h
  split at h
  · rename_i i d hi hd
    refine ⟨d, i, hd, ?_⟩
    cases ha : isAggD d <;> simp [ha] at h ⊢
    exact ⟨hi, h⟩
  · cases h

theorem snd_part {w : World} {t : TypeId} {n : Option Nat} (hl : lay P t = some n) {cs : Array Value} {off : Nat} {v : Value} (h : partV cs off n = some v) : (part t cs off).run P w = .ok v w := by
  cases n with
  | none =>
    obtain ⟨d, hd, ha⟩ := lay_none hl
    simp only [partV] at h
    simp [part, run_isAgg' hd, ha, h]
  | some n =>
    obtain ⟨d, i, hd, ha, hi, rfl⟩ := lay_some hl
    simp only [partV] at h
    cases h
    simp [part, run_isAgg' hd, ha, run_sizeOf' hi]

theorem zeroV_run {w : World} {t : TypeId} {z : Value} (h : zeroV P t = some z) : (zeroValue t).run P w = .ok z w := by
  unfold zeroV at h
  simp only [Option.bind_eq_some_iff] at h
  obtain ⟨i, hi, hz⟩ := h
  exact run_zero' hi hz
theorem elemI_run {t : TypeId} {sz bytes : Nat} {z : Array Value} (h : elemI P t = some (sz, bytes, z)) : ∃ i zv, P.info? t = some i ∧ i.zero = some zv ∧ i.size = sz ∧ i.bytes = bytes ∧ zv.cells = z := by
  unfold elemI at h
  split at h
  · rename_i i hi
    split at h
    · rename_i zv hz
      simp only [Option.some.injEq, Prod.mk.injEq] at h
      exact ⟨i, zv, hi, hz, h.1, h.2.1, h.2.2⟩
    · cases h
  · cases h

theorem snd_binV {w : World} {op : BinOp} {t : TypeId} {x y : Value} {v : Value} (h : binV op x y = some v) : (binOp op t x y).run P w = .ok v w := by
  unfold binV at h
  split at h
  · rename_i k a k' b
    cases op <;> simp only at h
    case shl =>
      split at h
      · cases h
      · rename_i hb; cases h; simp [binOp, Op.shift, hb]
    case shr =>
      split at h
      · cases h
      · rename_i hb; cases h; simp [binOp, Op.shift, hb]
    all_goals
      split at h
      · rename_i hk
        subst hk
        simp only [intBin] at h
        first
          | (cases h; simp [binOp, Op.intArith, Op.intBits, Op.intCmp]; done)
          | (split at h
             · cases h
             · rename_i hb; cases h; simp [binOp, Op.intDiv, hb])
      · cases h
  · rename_i a b
    cases op <;> simp only [strBin] at h <;> first
      | (cases h; done)
      | (cases h; simp [binOp, Op.stringOp]; done)
      | (split at h
         · rename_i hs; cases h; simp [binOp, Op.stringOp, IntKind.max_i64]; omega
         · cases h)
  · cases h

theorem guard_plain {w : World} {op : BinOp} {t : TypeId} {x y : Operand} {a b : Value} (h : binV op a b ≠ none ∨ (op ≠ .eql ∧ op ≠ .neq)) : (eqGuard op t x y a b).run P w = .ok () w := by
  rcases h with h | ⟨h1, h2⟩
  · cases op <;> first
      | rfl
      | (unfold binV at h
         split at h
         · simp [eqGuard]
         · simp [eqGuard]
         · exact absurd rfl h)
  · cases op <;> first | rfl | exact absurd rfl h1 | exact absurd rfl h2

theorem snd_eqV {w : World} {t : TypeId} {d : TypeDesc} {x y : Value} {b : Bool} {c : Nat} (hd : P.underlying t = some d) (h0 : dcls d = some c) (h : eqV c (eqPlanTop P t) x y = some b) :
    (Op.equalIn 10000 t x y).run P w = .ok b w ∧ ∀ (o1 o2 : Operand) (neq : Bool), (eqGuard (if neq then .neq else .eql) t o1 o2 x y).run P w = .ok () w ∧
      (binOp (if neq then .neq else .eql) t x y).run P w = .ok (.bool (if neq then !b else b)) w := by
  have key : ∀ (hx : (Op.equalIn 10000 t x y).run P w = .ok b w), (∀ k a k' c, x = .int k a → y = .int k' c → False) → (∀ a c, x = .string a → y = .string c → False) → (∀ k a k' c, x = .float k a → y = .float k' c → False) →
      (∀ k a a' k' c c', x = .complex k a a' → y = .complex k' c c' → False) → ∀ (neq : Bool),
      (binOp (if neq then .neq else .eql) t x y).run P w = .ok (.bool (if neq then !b else b)) w := by
    intro hx h1 h2 h3 h4 neq
    cases neq
    all_goals
      simp only [Bool.false_eq_true, if_false, if_true]
      unfold binOp
      split <;> first
        | exact (h1 _ _ _ _ rfl rfl).elim
        | exact (h2 _ _ rfl rfl).elim
        | exact (h3 _ _ _ _ rfl rfl).elim
        | exact (h4 _ _ _ _ _ _ rfl rfl).elim
        | (simp only [Sem.run_bind, Op.equal, Op.maxDepth, hx, Result.andThen, Sem.run_pure]; done)
        | simp_all
  unfold eqV at h
  split at h
  · rename_i a c
    cases d <;> simp [dcls] at h0
    cases h
    have e := run_equalIn_bool' w 9999 t a c hd
    exact ⟨e, fun o1 o2 neq => ⟨by cases neq <;> simp [eqGuard], key e (by simp) (by simp) (by simp) (by simp) neq⟩⟩
  · cases d <;> simp [dcls] at h0
    cases h
    exact ⟨eqIn_ptr1 hd _ 9999, fun o1 o2 neq => ⟨by cases neq <;> simp [eqGuard], key (eqIn_ptr1 hd _ 9999) (by simp) (by simp) (by simp) (by simp) neq⟩⟩
  · cases d <;> simp [dcls] at h0
    cases h
    exact ⟨eqIn_ptr2 hd _ 9999, fun o1 o2 neq => ⟨by cases neq <;> simp [eqGuard], key (eqIn_ptr2 hd _ 9999) (by simp) (by simp) (by simp) (by simp) neq⟩⟩
  · cases d <;> simp [dcls] at h0
    cases h
    exact ⟨eqIn_sl hd _ _ _ _ _ 9999, fun o1 o2 neq => ⟨by cases neq <;> simp [eqGuard], key (eqIn_sl hd _ _ _ _ _ 9999) (by simp) (by simp) (by simp) (by simp) neq⟩⟩
  · cases d <;> simp [dcls] at h0
    cases h
    exact ⟨eqIn_map hd _ 9999, fun o1 o2 neq => ⟨by cases neq <;> simp [eqGuard], key (eqIn_map hd _ 9999) (by simp) (by simp) (by simp) (by simp) neq⟩⟩
  · rename_i xs ys
    cases d <;> simp [dcls] at h0
    rename_i fs
    simp only [Option.bind_eq_some_iff] at h
    obtain ⟨L, hL, he⟩ := h
    unfold eqPlanTop at hL
    simp only [hd] at hL
    split at hL
    · cases hL
    · rename_i hg
      have hg' : P.eqGuardType P.depth t = false := by simpa using hg
      have e := eqTop_run (w := w) hd xs ys hL he 9999 (by omega)
      exact ⟨e, fun o1 o2 neq => ⟨run_eqGuard_agg w _ t o1 o2 xs ys hg', key e (by simp) (by simp) (by simp) (by simp) neq⟩⟩
  · cases h

end Go.Proofs.Ytdolepapmpcpiaa
