/- Operations that only compute or read: what they answer, and that the world stays. -/
import Derived.Test.YtdolepapmpcpiaaVSound5
namespace Go.Proofs.Ytdolepapmpcpiaa
open Go Go.MapKept
set_option linter.unusedSectionVars false
variable [Base]
set_option linter.unusedVariables false
set_option linter.unusedSimpArgs false

variable {P : Program}

/-- It computes from its operands alone. -/
def pureOp : Op → Bool
  | .move _ | .assign _ | .pick _ _ _ | .nilCheck _ | .binOp _ _ _ _ _ | .unOp _ _ _ | .convert _ _ _ | .makeFunc _ _ _ | .slice _ _ _ _ _ | .fieldAddr _ _ _ | .field _ _ _ | .indexAddr _ _ _ | .index _ _ _ | .extract _ _ | .build _ _ => true
  | _ => false
/-- It reads the heap, and leaves it. -/
def readOp : Op → Bool
  | .load _ _ | .lookup _ _ _ _ => true
  | .call c => match c.callee with
    | .builtin .len => true
    | _ => false
  | _ => false
def roOp (o : Op) : Bool := pureOp o || readOp o

theorem ro_v {s : Sem Value} {w : World} {K : Kont} (h : ∃ v, s.run P w = .ok v w ∧ K v (hv w)) : ∃ v, (do pure (Next.value (← s)) : Sem Next).run P w = .ok (.value v) w ∧ K v (hv w) := by
  obtain ⟨v, hr, hk⟩ := h
  exact ⟨v, by simp only [Sem.run_bind, hr, Result.andThen, Sem.run_pure], hk⟩

theorem ro_oBin {w : World} {op : BinOp} {t : TypeId} {x y : Operand} {a b : Value} {K : Kont} (hk : oBin op a b (hv w) K) :
    ∃ v, (do eqGuard op t x y a b; binOp op t a b : Sem Value).run P w = .ok v w ∧ K v (hv w) := by
  obtain ⟨v, hb, hk⟩ := hk
  refine ⟨v, ?_, hk⟩
  simp only [Sem.run_bind, guard_plain (P := P) (w := w) (op := op) (t := t) (x := x) (y := y) (.inl (by rw [hb]; simp)), Result.andThen, snd_binV hb]

theorem ro_len {w : World} {ats : Array TypeId} {ty : TypeId} {args : List Value} {K : Kont} (hk : aBuiltin P .len ats.toList args (hv w) K) :
    ∃ v, (Builtin.len_ ats ty args.toArray).run P w = .ok v w ∧ K v (hv w) := by
  obtain ⟨ats⟩ := ats
  simp only [aBuiltin] at hk
  split at hk
  · rename_i t x hb
    clear hb
    split at hk
    all_goals first
      | exact hk.elim
      | (rename_i hu
         simp only [oLen] at hk
         split at hk
         all_goals first
           | (exfalso; simp_all; done)
           | exact ⟨_, by simp only [Builtin.len_, List.getElem?_toArray, List.getElem?_cons_zero, Sem.run_bind, run_underlying' hu, Result.andThen, Sem.run_pure, goInt], hk⟩
           | (obtain ⟨kv, hm, hk⟩ := hk
              obtain ⟨es, ck, hb, hs, rfl⟩ := of_map hm
              refine ⟨.int .i64 es.size, by simp only [Builtin.len_, List.getElem?_toArray, List.getElem?_cons_zero, Sem.run_bind, run_underlying' hu, Result.andThen, run_getObj' hb, Sem.run_pure, goInt], ?_⟩
              simpa [kvOf] using hk)
           | exact hk.elim)
      | (rename_i n el hu
         exact ⟨_, by simp only [Builtin.len_, List.getElem?_toArray, List.getElem?_cons_zero, Sem.run_bind, run_underlying' hu, Result.andThen, Sem.run_pure, goInt], hk⟩)
  all_goals first | exact hk.elim | (exfalso; rename_i h1; cases h1; done) | (exfalso; rename_i h1 _; cases h1; done) | (exfalso; rename_i h1 _ _; cases h1; done)

theorem ro_sound {o : Oper} (hro : roOp o.op = true) {ρ : Operand → Value} {w : World} {K : Kont} (hk : aop P o ρ (hv w) K) : ∃ v, (execOp ρ o).run P w = .ok (.value v) w ∧ K v (hv w) := by
  obtain ⟨dst, op, type, pos, after, guard⟩ := o
  cases op <;> simp only [roOp, pureOp, readOp, Bool.or_self, Bool.false_eq_true] at hro <;> simp only [aop] at hk <;> simp only [execOp]
  case move x => exact ⟨_, by simp, hk⟩
  case assign x => exact ⟨_, by simp, hk⟩
  case pick c a b =>
    simp only [oPick] at hk
    split at hk
    · rename_i hc; exact ⟨ρ a, by simp [hc, asBool], hk⟩
    · rename_i hc; exact ⟨ρ b, by simp [hc, asBool], hk⟩
    · exact hk.elim
  case nilCheck x =>
    simp only [oNilCheck] at hk
    split at hk
    · rename_i hx; exact ⟨ρ x, by simp [hx], by simpa [hx] using hk⟩
    · rename_i hx; exact ⟨ρ x, by simp [hx], by simpa [hx] using hk⟩
    · rename_i hx; exact ⟨ρ x, by simp [hx], by simpa [hx] using hk⟩
    · exact hk.elim
  case load t x =>
    refine ro_v ?_
    cases hl : lay P t with
    | none => simp [hl] at hk
    | some l =>
      obtain ⟨v, hr, hk⟩ := snd_load (x := ρ x) (K := K) (w := w) hl (by cases l <;> simpa [hl] using hk)
      exact ⟨v, hr, hk⟩
  case binOp op t x y yt =>
    refine ro_v ?_
    have gen : oBin op (ρ x) (ρ y) (hv w) K → ∃ v, (do eqGuard op t x y (ρ x) (ρ y); binOp op t (ρ x) (ρ y) : Sem Value).run P w = .ok v w ∧ K v (hv w) := ro_oBin
    have eqs : ∀ (ne : Bool) (d : TypeDesc) (c : Nat), P.underlying t = some d → dcls d = some c → oEq c ne (eqPlanTop P t) (ρ x) (ρ y) (hv w) K →
        ∃ v, (do eqGuard (if ne then .neq else .eql) t x y (ρ x) (ρ y); binOp (if ne then .neq else .eql) t (ρ x) (ρ y) : Sem Value).run P w = .ok v w ∧ K v (hv w) := by
      intro ne d c hd h0 hk
      obtain ⟨b, hb, hk⟩ := hk
      obtain ⟨_, h2⟩ := snd_eqV (w := w) hd h0 hb
      obtain ⟨h3, h4⟩ := h2 x y ne
      refine ⟨_, ?_, hk⟩
      simp only [Sem.run_bind, h3, Result.andThen, h4]
    cases op <;> simp only at hk <;> first
      | exact gen hk
      | (split at hk
         · rename_i d hd
           split at hk
           · exact gen hk
           · split at hk
             · rename_i c hc
               first
               | exact eqs false d c hd hc hk
               | exact eqs true d c hd hc hk
             · exact hk.elim
         · exact hk.elim)
  case unOp op t x =>
    refine ro_v ?_
    cases op <;> simp only at hk
    · simp only [oNeg] at hk
      split at hk
      · rename_i k a hx; exact ⟨.int k (k.wrap (0 - a)), by simp [hx, Op.unary, Op.intArith], hk⟩
      · exact hk.elim
    · simp only [oNot] at hk
      split at hk
      · rename_i b hx; exact ⟨.bool !b, by simp [hx, Op.unary], hk⟩
      · exact hk.elim
  case convert s d x =>
    refine ro_v ?_
    split at hk
    · rename_i k1 k2 hs hd
      simp only [oConvInt] at hk
      split at hk
      · rename_i hx; exact ⟨_, by simp only [convert, Sem.run_bind, run_underlying' hs, run_underlying' hd, Result.andThen, hx, Conv.intToInt, Sem.run_pure], hk⟩
      · exact hk.elim
    · exact hk.elim
  case slice t x lo hi mx =>
    refine ro_v ?_
    split at hk
    · rename_i e hu
      split at hk
      · rename_i i hinfo
        simp only [oSlice] at hk
        split at hk
        · rename_i a len cap _ he
          obtain ⟨m, hh, l, h1, h2, h3, h4, hk⟩ := hk
          refine ⟨_, ?_, hk⟩
          have h3' : hi.map ρ = none → mx.map ρ = none := h3
          have hb := snd_bounds (P := P) (w := w) (isS := true) h1 h2 h3' h4
          simp only [he, Instr.sliceAt, Sem.run_bind, run_underlying' hu, Result.andThen, Instr.slice, hb, run_sizeOf' hinfo, Sem.run_pure]
        · rename_i h01 _; cases h01
        · exact hk.elim
      · exact hk.elim
    · rename_i hu
      simp only [oSlice] at hk
      split at hk
      · rename_i h01 _; cases h01
      · rename_i s _ he
        obtain ⟨hh, l, h1, h2, h3, hk⟩ := hk
        refine ⟨_, ?_, hk⟩
        rw [h2]
        have hb : (Instr.sliceBounds false s.size s.size (lo.map ρ) (hi.map ρ) none).run P w = .ok (l, hh, s.size) w := snd_bounds rfl h1 (fun _ => rfl) h3
        simp only [he, Instr.sliceAt, Sem.run_bind, run_underlying' hu, Result.andThen, Instr.slice, Option.isSome_none, Bool.false_eq_true, if_false, Sem.run_pure, hb]
      · exact hk.elim
    · exact hk.elim
  case fieldAddr s x f =>
    refine ro_v ?_
    split at hk
    · rename_i fs hu
      split at hk
      · rename_i fl hf
        split at hk
        · rename_i i hi
          split at hk
          · exact hk.elim
          · rename_i hn
            simp only [oFieldAddr] at hk
            split at hk
            · rename_i b o hx
              refine ⟨_, ?_, hk⟩
              simp only [Instr.fieldAt, Sem.run_bind, run_underlying' hu, Result.andThen, hf, hx, Instr.sureAddr, Sem.run_pure, fieldPlace, run_sizeOf' hi, Sem.run_ite, hn, if_false, add0]
            · exact hk.elim
        · exact hk.elim
      · exact hk.elim
    · exact hk.elim
  case field t x f =>
    refine ro_v ?_
    split at hk
    · rename_i fs hu
      split at hk
      · rename_i fl hf
        split at hk
        · rename_i n hl
          simp only [oField] at hk
          split at hk
          · rename_i cs hx
            obtain ⟨v, hv', hk⟩ := hk
            refine ⟨_, ?_, hk⟩
            simp only [Instr.field, Sem.run_bind, run_underlying' hu, Result.andThen, hf, hx, asAgg, Sem.run_pure, snd_part hl hv']
          · exact hk.elim
        · exact hk.elim
      · exact hk.elim
    · exact hk.elim
  case indexAddr t x i =>
    refine ro_v ?_
    split at hk
    · rename_i e hu
      split at hk
      · rename_i j hj
        simp only [oIdxS] at hk
        split at hk
        · rename_i b o len cap k n hx hi
          obtain ⟨h0, h1, hk⟩ := hk
          refine ⟨.pointer (some ⟨b, o + n.toNat * j.size, none⟩), ?_, hk⟩
          simp [Instr.indexAt, hx, hi, asIntOf, run_underlying' hu, run_sizeOf' hj, h0, h1, add0]
        · exact hk.elim
      · exact hk.elim
    · rename_i n e hu
      split at hk
      · rename_i j hj
        simp only [oIdxA] at hk
        split at hk
        · rename_i b o k n' hx hi
          obtain ⟨h0, h1, hk⟩ := hk
          refine ⟨.pointer (some ⟨b, o + n'.toNat * j.size, none⟩), ?_, hk⟩
          simp [Instr.indexAt, hx, hi, asIntOf, run_underlying' hu, run_sizeOf' hj, h0, h1, add0, Instr.sureAddr]
        · exact hk.elim
      · exact hk.elim
    · exact hk.elim
  case index t x i =>
    refine ro_v ?_
    split at hk
    · rename_i n e hu
      split at hk
      · rename_i j l hj hl
        simp only [oIndexArr] at hk
        split at hk
        · rename_i cs k n' hx hi
          obtain ⟨h0, h1, v, hp, hk⟩ := hk
          refine ⟨v, ?_, hk⟩
          simp [Instr.index, hx, hi, asIntOf, run_underlying' hu, run_sizeOf' hj, h0, h1, snd_part hl hp]
        · exact hk.elim
      · exact hk.elim
    · rename_i hu
      simp only [oIndexStr] at hk
      split at hk
      · rename_i s k n hx hi
        obtain ⟨h0, c, hc, hk⟩ := hk
        refine ⟨_, ?_, hk⟩
        simp only [Instr.index, hx, hi, asIntOf, Sem.run_bind, Sem.run_pure, Result.andThen, run_underlying' hu, if_pos h0, hc]
      · exact hk.elim
    · exact hk.elim
  case lookup t m k ok =>
    refine ro_v ?_
    split at hk
    · rename_i kt et hu
      split at hk
      · rename_i d z hd hz
        split at hk
        · rename_i hkd
          obtain ⟨i, hi, hzz⟩ : ∃ i, P.info? et = some i ∧ i.zero = some z := by
            unfold zeroV at hz; simpa [Option.bind_eq_some_iff] using hz
          simp only [oLookup] at hk
          split at hk
          · rename_i hm
            rw [hm]
            exact ⟨_, run_lookup_nil hu hd hkd hi hzz _ ok, by simpa [lookRes] using hk⟩
          · rename_i r hm
            obtain ⟨kv, f, hkv, hf, hk⟩ := hk
            rw [hm]
            refine ⟨_, run_lookup' hu hd hkd hi hzz hkv hf ok, ?_⟩
            cases f <;> exact hk
          · exact hk.elim
        · exact hk.elim
      · exact hk.elim
    · exact hk.elim
  case extract x i =>
    refine ro_v ?_
    simp only [oExtract] at hk
    split at hk
    · rename_i vs hx
      obtain ⟨v, hv', hk⟩ := hk
      exact ⟨v, by simp [Instr.extract, hx, hv'], hk⟩
    · exact hk.elim
  case build t ps =>
    refine ro_v ?_
    have hps : (ps.map fun x => (x.1, ρ x.2)).toList = ps.toList.map fun p => (p.1, ρ p.2) := by simp
    split at hk
    · rename_i z fs hz hu
      split at hk
      · rename_i places hp
        split at hk
        · rename_i l hl
          obtain ⟨cs, hcs, hk⟩ := hk
          refine ⟨_, ?_, hk⟩
          have hfill := fill_plan ρ hl hcs
          have h2 : (fun x : Nat => (places.toArray)[x]?) = fun x : Nat => places[x]? := by funext x; simp
          simp only [Instr.build, Sem.run_bind, zeroV_run hz, Result.andThen, run_underlying' hu, run_placesA hp, hps, h2, hfill, Sem.run_pure]
        · exact hk.elim
      · exact hk.elim
    · rename_i z n e hz hu
      split at hk
      · rename_i i hi
        obtain ⟨cs, hcs, hk⟩ := hk
        refine ⟨_, ?_, hk⟩
        have hfill := fill_el ρ hcs
        simp only [Instr.build, Sem.run_bind, zeroV_run hz, Result.andThen, run_underlying' hu, run_sizeOf' hi, hps, hfill, Sem.run_pure]
      · exact hk.elim
    · exact hk.elim
  case makeFunc fn first cap =>
    rw [toList_map_toArray, toList_map_toArray] at hk
    exact ro_v ⟨_, rfl, hk⟩
  case call c =>
    obtain ⟨callee, args, ats⟩ := c
    cases callee with
    | value f => simp at hro
    | invoke r m => simp at hro
    | builtin b =>
      cases b <;> simp at hro
      simp only [resolve, Sem.run_bind, Sem.run_pure, Result.andThen, invoke]
      rw [← toList_map_toArray]
      exact ro_v (ro_len hk)

end Go.Proofs.Ytdolepapmpcpiaa
