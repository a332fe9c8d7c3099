/- Lemmas for the theorem of the last text; no condition. -/
import Derived.Test.YtdolepapmpcpiaaLs0
import Derived.Scope
namespace Go.Proofs.Ytdolepapmpcpiaa
open Go Go.MapKept
set_option linter.unusedSectionVars false
variable [Base]
set_option linter.unusedVariables false
set_option linter.unusedSimpArgs false
variable {P : Program}
theorem ok_v {s : Sem Value} {w : World} {K : Kont} (h : ∃ v w', s.run P w = .ok v w' ∧ K v (hv w')) : OpOk P ((do pure (Next.value (← s)) : Sem Next).run P w) K := by
  obtain ⟨v, w', hr, hk⟩ := h
  exact ok_value hr hk
theorem ok_u {s : Sem Unit} {w : World} {K : Kont} (h : ∃ w', s.run P w = .ok () w' ∧ K undef (hv w')) : OpOk P ((do s; pure Next.skip : Sem Next).run P w) K := by
  obtain ⟨w', hr, hk⟩ := h
  exact ok_unit hr hk
theorem snd_callFunc {w : World} {f : FuncId} {args : Array Value} {K : Kont} (he : canEnter P f = true) (hk : AC P f args (hv w) K) : OpOk P ((callFunc f args).run P w) K := by
  unfold canEnter at he
  cases hf : P.funcs[f]? with
  | none => simp [hf] at he
  | some fn =>
    simp only [hf, Bool.and_eq_true, Bool.not_eq_true'] at he
    have hb : fn.body.isNone = false := by cases hbo : fn.body <;> simp_all
    simp only [callFunc, Sem.run_bind, run_program, Result.andThen, hf, he.2, Bool.false_eq_true, if_false, hb, Sem.run_pure, OpOk]
    exact hk
theorem snd_builtin {w : World} {b : Builtin} {ats : Array TypeId} {ty : TypeId} {cs : Array Bool} {args : List Value} {K : Kont} (hk : aBuiltin P b ats.toList args (hv w) K) :
    OpOk P ((builtin b ats ty cs args.toArray).run P w) K := by
  obtain ⟨ats⟩ := ats
  simp only at hk
  unfold aBuiltin at hk
  split at hk
  · -- len
    rename_i t x
    refine ok_v ?_
    split at hk
    all_goals first
      | exact hk.elim
      | (rename_i hu
         simp only [oLen] at hk
         split at hk
         all_goals first
           | (exfalso; simp_all; done)
           | exact ⟨_, w, by simp only [Builtin.len_, List.getElem?_toArray, List.getElem?_cons_zero, Sem.run_bind, run_underlying' hu, Result.andThen, Sem.run_pure, goInt], hk⟩
           | (obtain ⟨kv, hm, hk⟩ := hk
              obtain ⟨es, ck, hb, hs, rfl⟩ := of_map hm
              refine ⟨.int .i64 es.size, w, by simp only [Builtin.len_, List.getElem?_toArray, List.getElem?_cons_zero, Sem.run_bind, run_underlying' hu, Result.andThen, run_getObj' hb, Sem.run_pure, goInt], ?_⟩
              simpa [kvOf] using hk)
           | exact hk.elim)
      | (rename_i n el hu
         exact ⟨_, w, by simp only [Builtin.len_, List.getElem?_toArray, List.getElem?_cons_zero, Sem.run_bind, run_underlying' hu, Result.andThen, Sem.run_pure, goInt], hk⟩)
  · -- cap
    rename_i t x
    refine ok_v ?_
    split at hk
    · rename_i hu
      simp only [oCap] at hk
      split at hk
      · exact ⟨_, w, by simp only [Builtin.cap_, List.getElem?_toArray, List.getElem?_cons_zero, Sem.run_bind, run_underlying' hu, Result.andThen, Sem.run_pure, goInt], hk⟩
      · exact hk.elim
    · exact hk.elim
  · -- append
    rename_i t u s x
    refine ok_v ?_
    split at hk
    · rename_i e e' ht hu
      split at hk
      · rename_i sz bytes z he
        split at hk
        · exact hk.elim
        · rename_i hb
          exact snd_append ht ⟨_, hu, .inl ⟨_, rfl⟩⟩ he hb hk ty
      · exact hk.elim
    · rename_i e ht hu
      split at hk
      · rename_i sz bytes z he
        split at hk
        · exact hk.elim
        · rename_i hb
          exact snd_append ht ⟨_, hu, .inr rfl⟩ he hb hk ty
      · exact hk.elim
    · exact hk.elim
  · -- copy
    rename_i t u d s
    refine ok_v ?_
    split at hk
    · rename_i e ht
      split at hk
      · rename_i sz bytes z he; exact snd_copy ht he hk ty
      · exact hk.elim
    · exact hk.elim
  · -- delete
    rename_i t u m k
    refine ok_v ?_
    split at hk
    · rename_i kt et ht
      split at hk
      · rename_i d hd
        split at hk
        · rename_i hkd
          simp only [oDelete] at hk
          split at hk
          · obtain ⟨kv, f, hm, hf, hk⟩ := hk
            obtain ⟨w', hr, hw⟩ := run_delete' (P := P) (ty := ty) ht hd hkd hm hf #[t, u] rfl
            exact ⟨_, w', hr, by rw [hw]; exact hk⟩
          · exact hk.elim
        · exact hk.elim
      · exact hk.elim
    · exact hk.elim
  · -- clear
    rename_i t x
    refine ok_v ?_
    split at hk
    · rename_i ht; exact snd_clearMap ht hk ty
    · rename_i e ht
      split at hk
      · rename_i sz bytes z he; exact snd_clear ht he hk ty
      · exact hk.elim
    · exact hk.elim
  · -- min
    refine ok_v ?_
    simp only [oMinMax] at hk
    split at hk
    · rename_i k a k' b
      exact ⟨.int k (if b < a then b else a), w, by simp [Builtin.min_, Builtin.min2], by simpa using hk⟩
    · exact hk.elim
  · -- max
    refine ok_v ?_
    simp only [oMinMax] at hk
    split at hk
    · rename_i k a k' b
      exact ⟨.int k (if b > a then b else a), w, by simp [Builtin.max_, Builtin.max2], by simpa using hk⟩
    · exact hk.elim
  · exact hk.elim
theorem snd_oBin {w : World} {op : BinOp} {t : TypeId} {x y : Operand} {a b : Value} {K : Kont} (hk : oBin op a b (hv w) K) :
    ∃ v w', (do eqGuard op t x y a b; binOp op t a b : Sem Value).run P w = .ok v w' ∧ K v (hv w') := by
  obtain ⟨v, hb, hk⟩ := hk
  refine ⟨v, w, ?_, hk⟩
  simp only [Sem.run_bind, guard_plain (P := P) (w := w) (op := op) (t := t) (x := x) (y := y) (.inl (by rw [hb]; simp)), Result.andThen, snd_binV hb]
theorem aop_sound {o : Oper} {ρ : Operand → Value} (hρ : ∀ f, ρ (.func f) = .func (.func f) #[] #[]) {w : World} {K : Kont} (hk : aop P o ρ (hv w) K) : OpOk P ((execOp ρ o).run P w) K := by
  obtain ⟨dst, op, type, pos, after, guard⟩ := o
  cases op <;> simp only [aop] at hk <;> simp only [execOp]
  case move x => simpa [OpOk] using hk
  case assign x => simpa [OpOk] using hk
  case pick c a b =>
    simp only [oPick] at hk
    split at hk
    · rename_i hc; simp [hc, asBool, OpOk, hk]
    · rename_i hc; simp [hc, asBool, OpOk, hk]
    · exact hk.elim
  case alloc t =>
    split at hk
    · rename_i z hz
      refine ok_v ⟨_, _, by simp only [Instr.alloc, Sem.run_bind, zeroV_run hz, Result.andThen, newVar, snd_newVar, Sem.run_pure]; rfl, ?_⟩
      obtain ⟨hbs, hk⟩ := hk
      rw [hv_size] at hbs
      rw [hv_new hbs, ← hv_size]; exact hk
    · exact hk.elim
  case box t x =>
    refine ok_v ⟨_, _, by simp only [Instr.box, newVar, Sem.run_bind, snd_newVar, Result.andThen, Sem.run_pure]; rfl, ?_⟩
    obtain ⟨hbs, hk⟩ := hk
    rw [hv_size] at hbs
    rw [hv_new hbs, ← hv_size]; exact hk
  case build t ps =>
    refine ok_v ?_
    have hps : (ps.map fun x => (x.1, ρ x.2)).toList = ps.toList.map fun p => (p.1, ρ p.2) := by simp
    split at hk
    · rename_i z fs hz hu
      split at hk
      · rename_i places hp
        split at hk
        · rename_i l hl
          obtain ⟨cs, hcs, hk⟩ := hk
          refine ⟨_, w, ?_, hk⟩
          have hfill := fill_plan ρ hl hcs
          have h2 : (fun x : Nat => (places.toArray)[x]?) = fun x : Nat => places[x]? := by funext x; simp
          simp only [Instr.build, Sem.run_bind, zeroV_run hz, Result.andThen, run_underlying' hu, run_placesA hp, hps, h2, hfill, Sem.run_pure]
        · exact hk.elim
      · exact hk.elim
    · rename_i z n e hz hu
      split at hk
      · rename_i i hi
        obtain ⟨cs, hcs, hk⟩ := hk
        refine ⟨_, w, ?_, hk⟩
        have hfill := fill_el ρ hcs
        simp only [Instr.build, Sem.run_bind, zeroV_run hz, Result.andThen, run_underlying' hu, run_sizeOf' hi, hps, hfill, Sem.run_pure]
      · exact hk.elim
    · exact hk.elim
  case buildSlice t n ps =>
    refine ok_v ?_
    have hps : (ps.map fun x => (x.1, ρ x.2)).toList = ps.toList.map fun p => (p.1, ρ p.2) := by simp
    split at hk
    · rename_i e hu
      split at hk
      · rename_i sz bytes z he
        split at hk
        · rename_i hc
          obtain ⟨cs, hcs, hbs, hk⟩ := hk
          rw [hv_size] at hbs
          have hfill := fill_el ρ hcs
          obtain ⟨i, zv, hi, hz, rfl, rfl, rfl⟩ := elemI_run he
          have hz0 : zeroV P e = some zv := by simp [zeroV, hi, hz]
          have hzs : (Array.range (n * i.size)).map (fun j => (if n * i.size = 0 then #[] else zv.cells)[j % (if n * i.size = 0 then #[] else zv.cells).size]!) = (zerosN zv.cells n).toArray := by
            by_cases h0 : n * i.size = 0
            · have : zerosN zv.cells n = [] := by
                rcases Nat.mul_eq_zero.1 h0 with rfl | hs
                · rfl
                · have hz00 : zv.cells.toList = [] := List.eq_nil_of_length_eq_zero (by rw [Array.length_toList, hc.1, hs])
                  clear hc hcs hfill hk
                  clear h0
                  induction n with
                  | zero => rfl
                  | succ n ih => simp [zerosN, hz00, ih]
              rw [this, h0]; simp
            · simp only [h0, if_false]
              have hpos : 0 < i.size := by
                rcases Nat.eq_zero_or_pos i.size with h | h
                · rw [h] at h0; omega
                · exact h
              apply Array.ext'
              simp only [Array.toList_map, Array.toList_range]
              have gen : ∀ m, (List.range (m * i.size)).map (fun j => zv.cells[j % zv.cells.size]!) = zerosN zv.cells m := by
                intro m
                induction m with
                | zero => simp [zerosN]
                | succ m ih =>
                  rw [Nat.succ_mul, Nat.add_comm, List.range_add, List.map_append, List.map_map]
                  simp only [zerosN]
                  congr 1
                  · apply List.ext_getElem?
                    intro j
                    simp only [List.getElem?_map, List.getElem?_range', Array.getElem?_toList]
                    by_cases hj : j < i.size
                    · rw [List.getElem?_range hj]
                      simp only [Option.map_some]
                      have hj2 : j < zv.cells.size := by rw [hc.1]; exact hj
                      rw [Nat.mod_eq_of_lt hj2, getElem!_pos zv.cells j hj2, Array.getElem?_eq_getElem hj2]
                    · rw [List.getElem?_eq_none (by simpa using Nat.le_of_not_lt hj), Array.getElem?_eq_none (by rw [hc.1]; omega)]
                      rfl
                  · rw [← ih]
                    apply List.map_congr_left
                    intro j _
                    simp only [Function.comp, hc.1, Nat.add_mod_left]
              exact gen n
          refine ⟨.slice (some ⟨w.heap.size, 0, none⟩) n n, { w with heap := w.heap.push (.cells cs e) }, ?_, ?_⟩
          rotate_left
          · rw [hv_new hbs, ← hv_size]; exact hk
          · have hlim : ¬ (n * i.size > 2 ^ 24) := by have := hc.2; omega
            simp only [Instr.buildSlice, Sem.run_bind, run_underlying' hu, Result.andThen, run_sizeOf' hi, Sem.run_ite, hlim, if_false, Sem.run_pure]
            by_cases h0 : n * i.size = 0
            · simp only [if_pos h0] at hzs ⊢
              simp only [hzs, hps, hfill, Sem.run_bind, snd_newVar, Result.andThen, Sem.run_pure]
            · simp only [if_neg h0] at hzs ⊢
              simp only [zeroV_run hz0, hzs, hps, hfill, Sem.run_bind, snd_newVar, Result.andThen, Sem.run_pure]
        · exact hk.elim
      · exact hk.elim
    · exact hk.elim
  case load t x =>
    refine ok_v ?_
    cases hl : lay P t with
    | none => simp [hl] at hk
    | some l =>
      obtain ⟨v, hr, hk⟩ := snd_load (x := ρ x) (K := K) (w := w) hl (by cases l <;> simpa [hl] using hk)
      exact ⟨v, w, hr, hk⟩
  case store t x v =>
    refine ok_u ?_
    split at hk
    · rename_i i hi
      exact snd_store hi hk
    · exact hk.elim
  case nilCheck x =>
    simp only [oNilCheck] at hk
    split at hk
    · rename_i hx; simpa [hx, OpOk] using hk
    · rename_i hx; simpa [hx, OpOk] using hk
    · rename_i hx; simpa [hx, OpOk] using hk
    · exact hk.elim
  case binOp op t x y yt =>
    refine ok_v ?_
    have gen : oBin op (ρ x) (ρ y) (hv w) K → ∃ v w', (do eqGuard op t x y (ρ x) (ρ y); binOp op t (ρ x) (ρ y) : Sem Value).run P w = .ok v w' ∧ K v (hv w') := snd_oBin
    have eqs : ∀ (ne : Bool) (d : TypeDesc) (c : Nat), P.underlying t = some d → dcls d = some c → oEq c ne (eqPlanTop P t) (ρ x) (ρ y) (hv w) K →
        ∃ v w', (do eqGuard (if ne then .neq else .eql) t x y (ρ x) (ρ y); binOp (if ne then .neq else .eql) t (ρ x) (ρ y) : Sem Value).run P w = .ok v w' ∧ K v (hv w') := by
      intro ne d c hd h0 hk
      obtain ⟨b, hb, hk⟩ := hk
      obtain ⟨_, h2⟩ := snd_eqV (w := w) hd h0 hb
      obtain ⟨h3, h4⟩ := h2 x y ne
      refine ⟨_, w, ?_, hk⟩
      simp only [Sem.run_bind, h3, Result.andThen, h4]
    cases op <;> simp only at hk <;> first
      | exact gen hk
      | (split at hk
         · rename_i d hd
           split at hk
           · exact gen hk
           · split at hk
             · rename_i c hc
               first
               | exact eqs false d c hd hc hk
               | exact eqs true d c hd hc hk
             · exact hk.elim
         · exact hk.elim)
  case unOp op t x =>
    refine ok_v ?_
    cases op <;> simp only at hk
    · simp only [oNeg] at hk
      split at hk
      · rename_i k a hx; exact ⟨.int k (k.wrap (0 - a)), w, by simp [hx, Op.unary, Op.intArith], hk⟩
      · exact hk.elim
    · simp only [oNot] at hk
      split at hk
      · rename_i b hx; exact ⟨.bool !b, w, by simp [hx, Op.unary], hk⟩
      · exact hk.elim
  case convert s d x =>
    refine ok_v ?_
    split at hk
    · rename_i k1 k2 hs hd
      simp only [oConvInt] at hk
      split at hk
      · rename_i hx; exact ⟨_, w, by simp only [convert, Sem.run_bind, run_underlying' hs, run_underlying' hd, Result.andThen, hx, Conv.intToInt, Sem.run_pure], hk⟩
      · exact hk.elim
    · exact hk.elim
  case makeFunc fn first cap =>
    rw [toList_map_toArray, toList_map_toArray] at hk
    exact ok_v ⟨_, w, rfl, hk⟩
  case makeMap t r =>
    cases r with
    | some r => exact hk.elim
    | none =>
      refine ok_v ⟨.map (some w.heap.size), { w with heap := w.heap.push (.map #[] 0) }, by simp [Instr.makeMap], ?_⟩
      obtain ⟨hbs, hk⟩ := hk
      rw [hv_size] at hbs
      rw [hv_push hbs, abs_map (stamped_empty 0), ← hv_size]
      exact hk
  case makeSlice t l c =>
    refine ok_v ?_
    split at hk
    · rename_i e hu
      split at hk
      · rename_i sz bytes z he
        obtain ⟨i, zv, hi, hz, rfl, rfl, rfl⟩ := elemI_run he
        simp only [oMakeSlice] at hk
        split at hk
        · rename_i kl l' kc c' hl hc
          obtain ⟨h0, h1, h2, h3, hbs, hk⟩ := hk
          rw [hv_size] at hbs
          have := run_make (P := P) w t e i zv hu hi hz kl kc l' c' h0 h1 h2 h3
          rw [hl, hc]
          refine ⟨_, _, this, ?_⟩
          rw [World.alloc, hv_new hbs, ← hv_size]
          exact hk
        · exact hk.elim
      · exact hk.elim
    · exact hk.elim
  case slice t x lo hi mx =>
    refine ok_v ?_
    split at hk
    · rename_i e hu
      split at hk
      · rename_i i hinfo
        simp only [oSlice] at hk
        split at hk
        · rename_i a len cap _ he
          obtain ⟨m, hh, l, h1, h2, h3, h4, hk⟩ := hk
          refine ⟨_, w, ?_, hk⟩
          have h3' : hi.map ρ = none → mx.map ρ = none := h3
          have hb := snd_bounds (P := P) (w := w) (isS := true) h1 h2 h3' h4
          simp only [he, Instr.sliceAt, Sem.run_bind, run_underlying' hu, Result.andThen, Instr.slice, hb, run_sizeOf' hinfo, Sem.run_pure]
        · rename_i h01 _; cases h01
        · exact hk.elim
      · exact hk.elim
    · rename_i hu
      simp only [oSlice] at hk
      split at hk
      · rename_i h01 _; cases h01
      · rename_i s _ he
        obtain ⟨hh, l, h1, h2, h3, hk⟩ := hk
        refine ⟨_, w, ?_, hk⟩
        rw [h2]
        have hb : (Instr.sliceBounds false s.size s.size (lo.map ρ) (hi.map ρ) none).run P w = .ok (l, hh, s.size) w := snd_bounds rfl h1 (fun _ => rfl) h3
        simp only [he, Instr.sliceAt, Sem.run_bind, run_underlying' hu, Result.andThen, Instr.slice, Option.isSome_none, Bool.false_eq_true, if_false, Sem.run_pure, hb]
      · exact hk.elim
    · exact hk.elim
  case fieldAddr s x f =>
    refine ok_v ?_
    split at hk
    · rename_i fs hu
      split at hk
      · rename_i fl hf
        split at hk
        · rename_i i hi
          split at hk
          · exact hk.elim
          · rename_i hn
            simp only [oFieldAddr] at hk
            split at hk
            · rename_i b o hx
              refine ⟨_, w, ?_, hk⟩
              simp only [Instr.fieldAt, Sem.run_bind, run_underlying' hu, Result.andThen, hf, hx, Instr.sureAddr, Sem.run_pure, fieldPlace, run_sizeOf' hi, Sem.run_ite, hn, if_false, add0]
            · exact hk.elim
        · exact hk.elim
      · exact hk.elim
    · exact hk.elim
  case field t x f =>
    refine ok_v ?_
    split at hk
    · rename_i fs hu
      split at hk
      · rename_i fl hf
        split at hk
        · rename_i n hl
          simp only [oField] at hk
          split at hk
          · rename_i cs hx
            obtain ⟨v, hv', hk⟩ := hk
            refine ⟨_, w, ?_, hk⟩
            simp only [Instr.field, Sem.run_bind, run_underlying' hu, Result.andThen, hf, hx, asAgg, Sem.run_pure, snd_part hl hv']
          · exact hk.elim
        · exact hk.elim
      · exact hk.elim
    · exact hk.elim
  case indexAddr t x i =>
    refine ok_v ?_
    split at hk
    · rename_i e hu
      split at hk
      · rename_i j hj
        simp only [oIdxS] at hk
        split at hk
        · rename_i b o len cap k n hx hi
          obtain ⟨h0, h1, hk⟩ := hk
          refine ⟨.pointer (some ⟨b, o + n.toNat * j.size, none⟩), w, ?_, hk⟩
          simp [Instr.indexAt, hx, hi, asIntOf, run_underlying' hu, run_sizeOf' hj, h0, h1, add0]
        · exact hk.elim
      · exact hk.elim
    · rename_i n e hu
      split at hk
      · rename_i j hj
        simp only [oIdxA] at hk
        split at hk
        · rename_i b o k n' hx hi
          obtain ⟨h0, h1, hk⟩ := hk
          refine ⟨.pointer (some ⟨b, o + n'.toNat * j.size, none⟩), w, ?_, hk⟩
          simp [Instr.indexAt, hx, hi, asIntOf, run_underlying' hu, run_sizeOf' hj, h0, h1, add0, Instr.sureAddr]
        · exact hk.elim
      · exact hk.elim
    · exact hk.elim
  case index t x i =>
    refine ok_v ?_
    split at hk
    · rename_i n e hu
      split at hk
      · rename_i j l hj hl
        simp only [oIndexArr] at hk
        split at hk
        · rename_i cs k n' hx hi
          obtain ⟨h0, h1, v, hp, hk⟩ := hk
          refine ⟨v, w, ?_, hk⟩
          simp [Instr.index, hx, hi, asIntOf, run_underlying' hu, run_sizeOf' hj, h0, h1, snd_part hl hp]
        · exact hk.elim
      · exact hk.elim
    · rename_i hu
      simp only [oIndexStr] at hk
      split at hk
      · rename_i s k n hx hi
        obtain ⟨h0, c, hc, hk⟩ := hk
        refine ⟨_, w, ?_, hk⟩
        simp only [Instr.index, hx, hi, asIntOf, Sem.run_bind, Sem.run_pure, Result.andThen, run_underlying' hu, if_pos h0, hc]
      · exact hk.elim
    · exact hk.elim
  case lookup t m k ok =>
    refine ok_v ?_
    split at hk
    · rename_i kt et hu
      split at hk
      · rename_i d z hd hz
        split at hk
        · rename_i hkd
          obtain ⟨i, hi, hzz⟩ : ∃ i, P.info? et = some i ∧ i.zero = some z := by
            unfold zeroV at hz; simpa [Option.bind_eq_some_iff] using hz
          simp only [oLookup] at hk
          split at hk
          · rename_i hm
            rw [hm]
            exact ⟨_, w, run_lookup_nil hu hd hkd hi hzz _ ok, by simpa [lookRes] using hk⟩
          · rename_i r hm
            obtain ⟨kv, f, hkv, hf, hk⟩ := hk
            rw [hm]
            refine ⟨_, w, run_lookup' hu hd hkd hi hzz hkv hf ok, ?_⟩
            cases f <;> exact hk
          · exact hk.elim
        · exact hk.elim
      · exact hk.elim
    · exact hk.elim
  case mapUpdate t m k v =>
    refine ok_u ?_
    split at hk
    · rename_i kt et hu
      split at hk
      · rename_i d hd
        split at hk
        · rename_i hkd
          simp only [oMapUpdate] at hk
          split at hk
          · rename_i r hm
            obtain ⟨kv, f, hkv, hf, hk⟩ := hk
            obtain ⟨w', hr, hw⟩ := run_mapUpdate' (P := P) hu hd hkd hkv hf (ρ v)
            rw [hm]
            exact ⟨w', hr, by rw [hw]; exact hk⟩
          · exact hk.elim
        · exact hk.elim
      · exact hk.elim
    · exact hk.elim
  case insert t m k v =>
    refine ok_u ?_
    split at hk
    · rename_i kt et hu
      split at hk
      · rename_i d hd
        split at hk
        · rename_i hkd
          simp only [oMapUpdate] at hk
          split at hk
          · rename_i r hm
            obtain ⟨kv, f, hkv, hf, hk⟩ := hk
            obtain ⟨w', hr, hw⟩ := run_mapUpdate' (P := P) hu hd hkd hkv hf (ρ v)
            rw [hm]
            exact ⟨w', hr, by rw [hw]; exact hk⟩
          · exact hk.elim
        · exact hk.elim
      · exact hk.elim
    · exact hk.elim
  case extract x i =>
    refine ok_v ?_
    simp only [oExtract] at hk
    split at hk
    · rename_i vs hx
      obtain ⟨v, hv', hk⟩ := hk
      exact ⟨v, w, by simp [Instr.extract, hx, hv'], hk⟩
    · exact hk.elim
  case call c =>
    obtain ⟨callee, args, ats⟩ := c
    cases callee with
    | value f =>
      have dyn : ∀ x, oCallV P x (args.toList.map ρ) (hv w) K → ρ f = x → OpOk P ((do let d ← resolve ρ { callee := .value f, args := args, argTypes := ats } type; invoke d.target d.args : Sem Next).run P w) K := by
        intro x hx hf
        simp only [oCallV] at hx
        split at hx
        · rename_i g fst cap
          obtain ⟨he, ha⟩ := hx
          rw [toList_map_toArray] at ha
          simp only [resolve, hf, Deferred.ofValue, Sem.run_bind, Sem.run_pure, Result.andThen, invoke]
          exact snd_callFunc he ha
        · exact hx.elim
      cases f with
      | func g =>
        simp only at hk
        split at hk
        · rename_i he
          rw [toList_map_toArray] at hk
          simp only [resolve, hρ, Deferred.ofValue, Sem.run_bind, Sem.run_pure, Result.andThen, invoke]
          exact snd_callFunc he (by simpa using hk)
        · exact hk.elim
      | tmp t => exact dyn _ hk rfl
      | const v => exact dyn _ hk rfl
      | global g => exact dyn _ hk rfl
    | builtin b =>
      simp only [resolve, Sem.run_bind, Sem.run_pure, Result.andThen, invoke]
      rw [← toList_map_toArray]
      exact snd_builtin hk
    | invoke r m => exact hk.elim
  all_goals exact hk.elim
end Go.Proofs.Ytdolepapmpcpiaa

namespace Go.Proofs.Ytdolepapmpcpiaa
open Go Go.MapKept
set_option linter.unusedSectionVars false
variable [Base]
set_option linter.unusedVariables false
set_option linter.unusedSimpArgs false
variable {P : Program}
/-- It computes from its operands alone. -/
def pureOp : Op → Bool
  | .move _ | .assign _ | .pick _ _ _ | .nilCheck _ | .binOp _ _ _ _ _ | .unOp _ _ _ | .convert _ _ _ | .makeFunc _ _ _ | .slice _ _ _ _ _ | .fieldAddr _ _ _ | .field _ _ _ | .indexAddr _ _ _ | .index _ _ _ | .extract _ _ | .build _ _ => true
  | _ => false
/-- It reads the heap, and leaves it. -/
def readOp : Op → Bool
  | .load _ _ | .lookup _ _ _ _ => true
  | .call c => match c.callee with
    | .builtin .len => true
    | _ => false
  | _ => false
def roOp (o : Op) : Bool := pureOp o || readOp o
theorem ro_v {s : Sem Value} {w : World} {K : Kont} (h : ∃ v, s.run P w = .ok v w ∧ K v (hv w)) : ∃ v, (do pure (Next.value (← s)) : Sem Next).run P w = .ok (.value v) w ∧ K v (hv w) := by
  obtain ⟨v, hr, hk⟩ := h
  exact ⟨v, by simp only [Sem.run_bind, hr, Result.andThen, Sem.run_pure], hk⟩
theorem ro_oBin {w : World} {op : BinOp} {t : TypeId} {x y : Operand} {a b : Value} {K : Kont} (hk : oBin op a b (hv w) K) :
    ∃ v, (do eqGuard op t x y a b; binOp op t a b : Sem Value).run P w = .ok v w ∧ K v (hv w) := by
  obtain ⟨v, hb, hk⟩ := hk
  refine ⟨v, ?_, hk⟩
  simp only [Sem.run_bind, guard_plain (P := P) (w := w) (op := op) (t := t) (x := x) (y := y) (.inl (by rw [hb]; simp)), Result.andThen, snd_binV hb]
theorem ro_len {w : World} {ats : Array TypeId} {ty : TypeId} {args : List Value} {K : Kont} (hk : aBuiltin P .len ats.toList args (hv w) K) :
    ∃ v, (Builtin.len_ ats ty args.toArray).run P w = .ok v w ∧ K v (hv w) := by
  obtain ⟨ats⟩ := ats
  simp only [aBuiltin] at hk
  split at hk
  · rename_i t x hb
    clear hb
    split at hk
    all_goals first
      | exact hk.elim
      | (rename_i hu
         simp only [oLen] at hk
         split at hk
         all_goals first
           | (exfalso; simp_all; done)
           | exact ⟨_, by simp only [Builtin.len_, List.getElem?_toArray, List.getElem?_cons_zero, Sem.run_bind, run_underlying' hu, Result.andThen, Sem.run_pure, goInt], hk⟩
           | (obtain ⟨kv, hm, hk⟩ := hk
              obtain ⟨es, ck, hb, hs, rfl⟩ := of_map hm
              refine ⟨.int .i64 es.size, by simp only [Builtin.len_, List.getElem?_toArray, List.getElem?_cons_zero, Sem.run_bind, run_underlying' hu, Result.andThen, run_getObj' hb, Sem.run_pure, goInt], ?_⟩
              simpa [kvOf] using hk)
           | exact hk.elim)
      | (rename_i n el hu
         exact ⟨_, by simp only [Builtin.len_, List.getElem?_toArray, List.getElem?_cons_zero, Sem.run_bind, run_underlying' hu, Result.andThen, Sem.run_pure, goInt], hk⟩)
  all_goals first | exact hk.elim | (exfalso; rename_i h1; cases h1; done) | (exfalso; rename_i h1 _; cases h1; done) | (exfalso; rename_i h1 _ _; cases h1; done)
theorem ro_sound {o : Oper} (hro : roOp o.op = true) {ρ : Operand → Value} {w : World} {K : Kont} (hk : aop P o ρ (hv w) K) : ∃ v, (execOp ρ o).run P w = .ok (.value v) w ∧ K v (hv w) := by
  obtain ⟨dst, op, type, pos, after, guard⟩ := o
  cases op <;> simp only [roOp, pureOp, readOp, Bool.or_self, Bool.false_eq_true] at hro <;> simp only [aop] at hk <;> simp only [execOp]
  case move x => exact ⟨_, by simp, hk⟩
  case assign x => exact ⟨_, by simp, hk⟩
  case pick c a b =>
    simp only [oPick] at hk
    split at hk
    · rename_i hc; exact ⟨ρ a, by simp [hc, asBool], hk⟩
    · rename_i hc; exact ⟨ρ b, by simp [hc, asBool], hk⟩
    · exact hk.elim
  case nilCheck x =>
    simp only [oNilCheck] at hk
    split at hk
    · rename_i hx; exact ⟨ρ x, by simp [hx], by simpa [hx] using hk⟩
    · rename_i hx; exact ⟨ρ x, by simp [hx], by simpa [hx] using hk⟩
    · rename_i hx; exact ⟨ρ x, by simp [hx], by simpa [hx] using hk⟩
    · exact hk.elim
  case load t x =>
    refine ro_v ?_
    cases hl : lay P t with
    | none => simp [hl] at hk
    | some l =>
      obtain ⟨v, hr, hk⟩ := snd_load (x := ρ x) (K := K) (w := w) hl (by cases l <;> simpa [hl] using hk)
      exact ⟨v, hr, hk⟩
  case binOp op t x y yt =>
    refine ro_v ?_
    have gen : oBin op (ρ x) (ρ y) (hv w) K → ∃ v, (do eqGuard op t x y (ρ x) (ρ y); binOp op t (ρ x) (ρ y) : Sem Value).run P w = .ok v w ∧ K v (hv w) := ro_oBin
    have eqs : ∀ (ne : Bool) (d : TypeDesc) (c : Nat), P.underlying t = some d → dcls d = some c → oEq c ne (eqPlanTop P t) (ρ x) (ρ y) (hv w) K →
        ∃ v, (do eqGuard (if ne then .neq else .eql) t x y (ρ x) (ρ y); binOp (if ne then .neq else .eql) t (ρ x) (ρ y) : Sem Value).run P w = .ok v w ∧ K v (hv w) := by
      intro ne d c hd h0 hk
      obtain ⟨b, hb, hk⟩ := hk
      obtain ⟨_, h2⟩ := snd_eqV (w := w) hd h0 hb
      obtain ⟨h3, h4⟩ := h2 x y ne
      refine ⟨_, ?_, hk⟩
      simp only [Sem.run_bind, h3, Result.andThen, h4]
    cases op <;> simp only at hk <;> first
      | exact gen hk
      | (split at hk
         · rename_i d hd
           split at hk
           · exact gen hk
           · split at hk
             · rename_i c hc
               first
               | exact eqs false d c hd hc hk
               | exact eqs true d c hd hc hk
             · exact hk.elim
         · exact hk.elim)
  case unOp op t x =>
    refine ro_v ?_
    cases op <;> simp only at hk
    · simp only [oNeg] at hk
      split at hk
      · rename_i k a hx; exact ⟨.int k (k.wrap (0 - a)), by simp [hx, Op.unary, Op.intArith], hk⟩
      · exact hk.elim
    · simp only [oNot] at hk
      split at hk
      · rename_i b hx; exact ⟨.bool !b, by simp [hx, Op.unary], hk⟩
      · exact hk.elim
  case convert s d x =>
    refine ro_v ?_
    split at hk
    · rename_i k1 k2 hs hd
      simp only [oConvInt] at hk
      split at hk
      · rename_i hx; exact ⟨_, by simp only [convert, Sem.run_bind, run_underlying' hs, run_underlying' hd, Result.andThen, hx, Conv.intToInt, Sem.run_pure], hk⟩
      · exact hk.elim
    · exact hk.elim
  case slice t x lo hi mx =>
    refine ro_v ?_
    split at hk
    · rename_i e hu
      split at hk
      · rename_i i hinfo
        simp only [oSlice] at hk
        split at hk
        · rename_i a len cap _ he
          obtain ⟨m, hh, l, h1, h2, h3, h4, hk⟩ := hk
          refine ⟨_, ?_, hk⟩
          have h3' : hi.map ρ = none → mx.map ρ = none := h3
          have hb := snd_bounds (P := P) (w := w) (isS := true) h1 h2 h3' h4
          simp only [he, Instr.sliceAt, Sem.run_bind, run_underlying' hu, Result.andThen, Instr.slice, hb, run_sizeOf' hinfo, Sem.run_pure]
        · rename_i h01 _; cases h01
        · exact hk.elim
      · exact hk.elim
    · rename_i hu
      simp only [oSlice] at hk
      split at hk
      · rename_i h01 _; cases h01
      · rename_i s _ he
        obtain ⟨hh, l, h1, h2, h3, hk⟩ := hk
        refine ⟨_, ?_, hk⟩
        rw [h2]
        have hb : (Instr.sliceBounds false s.size s.size (lo.map ρ) (hi.map ρ) none).run P w = .ok (l, hh, s.size) w := snd_bounds rfl h1 (fun _ => rfl) h3
        simp only [he, Instr.sliceAt, Sem.run_bind, run_underlying' hu, Result.andThen, Instr.slice, Option.isSome_none, Bool.false_eq_true, if_false, Sem.run_pure, hb]
      · exact hk.elim
    · exact hk.elim
  case fieldAddr s x f =>
    refine ro_v ?_
    split at hk
    · rename_i fs hu
      split at hk
      · rename_i fl hf
        split at hk
        · rename_i i hi
          split at hk
          · exact hk.elim
          · rename_i hn
            simp only [oFieldAddr] at hk
            split at hk
            · rename_i b o hx
              refine ⟨_, ?_, hk⟩
              simp only [Instr.fieldAt, Sem.run_bind, run_underlying' hu, Result.andThen, hf, hx, Instr.sureAddr, Sem.run_pure, fieldPlace, run_sizeOf' hi, Sem.run_ite, hn, if_false, add0]
            · exact hk.elim
        · exact hk.elim
      · exact hk.elim
    · exact hk.elim
  case field t x f =>
    refine ro_v ?_
    split at hk
    · rename_i fs hu
      split at hk
      · rename_i fl hf
        split at hk
        · rename_i n hl
          simp only [oField] at hk
          split at hk
          · rename_i cs hx
            obtain ⟨v, hv', hk⟩ := hk
            refine ⟨_, ?_, hk⟩
            simp only [Instr.field, Sem.run_bind, run_underlying' hu, Result.andThen, hf, hx, asAgg, Sem.run_pure, snd_part hl hv']
          · exact hk.elim
        · exact hk.elim
      · exact hk.elim
    · exact hk.elim
  case indexAddr t x i =>
    refine ro_v ?_
    split at hk
    · rename_i e hu
      split at hk
      · rename_i j hj
        simp only [oIdxS] at hk
        split at hk
        · rename_i b o len cap k n hx hi
          obtain ⟨h0, h1, hk⟩ := hk
          refine ⟨.pointer (some ⟨b, o + n.toNat * j.size, none⟩), ?_, hk⟩
          simp [Instr.indexAt, hx, hi, asIntOf, run_underlying' hu, run_sizeOf' hj, h0, h1, add0]
        · exact hk.elim
      · exact hk.elim
    · rename_i n e hu
      split at hk
      · rename_i j hj
        simp only [oIdxA] at hk
        split at hk
        · rename_i b o k n' hx hi
          obtain ⟨h0, h1, hk⟩ := hk
          refine ⟨.pointer (some ⟨b, o + n'.toNat * j.size, none⟩), ?_, hk⟩
          simp [Instr.indexAt, hx, hi, asIntOf, run_underlying' hu, run_sizeOf' hj, h0, h1, add0, Instr.sureAddr]
        · exact hk.elim
      · exact hk.elim
    · exact hk.elim
  case index t x i =>
    refine ro_v ?_
    split at hk
    · rename_i n e hu
      split at hk
      · rename_i j l hj hl
        simp only [oIndexArr] at hk
        split at hk
        · rename_i cs k n' hx hi
          obtain ⟨h0, h1, v, hp, hk⟩ := hk
          refine ⟨v, ?_, hk⟩
          simp [Instr.index, hx, hi, asIntOf, run_underlying' hu, run_sizeOf' hj, h0, h1, snd_part hl hp]
        · exact hk.elim
      · exact hk.elim
    · rename_i hu
      simp only [oIndexStr] at hk
      split at hk
      · rename_i s k n hx hi
        obtain ⟨h0, c, hc, hk⟩ := hk
        refine ⟨_, ?_, hk⟩
        simp only [Instr.index, hx, hi, asIntOf, Sem.run_bind, Sem.run_pure, Result.andThen, run_underlying' hu, if_pos h0, hc]
      · exact hk.elim
    · exact hk.elim
  case lookup t m k ok =>
    refine ro_v ?_
    split at hk
    · rename_i kt et hu
      split at hk
      · rename_i d z hd hz
        split at hk
        · rename_i hkd
          obtain ⟨i, hi, hzz⟩ : ∃ i, P.info? et = some i ∧ i.zero = some z := by
            unfold zeroV at hz; simpa [Option.bind_eq_some_iff] using hz
          simp only [oLookup] at hk
          split at hk
          · rename_i hm
            rw [hm]
            exact ⟨_, run_lookup_nil hu hd hkd hi hzz _ ok, by simpa [lookRes] using hk⟩
          · rename_i r hm
            obtain ⟨kv, f, hkv, hf, hk⟩ := hk
            rw [hm]
            refine ⟨_, run_lookup' hu hd hkd hi hzz hkv hf ok, ?_⟩
            cases f <;> exact hk
          · exact hk.elim
        · exact hk.elim
      · exact hk.elim
    · exact hk.elim
  case extract x i =>
    refine ro_v ?_
    simp only [oExtract] at hk
    split at hk
    · rename_i vs hx
      obtain ⟨v, hv', hk⟩ := hk
      exact ⟨v, by simp [Instr.extract, hx, hv'], hk⟩
    · exact hk.elim
  case build t ps =>
    refine ro_v ?_
    have hps : (ps.map fun x => (x.1, ρ x.2)).toList = ps.toList.map fun p => (p.1, ρ p.2) := by simp
    split at hk
    · rename_i z fs hz hu
      split at hk
      · rename_i places hp
        split at hk
        · rename_i l hl
          obtain ⟨cs, hcs, hk⟩ := hk
          refine ⟨_, ?_, hk⟩
          have hfill := fill_plan ρ hl hcs
          have h2 : (fun x : Nat => (places.toArray)[x]?) = fun x : Nat => places[x]? := by funext x; simp
          simp only [Instr.build, Sem.run_bind, zeroV_run hz, Result.andThen, run_underlying' hu, run_placesA hp, hps, h2, hfill, Sem.run_pure]
        · exact hk.elim
      · exact hk.elim
    · rename_i z n e hz hu
      split at hk
      · rename_i i hi
        obtain ⟨cs, hcs, hk⟩ := hk
        refine ⟨_, ?_, hk⟩
        have hfill := fill_el ρ hcs
        simp only [Instr.build, Sem.run_bind, zeroV_run hz, Result.andThen, run_underlying' hu, run_sizeOf' hi, hps, hfill, Sem.run_pure]
      · exact hk.elim
    · exact hk.elim
  case makeFunc fn first cap =>
    rw [toList_map_toArray, toList_map_toArray] at hk
    exact ro_v ⟨_, rfl, hk⟩
  case call c =>
    obtain ⟨callee, args, ats⟩ := c
    cases callee with
    | value f => simp at hro
    | invoke r m => simp at hro
    | builtin b =>
      cases b <;> simp at hro
      simp only [resolve, Sem.run_bind, Sem.run_pure, Result.andThen, invoke]
      rw [← toList_map_toArray]
      exact ro_v (ro_len hk)
end Go.Proofs.Ytdolepapmpcpiaa

namespace Go.Proofs.Ytdolepapmpcpiaa
open Go Go.MapKept
set_option linter.unusedSectionVars false
variable [Base]
set_option linter.unusedVariables false
set_option linter.unusedSimpArgs false
variable {P : Program}
theorem ro_split {o : Oper} (hro : roOp o.op = true) {ρ : Operand → Value} {h : Hp} {K : Kont} (hk : aop P o ρ h K) : ∃ v, aop P o ρ h (fun v' _ => v' = v) ∧ K v h := by
  obtain ⟨dst, op, type, pos, after, guard⟩ := o
  cases op <;> simp only [roOp, pureOp, readOp, Bool.or_self, Bool.false_eq_true] at hro <;> simp only [aop] at hk ⊢
  case move x => exact ⟨_, rfl, hk⟩
  case assign x => exact ⟨_, rfl, hk⟩
  case pick c a b => unfold oPick at *; split at hk <;> first | exact ⟨_, rfl, hk⟩ | exact hk.elim
  case load t x =>
    unfold oLd1 oLdN at *
    split at hk
    · split at hk
      · obtain ⟨v, hv', hk⟩ := hk; exact ⟨_, ⟨v, hv', rfl⟩, hk⟩
      · exact hk.elim
    · split at hk
      · obtain ⟨v, hv', hk⟩ := hk; exact ⟨_, ⟨v, hv', rfl⟩, hk⟩
      · exact hk.elim
    · exact hk.elim
  case nilCheck x =>
    unfold oNilCheck at *
    split at hk
    all_goals first | exact ⟨_, rfl, hk⟩ | exact hk.elim
  case binOp op t x y yt =>
    unfold oBin oEq at *
    cases op <;> simp only at hk ⊢ <;> first
      | (obtain ⟨v, h1, hk⟩ := hk; exact ⟨v, ⟨v, h1, rfl⟩, hk⟩)
      | (split at hk
         · split at hk
           · rename_i hs; simp only [hs, if_true]; obtain ⟨v, h1, hk⟩ := hk; exact ⟨v, ⟨v, h1, rfl⟩, hk⟩
           · rename_i hs
             simp only [hs, Bool.false_eq_true, if_false]
             split at hk
             · obtain ⟨b, h1, hk⟩ := hk; exact ⟨_, ⟨b, h1, rfl⟩, hk⟩
             · exact hk.elim
         · exact hk.elim)
  case unOp op t x =>
    unfold oNeg oNot at *
    cases op <;> simp only at hk ⊢ <;> (split at hk <;> first | exact ⟨_, rfl, hk⟩ | exact hk.elim)
  case convert s d x =>
    unfold oConvInt at *
    split at hk
    · split at hk <;> first | exact ⟨_, rfl, hk⟩ | exact hk.elim
    · exact hk.elim
  case build t ps =>
    unfold oBuild at *
    split at hk
    · split at hk
      · split at hk
        · obtain ⟨cs, h1, hk⟩ := hk; exact ⟨_, ⟨cs, h1, rfl⟩, hk⟩
        · exact hk.elim
      · exact hk.elim
    · split at hk
      · obtain ⟨cs, h1, hk⟩ := hk; exact ⟨_, ⟨cs, h1, rfl⟩, hk⟩
      · exact hk.elim
    · exact hk.elim
  case makeFunc fn first cap => exact ⟨_, rfl, hk⟩
  case slice t x lo hi mx =>
    unfold oSlice at *
    split at hk
    · split at hk
      · split at hk
        · obtain ⟨m, hh, l, h1, h2, h3, h4, hk⟩ := hk; exact ⟨_, ⟨m, hh, l, h1, h2, h3, h4, rfl⟩, hk⟩
        · obtain ⟨hh, l, h1, h2, h3, hk⟩ := hk; exact ⟨_, ⟨hh, l, h1, h2, h3, rfl⟩, hk⟩
        · exact hk.elim
      · exact hk.elim
    · split at hk
      · obtain ⟨m, hh, l, h1, h2, h3, h4, hk⟩ := hk; exact ⟨_, ⟨m, hh, l, h1, h2, h3, h4, rfl⟩, hk⟩
      · obtain ⟨hh, l, h1, h2, h3, hk⟩ := hk; exact ⟨_, ⟨hh, l, h1, h2, h3, rfl⟩, hk⟩
      · exact hk.elim
    · exact hk.elim
  case fieldAddr s x f =>
    unfold oFieldAddr at *
    split at hk
    · split at hk
      · split at hk
        · split at hk
          · exact hk.elim
          · rename_i h0; simp only [h0, if_false]; split at hk <;> first | exact ⟨_, rfl, hk⟩ | exact hk.elim
        · exact hk.elim
      · exact hk.elim
    · exact hk.elim
  case field t x f =>
    unfold oField at *
    split at hk
    · split at hk
      · split at hk
        · split at hk
          · obtain ⟨v, h1, hk⟩ := hk; exact ⟨_, ⟨v, h1, rfl⟩, hk⟩
          · exact hk.elim
        · exact hk.elim
      · exact hk.elim
    · exact hk.elim
  case indexAddr t x i =>
    unfold oIdxS oIdxA at *
    split at hk
    · split at hk
      · split at hk
        · obtain ⟨h0, h1, hk⟩ := hk; exact ⟨_, ⟨h0, h1, rfl⟩, hk⟩
        · exact hk.elim
      · exact hk.elim
    · split at hk
      · split at hk
        · obtain ⟨h0, h1, hk⟩ := hk; exact ⟨_, ⟨h0, h1, rfl⟩, hk⟩
        · exact hk.elim
      · exact hk.elim
    · exact hk.elim
  case index t x i =>
    unfold oIndexArr oIndexStr at *
    split at hk
    · split at hk
      · split at hk
        · obtain ⟨h0, h1, v, h2, hk⟩ := hk; exact ⟨_, ⟨h0, h1, v, h2, rfl⟩, hk⟩
        · exact hk.elim
      · exact hk.elim
    · split at hk
      · obtain ⟨h0, c, h2, hk⟩ := hk; exact ⟨_, ⟨h0, c, h2, rfl⟩, hk⟩
      · exact hk.elim
    · exact hk.elim
  case lookup t m k ok =>
    unfold oLookup at *
    split at hk
    · split at hk
      · split at hk
        · rename_i hkd
          simp only [hkd, if_true]
          split at hk
          · exact ⟨_, rfl, hk⟩
          · obtain ⟨kv, f, h1, h2, hk⟩ := hk; exact ⟨_, ⟨kv, f, h1, h2, rfl⟩, hk⟩
          · exact hk.elim
        · exact hk.elim
      · exact hk.elim
    · exact hk.elim
  case extract x i =>
    unfold oExtract at *
    split at hk
    · obtain ⟨v, h1, hk⟩ := hk; exact ⟨_, ⟨v, h1, rfl⟩, hk⟩
    · exact hk.elim
  case call c =>
    obtain ⟨callee, args, ats⟩ := c
    cases callee with
    | value f => simp at hro
    | invoke r m => simp at hro
    | builtin b =>
      cases b <;> simp at hro
      simp only at hk ⊢
      generalize ats.toList = ats at *
      generalize List.map ρ args.toList = args at *
      unfold aBuiltin oLen at *
      split at hk
      all_goals first
        | (exfalso; rename_i h1; cases h1; done)
        | (exfalso; rename_i h1 _; cases h1; done)
        | (exfalso; rename_i h1 _ _; cases h1; done)
        | exact hk.elim
        | skip
      split at hk
      all_goals first
        | exact hk.elim
        | exact ⟨_, rfl, hk⟩
        | (split at hk
           all_goals first | (exfalso; simp_all; done) | exact ⟨_, rfl, hk⟩ | exact hk.elim | (obtain ⟨kv, h1, hk⟩ := hk; exact ⟨_, ⟨kv, h1, rfl⟩, hk⟩))
theorem pure_indep {o : Oper} (hp : pureOp o.op = true) {ρ : Operand → Value} {h h' : Hp} {v : Value} (hk : aop P o ρ h (fun v' _ => v' = v)) : aop P o ρ h' (fun v' _ => v' = v) := by
  obtain ⟨dst, op, type, pos, after, guard⟩ := o
  cases op <;> simp only [pureOp, Bool.false_eq_true] at hp <;> exact hk
end Go.Proofs.Ytdolepapmpcpiaa

namespace Go.Proofs.Ytdolepapmpcpiaa
open Go Go.MapKept
set_option linter.unusedSectionVars false
variable [Base]
set_option linter.unusedVariables false
set_option linter.unusedSimpArgs false
variable {P : Program} {ops : Array Oper}
def ev (env : List Value) : Operand → Value
  | .tmp t => env.getD t undef
  | .const v => v
  | .global g => .pointer (some ⟨g, 0, none⟩)
  | .func f => .func (.func f) #[] #[]
def putE (env : List Value) (dst : Option Tmp) (v : Value) : List Value :=
  match dst with
  | some d => env.set d v
  | none => env
def actOf (env : List Value) : Act := ⟨env.toArray, []⟩
theorem eval_actOf (env : List Value) : (actOf env).eval = ev env := by
  funext x
  cases x <;> simp [Act.eval, ev, actOf]
theorem put_actOf (env : List Value) (dst : Option Tmp) (v : Value) : (actOf env).put dst v = actOf (putE env dst v) := by
  cases dst <;> simp [Act.put, putE, actOf]
/-- A guard's value. -/
def gval (ops : Array Oper) (j : Nat) (env : List Value) : Value :=
  match ops[j]? with
  | some o => match o.dst with
    | some d => env.getD d undef
    | none => undef
  | none => undef
def oGuard (g : Value) (want : Bool) (m : Kont → Prop) (h : Hp) (K : Kont) : Prop :=
  match g with
  | .bool b => match b, want with
    | true, true => m K
    | false, false => m K
    | true, false => K undef h
    | false, true => K undef h
  | _ => K undef h
theorem yielded_actOf (ops : Array Oper) (env : List Value) (j : Nat) : yielded ops (actOf env).tmps j = match gval ops j env with | .bool b => some b | _ => none := by
  unfold yielded gval actOf
  cases hj : ops[j]? with
  | none => rfl
  | some o =>
    cases hd : o.dst with
    | none => simp only [Option.bind_some, hd]; rfl
    | some d =>
      simp only [Option.bind_some, hd, List.getElem?_toArray, List.getD]
      cases env[d]? with
      | none => rfl
      | some v => cases v <;> rfl
/-- An operation, if it is wanted. -/
def aopG (P : Program) (ops : Array Oper) (o : Oper) (env : List Value) (h : Hp) (K : Kont) : Prop :=
  match o.guard with
  | none => aop P o (ev env) h K
  | some (j, want) => oGuard (gval ops j env) want (fun K => aop P o (ev env) h K) h K
theorem wanted_cases (o : Oper) (env : List Value) (h : Hp) (K : Kont) (hk : aopG P ops o env h K) :
    (Region.wanted o (yielded ops (actOf env).tmps) = true ∧ aop P o (ev env) h K) ∨ (Region.wanted o (yielded ops (actOf env).tmps) = false ∧ K undef h) := by
  unfold aopG at hk
  unfold Region.wanted
  cases hg : o.guard with
  | none => rw [hg] at hk; exact .inl ⟨rfl, hk⟩
  | some g =>
    obtain ⟨j, want⟩ := g
    simp only [hg] at hk
    simp only [yielded_actOf]
    unfold oGuard at hk
    split at hk
    · rename_i b hb
      try rw [hb]
      cases b <;> cases want <;> simp at hk ⊢ <;> first | exact .inl hk | exact hk
    · rename_i hb
      refine .inr ⟨?_, hk⟩
      cases hgv : gval ops j env <;> simp <;> exact absurd hgv (hb _)
theorem upon_of_ok {o : Oper} {a : Act} {r : Result Next} {K : Kont} {next : Act → World → Prop} {Q : Exit → Act → World → Prop} (h : OpOk P r K) (hn : ∀ v w', K v (hv w') → next (a.put o.dst v) w') : o.upon P a next Q r := by
  unfold OpOk at h
  split at h
  · exact hn _ _ h
  · exact hn _ _ h
  · simp only [Oper.upon]
    refine (h _ rfl).mono ?_
    rintro e w'' ⟨v, rfl, hk⟩
    exact hn _ _ hk
  · exact h.elim
theorem wpOp_of_aop {i : Nat} {o : Oper} (hi : ops[i]? = some o) {env : List Value} {w : World} {K : Kont} (hk : aopG P ops o env (hv w) K) {next : Act → World → Prop} {Q : Exit → Act → World → Prop}
    (hn : ∀ v w', K v (hv w') → next (actOf (putE env o.dst v)) w') : wpOp P ops Q i next (actOf env) w := by
  unfold wpOp
  simp only [hi]
  rcases wanted_cases o env (hv w) K hk with ⟨hw, ha⟩ | ⟨hw, ha⟩
  · simp only [hw, if_true]
    refine .inl ?_
    unfold Oper.wp
    rw [eval_actOf]
    exact upon_of_ok (aop_sound (fun f => rfl) ha) (fun v w' hk => by rw [put_actOf]; exact hn v w' hk)
  · simp only [hw, Bool.false_eq_true, if_false]
    rw [put_actOf]
    exact hn _ _ ha
def aregN (P : Program) (ops : Array Oper) : List Oper → (List Value → Hp → Prop) → List Value → Hp → Prop
  | [], Q, env, h => Q env h
  | o :: r, Q, env, h => aopG P ops o env h (fun v h' => aregN P ops r Q (putE env o.dst v) h')
theorem aregN_sound {Qn : List Value → Hp → Prop} {Q : Exit → Act → World → Prop} (hq : ∀ env w, Qn env (hv w) → Q .normal (actOf env) w) : ∀ (l : List Oper) (i : Nat) (env : List Value) (w : World),
    ops.toList.drop i = l → aregN P ops l Qn env (hv w) → wpOps P ops Q (List.range' i l.length) (actOf env) w
  | [], i, env, w, hl, hk => by simpa [wpOps] using hq _ _ hk
  | o :: r, i, env, w, hl, hk => by
    have hi : ops[i]? = some o := by
      have := congrArg (fun l => l[0]?) hl
      simpa using this
    have hr : ops.toList.drop (i + 1) = r := by
      have := congrArg List.tail hl
      simpa using this
    simp only [List.length_cons, List.range'_succ, wpOps_cons]
    exact wpOp_of_aop hi hk (fun v w' hk => aregN_sound hq r (i + 1) _ w' hr hk)
def indep (ops : Array Oper) (j i : Nat) : Bool :=
  match ops[j]? with
  | some oj => oj.after.toList.all fun e => !(Region.binds .any e) || e.on != i
  | none => true
abbrev HeldW := List (Nat × (World → Prop))
def wpAnyG (P : Program) (ops : Array Oper) (Q : Exit → Act → World → Prop) (H : HeldW) : Nat → Array Bool → Act → World → Prop
  | 0, listed, a, w => Region.ready .any ops listed = [] ∧ Q .normal a w
  | fuel + 1, listed, a, w =>
    (Region.ready .any ops listed = [] → Q .normal a w) ∧
    ∀ j ∈ Region.ready .any ops listed, wpOp P ops Q j (fun a' w' => (∀ p ∈ H, indep ops j p.1 = true → p.2 w → p.2 w') ∧ wpAnyG P ops Q H fuel (listed.setIfInBounds j true) a' w') a w
variable {Q : Exit → Act → World → Prop}
theorem wpAny_of_G {H : HeldW} : ∀ (fuel : Nat) (listed : Array Bool) (a : Act) (w : World), wpAnyG P ops Q H fuel listed a w → wpAny P .any ops Q fuel listed a w
  | 0, _, _, _, h => h
  | fuel + 1, _, _, _, h => ⟨h.1, fun i hi => wpOp_mono (fun a' w' h' => wpAny_of_G fuel _ a' w' h'.2) (h.2 i hi)⟩
theorem wpAnyG_weaken {H H' : HeldW} (hs : ∀ p ∈ H, p ∈ H') : ∀ (fuel : Nat) (listed : Array Bool) (a : Act) (w : World), wpAnyG P ops Q H' fuel listed a w → wpAnyG P ops Q H fuel listed a w
  | 0, _, _, _, h => h
  | fuel + 1, _, _, _, h => ⟨h.1, fun i hi => wpOp_mono (fun a' w' h' => ⟨fun p hp => h'.1 p (hs p hp), wpAnyG_weaken hs fuel _ a' w' h'.2⟩) (h.2 i hi)⟩
theorem indep_of_ready {j i : Nat} {listed : Array Bool} (hj : j ∈ Region.ready .any ops listed) (hi : i ∈ Region.ready .any ops listed) : indep ops j i = true := by
  obtain ⟨_, oj, hoj, hall⟩ := mem_ready.1 hj
  have hi0 := (mem_ready.1 hi).1
  unfold indep
  simp only [hoj, List.all_eq_true]
  intro e he
  cases hb : Region.binds .any e with
  | false => rfl
  | true =>
    have h1 := hall e (Array.mem_toList_iff.1 he) hb
    simp only [Bool.not_true, Bool.false_or, bne_iff_ne, ne_eq]
    intro heq
    rw [heq] at h1
    rcases Nat.lt_or_ge i listed.size with hl | hl
    · simp [hl] at hi0 h1; rw [hi0] at h1; cases h1
    · simp [Array.getElem?_eq_none hl] at h1
/-- What may come up now, and answers the same wherever its condition holds, may be taken now. -/
theorem wpAnyG_first {H : HeldW} {i : Nat} {oi : Oper} {v : Value} {S : World → Prop} (hi : ops[i]? = some oi) (hs : Region.noSelect ops = true) (hQ : ∀ c a w, ¬ Q (.panic c) a w) (hH : (i, S) ∈ H) :
    ∀ (fuel : Nat) (listed : Array Bool) (a : Act) (w : World),
      (∀ j oj, ops[j]? = some oj → j ≠ i → listed.getD j true = false → (∀ e ∈ oj.after, Region.binds .any e = true → e.on ≠ i) → oi.apart ops oj = true) →
      i ∈ Region.ready .any ops listed → YieldsIf P ops S oi v a → S w →
      wpAnyG P ops Q H fuel (listed.setIfInBounds i true) (a.put oi.dst v) w → wpAnyG P ops Q H (fuel + 1) listed a w := by
  have hsel := Region.noSelect_spec hs
  intro fuel
  induction fuel with
  | zero =>
    intro listed a w _ hr hy hS hg
    refine ⟨fun h => (by rw [h] at hr; cases hr), fun j hj => ?_⟩
    by_cases hji : j = i
    · subst hji; exact hy.wpOp hi hS ⟨fun p _ _ h => h, hg⟩
    · have := ready_mono hj hji
      rw [hg.1] at this
      cases this
  | succ fuel ih =>
    intro listed a w hfree hr hy hS hg
    refine ⟨fun h => (by rw [h] at hr; cases hr), fun j hj => ?_⟩
    by_cases hji : j = i
    · subst hji; exact hy.wpOp hi hS ⟨fun p _ _ h => h, hg⟩
    · have h1 := hg.2 j (ready_mono hj hji)
      have hind := indep_of_ready hj hr
      obtain ⟨hjun, oj, hoj, hall⟩ := mem_ready.1 hj
      have hnot : ∀ e ∈ oj.after, Region.binds .any e = true → e.on ≠ i := by
        intro e he hb
        unfold indep at hind
        simp only [hoj, List.all_eq_true] at hind
        have := hind e (Array.mem_toList_iff.2 he)
        simpa [hb] using this
      have h2 := wpOp_putIf hoj (hfree j oj hoj hji hjun hnot) (fun cs b => hsel i oi cs b hi) (fun cs b => hsel j oj cs b hoj) (fun c a w h => (hQ _ _ _ h).elim) hy h1
      refine wpOp_mono (fun a' w' h3 => ⟨h3.2.1, ih (listed.setIfInBounds j true) a' w' ?_ (ready_mono hr (Ne.symm hji)) h3.1 (h3.2.1 _ hH hind hS) ?_⟩) h2
      · intro k ok hk hki hun hno
        refine hfree k ok hk hki ?_ hno
        by_cases hjk : j = k
        · subst hjk; exact hjun
        · rw [getD_set_ne true hjk] at hun; exact hun
      · rw [Array.setIfInBounds_comm _ _ hji]
        exact h3.2.2
abbrev HeldA := List (Nat × (Hp → Prop))
def keepAll (ops : Array Oper) (j : Nat) (h h' : Hp) : HeldA → Prop
  | [] => True
  | p :: r => if indep ops j p.1 then (p.2 h → p.2 h') ∧ keepAll ops j h h' r else keepAll ops j h h' r
def oGuardH (g : Value) (want : Bool) (p : Prop) : Prop :=
  match g with
  | .bool b => match b, want with
    | true, true => p
    | false, false => p
    | true, false => True
    | false, true => True
  | _ => True
def holdP (P : Program) (ops : Array Oper) (o : Oper) (env : List Value) (v : Value) (h : Hp) : Prop :=
  match o.guard with
  | none => aop P o (ev env) h (fun v' _ => v' = v)
  | some (j, want) => oGuardH (gval ops j env) want (aop P o (ev env) h (fun v' _ => v' = v))
def holdOf (P : Program) (ops : Array Oper) (i : Nat) (o : Oper) (env : List Value) (v : Value) (H : HeldA) : HeldA :=
  if readOp o.op then (i, holdP P ops o env v) :: H else H
/-- The order that is walked: which operation, and whether it is taken ahead of all that may come up; at two that may come up, both ways. -/
inductive OT where
  | nil
  | one (i : Nat) (b : Bool) (r : OT)
  | both (i j : Nat) (ri rj : OT)
def acanL (P : Program) (ops : Array Oper) (Q : List Value → Hp → Prop) : OT → HeldA → List Value → Hp → Prop
  | .nil, _, env, h => Q env h
  | .one i b r, H, env, h =>
    match ops[i]? with
    | some o =>
      match b with
      | true => aopG P ops o env h (fun v h' => acanL P ops Q r (holdOf P ops i o env v H) (putE env o.dst v) h')
      | false => aopG P ops o env h (fun v h' => keepAll ops i h h' H ∧ acanL P ops Q r H (putE env o.dst v) h')
    | none => False
  | .both i j ri rj, H, env, h =>
    match ops[i]?, ops[j]? with
    | some oi, some oj =>
      aopG P ops oi env h (fun v h' => keepAll ops i h h' H ∧ acanL P ops Q ri H (putE env oi.dst v) h') ∧
      aopG P ops oj env h (fun v h' => keepAll ops j h h' H ∧ acanL P ops Q rj H (putE env oj.dst v) h')
    | _, _ => False
def afterMask (l : List Edge) : Nat :=
  match l with
  | [] => 0
  | e :: r => if Region.binds .any e then (1 <<< e.on) ||| afterMask r else afterMask r
def rdyM (o : Oper) (m : Nat) : Bool := afterMask o.after.toList &&& m == afterMask o.after.toList
def freeM (ops : Array Oper) (oi : Oper) (i m : Nat) : List Oper → Nat → Bool
  | [], _ => true
  | oj :: r, j => (j == i || m.testBit j || (afterMask oj.after.toList).testBit i || oi.apart ops oj) && freeM ops oi i m r (j + 1)
def onlyM (i k m : Nat) : List Oper → Nat → Bool
  | [], _ => true
  | oj :: r, j => (j == i || j == k || m.testBit j || !(rdyM oj m)) && onlyM i k m r (j + 1)
def ordGo (ops : Array Oper) : OT → Nat → Nat → Bool
  | .nil, m, n => n == 0 && onlyM ops.size ops.size m ops.toList 0
  | .one i b r, m, n =>
    match ops[i]?, n with
    | some o, n + 1 => !m.testBit i && rdyM o m && (match b with | true => roOp o.op && freeM ops o i m ops.toList 0 | false => onlyM i i m ops.toList 0) && ordGo ops r (m ||| (1 <<< i)) n
    | _, _ => false
  | .both i j ri rj, m, n =>
    match ops[i]?, ops[j]?, n with
    | some oi, some _, n + 1 => onlyM i j m ops.toList 0 && ordGo ops ri (m ||| (1 <<< i)) n && ordGo ops rj (m ||| (1 <<< j)) n && (!m.testBit i && rdyM oi m)
    | _, _, _ => false
def ordOk (ops : Array Oper) (t : OT) : Bool := Region.noSelect ops && ordGo ops t 0 ops.size
/-- The same conditions on worlds; what only computes has none. -/
def HW (H : HeldA) : HeldW := H.map fun p => (p.1, fun w => p.2 (hv w))
theorem keepAll_spec {j : Nat} {h h' : Hp} : ∀ {H : HeldA}, keepAll ops j h h' H → ∀ p ∈ H, indep ops j p.1 = true → p.2 h → p.2 h'
  | [], _, p, hp => by cases hp
  | q :: r, hk, p, hp => by
    unfold keepAll at hk
    intro hi
    cases hp with
    | head => rw [if_pos hi] at hk; exact hk.1
    | tail _ hp =>
      split at hk
      · exact keepAll_spec hk.2 p hp hi
      · exact keepAll_spec hk p hp hi
theorem yieldsIf_of {i : Nat} {o : Oper} (hi : ops[i]? = some o) (hro : roOp o.op = true) {env : List Value} {w : World} {K : Kont} (hk : aopG P ops o env (hv w) K) :
    ∃ v, K v (hv w) ∧ holdP P ops o env v (hv w) ∧ YieldsIf P ops (fun w' => readOp o.op = true → holdP P ops o env v (hv w')) o v (actOf env) := by
  rcases wanted_cases o env (hv w) K hk with ⟨hw, ha⟩ | ⟨hw, ha⟩
  · obtain ⟨v, h1, h2⟩ := ro_split hro ha
    have hp : ∀ h, holdP P ops o env v h ↔ aop P o (ev env) h (fun v' _ => v' = v) := by
      intro h
      unfold holdP
      unfold Region.wanted at hw
      cases hg : o.guard with
      | none => rfl
      | some g =>
        obtain ⟨j, want⟩ := g
        rw [hg] at hw
        simp only [yielded_actOf] at hw
        simp only
        cases hgv : gval ops j env <;> rw [hgv] at hw <;> simp at hw
        rename_i b
        subst hw
        cases b <;> rfl
    refine ⟨v, h2, (hp _).2 h1, .inl ⟨hw, fun w' hS => ?_⟩⟩
    rw [eval_actOf]
    have ha' : aop P o (ev env) (hv w') (fun v' _ => v' = v) := by
      cases hr : readOp o.op with
      | true => exact (hp _).1 (hS hr)
      | false =>
        have hp' : pureOp o.op = true := by simpa [roOp, hr] using hro
        exact pure_indep hp' h1
    obtain ⟨v', hrun, rfl⟩ := ro_sound hro ha'
    exact hrun
  · refine ⟨undef, ha, ?_, .inr ⟨hw, rfl⟩⟩
    unfold holdP
    unfold Region.wanted at hw
    cases hg : o.guard with
    | none => rw [hg] at hw; cases hw
    | some g =>
      obtain ⟨j, want⟩ := g
      rw [hg] at hw
      simp only [yielded_actOf] at hw
      simp only
      cases hgv : gval ops j env <;> rw [hgv] at hw <;> simp only [oGuardH]
      rename_i b
      cases b <;> cases want <;> simp at hw <;> trivial
theorem afterMask_bit : ∀ (l : List Edge) (i : Nat), (afterMask l).testBit i = true ↔ ∃ e ∈ l, Region.binds .any e = true ∧ e.on = i
  | [], i => by simp [afterMask]
  | e :: r, i => by
    unfold afterMask
    split
    · rename_i hb
      rw [Nat.testBit_or, Bool.or_eq_true, afterMask_bit r i]
      constructor
      · rintro (h | ⟨e', h1, h2⟩)
        · refine ⟨e, .head _, hb, ?_⟩
          rw [Nat.one_shiftLeft, Nat.testBit_two_pow] at h
          simpa using h
        · exact ⟨e', .tail _ h1, h2⟩
      · rintro ⟨e', h1, h2, h3⟩
        cases h1 with
        | head => left; rw [Nat.one_shiftLeft, Nat.testBit_two_pow]; simpa using h3
        | tail _ h1 => exact .inr ⟨e', h1, h2, h3⟩
    · rename_i hb
      rw [afterMask_bit r i]
      constructor
      · rintro ⟨e', h1, h2⟩; exact ⟨e', .tail _ h1, h2⟩
      · rintro ⟨e', h1, h2, h3⟩
        cases h1 with
        | head => exact absurd h2 hb
        | tail _ h1 => exact ⟨e', h1, h2, h3⟩
/-- The mask tells what has been listed. -/
def Tells (ops : Array Oper) (listed : Array Bool) (m : Nat) : Prop := listed.size = ops.size ∧ ∀ j, m.testBit j = listed.getD j false
theorem Tells.getD_true {listed : Array Bool} {m j : Nat} (t : Tells ops listed m) (hj : j < ops.size) : listed.getD j true = m.testBit j := by
  rw [t.2 j]
  have : j < listed.size := by rw [t.1]; exact hj
  simp [this]
theorem rdyM_spec {listed : Array Bool} {m : Nat} (t : Tells ops listed m) (o : Oper) : rdyM o m = true ↔ ∀ e ∈ o.after, Region.binds .any e = true → listed.getD e.on false = true := by
  unfold rdyM
  rw [beq_iff_eq]
  constructor
  · intro h e he hb
    have h1 : (afterMask o.after.toList).testBit e.on = true := (afterMask_bit _ _).2 ⟨e, Array.mem_toList_iff.2 he, hb, rfl⟩
    rw [← h, Nat.testBit_and, Bool.and_eq_true] at h1
    rw [← t.2]
    exact h1.2
  · intro h
    apply Nat.eq_of_testBit_eq
    intro i
    rw [Nat.testBit_and]
    cases hb : (afterMask o.after.toList).testBit i with
    | false => rfl
    | true =>
      obtain ⟨e, he, hbe, rfl⟩ := (afterMask_bit _ _).1 hb
      rw [t.2, h e (Array.mem_toList_iff.1 he) hbe]
      rfl
theorem Tells.set {listed : Array Bool} {m i : Nat} (t : Tells ops listed m) (hi : i < ops.size) : Tells ops (listed.setIfInBounds i true) (m ||| (1 <<< i)) := by
  refine ⟨by simp [t.1], fun j => ?_⟩
  rw [Nat.testBit_or, Nat.one_shiftLeft, Nat.testBit_two_pow, t.2 j]
  have hl : i < listed.size := by rw [t.1]; exact hi
  by_cases hij : i = j
  · subst hij; simp [hl]
  · simp [hij, Array.getD_eq_getD_getElem?, Array.getElem?_setIfInBounds_ne hij]
theorem freeM_spec {oi : Oper} {i m : Nat} : ∀ (l : List Oper) (k : Nat), freeM ops oi i m l k = true → ∀ j oj, l[j]? = some oj → k + j ≠ i → m.testBit (k + j) = false → (afterMask oj.after.toList).testBit i = false → oi.apart ops oj = true
  | [], k, _, j, oj, hj, _, _, _ => by simp at hj
  | o :: r, k, h, j, oj, hj, h1, h2, h3 => by
    simp only [freeM, Bool.and_eq_true, Bool.or_eq_true, beq_iff_eq] at h
    cases j with
    | zero =>
      simp only [List.getElem?_cons_zero, Option.some.injEq] at hj
      subst hj
      simp only [Nat.add_zero] at h1 h2
      rcases h.1 with ((h' | h') | h') | h'
      · exact absurd h' h1
      · rw [h2] at h'; cases h'
      · rw [h3] at h'; cases h'
      · exact h'
    | succ j =>
      simp only [List.getElem?_cons_succ] at hj
      exact freeM_spec r (k + 1) h.2 j oj hj (by omega) (by rw [show k + 1 + j = k + (j + 1) by omega]; exact h2) h3
theorem onlyM_spec {i k' m : Nat} : ∀ (l : List Oper) (k : Nat), onlyM i k' m l k = true → ∀ j oj, l[j]? = some oj → k + j ≠ i → k + j ≠ k' → m.testBit (k + j) = false → rdyM oj m = false
  | [], k, _, j, oj, hj, _, _, _ => by simp at hj
  | o :: r, k, h, j, oj, hj, h1, h1', h2 => by
    simp only [onlyM, Bool.and_eq_true, Bool.or_eq_true, beq_iff_eq, Bool.not_eq_true'] at h
    cases j with
    | zero =>
      simp only [List.getElem?_cons_zero, Option.some.injEq] at hj
      subst hj
      simp only [Nat.add_zero] at h1 h1' h2
      rcases h.1 with ((h' | h') | h') | h'
      · exact absurd h' h1
      · exact absurd h' h1'
      · rw [h2] at h'; cases h'
      · exact h'
    | succ j =>
      simp only [List.getElem?_cons_succ] at hj
      exact onlyM_spec r (k + 1) h.2 j oj hj (by omega) (by omega) (by rw [show k + 1 + j = k + (j + 1) by omega]; exact h2)
theorem only_ready {i k m : Nat} {listed : Array Bool} (ht : Tells ops listed m) (ho : onlyM i k m ops.toList 0 = true) {j : Nat} (hj : j ∈ Region.ready .any ops listed) : j = i ∨ j = k := by
  obtain ⟨h1, o, h2, h3⟩ := mem_ready.1 hj
  have hlt : j < ops.size := (Array.getElem?_eq_some_iff.1 h2).1
  by_cases e1 : j = i
  · exact .inl e1
  · by_cases e2 : j = k
    · exact .inr e2
    · have hf := onlyM_spec ops.toList 0 ho j o (by simpa using h2) (by omega) (by omega) (by rw [Nat.zero_add, ← ht.getD_true hlt]; exact h1)
      rw [(rdyM_spec ht o).2 h3] at hf
      cases hf
theorem keepAll_HW {j : Nat} {w w' : World} {H : HeldA} (hk : keepAll ops j (hv w) (hv w') H) : ∀ p ∈ HW H, indep ops j p.1 = true → p.2 w → p.2 w' := by
  intro p hp hind hpw
  simp only [HW, List.mem_map] at hp
  obtain ⟨q, hq', rfl⟩ := hp
  exact keepAll_spec hk q hq' hind hpw
theorem acanL_sound {Qn : List Value → Hp → Prop} (hs : Region.noSelect ops = true) (hQ : ∀ c a w, ¬ Q (.panic c) a w) (hq : ∀ env w, Qn env (hv w) → Q .normal (actOf env) w) :
    ∀ (l : OT) (H : HeldA) (listed : Array Bool) (m n : Nat) (env : List Value) (w : World), Tells ops listed m → ordGo ops l m n = true → acanL P ops Qn l H env (hv w) → wpAnyG P ops Q (HW H) n listed (actOf env) w
  | .nil, H, listed, m, n, env, w, ht, ho, hk => by
    simp only [ordGo, Bool.and_eq_true, beq_iff_eq] at ho
    obtain ⟨rfl, ho⟩ := ho
    refine ⟨?_, hq _ _ hk⟩
    rw [List.eq_nil_iff_forall_not_mem]
    intro j hj
    have hlt : j < ops.size := by
      obtain ⟨_, o, h2, _⟩ := mem_ready.1 hj
      exact (Array.getElem?_eq_some_iff.1 h2).1
    rcases only_ready ht ho hj with h | h <;> omega
  | .both i j ri rj, H, listed, m, n, env, w, ht, ho, hk => by
    unfold acanL at hk
    unfold ordGo at ho
    split at hk
    · rename_i oi oj hi hj
      cases n with
      | zero => simp [hi, hj] at ho
      | succ n =>
        simp only [hi, hj, Bool.and_eq_true] at ho
        obtain ⟨⟨⟨ho1, ho2⟩, ho3⟩, ho4⟩ := ho
        have hil : i < ops.size := (Array.getElem?_eq_some_iff.1 hi).1
        have hjl : j < ops.size := (Array.getElem?_eq_some_iff.1 hj).1
        refine ⟨?_, fun k hkm => ?_⟩
        · intro hnil
          have hmem : i ∈ Region.ready .any ops listed := mem_ready.2 ⟨by rw [ht.getD_true hil]; simpa using ho4.1, oi, hi, (rdyM_spec ht oi).1 ho4.2⟩
          rw [hnil] at hmem
          cases hmem
        · rcases only_ready ht ho1 hkm with rfl | rfl
          · exact wpOp_of_aop hi hk.1 (fun v w' hk => ⟨keepAll_HW hk.1, acanL_sound hs hQ hq ri H _ _ n _ w' (ht.set hil) ho2 hk.2⟩)
          · exact wpOp_of_aop hj hk.2 (fun v w' hk => ⟨keepAll_HW hk.1, acanL_sound hs hQ hq rj H _ _ n _ w' (ht.set hjl) ho3 hk.2⟩)
    · exact hk.elim
  | .one i b r, H, listed, m, n, env, w, ht, ho, hk => by
    unfold acanL at hk
    unfold ordGo at ho
    cases hi : ops[i]? with
    | none => rw [hi] at hk; exact hk.elim
    | some o =>
      cases n with
      | zero => simp [hi] at ho
      | succ n =>
      rw [hi] at hk
      simp only [hi] at ho
      have hlt : i < ops.size := (Array.getElem?_eq_some_iff.1 hi).1
      simp only [Bool.and_eq_true, Bool.not_eq_true'] at ho
      obtain ⟨⟨⟨hm0, hrdy⟩, hb⟩, hrest⟩ := ho
      have hmem : i ∈ Region.ready .any ops listed := mem_ready.2 ⟨by rw [ht.getD_true hlt]; exact hm0, o, hi, (rdyM_spec ht o).1 hrdy⟩
      cases b with
      | true =>
        simp only [Bool.and_eq_true] at hb hk
        obtain ⟨v, hk', hh, hy⟩ := yieldsIf_of hi hb.1 hk
        have ih := acanL_sound hs hQ hq r _ _ _ n _ w (ht.set hlt) hrest hk'
        have hfree : ∀ j oj, ops[j]? = some oj → j ≠ i → listed.getD j true = false → (∀ e ∈ oj.after, Region.binds .any e = true → e.on ≠ i) → o.apart ops oj = true := by
          intro j oj hj hji hun hno
          have hjl : j < ops.size := (Array.getElem?_eq_some_iff.1 hj).1
          refine freeM_spec ops.toList 0 hb.2 j oj (by simpa using hj) (by omega) (by rw [Nat.zero_add, ← ht.getD_true hjl]; exact hun) ?_
          cases hx : (afterMask oj.after.toList).testBit i with
          | false => rfl
          | true =>
            obtain ⟨e, he, hbe, heq⟩ := (afterMask_bit _ _).1 hx
            exact absurd heq (hno e (Array.mem_toList_iff.1 he) hbe)
        cases hr : readOp o.op with
        | true =>
          simp only [holdOf, hr, if_true] at ih
          refine wpAnyG_weaken (H' := HW ((i, holdP P ops o env v) :: H)) (by intro p hp; simp only [HW, List.map_cons]; exact .tail _ hp) _ _ _ _ ?_
          refine wpAnyG_first (v := v) (S := fun w' => holdP P ops o env v (hv w')) hi hs hQ (by simp [HW]) n listed _ w hfree hmem ?_ hh ?_
          · rcases hy with ⟨h1, h2⟩ | h1
            · exact .inl ⟨h1, fun w' hS => h2 w' (fun _ => hS)⟩
            · exact .inr h1
          · rw [put_actOf]; exact ih
        | false =>
          simp only [holdOf, hr, Bool.false_eq_true, if_false] at ih
          refine wpAnyG_weaken (H' := (i, fun _ => True) :: HW H) (fun p hp => .tail _ hp) _ _ _ _ ?_
          refine wpAnyG_first (v := v) (S := fun _ => True) hi hs hQ (.head _) n listed _ w hfree hmem ?_ trivial ?_
          · rcases hy with ⟨h1, h2⟩ | h1
            · exact .inl ⟨h1, fun w' _ => h2 w' (fun h => by rw [hr] at h; cases h)⟩
            · exact .inr h1
          · rw [put_actOf]
            have key : ∀ (fuel : Nat) (listed : Array Bool) (a : Act) (w : World), wpAnyG P ops Q (HW H) fuel listed a w → wpAnyG P ops Q ((i, fun _ => True) :: HW H) fuel listed a w := by
              intro fuel
              induction fuel with
              | zero => intro _ _ _ h; exact h
              | succ fuel ih2 =>
                intro listed a w h
                refine ⟨h.1, fun j hj => wpOp_mono (fun a' w' h' => ⟨fun p hp => ?_, ih2 _ _ _ h'.2⟩) (h.2 j hj)⟩
                cases hp with
                | head => intro _ _; trivial
                | tail _ hp => exact h'.1 p hp
            exact key _ _ _ _ ih
      | false =>
        simp only at hb hk
        refine ⟨fun h => (by rw [h] at hmem; cases hmem), fun j hj => ?_⟩
        have hji : j = i := by rcases only_ready ht hb hj with h | h <;> exact h
        subst hji
        exact wpOp_of_aop hi hk (fun v w' hk => ⟨keepAll_HW hk.1, acanL_sound hs hQ hq r H _ _ n _ w' (ht.set hlt) hrest hk.2⟩)
end Go.Proofs.Ytdolepapmpcpiaa

namespace Go.Proofs.Ytdolepapmpcpiaa
open Go Go.MapKept
set_option linter.unusedSectionVars false
variable [Base]
set_option linter.unusedVariables false
set_option linter.unusedSimpArgs false
variable {P : Program}
/-- How a piece of code is left. -/
inductive Ex where
  | normal
  | exit (id : Nat)
  | ret
abbrev Post := Ex → List Value → Hp → Prop
def loopN (B : (List Value → Hp → Prop) → List Value → Hp → Prop) : Nat → List Value → Hp → Prop
  | 0, _, _ => False
  | n + 1, env, h => B (loopN B n) env h
def oLoop (B : (List Value → Hp → Prop) → List Value → Hp → Prop) (env : List Value) (h : Hp) : Prop := ∃ n, loopN B n env h
def oIf (c : Value) (a b : Prop) : Prop :=
  match c with
  | .bool true => a
  | .bool false => b
  | _ => False
/-- What is left: k behind a normal end, Q behind any other. -/
def qSeq (k : List Value → Hp → Prop) (Q : Post) : Post
  | .normal, env, h => k env h
  | .exit id, env, h => Q (.exit id) env h
  | .ret, env, h => Q .ret env h
def qBlk (id : Nat) (Q : Post) : Post
  | .normal, env, h => Q .normal env h
  | .exit id', env, h => if id' = id then Q .normal env h else Q (.exit id') env h
  | .ret, env, h => Q .ret env h
/-- A table: the orders of a function's regions. -/
def odOf : List (Nat × OT) → Nat → OT
  | [], _ => .nil
  | (j, l) :: r, i => if j == i then l else odOf r i
abbrev Od := List (Nat × OT)
def aw (P : Program) (od : Od) : Code → Post → List Value → Hp → Prop
  | .skip, Q, env, h => Q .normal env h
  | .region id ops draw, Q, env, h =>
    match draw with
    | false => aregN P ops ops.toList (Q .normal) env h
    | true =>
      match ordOk ops (odOf od id) with
      | true => acanL P ops (Q .normal) (odOf od id) [] env h
      | false => False
  | .seq a b, Q, env, h => aw P od a (qSeq (aw P od b Q) Q) env h
  | .cond c x y, Q, env, h => oIf (ev env c) (aw P od x Q env h) (aw P od y Q env h)
  | .block id body, Q, env, h => aw P od body (qBlk id Q) env h
  | .loop body, Q, env, h => oLoop (fun self env h => aw P od body (qSeq self Q) env h) env h
  | .exit id, Q, env, h => Q (.exit id) env h
  | .ret, Q, env, h => Q .ret env h
  | _, _, _, _ => False
def up (Q : Post) : Exit → Act → World → Prop
  | .normal, a, w => ∃ env, a = actOf env ∧ Q .normal env (hv w)
  | .exit id, a, w => ∃ env, a = actOf env ∧ Q (.exit id) env (hv w)
  | .ret, a, w => ∃ env, a = actOf env ∧ Q .ret env (hv w)
  | _, _, _ => False
theorem aw_sound {od : Od} (hm : P.follows .mixedOrders = true) : ∀ (c : Code) (Q : Post) (env : List Value) (w : World), aw P od c Q env (hv w) → c.wp P (up Q) (actOf env) w
  | .skip, Q, env, w, h => wp_skip ⟨env, rfl, h⟩
  | .region id ops draw, Q, env, w, h => by
    cases draw with
    | false =>
      simp only [aw] at h
      refine wp_region ?_
      have := aregN_sound (P := P) (ops := ops) (Qn := Q .normal) (Q := up Q) (fun env w hq => ⟨env, rfl, hq⟩) ops.toList 0 env w rfl h
      rw [List.range_eq_range']
      simpa using this
    | true =>
      simp only [aw] at h
      split at h
      · rename_i hok
        simp only [ordOk, Bool.and_eq_true, beq_iff_eq] at hok
        refine wp_region_any hm ?_
        have ht : Tells ops (Array.replicate ops.size false) 0 := ⟨by simp, fun j => by simp [Array.getD_eq_getD_getElem?, Array.getElem?_replicate]; split <;> rfl⟩
        have := acanL_sound (P := P) (ops := ops) (Q := up Q) (Qn := Q .normal) hok.1 (fun c a w hx => hx) (fun env w hq => ⟨env, rfl, hq⟩) (odOf od id) [] _ 0 _ env { w with drawn := w.drawn + 1 } ht hok.2 h
        exact wpAny_of_G _ _ _ _ this
      · exact h.elim
  | .seq a b, Q, env, w, h => by
    simp only [aw] at h
    refine wp_seq (wp_mono (aw_sound hm a _ env w h) ?_)
    intro e a' w' hq
    cases e with
    | normal => obtain ⟨env', rfl, hq⟩ := hq; exact aw_sound hm b Q env' w' hq
    | exit id => exact hq
    | ret => exact hq
    | goto l => exact hq
    | panic c => exact hq
    | outgrown => exact hq
  | .cond c x y, Q, env, w, h => by
    simp only [aw, oIf] at h
    split at h
    · rename_i hc
      exact wp_cond_true (by rw [eval_actOf]; exact hc) (aw_sound hm x Q env w h)
    · rename_i hc
      exact wp_cond_false (by rw [eval_actOf]; exact hc) (aw_sound hm y Q env w h)
    · exact h.elim
  | .block id body, Q, env, w, h => by
    simp only [aw] at h
    refine wp_block (wp_mono (aw_sound hm body _ env w h) ?_)
    intro e a' w' hq
    cases e with
    | normal => exact hq
    | exit id' =>
      obtain ⟨env', rfl, hq⟩ := hq
      simp only [Exit.inBlock]
      by_cases he : id' = id
      · simp only [qBlk, if_pos he] at hq; rw [if_pos he]; exact ⟨env', rfl, hq⟩
      · simp only [qBlk, if_neg he] at hq; rw [if_neg he]; exact ⟨env', rfl, hq⟩
    | ret => exact hq
    | goto l => exact hq
    | panic c => exact hq
    | outgrown => exact hq
  | .loop body, Q, env, w, h => by
    simp only [aw] at h
    obtain ⟨n, h⟩ := h
    refine wp_loop_rounds n ?_
    induction n generalizing env w with
    | zero => exact h.elim
    | succ n ih =>
      simp only [loopN] at h
      rw [rounds_succ]
      refine wp_mono (aw_sound hm body _ env w h) ?_
      intro e a' w' hq
      cases e with
      | normal => obtain ⟨env', rfl, hq⟩ := hq; exact ih env' w' hq
      | exit id => exact hq
      | ret => exact hq
      | goto l => exact hq
      | panic c => exact hq
      | outgrown => exact hq
  | .exit id, Q, env, w, h => wp_exit ⟨env, rfl, h⟩
  | .ret, Q, env, w, h => wp_ret ⟨env, rfl, h⟩
  | .scope _, _, _, _, h => h.elim
  | .label _, _, _, _, h => h.elim
  | .goto _, _, _, _, h => h.elim
  | .rangeFunc _ _ _ _, _, _, _, h => h.elim
  | .refuse _, _, _, _, h => h.elim
/-- The results, read at the end. -/
def aresL (P : Program) : List ResultVar → List Value → Hp → (List Value → Prop) → Prop
  | [], env, h, K => K []
  | .tmp t :: r, env, h, K => aresL P r env h fun l => K (env.getD t undef :: l)
  | .cell a t :: r, env, h, K =>
    match lay P t with
    | some none => oLd1 (env.getD a undef) h fun v _ => aresL P r env h fun l => K (v :: l)
    | some (some n) => oLdN n (env.getD a undef) h fun v _ => aresL P r env h fun l => K (v :: l)
    | none => False
def tupleOf : List Value → Value
  | [v] => v
  | l => .tuple l.toArray
def aret (P : Program) (fn : Func) (env : List Value) (h : Hp) (K : Kont) : Prop := aresL P fn.results.toList env h fun l => K (tupleOf l) h
theorem ares_run {w : World} {env : List Value} : ∀ {l : List ResultVar} {K : List Value → Prop}, aresL P l env (hv w) K →
    ∃ vs, (l.mapM (fun | .tmp t => pure ((actOf env).tmps.getD t undef) | .cell a t => do loadVar t (← asAddr ((actOf env).tmps.getD a undef)) : ResultVar → Sem Value)).run P w = .ok vs w ∧ K vs
  | [], K, h => ⟨[], by simp, h⟩
  | .tmp t :: r, K, h => by
    obtain ⟨vs, hr, hk⟩ := ares_run (l := r) h
    have ht : (actOf env).tmps.getD t undef = env.getD t undef := by simp [actOf]
    exact ⟨_, by simp only [List.mapM_cons, Sem.run_bind, Sem.run_pure, Result.andThen, hr, ht], hk⟩
  | .cell a t :: r, K, h => by
    have ht : (actOf env).tmps.getD a undef = env.getD a undef := by simp [actOf]
    simp only [aresL] at h
    cases hl : lay P t with
    | none => simp [hl] at h
    | some l =>
      have hld := snd_load (P := P) (x := env.getD a undef) (w := w) (K := fun v _ => aresL P r env (hv w) fun l => K (v :: l)) hl (by cases l <;> simpa only [hl] using h)
      obtain ⟨v, hrun, hrest⟩ := hld
      obtain ⟨vs, hr, hk⟩ := ares_run (l := r) hrest
      refine ⟨v :: vs, ?_, hk⟩
      have hsa : (do loadVar t (← asAddr ((actOf env).tmps.getD a undef)) : Sem Value).run P w = .ok v w := by
        rw [ht]
        cases hx : env.getD a undef with
        | pointer p =>
          cases p with
          | none => cases l <;> (simp only [hl, oLd1, oLdN] at h; rw [hx] at h; exact h.elim)
          | some p => rw [hx] at hrun; simpa [asAddr, Instr.loadAt, Instr.sureAddr] using hrun
        | _ => cases l <;> (simp only [hl, oLd1, oLdN] at h; rw [hx] at h; exact h.elim)
      simp only [List.mapM_cons, Sem.run_bind] at hsa ⊢
      rw [hsa]
      simp only [Result.andThen, Sem.run_bind, hr, Sem.run_pure]
theorem aret_sound {fn : Func} {env : List Value} {w : World} {K : Kont} (h : aret P fn env (hv w) K) : ∃ v, (results fn (actOf env).tmps).run P w = .ok v w ∧ K v (hv w) := by
  obtain ⟨vs, hr, hk⟩ := ares_run h
  refine ⟨tupleOf vs, ?_, hk⟩
  unfold results
  rw [Array.mapM_eq_mapM_toList, Sem.run_bind, Sem.run_map]
  erw [hr]
  simp only [Result.andThen, Sem.run_pure]
  congr 1
  match vs with
  | [] => rfl
  | [v] => rfl
  | a :: b :: r => simp [tupleOf]
/-- A function's body, from its arguments on. -/
def qTop (P : Program) (fn : Func) (K : Kont) : Post
  | .normal, env, h => aret P fn env h K
  | .ret, env, h => aret P fn env h K
  | .exit _, _, _ => False
def abody (P : Program) (od : Od) (fn : Func) (c : Code) (args : List Value) (h : Hp) (K : Kont) : Prop :=
  aw P od c (qTop P fn K) (args ++ List.replicate (fn.ntmps - args.length) undef) h
theorem ac_of_body {od : Od} (hm : P.follows .mixedOrders = true) {f : FuncId} {fn : Func} {c : Code} (hf : P.funcs[f]? = some fn) (hb : fn.body = some c) {args : List Value} {h : Hp} {K : Kont} (hk : abody P od fn c args h K) : AC P f args.toArray h K := by
  rintro w rfl
  refine calls_of_wp hf hb ?_
  have := aw_sound hm c _ _ w hk
  have he : (actOf (args ++ List.replicate (fn.ntmps - args.length) undef)) = { tmps := args.toArray ++ Array.replicate (fn.ntmps - args.toArray.size) undef, defers := [] } := by simp [actOf]
  rw [← he]
  refine wp_mono this ?_
  intro e a' w' hq
  cases e with
  | normal =>
    obtain ⟨env, rfl, hq⟩ := hq
    obtain ⟨v, hr, hk⟩ := aret_sound hq
    exact ⟨rfl, v, hr, v, rfl, hk⟩
  | ret =>
    obtain ⟨env, rfl, hq⟩ := hq
    obtain ⟨v, hr, hk⟩ := aret_sound hq
    exact ⟨rfl, v, hr, v, rfl, hk⟩
  | exit id => obtain ⟨env, _, hq⟩ := hq; exact hq.elim
  | goto l => exact hq.elim
  | panic c => exact hq.elim
  | outgrown => exact hq.elim
/-- A loop: what holds at each round's head, and a measure that falls. -/
theorem oLoop_rule {α : Type} {B : (List Value → Hp → Prop) → List Value → Hp → Prop} (E : α → List Value) (Inv : α → Hp → Prop) (μ : α → Hp → Nat)
    (step : ∀ (self : List Value → Hp → Prop) (s : α) (h : Hp), Inv s h → (∀ s' h', Inv s' h' → μ s' h' < μ s h → self (E s') h') → B self (E s) h) (s : α) (h : Hp) (hi : Inv s h) : oLoop B (E s) h := by
  have key : ∀ (n : Nat) (s : α) (h : Hp), Inv s h → μ s h < n → loopN B n (E s) h := by
    intro n
    induction n with
    | zero => intro s h _ hm; omega
    | succ n ih => intro s h hi hm; exact step _ s h hi (fun s' h' hi' hm' => ih s' h' hi' (by omega))
  exact ⟨μ s h + 1, key _ s h hi (by omega)⟩
def ul (l : List Value) : List (Nat × Value) → List Value
  | [] => l
  | (j, v) :: r => ul (l.set j v) r
def dz : Nat → Value := fun _ => undef
def ud (l : List (Nat × Value)) (d : Nat → Value) (i : Nat) : Value :=
  match l with
  | [] => d i
  | (j, v) :: r => cond (Nat.beq i j) v (ud r d i)
end Go.Proofs.Ytdolepapmpcpiaa

