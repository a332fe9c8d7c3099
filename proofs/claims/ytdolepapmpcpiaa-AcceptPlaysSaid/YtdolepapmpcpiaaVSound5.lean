/- The soundness of the operations' rule: the theorem. -/
import Derived.Test.YtdolepapmpcpiaaVSound4
namespace Go.Proofs.Ytdolepapmpcpiaa
open Go Go.MapKept
set_option linter.unusedSectionVars false
variable [Base]
set_option linter.unusedVariables false
set_option linter.unusedSimpArgs false

variable {P : Program}

theorem ok_v {s : Sem Value} {w : World} {K : Kont} (h : ∃ v w', s.run P w = .ok v w' ∧ K v (hv w')) : OpOk P ((do pure (Next.value (← s)) : Sem Next).run P w) K := by
  obtain ⟨v, w', hr, hk⟩ := h
  exact ok_value hr hk
theorem ok_u {s : Sem Unit} {w : World} {K : Kont} (h : ∃ w', s.run P w = .ok () w' ∧ K undef (hv w')) : OpOk P ((do s; pure Next.skip : Sem Next).run P w) K := by
  obtain ⟨w', hr, hk⟩ := h
  exact ok_unit hr hk

theorem snd_callFunc {w : World} {f : FuncId} {args : Array Value} {K : Kont} (he : canEnter P f = true) (hk : AC P f args (hv w) K) : OpOk P ((callFunc f args).run P w) K := by
  unfold canEnter at he
  cases hf : P.funcs[f]? with
  | none => simp [hf] at he
  | some fn =>
    simp only [hf, Bool.and_eq_true, Bool.not_eq_true'] at he
    have hb : fn.body.isNone = false := by cases hbo : fn.body <;> simp_all
    simp only [callFunc, Sem.run_bind, run_program, Result.andThen, hf, he.2, Bool.false_eq_true, if_false, hb, Sem.run_pure, OpOk]
    exact hk

theorem snd_builtin {w : World} {b : Builtin} {ats : Array TypeId} {ty : TypeId} {cs : Array Bool} {args : List Value} {K : Kont} (hk : aBuiltin P b ats.toList args (hv w) K) :
    OpOk P ((builtin b ats ty cs args.toArray).run P w) K := by
  obtain ⟨ats⟩ := ats
  simp only at hk
  unfold aBuiltin at hk
  split at hk
  · -- len
    rename_i t x
    refine ok_v ?_
    split at hk
    all_goals first
      | exact hk.elim
      | (rename_i hu
         simp only [oLen] at hk
         split at hk
         all_goals first
           | (exfalso; simp_all; done)
           | exact ⟨_, w, by simp only [Builtin.len_, List.getElem?_toArray, List.getElem?_cons_zero, Sem.run_bind, run_underlying' hu, Result.andThen, Sem.run_pure, goInt], hk⟩
           | (obtain ⟨kv, hm, hk⟩ := hk
              obtain ⟨es, ck, hb, hs, rfl⟩ := of_map hm
              refine ⟨.int .i64 es.size, w, by simp only [Builtin.len_, List.getElem?_toArray, List.getElem?_cons_zero, Sem.run_bind, run_underlying' hu, Result.andThen, run_getObj' hb, Sem.run_pure, goInt], ?_⟩
              simpa [kvOf] using hk)
           | exact hk.elim)
      | (rename_i n el hu
         exact ⟨_, w, by simp only [Builtin.len_, List.getElem?_toArray, List.getElem?_cons_zero, Sem.run_bind, run_underlying' hu, Result.andThen, Sem.run_pure, goInt], hk⟩)
  · -- cap
    rename_i t x
    refine ok_v ?_
    split at hk
    · rename_i hu
      simp only [oCap] at hk
      split at hk
      · exact ⟨_, w, by simp only [Builtin.cap_, List.getElem?_toArray, List.getElem?_cons_zero, Sem.run_bind, run_underlying' hu, Result.andThen, Sem.run_pure, goInt], hk⟩
      · exact hk.elim
    · exact hk.elim
  · -- append
    rename_i t u s x
    refine ok_v ?_
    split at hk
    · rename_i e e' ht hu
      split at hk
      · rename_i sz bytes z he
        split at hk
        · exact hk.elim
        · rename_i hb
          exact snd_append ht ⟨_, hu, .inl ⟨_, rfl⟩⟩ he hb hk ty
      · exact hk.elim
    · rename_i e ht hu
      split at hk
      · rename_i sz bytes z he
        split at hk
        · exact hk.elim
        · rename_i hb
          exact snd_append ht ⟨_, hu, .inr rfl⟩ he hb hk ty
      · exact hk.elim
    · exact hk.elim
  · -- copy
    rename_i t u d s
    refine ok_v ?_
    split at hk
    · rename_i e ht
      split at hk
      · rename_i sz bytes z he; exact snd_copy ht he hk ty
      · exact hk.elim
    · exact hk.elim
  · -- delete
    rename_i t u m k
    refine ok_v ?_
    split at hk
    · rename_i kt et ht
      split at hk
      · rename_i d hd
        split at hk
        · rename_i hkd
          simp only [oDelete] at hk
          split at hk
          · obtain ⟨kv, f, hm, hf, hk⟩ := hk
            obtain ⟨w', hr, hw⟩ := run_delete' (P := P) (ty := ty) ht hd hkd hm hf #[t, u] rfl
            exact ⟨_, w', hr, by rw [hw]; exact hk⟩
          · exact hk.elim
        · exact hk.elim
      · exact hk.elim
    · exact hk.elim
  · -- clear
    rename_i t x
    refine ok_v ?_
    split at hk
    · rename_i ht; exact snd_clearMap ht hk ty
    · rename_i e ht
      split at hk
      · rename_i sz bytes z he; exact snd_clear ht he hk ty
      · exact hk.elim
    · exact hk.elim
  · -- min
    refine ok_v ?_
    simp only [oMinMax] at hk
    split at hk
    · rename_i k a k' b
      exact ⟨.int k (if b < a then b else a), w, by simp [Builtin.min_, Builtin.min2], by simpa using hk⟩
    · exact hk.elim
  · -- max
    refine ok_v ?_
    simp only [oMinMax] at hk
    split at hk
    · rename_i k a k' b
      exact ⟨.int k (if b > a then b else a), w, by simp [Builtin.max_, Builtin.max2], by simpa using hk⟩
    · exact hk.elim
  · exact hk.elim

theorem snd_oBin {w : World} {op : BinOp} {t : TypeId} {x y : Operand} {a b : Value} {K : Kont} (hk : oBin op a b (hv w) K) :
    ∃ v w', (do eqGuard op t x y a b; binOp op t a b : Sem Value).run P w = .ok v w' ∧ K v (hv w') := by
  obtain ⟨v, hb, hk⟩ := hk
  refine ⟨v, w, ?_, hk⟩
  simp only [Sem.run_bind, guard_plain (P := P) (w := w) (op := op) (t := t) (x := x) (y := y) (.inl (by rw [hb]; simp)), Result.andThen, snd_binV hb]

theorem aop_sound {o : Oper} {ρ : Operand → Value} (hρ : ∀ f, ρ (.func f) = .func (.func f) #[] #[]) {w : World} {K : Kont} (hk : aop P o ρ (hv w) K) : OpOk P ((execOp ρ o).run P w) K := by
  obtain ⟨dst, op, type, pos, after, guard⟩ := o
  cases op <;> simp only [aop] at hk <;> simp only [execOp]
  case move x => simpa [OpOk] using hk
  case assign x => simpa [OpOk] using hk
  case pick c a b =>
    simp only [oPick] at hk
    split at hk
    · rename_i hc; simp [hc, asBool, OpOk, hk]
    · rename_i hc; simp [hc, asBool, OpOk, hk]
    · exact hk.elim
  case alloc t =>
    split at hk
    · rename_i z hz
      refine ok_v ⟨_, _, by simp only [Instr.alloc, Sem.run_bind, zeroV_run hz, Result.andThen, newVar, snd_newVar, Sem.run_pure]; rfl, ?_⟩
      obtain ⟨hbs, hk⟩ := hk
      rw [hv_size] at hbs
      rw [hv_new hbs, ← hv_size]; exact hk
    · exact hk.elim
  case box t x =>
    refine ok_v ⟨_, _, by simp only [Instr.box, newVar, Sem.run_bind, snd_newVar, Result.andThen, Sem.run_pure]; rfl, ?_⟩
    obtain ⟨hbs, hk⟩ := hk
    rw [hv_size] at hbs
    rw [hv_new hbs, ← hv_size]; exact hk
  case build t ps =>
    refine ok_v ?_
    have hps : (ps.map fun x => (x.1, ρ x.2)).toList = ps.toList.map fun p => (p.1, ρ p.2) := by simp
    split at hk
    · rename_i z fs hz hu
      split at hk
      · rename_i places hp
        split at hk
        · rename_i l hl
          obtain ⟨cs, hcs, hk⟩ := hk
          refine ⟨_, w, ?_, hk⟩
          have hfill := fill_plan ρ hl hcs
          have h2 : (fun x : Nat => (places.toArray)[x]?) = fun x : Nat => places[x]? := by funext x; simp
          simp only [Instr.build, Sem.run_bind, zeroV_run hz, Result.andThen, run_underlying' hu, run_placesA hp, hps, h2, hfill, Sem.run_pure]
        · exact hk.elim
      · exact hk.elim
    · rename_i z n e hz hu
      split at hk
      · rename_i i hi
        obtain ⟨cs, hcs, hk⟩ := hk
        refine ⟨_, w, ?_, hk⟩
        have hfill := fill_el ρ hcs
        simp only [Instr.build, Sem.run_bind, zeroV_run hz, Result.andThen, run_underlying' hu, run_sizeOf' hi, hps, hfill, Sem.run_pure]
      · exact hk.elim
    · exact hk.elim
  case buildSlice t n ps =>
    refine ok_v ?_
    have hps : (ps.map fun x => (x.1, ρ x.2)).toList = ps.toList.map fun p => (p.1, ρ p.2) := by simp
    split at hk
    · rename_i e hu
      split at hk
      · rename_i sz bytes z he
        split at hk
        · rename_i hc
          obtain ⟨cs, hcs, hbs, hk⟩ := hk
          rw [hv_size] at hbs
          have hfill := fill_el ρ hcs
          obtain ⟨i, zv, hi, hz, rfl, rfl, rfl⟩ := elemI_run he
          have hz0 : zeroV P e = some zv := by simp [zeroV, hi, hz]
          have hzs : (Array.range (n * i.size)).map (fun j => (if n * i.size = 0 then #[] else zv.cells)[j % (if n * i.size = 0 then #[] else zv.cells).size]!) = (zerosN zv.cells n).toArray := by
            by_cases h0 : n * i.size = 0
            · have : zerosN zv.cells n = [] := by
                rcases Nat.mul_eq_zero.1 h0 with rfl | hs
                · rfl
                · have hz00 : zv.cells.toList = [] := List.eq_nil_of_length_eq_zero (by rw [Array.length_toList, hc.1, hs])
                  clear hc hcs hfill hk
                  clear h0
                  induction n with
                  | zero => rfl
                  | succ n ih => simp [zerosN, hz00, ih]
              rw [this, h0]; simp
            · simp only [h0, if_false]
              have hpos : 0 < i.size := by
                rcases Nat.eq_zero_or_pos i.size with h | h
                · rw [h] at h0; omega
                · exact h
              apply Array.ext'
              simp only [Array.toList_map, Array.toList_range]
              have gen : ∀ m, (List.range (m * i.size)).map (fun j => zv.cells[j % zv.cells.size]!) = zerosN zv.cells m := by
                intro m
                induction m with
                | zero => simp [zerosN]
                | succ m ih =>
                  rw [Nat.succ_mul, Nat.add_comm, List.range_add, List.map_append, List.map_map]
                  simp only [zerosN]
                  congr 1
                  · apply List.ext_getElem?
                    intro j
                    simp only [List.getElem?_map, List.getElem?_range', Array.getElem?_toList]
                    by_cases hj : j < i.size
                    · rw [List.getElem?_range hj]
                      simp only [Option.map_some]
                      have hj2 : j < zv.cells.size := by rw [hc.1]; exact hj
                      rw [Nat.mod_eq_of_lt hj2, getElem!_pos zv.cells j hj2, Array.getElem?_eq_getElem hj2]
                    · rw [List.getElem?_eq_none (by simpa using Nat.le_of_not_lt hj), Array.getElem?_eq_none (by rw [hc.1]; omega)]
                      rfl
                  · rw [← ih]
                    apply List.map_congr_left
                    intro j _
                    simp only [Function.comp, hc.1, Nat.add_mod_left]
              exact gen n
          refine ⟨.slice (some ⟨w.heap.size, 0, none⟩) n n, { w with heap := w.heap.push (.cells cs e) }, ?_, ?_⟩
          rotate_left
          · rw [hv_new hbs, ← hv_size]; exact hk
          · have hlim : ¬ (n * i.size > 2 ^ 24) := by have := hc.2; omega
            simp only [Instr.buildSlice, Sem.run_bind, run_underlying' hu, Result.andThen, run_sizeOf' hi, Sem.run_ite, hlim, if_false, Sem.run_pure]
            by_cases h0 : n * i.size = 0
            · simp only [if_pos h0] at hzs ⊢
              simp only [hzs, hps, hfill, Sem.run_bind, snd_newVar, Result.andThen, Sem.run_pure]
            · simp only [if_neg h0] at hzs ⊢
              simp only [zeroV_run hz0, hzs, hps, hfill, Sem.run_bind, snd_newVar, Result.andThen, Sem.run_pure]
        · exact hk.elim
      · exact hk.elim
    · exact hk.elim
  case load t x =>
    refine ok_v ?_
    cases hl : lay P t with
    | none => simp [hl] at hk
    | some l =>
      obtain ⟨v, hr, hk⟩ := snd_load (x := ρ x) (K := K) (w := w) hl (by cases l <;> simpa [hl] using hk)
      exact ⟨v, w, hr, hk⟩
  case store t x v =>
    refine ok_u ?_
    split at hk
    · rename_i i hi
      exact snd_store hi hk
    · exact hk.elim
  case nilCheck x =>
    simp only [oNilCheck] at hk
    split at hk
    · rename_i hx; simpa [hx, OpOk] using hk
    · rename_i hx; simpa [hx, OpOk] using hk
    · rename_i hx; simpa [hx, OpOk] using hk
    · exact hk.elim
  case binOp op t x y yt =>
    refine ok_v ?_
    have gen : oBin op (ρ x) (ρ y) (hv w) K → ∃ v w', (do eqGuard op t x y (ρ x) (ρ y); binOp op t (ρ x) (ρ y) : Sem Value).run P w = .ok v w' ∧ K v (hv w') := snd_oBin
    have eqs : ∀ (ne : Bool) (d : TypeDesc) (c : Nat), P.underlying t = some d → dcls d = some c → oEq c ne (eqPlanTop P t) (ρ x) (ρ y) (hv w) K →
        ∃ v w', (do eqGuard (if ne then .neq else .eql) t x y (ρ x) (ρ y); binOp (if ne then .neq else .eql) t (ρ x) (ρ y) : Sem Value).run P w = .ok v w' ∧ K v (hv w') := by
      intro ne d c hd h0 hk
      obtain ⟨b, hb, hk⟩ := hk
      obtain ⟨_, h2⟩ := snd_eqV (w := w) hd h0 hb
      obtain ⟨h3, h4⟩ := h2 x y ne
      refine ⟨_, w, ?_, hk⟩
      simp only [Sem.run_bind, h3, Result.andThen, h4]
    cases op <;> simp only at hk <;> first
      | exact gen hk
      | (split at hk
         · rename_i d hd
           split at hk
           · exact gen hk
           · split at hk
             · rename_i c hc
               first
               | exact eqs false d c hd hc hk
               | exact eqs true d c hd hc hk
             · exact hk.elim
         · exact hk.elim)
  case unOp op t x =>
    refine ok_v ?_
    cases op <;> simp only at hk
    · simp only [oNeg] at hk
      split at hk
      · rename_i k a hx; exact ⟨.int k (k.wrap (0 - a)), w, by simp [hx, Op.unary, Op.intArith], hk⟩
      · exact hk.elim
    · simp only [oNot] at hk
      split at hk
      · rename_i b hx; exact ⟨.bool !b, w, by simp [hx, Op.unary], hk⟩
      · exact hk.elim
  case convert s d x =>
    refine ok_v ?_
    split at hk
    · rename_i k1 k2 hs hd
      simp only [oConvInt] at hk
      split at hk
      · rename_i hx; exact ⟨_, w, by simp only [convert, Sem.run_bind, run_underlying' hs, run_underlying' hd, Result.andThen, hx, Conv.intToInt, Sem.run_pure], hk⟩
      · exact hk.elim
    · exact hk.elim
  case makeFunc fn first cap =>
    rw [toList_map_toArray, toList_map_toArray] at hk
    exact ok_v ⟨_, w, rfl, hk⟩
  case makeMap t r =>
    cases r with
    | some r => exact hk.elim
    | none =>
      refine ok_v ⟨.map (some w.heap.size), { w with heap := w.heap.push (.map #[] 0) }, by simp [Instr.makeMap], ?_⟩
      obtain ⟨hbs, hk⟩ := hk
      rw [hv_size] at hbs
      rw [hv_push hbs, abs_map (stamped_empty 0), ← hv_size]
      exact hk
  case makeSlice t l c =>
    refine ok_v ?_
    split at hk
    · rename_i e hu
      split at hk
      · rename_i sz bytes z he
        obtain ⟨i, zv, hi, hz, rfl, rfl, rfl⟩ := elemI_run he
        simp only [oMakeSlice] at hk
        split at hk
        · rename_i kl l' kc c' hl hc
          obtain ⟨h0, h1, h2, h3, hbs, hk⟩ := hk
          rw [hv_size] at hbs
          have := run_make (P := P) w t e i zv hu hi hz kl kc l' c' h0 h1 h2 h3
          rw [hl, hc]
          refine ⟨_, _, this, ?_⟩
          rw [World.alloc, hv_new hbs, ← hv_size]
          exact hk
        · exact hk.elim
      · exact hk.elim
    · exact hk.elim
  case slice t x lo hi mx =>
    refine ok_v ?_
    split at hk
    · rename_i e hu
      split at hk
      · rename_i i hinfo
        simp only [oSlice] at hk
        split at hk
        · rename_i a len cap _ he
          obtain ⟨m, hh, l, h1, h2, h3, h4, hk⟩ := hk
          refine ⟨_, w, ?_, hk⟩
          have h3' : hi.map ρ = none → mx.map ρ = none := h3
          have hb := snd_bounds (P := P) (w := w) (isS := true) h1 h2 h3' h4
          simp only [he, Instr.sliceAt, Sem.run_bind, run_underlying' hu, Result.andThen, Instr.slice, hb, run_sizeOf' hinfo, Sem.run_pure]
        · rename_i h01 _; cases h01
        · exact hk.elim
      · exact hk.elim
    · rename_i hu
      simp only [oSlice] at hk
      split at hk
      · rename_i h01 _; cases h01
      · rename_i s _ he
        obtain ⟨hh, l, h1, h2, h3, hk⟩ := hk
        refine ⟨_, w, ?_, hk⟩
        rw [h2]
        have hb : (Instr.sliceBounds false s.size s.size (lo.map ρ) (hi.map ρ) none).run P w = .ok (l, hh, s.size) w := snd_bounds rfl h1 (fun _ => rfl) h3
        simp only [he, Instr.sliceAt, Sem.run_bind, run_underlying' hu, Result.andThen, Instr.slice, Option.isSome_none, Bool.false_eq_true, if_false, Sem.run_pure, hb]
      · exact hk.elim
    · exact hk.elim
  case fieldAddr s x f =>
    refine ok_v ?_
    split at hk
    · rename_i fs hu
      split at hk
      · rename_i fl hf
        split at hk
        · rename_i i hi
          split at hk
          · exact hk.elim
          · rename_i hn
            simp only [oFieldAddr] at hk
            split at hk
            · rename_i b o hx
              refine ⟨_, w, ?_, hk⟩
              simp only [Instr.fieldAt, Sem.run_bind, run_underlying' hu, Result.andThen, hf, hx, Instr.sureAddr, Sem.run_pure, fieldPlace, run_sizeOf' hi, Sem.run_ite, hn, if_false, add0]
            · exact hk.elim
        · exact hk.elim
      · exact hk.elim
    · exact hk.elim
  case field t x f =>
    refine ok_v ?_
    split at hk
    · rename_i fs hu
      split at hk
      · rename_i fl hf
        split at hk
        · rename_i n hl
          simp only [oField] at hk
          split at hk
          · rename_i cs hx
            obtain ⟨v, hv', hk⟩ := hk
            refine ⟨_, w, ?_, hk⟩
            simp only [Instr.field, Sem.run_bind, run_underlying' hu, Result.andThen, hf, hx, asAgg, Sem.run_pure, snd_part hl hv']
          · exact hk.elim
        · exact hk.elim
      · exact hk.elim
    · exact hk.elim
  case indexAddr t x i =>
    refine ok_v ?_
    split at hk
    · rename_i e hu
      split at hk
      · rename_i j hj
        simp only [oIdxS] at hk
        split at hk
        · rename_i b o len cap k n hx hi
          obtain ⟨h0, h1, hk⟩ := hk
          refine ⟨.pointer (some ⟨b, o + n.toNat * j.size, none⟩), w, ?_, hk⟩
          simp [Instr.indexAt, hx, hi, asIntOf, run_underlying' hu, run_sizeOf' hj, h0, h1, add0]
        · exact hk.elim
      · exact hk.elim
    · rename_i n e hu
      split at hk
      · rename_i j hj
        simp only [oIdxA] at hk
        split at hk
        · rename_i b o k n' hx hi
          obtain ⟨h0, h1, hk⟩ := hk
          refine ⟨.pointer (some ⟨b, o + n'.toNat * j.size, none⟩), w, ?_, hk⟩
          simp [Instr.indexAt, hx, hi, asIntOf, run_underlying' hu, run_sizeOf' hj, h0, h1, add0, Instr.sureAddr]
        · exact hk.elim
      · exact hk.elim
    · exact hk.elim
  case index t x i =>
    refine ok_v ?_
    split at hk
    · rename_i n e hu
      split at hk
      · rename_i j l hj hl
        simp only [oIndexArr] at hk
        split at hk
        · rename_i cs k n' hx hi
          obtain ⟨h0, h1, v, hp, hk⟩ := hk
          refine ⟨v, w, ?_, hk⟩
          simp [Instr.index, hx, hi, asIntOf, run_underlying' hu, run_sizeOf' hj, h0, h1, snd_part hl hp]
        · exact hk.elim
      · exact hk.elim
    · rename_i hu
      simp only [oIndexStr] at hk
      split at hk
      · rename_i s k n hx hi
        obtain ⟨h0, c, hc, hk⟩ := hk
        refine ⟨_, w, ?_, hk⟩
        simp only [Instr.index, hx, hi, asIntOf, Sem.run_bind, Sem.run_pure, Result.andThen, run_underlying' hu, if_pos h0, hc]
      · exact hk.elim
    · exact hk.elim
  case lookup t m k ok =>
    refine ok_v ?_
    split at hk
    · rename_i kt et hu
      split at hk
      · rename_i d z hd hz
        split at hk
        · rename_i hkd
          obtain ⟨i, hi, hzz⟩ : ∃ i, P.info? et = some i ∧ i.zero = some z := by
            unfold zeroV at hz; simpa [Option.bind_eq_some_iff] using hz
          simp only [oLookup] at hk
          split at hk
          · rename_i hm
            rw [hm]
            exact ⟨_, w, run_lookup_nil hu hd hkd hi hzz _ ok, by simpa [lookRes] using hk⟩
          · rename_i r hm
            obtain ⟨kv, f, hkv, hf, hk⟩ := hk
            rw [hm]
            refine ⟨_, w, run_lookup' hu hd hkd hi hzz hkv hf ok, ?_⟩
            cases f <;> exact hk
          · exact hk.elim
        · exact hk.elim
      · exact hk.elim
    · exact hk.elim
  case mapUpdate t m k v =>
    refine ok_u ?_
    split at hk
    · rename_i kt et hu
      split at hk
      · rename_i d hd
        split at hk
        · rename_i hkd
          simp only [oMapUpdate] at hk
          split at hk
          · rename_i r hm
            obtain ⟨kv, f, hkv, hf, hk⟩ := hk
            obtain ⟨w', hr, hw⟩ := run_mapUpdate' (P := P) hu hd hkd hkv hf (ρ v)
            rw [hm]
            exact ⟨w', hr, by rw [hw]; exact hk⟩
          · exact hk.elim
        · exact hk.elim
      · exact hk.elim
    · exact hk.elim
  case insert t m k v =>
    refine ok_u ?_
    split at hk
    · rename_i kt et hu
      split at hk
      · rename_i d hd
        split at hk
        · rename_i hkd
          simp only [oMapUpdate] at hk
          split at hk
          · rename_i r hm
            obtain ⟨kv, f, hkv, hf, hk⟩ := hk
            obtain ⟨w', hr, hw⟩ := run_mapUpdate' (P := P) hu hd hkd hkv hf (ρ v)
            rw [hm]
            exact ⟨w', hr, by rw [hw]; exact hk⟩
          · exact hk.elim
        · exact hk.elim
      · exact hk.elim
    · exact hk.elim
  case extract x i =>
    refine ok_v ?_
    simp only [oExtract] at hk
    split at hk
    · rename_i vs hx
      obtain ⟨v, hv', hk⟩ := hk
      exact ⟨v, w, by simp [Instr.extract, hx, hv'], hk⟩
    · exact hk.elim
  case call c =>
    obtain ⟨callee, args, ats⟩ := c
    cases callee with
    | value f =>
      have dyn : ∀ x, oCallV P x (args.toList.map ρ) (hv w) K → ρ f = x → OpOk P ((do let d ← resolve ρ { callee := .value f, args := args, argTypes := ats } type; invoke d.target d.args : Sem Next).run P w) K := by
        intro x hx hf
        simp only [oCallV] at hx
        split at hx
        · rename_i g fst cap
          obtain ⟨he, ha⟩ := hx
          rw [toList_map_toArray] at ha
          simp only [resolve, hf, Deferred.ofValue, Sem.run_bind, Sem.run_pure, Result.andThen, invoke]
          exact snd_callFunc he ha
        · exact hx.elim
      cases f with
      | func g =>
        simp only at hk
        split at hk
        · rename_i he
          rw [toList_map_toArray] at hk
          simp only [resolve, hρ, Deferred.ofValue, Sem.run_bind, Sem.run_pure, Result.andThen, invoke]
          exact snd_callFunc he (by simpa using hk)
        · exact hk.elim
      | tmp t => exact dyn _ hk rfl
      | const v => exact dyn _ hk rfl
      | global g => exact dyn _ hk rfl
    | builtin b =>
      simp only [resolve, Sem.run_bind, Sem.run_pure, Result.andThen, invoke]
      rw [← toList_map_toArray]
      exact snd_builtin hk
    | invoke r m => exact hk.elim
  all_goals exact hk.elim

end Go.Proofs.Ytdolepapmpcpiaa
