/- The soundness of the operations' rule: all operations. -/
import Derived.Test.YtdolepapmpcpiaaVSound2
namespace Go.Proofs.Ytdolepapmpcpiaa
open Go Go.MapKept
set_option linter.unusedSectionVars false
variable [Base]
set_option linter.unusedVariables false
set_option linter.unusedSimpArgs false

variable {P : Program}

theorem snd_load {w : World} {t : TypeId} {x : Value} {K : Kont} {l : Option Nat} (hl : lay P t = some l) (hk : (match l with | none => oLd1 x (hv w) K | some n => oLdN n x (hv w) K)) :
    ∃ v, (Instr.loadAt t x).run P w = .ok v w ∧ K v (hv w) := by
  cases l with
  | none =>
    obtain ⟨d, hd, ha⟩ := lay_none hl
    simp only [oLd1] at hk
    split at hk
    · obtain ⟨v, hr, hk⟩ := hk
      rw [rdC_hv] at hr
      refine ⟨v, ?_, hk⟩
      simp [Instr.loadAt, Instr.sureAddr, loadVar, run_isAgg' hd, ha, hr]
    · exact hk.elim
  | some n =>
    obtain ⟨d, i, hd, ha, hi, rfl⟩ := lay_some hl
    simp only [oLdN] at hk
    split at hk
    · obtain ⟨vs, hr, hk⟩ := hk
      refine ⟨_, ?_, hk⟩
      simp [Instr.loadAt, Instr.sureAddr, loadVar, run_isAgg' hd, ha, run_sizeOf' hi, run_rdN hr]
    · exact hk.elim

theorem snd_store {w : World} {t : TypeId} {i : TypeInfo} (hi : P.info? t = some i) {x v : Value} {K : Kont} (hk : oSt i.size x v (hv w) K) : ∃ w', (Instr.storeAt t x v).run P w = .ok () w' ∧ K undef (hv w') := by
  simp only [oSt] at hk
  split at hk
  · obtain ⟨c, hc, hn, hl, h1, hk⟩ := hk
    obtain ⟨w', hr, hw⟩ := snd_storeVar hi hc hn hl h1
    exact ⟨w', by simp [Instr.storeAt, Instr.sureAddr, hr], by rw [hw]; exact hk⟩
  · exact hk.elim

theorem bnd_some {w : World} {v : Value} {d y n : Nat} (h : bnd (some v) d y = some n) (c : BoundsCode) : (Instr.sliceBound v y c).run P w = .ok n w ∧ n ≤ y := by
  unfold bnd at h
  split at h
  · cases ‹some v = none›
  · rename_i k i hv
    simp only [Option.some.injEq] at hv
    subst hv
    split at h
    · rename_i hc
      cases h
      refine ⟨?_, by omega⟩
      simp [Instr.sliceBound, asIntOf, hc]
    · cases h
  · cases h

theorem snd_bounds {w : World} {isS : Bool} {len cap : Nat} {lo hi mx : Option Value} {m hh l : Nat} (h1 : bnd mx cap cap = some m) (h2 : bnd hi len m = some hh) (h3 : hi = none → mx = none) (h4 : bnd lo 0 hh = some l) :
    (Instr.sliceBounds isS len cap lo hi mx).run P w = .ok (l, hh, m) w := by
  unfold Instr.sliceBounds
  cases mx with
  | none =>
    simp only [bnd] at h1; cases h1
    cases hi with
    | none =>
      simp only [bnd] at h2; cases h2
      cases lo with
      | none => simp only [bnd] at h4; cases h4; simp
      | some v => simp [(bnd_some h4 _).1]
    | some u =>
      simp only [Sem.run_bind, Sem.run_pure, Result.andThen, (bnd_some h2 _).1]
      cases lo with
      | none => simp only [bnd] at h4; cases h4; simp
      | some v => simp [(bnd_some h4 _).1]
  | some z =>
    simp only [Sem.run_bind, (bnd_some h1 _).1, Result.andThen]
    cases hi with
    | none => cases h3 rfl
    | some u =>
      simp only [Sem.run_bind, Sem.run_pure, Result.andThen, (bnd_some h2 _).1]
      cases lo with
      | none => simp only [bnd] at h4; cases h4; simp
      | some v => simp [(bnd_some h4 _).1]

theorem src_run {w : World} {sz m : Nat} {x : Value} {vs : List Value} (h : srcCells sz x (hv w) = some (m, vs)) :
    (Builtin.lenOf x).run P w = .ok m w ∧ vs.length = m * sz ∧ ∀ n, n ≤ m → (Builtin.firstCells sz n x).run P w = .ok (vs.take (n * sz)).toArray w := by
  unfold srcCells at h
  split at h
  · split at h
    · rename_i hn; cases h; subst hn; exact ⟨by simp [Builtin.lenOf], by rw [Nat.zero_mul]; rfl, fun n hn => by simp [Builtin.firstCells]⟩
    · cases h
  · rename_i b i n _
    simp only [Option.map_eq_some_iff, Prod.mk.injEq] at h
    obtain ⟨l, hl, rfl, rfl⟩ := h
    obtain ⟨h1, h2⟩ := rdN_get _ _ _ hl
    refine ⟨by simp [Builtin.lenOf], h1, fun k hk => ?_⟩
    simp only [Builtin.firstCells]
    have hlen : (l.take (k * sz)).length = k * sz := by rw [List.length_take, h1]; exact Nat.min_eq_left (Nat.mul_le_mul_right _ hk)
    rw [← hlen]
    have := run_loadCells_list (P := P) w ⟨b, i, none⟩ (l.take (k * sz)) (fun j v hj => by
      rw [add0, ← rdC_hv]
      refine h2 j v ?_
      rw [List.getElem?_take] at hj
      split at hj
      · exact hj
      · cases hj)
    rw [this, hlen]
  · split at h
    · rename_i hn; cases h; subst hn
      refine ⟨by simp [Builtin.lenOf], by rw [Nat.zero_mul]; rfl, fun n hn => ?_⟩
      have h0 : n = 0 := by omega
      subst h0
      simp [Builtin.firstCells, loadCells, loadCellsFrom]
    · cases h
  · rename_i s
    split at h
    · rename_i hz
      cases h
      subst hz
      refine ⟨by simp only [Builtin.lenOf, Sem.run_pure], by rw [List.length_map, Nat.mul_one]; rfl, fun n hn => ?_⟩
      simp only [Builtin.firstCells, Sem.run_pure]
      congr 1
      apply Array.ext'
      simp only [Array.toList_map, Nat.mul_one, ByteArray.data_extract, Array.toList_extract, List.extract_eq_take_drop, List.drop_zero, Nat.sub_zero, List.map_take]
    · cases h
  · cases h

theorem run_choose_cap (w : World) (need old : Nat) (e : TypeId) : ∃ nc, need ≤ nc ∧ (choose (.appendCap need old e)).run P w = .ok nc { w with drawn := w.drawn + 1 } := by
  refine ⟨_, ?_, by simp [Question.forced]; rfl⟩
  simp only [Question.cut]
  omega

theorem snd_append {w : World} {t u e : TypeId} {sz bytes : Nat} {z : Array Value} (ht : P.underlying t = some (.slice e)) (hu : ∃ d, P.underlying u = some d ∧ ((∃ e', d = .slice e') ∨ d = .string))
    (he : elemI P e = some (sz, bytes, z)) (hb : bytes ≠ 0) {s x : Value} {K : Kont} (hk : oAppend sz bytes z s x (hv w) K) (ty : TypeId) :
    ∃ v w', (Builtin.append_ #[t, u] ty #[s, x]).run P w = .ok v w' ∧ K v (hv w') := by
  obtain ⟨i, zv, hi, hz, rfl, rfl, rfl⟩ := elemI_run he
  simp only [oAppend] at hk
  split at hk
  · rename_i base n cap
    obtain ⟨m, vs, hs, hfit, hgrow⟩ := hk
    obtain ⟨hlen, hvl, hfirst⟩ := src_run (P := P) hs
    have hvs : ∀ w2, hv w2 = hv w → (Builtin.firstCells i.size m x).run P w2 = .ok vs.toArray w2 := fun w2 hw2 => by
      have h2 := (src_run (P := P) (w := w2) (by rw [hw2]; exact hs)).2.2 m (Nat.le_refl _)
      rw [h2, List.take_of_length_le (by omega)]
    obtain ⟨d, hd, hd2⟩ := hu
    have hz0 : (match d with | .int _ => true | _ => false) = false := by
      rcases hd2 with ⟨e', rfl⟩ | rfl <;> rfl
    have hz1 : ∀ k, d ≠ .int k := by
      rcases hd2 with ⟨e', rfl⟩ | rfl <;> simp
    by_cases hc : n + m ≤ cap
    · have hpre : ∀ v w', (do (match base with | some a => storeCells (a.add (n * i.size)) vs | none => pure ()); pure (Value.slice base (n + m) cap) : Sem Value).run P w = .ok v w' →
          (Builtin.append_ #[t, u] ty #[.slice base n cap, x]).run P w = .ok v w' := by
        intro v w' hr
        unfold Builtin.append_
        simp only [Sem.run_bind] at hr
        rcases hd2 with ⟨e', rfl⟩ | rfl <;> cases base <;>
          simpa only [List.getElem?_toArray, List.getElem?_cons_zero, List.getElem?_cons_succ, Sem.run_bind, run_underlying' ht, run_underlying' hd, Result.andThen, Sem.run_pure, run_sizeOf' hi, Bool.false_eq_true, if_false, Bool.not_false, if_true, hlen, hc, hvs w rfl] using hr
      rcases hfit hc with ⟨rfl, hk⟩ | ⟨b, o, c, rfl, hb', hl, h1, hk⟩
      · refine ⟨_, w, hpre _ _ ?_, hk⟩
        cases base <;> simp [storeCells]
      · obtain ⟨w', hr, hw⟩ := run_storeCells (P := P) vs w b (o + n * i.size) 0 c hb' (by omega) h1
        refine ⟨_, w', hpre _ _ ?_, by rw [hw]; exact hk⟩
        simp only [add0, Sem.run_bind, hr, Result.andThen, Sem.run_pure]
    · obtain ⟨old, ho, hsz, hbs, hk⟩ := hgrow (by omega)
      obtain ⟨nc, hnc, hch⟩ := run_choose_cap (P := P) w (n + m) cap e
      have hold := (src_run (P := P) (w := { w with drawn := w.drawn + 1 }) (show srcCells i.size (.slice base n cap) (hv { w with drawn := w.drawn + 1 }) = some (n, old) from ho)).2
      have hold2 := hold.2 n (Nat.le_refl _)
      rw [List.take_of_length_le (by have := hold.1; omega)] at hold2
      have hfit := growslice_fits (need := n + m) (old := cap) (bytes := i.bytes) (by omega) hsz
      have hg1 : ¬ ((((n + m : Nat) : Int) > IntKind.i64.max) ∧ (False ∨ i.bytes = 0)) := fun h => by
        rcases h.2 with h | h
        · exact h
        · exact hb h
      have hg2 : ¬ (Builtin.nextslicecap (n + m) cap * i.bytes > 281474976710656) := by omega
      refine ⟨.slice (some ⟨w.heap.size, 0, none⟩) (n + m) nc, { w with drawn := w.drawn + 1, heap := w.heap.push (.cells (old.toArray ++ vs.toArray ++ Builtin.zeroCells zv.cells (nc - (n + m))) e) }, ?_, ?_⟩
      rotate_left
      · have := hk nc hnc
        rw [hv_size] at hbs
        rw [← hv_new hbs _ e, hv_size] at this
        exact this
      · unfold Builtin.append_
        rcases hd2 with ⟨e', rfl⟩ | rfl
        all_goals
          simp only [List.getElem?_toArray, List.getElem?_cons_zero, List.getElem?_cons_succ, Sem.run_bind, run_underlying' ht, run_underlying' hd, Result.andThen, Sem.run_pure, run_sizeOf' hi, Bool.false_eq_true, if_false, Bool.not_false, if_true, hlen, hc,
            run_typeInfo' hi, Sem.run_ite, hg1, hg2, hch, run_askRoom, hold2, hvs _ rfl, zeroV_run (show zeroV P e = some zv by simp [zeroV, hi, hz]), snd_newVar]
          rw [hvs { w with drawn := w.drawn + 1 } rfl]
  · exact hk.elim

end Go.Proofs.Ytdolepapmpcpiaa
