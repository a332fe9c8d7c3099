/- The soundness of the operations' rule, joined. -/
import Derived.Test.YtdolepapmpcpiaaVSound3
namespace Go.Proofs.Ytdolepapmpcpiaa
open Go Go.MapKept
set_option linter.unusedSectionVars false
variable [Base]
set_option linter.unusedVariables false
set_option linter.unusedSimpArgs false

variable {P : Program}

theorem all_cells_zero {z : Array Value} {n : Nat} (h : z.toList.all one = true) : (Builtin.zeroCells z n).toList.all one = true := by
  rw [List.all_eq_true]
  intro v hv
  simp only [Builtin.zeroCells, Array.toList_map, List.mem_map] at hv
  obtain ⟨i, hi, rfl⟩ := hv
  rw [List.all_eq_true] at h
  simp only [Array.toList_range, List.mem_range] at hi
  have hz : 0 < z.size := by
    rcases Nat.eq_zero_or_pos z.size with h0 | h0
    · rw [h0] at hi; omega
    · exact h0
  have hm : i % z.size < z.size := Nat.mod_lt _ hz
  rw [getElem!_pos z _ hm]
  exact h _ (by simp)

theorem snd_clear {w : World} {t e : TypeId} {sz bytes : Nat} {z : Array Value} (ht : P.underlying t = some (.slice e)) (he : elemI P e = some (sz, bytes, z)) {x : Value} {K : Kont} (hk : oClearSlice sz z x (hv w) K) (ty : TypeId) :
    ∃ v w', (Builtin.clear_ #[t] ty #[x]).run P w = .ok v w' ∧ K v (hv w') := by
  obtain ⟨i, zv, hi, hz, rfl, rfl, rfl⟩ := elemI_run he
  simp only [oClearSlice] at hk
  split at hk
  · refine ⟨_, w, ?_, hk⟩
    simp [Builtin.clear_, run_underlying' ht]
  · rename_i b o n _
    obtain ⟨c, hc, hl, hzs, h1, hk⟩ := hk
    have hsz : (Builtin.zeroCells zv.cells n).toList.length = n * i.size := by simp [Builtin.zeroCells, hzs]
    by_cases hn : n = 0
    · subst hn
      refine ⟨.tuple #[], w, ?_, ?_⟩
      rotate_left
      · have e0 : (Builtin.zeroCells zv.cells 0).toList = [] := List.eq_nil_of_length_eq_zero (by rw [hsz]; simp)
        rw [e0] at hk
        simp only [setL] at hk
        have : (hv w).setIfInBounds b (.cells c) = hv w := by
          apply Array.ext_getElem?
          intro r
          rw [Array.getElem?_setIfInBounds]
          split
          · rename_i hr; subst hr
            have hlt := (Array.getElem?_eq_some_iff.1 hc).1
            rw [if_pos hlt, hc]
          · rfl
        rw [this] at hk
        exact hk
      · simp [Builtin.clear_, run_underlying' ht]
    · obtain ⟨w', hr, hw⟩ := run_storeCells (P := P) (Builtin.zeroCells zv.cells n).toList w b o 0 c hc (by rw [hsz]; omega) (all_cells_zero h1)
      refine ⟨_, w', ?_, by rw [hw]; exact hk⟩
      obtain ⟨m, rfl⟩ : ∃ m, n = m + 1 := ⟨n - 1, by omega⟩
      simp only [Builtin.clear_, List.getElem?_toArray, List.getElem?_cons_zero, Sem.run_bind, run_underlying' ht, Result.andThen, zeroV_run (show zeroV P e = some zv by simp [zeroV, hi, hz]), hr, Sem.run_pure]
  · exact hk.elim

theorem snd_clearMap {w : World} {t k e : TypeId} (ht : P.underlying t = some (.map k e)) {x : Value} {K : Kont} (hk : oClearMap x (hv w) K) (ty : TypeId) :
    ∃ v w', (Builtin.clear_ #[t] ty #[x]).run P w = .ok v w' ∧ K v (hv w') := by
  simp only [oClearMap] at hk
  split at hk
  · exact ⟨_, w, by simp [Builtin.clear_, run_underlying' ht], hk⟩
  · rename_i r
    obtain ⟨kv, hm, hk⟩ := hk
    obtain ⟨es, ck, hb, hs, rfl⟩ := of_map hm
    refine ⟨_, _, by simp only [Builtin.clear_, List.getElem?_toArray, List.getElem?_cons_zero, Sem.run_bind, run_underlying' ht, Result.andThen, run_getObj' hb, run_setObj' hb, Sem.run_pure]; rfl, ?_⟩
    rw [hv_setObj (of_baseM hm), abs_map (stamped_empty ck)]
    exact hk
  · exact hk.elim

theorem snd_copy {w : World} {t u e : TypeId} {sz bytes : Nat} {z : Array Value} (ht : P.underlying t = some (.slice e)) (he : elemI P e = some (sz, bytes, z)) {d s : Value} {K : Kont} (hk : oCopy sz d s (hv w) K) (ty : TypeId) :
    ∃ v w', (Builtin.copy_ #[t, u] ty #[d, s]).run P w = .ok v w' ∧ K v (hv w') := by
  obtain ⟨i, zv, hi, hz, rfl, rfl, rfl⟩ := elemI_run he
  simp only [oCopy] at hk
  split at hk
  · rename_i n c
    obtain ⟨rfl, ⟨m, vs, hs⟩, hk⟩ := hk
    obtain ⟨hlen, hvl, hfirst⟩ := src_run (P := P) hs
    have hf := hfirst 0 (Nat.zero_le _)
    refine ⟨.int .i64 0, w, ?_, hk⟩
    have hm : Nat.min m 0 = 0 := Nat.min_zero m
    simp only [Builtin.copy_, List.getElem?_toArray, List.getElem?_cons_zero, List.getElem?_cons_succ, Sem.run_bind, run_underlying' ht, Result.andThen, hlen, run_sizeOf' hi, hm, hf, Sem.run_pure, goInt]
    rfl
  · rename_i b o n _
    obtain ⟨m, vs, c, hs, hc, hl, h1, hk⟩ := hk
    obtain ⟨hlen, hvl, hfirst⟩ := src_run (P := P) hs
    have hf := hfirst (min m n) (Nat.min_le_left _ _)
    have hlen2 : (vs.take (min m n * i.size)).length = min m n * i.size := by
      rw [List.length_take, hvl]
      exact Nat.min_eq_left (Nat.mul_le_mul_right _ (Nat.min_le_left _ _))
    have hle : min m n * i.size ≤ n * i.size := Nat.mul_le_mul_right _ (Nat.min_le_right _ _)
    obtain ⟨w', hr, hw⟩ := run_storeCells (P := P) (vs.take (min m n * i.size)) w b o 0 c hc (by rw [hlen2]; omega) (by
      rw [List.all_eq_true] at h1 ⊢
      exact fun v hv => h1 v (List.mem_of_mem_take hv))
    refine ⟨.int .i64 (min m n : Nat), w', ?_, by rw [hw]; exact hk⟩
    simp only [Builtin.copy_, List.getElem?_toArray, List.getElem?_cons_zero, List.getElem?_cons_succ, Sem.run_bind, run_underlying' ht, Result.andThen, hlen, run_sizeOf' hi]
    have hmm : Nat.min m n = min m n := rfl
    simp only [hmm, hf, hr, Result.andThen, Sem.run_pure, Sem.run_bind, goInt]
  · exact hk.elim

end Go.Proofs.Ytdolepapmpcpiaa
