/- Slices: read ones, and ones that a call has made. -/
import Derived.Test.YtdolepapmpcpiaaVSpec
namespace Go.Proofs.Ytdolepapmpcpiaa
open Go
set_option linter.unusedSectionVars false
variable [Base]
set_option linter.unusedVariables false
set_option linter.unusedSimpArgs false

theorem rdN_add (h : Hp) (b : Nat) : ∀ (m n i : Nat), rdN h b i (m + n) = (rdN h b i m).bind fun x => (rdN h b (i + m) n).map (x ++ ·)
  | 0, n, i => by simp [rdN]
  | m + 1, n, i => by
    rw [show m + 1 + n = (m + n) + 1 by omega]
    simp only [rdN]
    cases rdC h b i with
    | none => rfl
    | some v =>
      simp only [Option.bind_some]
      rw [rdN_add h b m n (i + 1), show i + 1 + m = i + (m + 1) by omega]
      cases rdN h b (i + 1) m with
      | none => rfl
      | some x => cases rdN h b (i + (m + 1)) n <;> rfl
theorem rdN_len {h : Hp} {b : Nat} : ∀ {n i : Nat} {l : List Value}, rdN h b i n = some l → l.length = n
  | 0, i, l, e => by simp only [rdN, Option.some.injEq] at e; subst e; rfl
  | n + 1, i, l, e => by
    simp only [rdN] at e
    cases hv : rdC h b i with
    | none => rw [hv] at e; cases e
    | some v =>
      rw [hv] at e
      simp only [Option.bind_some, Option.map_eq_some_iff] at e
      obtain ⟨r, hr, rfl⟩ := e
      simp [rdN_len hr]
theorem rdN_part {h : Hp} {b i m n k : Nat} {l : List Value} (e : rdN h b i m = some l) (hk : k + n ≤ m) : rdN h b (i + k) n = some ((l.drop k).take n) := by
  obtain ⟨r, rfl⟩ : ∃ r, m = k + n + r := ⟨m - (k + n), by omega⟩
  rw [rdN_add, rdN_add] at e
  cases h1 : rdN h b i k with
  | none => rw [h1] at e; cases e
  | some x =>
    rw [h1] at e
    simp only [Option.bind_some] at e
    cases h2 : rdN h b (i + k) n with
    | none => rw [h2] at e; cases e
    | some y =>
      rw [h2] at e
      simp only [Option.map_some, Option.bind_some, Option.map_eq_some_iff] at e
      obtain ⟨z, _, rfl⟩ := e
      have l1 := rdN_len h1
      have l2 := rdN_len h2
      rw [List.append_assoc, List.drop_append_of_le_length (by omega), List.drop_eq_nil_of_le (by omega : x.length ≤ k), List.nil_append, List.take_append_of_le_length (by omega), List.take_of_length_le (by omega)]
theorem rdN_one {h : Hp} {b i : Nat} {v : Value} (e : rdN h b i 1 = some [v]) : rdC h b i = some v := by
  simp only [rdN] at e
  cases hv : rdC h b i with
  | none => rw [hv] at e; cases e
  | some u => rw [hv] at e; simpa using e
theorem rdN_cell {h : Hp} {b i m k : Nat} {l : List Value} {v : Value} (e : rdN h b i m = some l) (hk : l[k]? = some v) : rdC h b (i + k) = some v := by
  have hl := rdN_len e
  have hkm : k < l.length := (List.getElem?_eq_some_iff.1 hk).1
  have := rdN_part (n := 1) (k := k) e (by omega)
  apply rdN_one
  rw [this]
  have h2 := (List.getElem?_eq_some_iff.1 hk).2
  rw [List.drop_eq_getElem_cons hkm]
  simp [h2]
theorem rdN_upd {S : Nat → Prop} {h h' : Hp} (u : Upd S h h') {b : Nat} (hb : ¬ S b) : ∀ {n i : Nat} {l : List Value}, rdN h b i n = some l → rdN h' b i n = some l
  | 0, i, l, e => by simpa [rdN] using e
  | n + 1, i, l, e => by
    simp only [rdN] at e ⊢
    cases hv : rdC h b i with
    | none => rw [hv] at e; cases e
    | some v =>
      have hlt : b < h.size := by
        rcases Nat.lt_or_ge b h.size with hl | hl
        · exact hl
        · rw [rdC, Array.getElem?_eq_none hl] at hv; cases hv
      have : rdC h' b i = some v := by unfold rdC at hv ⊢; rw [u.2 b hlt hb]; exact hv
      rw [this]
      rw [hv] at e
      simp only [Option.bind_some, Option.map_eq_some_iff] at e ⊢
      obtain ⟨r, hr, rfl⟩ := e
      exact ⟨r, rdN_upd u hb hr, rfl⟩
theorem rdN_blk {h : Hp} {b : Nat} {c : Array Value} (e : h[b]? = some (.cells c)) : ∀ {n i : Nat}, i + n ≤ c.size → rdN h b i n = some ((c.toList.drop i).take n)
  | 0, i, _ => by simp [rdN]
  | n + 1, i, hi => by
    have hlt : i < c.size := by omega
    have h1 : rdC h b i = some c[i] := by unfold rdC; rw [e]; simp [hlt]
    simp only [rdN, h1, Option.bind_some, rdN_blk e (n := n) (i := i + 1) (by omega), Option.map_some]
    rw [List.drop_eq_getElem_cons (l := c.toList) (i := i) (by simpa using hlt), List.take_succ_cons]
    simp

theorem rdN_same {h h' : Hp} {b : Nat} (e : h'[b]? = h[b]?) : ∀ (n i : Nat), rdN h' b i n = rdN h b i n
  | 0, _ => rfl
  | n + 1, i => by simp only [rdN, rdC, e, rdN_same e n]
theorem rdN_push {h : Hp} {o : AObj} {b n i : Nat} (hb : b < h.size) : rdN (h.push o) b i n = rdN h b i n := rdN_same (g_push_lt hb) n i
theorem rdN_setne {h : Hp} {o : AObj} {b r n i : Nat} (e : r ≠ b) : rdN (h.setIfInBounds r o) b i n = rdN h b i n := rdN_same (g_set_ne e) n i
theorem rdN_lt {h : Hp} {b n i : Nat} {l : List Value} (e : rdN h b i (n + 1) = some l) : b < h.size := by
  rcases Nat.lt_or_ge b h.size with hl | hl
  · exact hl
  · simp only [rdN, rdC, Array.getElem?_eq_none hl] at e; cases e
def ival : Value → Nat
  | .int _ n => n.toNat
  | _ => 0
theorem ival_nat (k : IntKind) (n : Nat) : ival (.int k n) = n := by simp [ival]

/-- The block of a slice. -/
def blk : Value → Option Nat
  | .slice (some a) _ _ => some a.block
  | _ => none

section
variable {α : Type}
/-- v is a slice that reads as l. -/
def Sl (h : Hp) (sz : Nat) (enc : α → List Value) (v : Value) (l : List α) : Prop :=
  ∃ p cap, v = .slice p l.length cap ∧ l.length ≤ cap ∧ srcCells sz v h = some (l.length, l.flatMap enc)
/-- .. at a row of its own, from base on, or nil. -/
def Own (h : Hp) (base sz : Nat) (enc : α → List Value) (v : Value) (l : List α) : Prop :=
  (v = .slice none 0 0 ∧ l = []) ∨
  ∃ g cap c, v = .slice (some ⟨g, 0, none⟩) l.length cap ∧ base ≤ g ∧ h[g]? = some (.cells c) ∧ l.length ≤ cap ∧ c.size = cap * sz ∧ c.toList.take (l.length * sz) = l.flatMap enc

variable {h h' : Hp} {sz base : Nat} {enc : α → List Value} {v : Value} {l : List α}

theorem Own.nil : Own h base sz enc (.slice none 0 0) ([] : List α) := .inl ⟨rfl, rfl⟩
theorem Sl.nil : Sl h sz enc (.slice none 0 0) ([] : List α) := ⟨none, 0, rfl, Nat.le_refl _, rfl⟩
theorem flat_len (he : ∀ a, (enc a).length = sz) : ∀ l : List α, (l.flatMap enc).length = l.length * sz
  | [] => by simp
  | a :: l => by simp [flat_len he l, he, Nat.add_mul]; omega
theorem flat_part (he : ∀ a, (enc a).length = sz) : ∀ (l : List α) (i : Nat) (hi : i < l.length), ((l.flatMap enc).drop (i * sz)).take sz = enc l[i]
  | a :: l, 0, _ => by
    rw [Nat.zero_mul, List.drop_zero, List.flatMap_cons, List.take_append_of_le_length (by rw [he]; exact Nat.le_refl _), List.take_of_length_le (by rw [he]; exact Nat.le_refl _)]; rfl
  | a :: l, i + 1, hi => by
    rw [List.flatMap_cons, Nat.add_mul, Nat.one_mul, Nat.add_comm, ← List.drop_drop, List.drop_left' (he a)]
    exact flat_part he l i (by simpa using hi)

theorem Own.sl (o : Own h base sz enc v l) : Sl h sz enc v l := by
  rcases o with ⟨rfl, rfl⟩ | ⟨g, cap, c, rfl, _, hg, hn, hs, ht⟩
  · exact Sl.nil
  · refine ⟨_, cap, rfl, hn, ?_⟩
    have : 0 + l.length * sz ≤ c.size := by rw [hs, Nat.zero_add]; exact Nat.mul_le_mul_right _ hn
    simp only [srcCells, rdN_blk hg this, Option.map_some, List.drop_zero, ht]

theorem Sl.at (s : Sl h sz enc v l) (he : ∀ a, (enc a).length = sz) (i : Nat) (hi : i < l.length) :
    ∃ b o cap, v = .slice (some ⟨b, o, none⟩) l.length cap ∧ rdN h b (o + i * sz) sz = some (enc l[i]) := by
  obtain ⟨p, cap, rfl, _, e⟩ := s
  cases p with
  | none =>
    simp only [srcCells] at e
    split at e
    · rename_i h0; have : l = [] := by simpa using h0
      subst this; simp at hi
    · cases e
  | some a =>
    obtain ⟨b, o, q⟩ := a
    cases q with
    | some _ =>
      simp only [srcCells] at e
      split at e
      · rename_i h0; have : l = [] := by simpa using h0
        subst this; simp at hi
      · cases e
    | none =>
      simp only [srcCells, Option.map_eq_some_iff, Prod.mk.injEq, true_and] at e
      obtain ⟨r, hr, rfl⟩ := e
      refine ⟨b, o, cap, rfl, ?_⟩
      have h2 : i * sz + sz ≤ l.length * sz := by rw [← Nat.succ_mul]; exact Nat.mul_le_mul_right _ hi
      rw [rdN_part hr h2, flat_part he l i hi]

theorem Sl.upd {S : Nat → Prop} (s : Sl h sz enc v l) (u : Upd S h h') (hb : ∀ b, blk v = some b → ¬ S b) : Sl h' sz enc v l := by
  obtain ⟨p, cap, rfl, hcap, e⟩ := s
  refine ⟨p, cap, rfl, hcap, ?_⟩
  cases p with
  | none => exact e
  | some a =>
    obtain ⟨b, o, q⟩ := a
    cases q with
    | some _ => exact e
    | none =>
      simp only [srcCells, Option.map_eq_some_iff, Prod.mk.injEq, true_and] at e ⊢
      obtain ⟨r, hr, rfl⟩ := e
      exact ⟨_, rdN_upd u (hb b rfl) hr, rfl⟩
theorem Sl.ext (s : Sl h sz enc v l) (u : Ext h h') : Sl h' sz enc v l := s.upd u (fun _ _ => id)
theorem Sl.len (s : Sl h sz enc v l) {K : Kont} : oLen 0 v h K = K (.int .i64 l.length) h := by
  obtain ⟨p, cap, rfl, _⟩ := s; rfl
theorem Sl.shape (s : Sl h sz enc v l) : ∃ p cap, v = .slice p l.length cap := by
  obtain ⟨p, cap, rfl, _⟩ := s; exact ⟨p, cap, rfl⟩

theorem Own.upd {S : Nat → Prop} (o : Own h base sz enc v l) (u : Upd S h h') (hb : ∀ b, blk v = some b → ¬ S b) : Own h' base sz enc v l := by
  rcases o with ⟨rfl, rfl⟩ | ⟨g, cap, c, rfl, hbase, hg, hr⟩
  · exact .inl ⟨rfl, rfl⟩
  · exact .inr ⟨g, cap, c, rfl, hbase, u.get hg (hb g rfl), hr⟩
theorem Own.ext (o : Own h base sz enc v l) (u : Ext h h') : Own h' base sz enc v l := o.upd u (fun _ _ => id)
theorem Own.low (o : Own h base sz enc v l) {b' : Nat} (hb : b' ≤ base) : Own h b' sz enc v l := by
  rcases o with o | ⟨g, cap, c, e, hbase, hr⟩
  · exact .inl o
  · exact .inr ⟨g, cap, c, e, Nat.le_trans hb hbase, hr⟩

theorem setL_take (vs : List Value) : ∀ (c : Array Value) (i : Nat), i + vs.length ≤ c.size → (setL c i vs).toList.take (i + vs.length) = c.toList.take i ++ vs := by
  induction vs with
  | nil => intro c i _; simp [setL]
  | cons v vs ih =>
    intro c i hi
    simp only [List.length_cons] at hi ⊢
    simp only [setL]
    rw [show i + (vs.length + 1) = (i + 1) + vs.length by omega, ih _ _ (by simp; omega)]
    simp only [Array.toList_setIfInBounds]
    have hlt : i < c.toList.length := by simp; omega
    rw [List.take_add_one, List.take_set_of_le (Nat.le_refl _)]
    have h2 : i < c.size := by simpa using hlt
    simp [h2]

theorem zeroCells_size (z : Array Value) (n : Nat) : (Builtin.zeroCells z n).size = n * z.size := by simp [Builtin.zeroCells]

/-- []T{a}: the slice that is made for append(out, a). -/
theorem Sl.one {c : Array Value} {a : α} (hc : c.toList = enc a) (he : (enc a).length = sz) : Sl (h.push (.cells c)) sz enc (.slice (some ⟨h.size, 0, none⟩) 1 1) [a] := by
  refine ⟨_, 1, rfl, Nat.le_refl _, ?_⟩
  have hs : c.size = sz := by rw [← he, ← hc]; simp
  simp only [srcCells, Nat.one_mul, rdN_blk (h := h.push (.cells c)) (b := h.size) (c := c) (g_push_eq rfl) (n := sz) (i := 0) (by omega), Option.map_some, List.drop_zero, hc, List.length_singleton, List.flatMap_singleton]
  rw [List.take_of_length_le (by omega)]

/-- append(out, l..): whatever is read goes behind what the row holds. -/
theorem Own.append (o : Own h base sz enc v l) (he : ∀ a, (enc a).length = sz) (ho : ∀ a, (enc a).all one = true) {z : Array Value} {bytes : Nat} {x : Value} {r : List α}
    (hB : Base.b ≤ h.size) (hz : z.size = sz) (s : Sl h sz enc x r) (hb : base ≤ h.size) (hbytes : (l.length + r.length) * bytes ≤ 140737488355328) {K : Kont}
    (hK : ∀ v' h', Own h' base sz enc v' (l ++ r) → Upd (fun b => base ≤ b) h h' → K v' h') : oAppend sz bytes z v x h K := by
  obtain ⟨q, c2, rfl, _, hs⟩ := s
  have ho' : ∀ q : List α, (q.flatMap enc).all one = true := by
    intro q; induction q with
    | nil => rfl
    | cons a q ih => simp only [List.flatMap_cons, List.all_append, ho a, ih, Bool.and_self]
  have hl := flat_len he l
  have hr := flat_len he r
  rcases o with ⟨rfl, rfl⟩ | ⟨g, cap, c, rfl, hbase, hg, hn, hsz, ht⟩
  · refine ⟨_, _, hs, ?_, ?_⟩
    · intro hc
      have : r = [] := by
        cases r with
        | nil => rfl
        | cons a r => simp at hc
      subst this
      exact .inl ⟨rfl, hK _ _ (.inl ⟨rfl, rfl⟩) (Upd.refl _)⟩
    · intro _
      refine ⟨[], rfl, by simpa using hbytes, hB, fun nc hnc => hK _ _ (.inr ⟨h.size, nc, _, by simp, hb, g_push_eq rfl, by simpa using hnc, ?_, ?_⟩) (Upd.push (Upd.refl _) _)⟩
      · simp only [Nat.zero_add] at hnc
        simp only [Array.size_append, List.size_toArray, List.length_nil, Nat.zero_add, hr, zeroCells_size, hz]
        rw [← Nat.add_mul]; congr 1; omega
      · simp only [List.nil_append, Array.toList_append, List.append_nil]
        rw [List.take_append_of_le_length (by rw [hr]; exact Nat.le_refl _), List.take_of_length_le (by rw [hr]; exact Nat.le_refl _)]
  · refine ⟨_, _, hs, ?_, ?_⟩
    · intro hc
      refine .inr ⟨g, 0, c, rfl, hg, ?_, ho' r, ?_⟩
      · rw [hr, hsz, Nat.zero_add, ← Nat.add_mul]; exact Nat.mul_le_mul_right _ hc
      · refine hK _ _ (.inr ⟨g, cap, _, by simp, hbase, g_set_eq (lt_of_get hg) rfl, by simpa using hc, by rw [setL_size]; exact hsz, ?_⟩) (Upd.set (Upd.refl _) _ _ (.inr hbase))
        rw [List.length_append, Nat.add_mul, ← hr, Nat.zero_add, setL_take _ _ _ (by rw [hr, hsz, ← Nat.add_mul]; exact Nat.mul_le_mul_right _ hc), ht, List.flatMap_append]
    · intro hc
      have hself : srcCells sz (.slice (some ⟨g, 0, none⟩) l.length cap) h = some (l.length, l.flatMap enc) := by
        have : Sl h sz enc (.slice (some ⟨g, 0, none⟩) l.length cap) l := Own.sl (base := base) (.inr ⟨g, cap, c, rfl, hbase, hg, hn, hsz, ht⟩)
        obtain ⟨_, _, _, _, e⟩ := this; exact e
      refine ⟨_, hself, hbytes, hB, fun nc hnc => hK _ _ (.inr ⟨h.size, nc, _, by simp, hb, g_push_eq rfl, by simpa using hnc, ?_, ?_⟩) (Upd.push (Upd.refl _) _)⟩
      · simp only [Array.size_append, List.size_toArray, hl, hr, zeroCells_size, hz]
        rw [← Nat.add_mul, ← Nat.add_mul]; congr 1; omega
      · rw [Array.toList_append, List.take_append_of_le_length (by simp [hl, hr, Nat.add_mul]), List.take_of_length_le (by simp [hl, hr, Nat.add_mul])]
        simp
end
end Go.Proofs.Ytdolepapmpcpiaa
