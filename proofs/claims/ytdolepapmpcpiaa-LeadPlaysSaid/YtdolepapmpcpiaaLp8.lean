/- Lemmas for the theorem of the last text; no condition. -/
import Derived.Test.YtdolepapmpcpiaaLp0
import Derived.Test.YtdolepapmpcpiaaLp1
import Derived.Test.YtdolepapmpcpiaaLp2
import Derived.Test.YtdolepapmpcpiaaLp3
import Derived.Test.YtdolepapmpcpiaaLp4
import Derived.Test.YtdolepapmpcpiaaLp5
import Derived.Test.YtdolepapmpcpiaaLp6
import Derived.Test.YtdolepapmpcpiaaLp7
import Derived.Shelf.SlIterI.Nil
import Derived.Shelf.SortM.Plain
import Derived.Shelf.SortM.SortNone
import Derived.Ground.GgzProg
import Derived.Ground.SlgmProg
import Derived.Test.YtdolepapmpcpiaaProg
namespace Go.Proofs.Ytdolepapmpcpiaa
open Go
set_option linter.unusedSectionVars false
variable [Base]
set_option linter.unusedVariables false
set_option linter.unusedSimpArgs false
theorem rdN_add (h : Hp) (b : Nat) : ∀ (m n i : Nat), rdN h b i (m + n) = (rdN h b i m).bind fun x => (rdN h b (i + m) n).map (x ++ ·)
  | 0, n, i => by simp [rdN]
  | m + 1, n, i => by
    rw [show m + 1 + n = (m + n) + 1 by omega]
    simp only [rdN]
    cases rdC h b i with
    | none => rfl
    | some v =>
      simp only [Option.bind_some]
      rw [rdN_add h b m n (i + 1), show i + 1 + m = i + (m + 1) by omega]
      cases rdN h b (i + 1) m with
      | none => rfl
      | some x => cases rdN h b (i + (m + 1)) n <;> rfl
theorem rdN_len {h : Hp} {b : Nat} : ∀ {n i : Nat} {l : List Value}, rdN h b i n = some l → l.length = n
  | 0, i, l, e => by simp only [rdN, Option.some.injEq] at e; subst e; rfl
  | n + 1, i, l, e => by
    simp only [rdN] at e
    cases hv : rdC h b i with
    | none => rw [hv] at e; cases e
    | some v =>
      rw [hv] at e
      simp only [Option.bind_some, Option.map_eq_some_iff] at e
      obtain ⟨r, hr, rfl⟩ := e
      simp [rdN_len hr]
theorem rdN_part {h : Hp} {b i m n k : Nat} {l : List Value} (e : rdN h b i m = some l) (hk : k + n ≤ m) : rdN h b (i + k) n = some ((l.drop k).take n) := by
  obtain ⟨r, rfl⟩ : ∃ r, m = k + n + r := ⟨m - (k + n), by omega⟩
  rw [rdN_add, rdN_add] at e
  cases h1 : rdN h b i k with
  | none => rw [h1] at e; cases e
  | some x =>
    rw [h1] at e
    simp only [Option.bind_some] at e
    cases h2 : rdN h b (i + k) n with
    | none => rw [h2] at e; cases e
    | some y =>
      rw [h2] at e
      simp only [Option.map_some, Option.bind_some, Option.map_eq_some_iff] at e
      obtain ⟨z, _, rfl⟩ := e
      have l1 := rdN_len h1
      have l2 := rdN_len h2
      rw [List.append_assoc, List.drop_append_of_le_length (by omega), List.drop_eq_nil_of_le (by omega : x.length ≤ k), List.nil_append, List.take_append_of_le_length (by omega), List.take_of_length_le (by omega)]
theorem rdN_one {h : Hp} {b i : Nat} {v : Value} (e : rdN h b i 1 = some [v]) : rdC h b i = some v := by
  simp only [rdN] at e
  cases hv : rdC h b i with
  | none => rw [hv] at e; cases e
  | some u => rw [hv] at e; simpa using e
theorem rdN_cell {h : Hp} {b i m k : Nat} {l : List Value} {v : Value} (e : rdN h b i m = some l) (hk : l[k]? = some v) : rdC h b (i + k) = some v := by
  have hl := rdN_len e
  have hkm : k < l.length := (List.getElem?_eq_some_iff.1 hk).1
  have := rdN_part (n := 1) (k := k) e (by omega)
  apply rdN_one
  rw [this]
  have h2 := (List.getElem?_eq_some_iff.1 hk).2
  rw [List.drop_eq_getElem_cons hkm]
  simp [h2]
theorem rdN_upd {S : Nat → Prop} {h h' : Hp} (u : Upd S h h') {b : Nat} (hb : ¬ S b) : ∀ {n i : Nat} {l : List Value}, rdN h b i n = some l → rdN h' b i n = some l
  | 0, i, l, e => by simpa [rdN] using e
  | n + 1, i, l, e => by
    simp only [rdN] at e ⊢
    cases hv : rdC h b i with
    | none => rw [hv] at e; cases e
    | some v =>
      have hlt : b < h.size := by
        rcases Nat.lt_or_ge b h.size with hl | hl
        · exact hl
        · rw [rdC, Array.getElem?_eq_none hl] at hv; cases hv
      have : rdC h' b i = some v := by unfold rdC at hv ⊢; rw [u.2 b hlt hb]; exact hv
      rw [this]
      rw [hv] at e
      simp only [Option.bind_some, Option.map_eq_some_iff] at e ⊢
      obtain ⟨r, hr, rfl⟩ := e
      exact ⟨r, rdN_upd u hb hr, rfl⟩
theorem rdN_blk {h : Hp} {b : Nat} {c : Array Value} (e : h[b]? = some (.cells c)) : ∀ {n i : Nat}, i + n ≤ c.size → rdN h b i n = some ((c.toList.drop i).take n)
  | 0, i, _ => by simp [rdN]
  | n + 1, i, hi => by
    have hlt : i < c.size := by omega
    have h1 : rdC h b i = some c[i] := by unfold rdC; rw [e]; simp [hlt]
    simp only [rdN, h1, Option.bind_some, rdN_blk e (n := n) (i := i + 1) (by omega), Option.map_some]
    rw [List.drop_eq_getElem_cons (l := c.toList) (i := i) (by simpa using hlt), List.take_succ_cons]
    simp
theorem rdN_same {h h' : Hp} {b : Nat} (e : h'[b]? = h[b]?) : ∀ (n i : Nat), rdN h' b i n = rdN h b i n
  | 0, _ => rfl
  | n + 1, i => by simp only [rdN, rdC, e, rdN_same e n]
theorem rdN_push {h : Hp} {o : AObj} {b n i : Nat} (hb : b < h.size) : rdN (h.push o) b i n = rdN h b i n := rdN_same (g_push_lt hb) n i
theorem rdN_setne {h : Hp} {o : AObj} {b r n i : Nat} (e : r ≠ b) : rdN (h.setIfInBounds r o) b i n = rdN h b i n := rdN_same (g_set_ne e) n i
theorem rdN_lt {h : Hp} {b n i : Nat} {l : List Value} (e : rdN h b i (n + 1) = some l) : b < h.size := by
  rcases Nat.lt_or_ge b h.size with hl | hl
  · exact hl
  · simp only [rdN, rdC, Array.getElem?_eq_none hl] at e; cases e
def ival : Value → Nat
  | .int _ n => n.toNat
  | _ => 0
theorem ival_nat (k : IntKind) (n : Nat) : ival (.int k n) = n := by simp [ival]
/-- The block of a slice. -/
def blk : Value → Option Nat
  | .slice (some a) _ _ => some a.block
  | _ => none
section
variable {α : Type}
/-- v is a slice that reads as l. -/
def Sl (h : Hp) (sz : Nat) (enc : α → List Value) (v : Value) (l : List α) : Prop :=
  ∃ p cap, v = .slice p l.length cap ∧ l.length ≤ cap ∧ srcCells sz v h = some (l.length, l.flatMap enc)
/-- .. at a row of its own, from base on, or nil. -/
def Own (h : Hp) (base sz : Nat) (enc : α → List Value) (v : Value) (l : List α) : Prop :=
  (v = .slice none 0 0 ∧ l = []) ∨
  ∃ g cap c, v = .slice (some ⟨g, 0, none⟩) l.length cap ∧ base ≤ g ∧ h[g]? = some (.cells c) ∧ l.length ≤ cap ∧ c.size = cap * sz ∧ c.toList.take (l.length * sz) = l.flatMap enc
variable {h h' : Hp} {sz base : Nat} {enc : α → List Value} {v : Value} {l : List α}
theorem Own.nil : Own h base sz enc (.slice none 0 0) ([] : List α) := .inl ⟨rfl, rfl⟩
theorem Sl.nil : Sl h sz enc (.slice none 0 0) ([] : List α) := ⟨none, 0, rfl, Nat.le_refl _, rfl⟩
theorem flat_len (he : ∀ a, (enc a).length = sz) : ∀ l : List α, (l.flatMap enc).length = l.length * sz
  | [] => by simp
  | a :: l => by simp [flat_len he l, he, Nat.add_mul]; omega
theorem flat_part (he : ∀ a, (enc a).length = sz) : ∀ (l : List α) (i : Nat) (hi : i < l.length), ((l.flatMap enc).drop (i * sz)).take sz = enc l[i]
  | a :: l, 0, _ => by
    rw [Nat.zero_mul, List.drop_zero, List.flatMap_cons, List.take_append_of_le_length (by rw [he]; exact Nat.le_refl _), List.take_of_length_le (by rw [he]; exact Nat.le_refl _)]; rfl
  | a :: l, i + 1, hi => by
    rw [List.flatMap_cons, Nat.add_mul, Nat.one_mul, Nat.add_comm, ← List.drop_drop, List.drop_left' (he a)]
    exact flat_part he l i (by simpa using hi)
theorem Own.sl (o : Own h base sz enc v l) : Sl h sz enc v l := by
  rcases o with ⟨rfl, rfl⟩ | ⟨g, cap, c, rfl, _, hg, hn, hs, ht⟩
  · exact Sl.nil
  · refine ⟨_, cap, rfl, hn, ?_⟩
    have : 0 + l.length * sz ≤ c.size := by rw [hs, Nat.zero_add]; exact Nat.mul_le_mul_right _ hn
    simp only [srcCells, rdN_blk hg this, Option.map_some, List.drop_zero, ht]
theorem Sl.at (s : Sl h sz enc v l) (he : ∀ a, (enc a).length = sz) (i : Nat) (hi : i < l.length) :
    ∃ b o cap, v = .slice (some ⟨b, o, none⟩) l.length cap ∧ rdN h b (o + i * sz) sz = some (enc l[i]) := by
  obtain ⟨p, cap, rfl, _, e⟩ := s
  cases p with
  | none =>
    simp only [srcCells] at e
    split at e
    · rename_i h0; have : l = [] := by simpa using h0
      subst this; simp at hi
    · cases e
  | some a =>
    obtain ⟨b, o, q⟩ := a
    cases q with
    | some _ =>
      simp only [srcCells] at e
      split at e
      · rename_i h0; have : l = [] := by simpa using h0
        subst this; simp at hi
      · cases e
    | none =>
      simp only [srcCells, Option.map_eq_some_iff, Prod.mk.injEq, true_and] at e
      obtain ⟨r, hr, rfl⟩ := e
      refine ⟨b, o, cap, rfl, ?_⟩
      have h2 : i * sz + sz ≤ l.length * sz := by rw [← Nat.succ_mul]; exact Nat.mul_le_mul_right _ hi
      rw [rdN_part hr h2, flat_part he l i hi]
theorem Sl.upd {S : Nat → Prop} (s : Sl h sz enc v l) (u : Upd S h h') (hb : ∀ b, blk v = some b → ¬ S b) : Sl h' sz enc v l := by
  obtain ⟨p, cap, rfl, hcap, e⟩ := s
  refine ⟨p, cap, rfl, hcap, ?_⟩
  cases p with
  | none => exact e
  | some a =>
    obtain ⟨b, o, q⟩ := a
    cases q with
    | some _ => exact e
    | none =>
      simp only [srcCells, Option.map_eq_some_iff, Prod.mk.injEq, true_and] at e ⊢
      obtain ⟨r, hr, rfl⟩ := e
      exact ⟨_, rdN_upd u (hb b rfl) hr, rfl⟩
theorem Sl.ext (s : Sl h sz enc v l) (u : Ext h h') : Sl h' sz enc v l := s.upd u (fun _ _ => id)
theorem Sl.len (s : Sl h sz enc v l) {K : Kont} : oLen 0 v h K = K (.int .i64 l.length) h := by
  obtain ⟨p, cap, rfl, _⟩ := s; rfl
theorem Own.upd {S : Nat → Prop} (o : Own h base sz enc v l) (u : Upd S h h') (hb : ∀ b, blk v = some b → ¬ S b) : Own h' base sz enc v l := by
  rcases o with ⟨rfl, rfl⟩ | ⟨g, cap, c, rfl, hbase, hg, hr⟩
  · exact .inl ⟨rfl, rfl⟩
  · exact .inr ⟨g, cap, c, rfl, hbase, u.get hg (hb g rfl), hr⟩
theorem Own.ext (o : Own h base sz enc v l) (u : Ext h h') : Own h' base sz enc v l := o.upd u (fun _ _ => id)
theorem Own.low (o : Own h base sz enc v l) {b' : Nat} (hb : b' ≤ base) : Own h b' sz enc v l := by
  rcases o with o | ⟨g, cap, c, e, hbase, hr⟩
  · exact .inl o
  · exact .inr ⟨g, cap, c, e, Nat.le_trans hb hbase, hr⟩
theorem setL_take (vs : List Value) : ∀ (c : Array Value) (i : Nat), i + vs.length ≤ c.size → (setL c i vs).toList.take (i + vs.length) = c.toList.take i ++ vs := by
  induction vs with
  | nil => intro c i _; simp [setL]
  | cons v vs ih =>
    intro c i hi
    simp only [List.length_cons] at hi ⊢
    simp only [setL]
    rw [show i + (vs.length + 1) = (i + 1) + vs.length by omega, ih _ _ (by simp; omega)]
    simp only [Array.toList_setIfInBounds]
    have hlt : i < c.toList.length := by simp; omega
    rw [List.take_add_one, List.take_set_of_le (Nat.le_refl _)]
    have h2 : i < c.size := by simpa using hlt
    simp [h2]
theorem zeroCells_size (z : Array Value) (n : Nat) : (Builtin.zeroCells z n).size = n * z.size := by simp [Builtin.zeroCells]
/-- []T{a}: the slice that is made for append(out, a). -/
theorem Sl.one {c : Array Value} {a : α} (hc : c.toList = enc a) (he : (enc a).length = sz) : Sl (h.push (.cells c)) sz enc (.slice (some ⟨h.size, 0, none⟩) 1 1) [a] := by
  refine ⟨_, 1, rfl, Nat.le_refl _, ?_⟩
  have hs : c.size = sz := by rw [← he, ← hc]; simp
  simp only [srcCells, Nat.one_mul, rdN_blk (h := h.push (.cells c)) (b := h.size) (c := c) (g_push_eq rfl) (n := sz) (i := 0) (by omega), Option.map_some, List.drop_zero, hc, List.length_singleton, List.flatMap_singleton]
  rw [List.take_of_length_le (by omega)]
/-- append(out, l..): whatever is read goes behind what the row holds. -/
theorem Own.append (o : Own h base sz enc v l) (he : ∀ a, (enc a).length = sz) (ho : ∀ a, (enc a).all one = true) {z : Array Value} {bytes : Nat} {x : Value} {r : List α}
    (hB : Base.b ≤ h.size) (hz : z.size = sz) (s : Sl h sz enc x r) (hb : base ≤ h.size) (hbytes : (l.length + r.length) * bytes ≤ 140737488355328) {K : Kont}
    (hK : ∀ v' h', Own h' base sz enc v' (l ++ r) → Upd (fun b => base ≤ b) h h' → K v' h') : oAppend sz bytes z v x h K := by
  obtain ⟨q, c2, rfl, _, hs⟩ := s
  have ho' : ∀ q : List α, (q.flatMap enc).all one = true := by
    intro q; induction q with
    | nil => rfl
    | cons a q ih => simp only [List.flatMap_cons, List.all_append, ho a, ih, Bool.and_self]
  have hl := flat_len he l
  have hr := flat_len he r
  rcases o with ⟨rfl, rfl⟩ | ⟨g, cap, c, rfl, hbase, hg, hn, hsz, ht⟩
  · refine ⟨_, _, hs, ?_, ?_⟩
    · intro hc
      have : r = [] := by
        cases r with
        | nil => rfl
        | cons a r => simp at hc
      subst this
      exact .inl ⟨rfl, hK _ _ (.inl ⟨rfl, rfl⟩) (Upd.refl _)⟩
    · intro _
      refine ⟨[], rfl, by simpa using hbytes, hB, fun nc hnc => hK _ _ (.inr ⟨h.size, nc, _, by simp, hb, g_push_eq rfl, by simpa using hnc, ?_, ?_⟩) (Upd.push (Upd.refl _) _)⟩
      · simp only [Nat.zero_add] at hnc
        simp only [Array.size_append, List.size_toArray, List.length_nil, Nat.zero_add, hr, zeroCells_size, hz]
        rw [← Nat.add_mul]; congr 1; omega
      · simp only [List.nil_append, Array.toList_append, List.append_nil]
        rw [List.take_append_of_le_length (by rw [hr]; exact Nat.le_refl _), List.take_of_length_le (by rw [hr]; exact Nat.le_refl _)]
  · refine ⟨_, _, hs, ?_, ?_⟩
    · intro hc
      refine .inr ⟨g, 0, c, rfl, hg, ?_, ho' r, ?_⟩
      · rw [hr, hsz, Nat.zero_add, ← Nat.add_mul]; exact Nat.mul_le_mul_right _ hc
      · refine hK _ _ (.inr ⟨g, cap, _, by simp, hbase, g_set_eq (lt_of_get hg) rfl, by simpa using hc, by rw [setL_size]; exact hsz, ?_⟩) (Upd.set (Upd.refl _) _ _ (.inr hbase))
        rw [List.length_append, Nat.add_mul, ← hr, Nat.zero_add, setL_take _ _ _ (by rw [hr, hsz, ← Nat.add_mul]; exact Nat.mul_le_mul_right _ hc), ht, List.flatMap_append]
    · intro hc
      have hself : srcCells sz (.slice (some ⟨g, 0, none⟩) l.length cap) h = some (l.length, l.flatMap enc) := by
        have : Sl h sz enc (.slice (some ⟨g, 0, none⟩) l.length cap) l := Own.sl (base := base) (.inr ⟨g, cap, c, rfl, hbase, hg, hn, hsz, ht⟩)
        obtain ⟨_, _, _, _, e⟩ := this; exact e
      refine ⟨_, hself, hbytes, hB, fun nc hnc => hK _ _ (.inr ⟨h.size, nc, _, by simp, hb, g_push_eq rfl, by simpa using hnc, ?_, ?_⟩) (Upd.push (Upd.refl _) _)⟩
      · simp only [Array.size_append, List.size_toArray, hl, hr, zeroCells_size, hz]
        rw [← Nat.add_mul, ← Nat.add_mul]; congr 1; omega
      · rw [Array.toList_append, List.take_append_of_le_length (by simp [hl, hr, Nat.add_mul]), List.take_of_length_le (by simp [hl, hr, Nat.add_mul])]
        simp
end
end Go.Proofs.Ytdolepapmpcpiaa

namespace Go.Proofs
open Go.Shelf
def Try.keysA_ren : Go.Shelf.Ren := ⟨fun | 7 => 49 | 10 => 76 | n => n, fun | 23 => 97 | 26 => 3 | 3 => 36 | 28 => 109 | 0 => 0 | 27 => 108 | 33 => 117 | 4 => 4 | n => n, fun | n => n⟩
theorem Try.keysA : Go.Proofs.SlLaysZI.n7 Try.prog Try.keysA_ren := {
  mixed := by kernel_rfl
  f7 := ⟨Try.f49.name, by decide, Try.func49.trans (congrArg some (by kernel_rfl))⟩
  f10 := ⟨Try.f76.name, by decide, Try.func76.trans (congrArg some (by kernel_rfl))⟩
  t0 := Try.underlying0
  a0 := Try.isAgg0
  z0 := Try.sizeOf0
  v0 := Try.zeroValue0
  t4 := Try.underlying4
  a4 := Try.isAgg4
  z4 := Try.sizeOf4
  v4 := Try.zeroValue4
  t23 := Try.underlying97
  a23 := Try.isAgg97
  z23 := Try.sizeOf97
  v23 := Try.zeroValue97
  t26 := Try.underlying3
  a26 := Try.isAgg3
  z26 := Try.sizeOf3
  v26 := Try.zeroValue3
  t27 := Try.underlying108
  a27 := Try.isAgg108
  z27 := Try.sizeOf108
  v27 := Try.zeroValue108
  t28 := Try.underlying109
  a28 := Try.isAgg109
  z28 := Try.sizeOf109
  v28 := Try.zeroValue109
  t33 := Try.underlying117
  a33 := Try.isAgg117
  z33 := Try.sizeOf117
  v33 := Try.zeroValue117 }
def Try.keysB_ren : Go.Shelf.Ren := ⟨fun | 7 => 58 | 10 => 80 | n => n, fun | 23 => 112 | 26 => 3 | 3 => 26 | 28 => 109 | 0 => 0 | 27 => 108 | 33 => 117 | 4 => 4 | n => n, fun | n => n⟩
theorem Try.keysB : Go.Proofs.SlLaysZI.n7 Try.prog Try.keysB_ren := {
  mixed := by kernel_rfl
  f7 := ⟨Try.f58.name, by decide, Try.func58.trans (congrArg some (by kernel_rfl))⟩
  f10 := ⟨Try.f80.name, by decide, Try.func80.trans (congrArg some (by kernel_rfl))⟩
  t0 := Try.underlying0
  a0 := Try.isAgg0
  z0 := Try.sizeOf0
  v0 := Try.zeroValue0
  t4 := Try.underlying4
  a4 := Try.isAgg4
  z4 := Try.sizeOf4
  v4 := Try.zeroValue4
  t23 := Try.underlying112
  a23 := Try.isAgg112
  z23 := Try.sizeOf112
  v23 := Try.zeroValue112
  t26 := Try.underlying3
  a26 := Try.isAgg3
  z26 := Try.sizeOf3
  v26 := Try.zeroValue3
  t27 := Try.underlying108
  a27 := Try.isAgg108
  z27 := Try.sizeOf108
  v27 := Try.zeroValue108
  t28 := Try.underlying109
  a28 := Try.isAgg109
  z28 := Try.sizeOf109
  v28 := Try.zeroValue109
  t33 := Try.underlying117
  a33 := Try.isAgg117
  z33 := Try.sizeOf117
  v33 := Try.zeroValue117 }
def Try.keysC_ren : Go.Shelf.Ren := ⟨fun | 7 => 65 | 10 => 87 | n => n, fun | 23 => 113 | 26 => 3 | 3 => 128 | 28 => 109 | 0 => 0 | 27 => 108 | 33 => 117 | 4 => 4 | n => n, fun | n => n⟩
theorem Try.keysC : Go.Proofs.SlLaysZI.n7 Try.prog Try.keysC_ren := {
  mixed := by kernel_rfl
  f7 := ⟨Try.f65.name, by decide, Try.func65.trans (congrArg some (by kernel_rfl))⟩
  f10 := ⟨Try.f87.name, by decide, Try.func87.trans (congrArg some (by kernel_rfl))⟩
  t0 := Try.underlying0
  a0 := Try.isAgg0
  z0 := Try.sizeOf0
  v0 := Try.zeroValue0
  t4 := Try.underlying4
  a4 := Try.isAgg4
  z4 := Try.sizeOf4
  v4 := Try.zeroValue4
  t23 := Try.underlying113
  a23 := Try.isAgg113
  z23 := Try.sizeOf113
  v23 := Try.zeroValue113
  t26 := Try.underlying3
  a26 := Try.isAgg3
  z26 := Try.sizeOf3
  v26 := Try.zeroValue3
  t27 := Try.underlying108
  a27 := Try.isAgg108
  z27 := Try.sizeOf108
  v27 := Try.zeroValue108
  t28 := Try.underlying109
  a28 := Try.isAgg109
  z28 := Try.sizeOf109
  v28 := Try.zeroValue109
  t33 := Try.underlying117
  a33 := Try.isAgg117
  z33 := Try.sizeOf117
  v33 := Try.zeroValue117 }
def Try.sortedA_ren : Go.Shelf.Ren := ⟨fun | 6 => 64 | 8 => 48 | 9 => 86 | 11 => 75 | 13 => 96 | 12 => 95 | 23 => 109 | 24 => 110 | 14 => 100 | 15 => 101 | 16 => 102 | 17 => 103 | 18 => 104 | 19 => 105 | 20 => 106 | 21 => 107 | 22 => 108 | 25 => 113 | 26 => 114 | 27 => 115 | 28 => 116 | 29 => 117 | 30 => 118 | 31 => 119 | n => n, fun | 26 => 3 | 28 => 109 | 24 => 72 | 0 => 0 | 3 => 3 | 37 => 155 | 48 => 166 | 50 => 25 | 4 => 4 | 40 => 159 | 39 => 158 | 45 => 163 | 5 => 5 | 9 => 9 | 51 => 167 | 55 => 170 | 57 => 172 | 58 => 173 | 33 => 117 | n => n, fun | n => n⟩
theorem Try.sortedA : Go.Proofs.SlLaysZI.n6 Try.prog Try.sortedA_ren := {
  mixed := by kernel_rfl
  f6 := ⟨Try.f64.name, by decide, Try.func64.trans (congrArg some (by kernel_rfl))⟩
  f8 := ⟨Try.f48.name, by decide, Try.func48.trans (congrArg some (by kernel_rfl))⟩
  f11 := ⟨Try.f75.name, by decide, Try.func75.trans (congrArg some (by kernel_rfl))⟩
  t0 := Try.underlying0
  a0 := Try.isAgg0
  z0 := Try.sizeOf0
  v0 := Try.zeroValue0
  t24 := Try.underlying72
  a24 := Try.isAgg72
  z24 := Try.sizeOf72
  v24 := Try.zeroValue72
  t26 := Try.underlying3
  a26 := Try.isAgg3
  z26 := Try.sizeOf3
  v26 := Try.zeroValue3
  t28 := Try.underlying109
  a28 := Try.isAgg109
  z28 := Try.sizeOf109
  v28 := Try.zeroValue109
  i26 := by kernel_rfl }
def Try.sortA_ren : Go.Shelf.Ren := ⟨fun | 5 => 86 | 8 => 96 | 7 => 95 | 19 => 109 | 20 => 110 | 10 => 100 | 11 => 101 | 12 => 102 | 13 => 103 | 14 => 104 | 15 => 105 | 16 => 106 | 17 => 107 | 18 => 108 | 30 => 113 | 31 => 114 | 32 => 115 | 33 => 116 | 34 => 117 | 35 => 118 | 40 => 119 | n => n, fun | 23 => 72 | 25 => 3 | 3 => 3 | 32 => 155 | 22 => 72 | 0 => 0 | 44 => 166 | 46 => 25 | 4 => 4 | 36 => 159 | 35 => 158 | 41 => 163 | 5 => 5 | 9 => 9 | 53 => 167 | 57 => 170 | 63 => 172 | 64 => 173 | n => n, fun | n => n⟩
theorem Try.sortA : Go.Proofs.SlLaysM.n5 Try.prog Try.sortA_ren := {
  mixed := by kernel_rfl
  f5 := ⟨Try.f86.name, by decide, Try.func86.trans (congrArg some (by kernel_rfl))⟩
  f7 := ⟨Try.f95.name, by decide, Try.func95.trans (congrArg some (by kernel_rfl))⟩
  f8 := Try.func96.trans (congrArg some (by kernel_rfl))
  f10 := ⟨Try.f100.name, by decide, Try.func100.trans (congrArg some (by kernel_rfl))⟩
  f11 := ⟨Try.f101.name, by decide, Try.func101.trans (congrArg some (by kernel_rfl))⟩
  f12 := ⟨Try.f102.name, by decide, Try.func102.trans (congrArg some (by kernel_rfl))⟩
  f13 := ⟨Try.f103.name, by decide, Try.func103.trans (congrArg some (by kernel_rfl))⟩
  f14 := ⟨Try.f104.name, by decide, Try.func104.trans (congrArg some (by kernel_rfl))⟩
  f15 := ⟨Try.f105.name, by decide, Try.func105.trans (congrArg some (by kernel_rfl))⟩
  f16 := ⟨Try.f106.name, by decide, Try.func106.trans (congrArg some (by kernel_rfl))⟩
  f17 := ⟨Try.f107.name, by decide, Try.func107.trans (congrArg some (by kernel_rfl))⟩
  f18 := ⟨Try.f108.name, by decide, Try.func108.trans (congrArg some (by kernel_rfl))⟩
  f19 := Try.func109.trans (congrArg some (by kernel_rfl))
  f20 := Try.func110.trans (congrArg some (by kernel_rfl))
  f30 := ⟨Try.f113.name, by decide, Try.func113.trans (congrArg some (by kernel_rfl))⟩
  f31 := Try.func114.trans (congrArg some (by kernel_rfl))
  f32 := Try.func115.trans (congrArg some (by kernel_rfl))
  f33 := ⟨Try.f116.name, by decide, Try.func116.trans (congrArg some (by kernel_rfl))⟩
  f34 := ⟨Try.f117.name, by decide, Try.func117.trans (congrArg some (by kernel_rfl))⟩
  f35 := ⟨Try.f118.name, by decide, Try.func118.trans (congrArg some (by kernel_rfl))⟩
  f40 := ⟨Try.f119.name, by decide, Try.func119.trans (congrArg some (by kernel_rfl))⟩
  t0 := Try.underlying0
  a0 := Try.isAgg0
  z0 := Try.sizeOf0
  v0 := Try.zeroValue0
  t3 := Try.underlying3
  a3 := Try.isAgg3
  z3 := Try.sizeOf3
  v3 := Try.zeroValue3
  t4 := Try.underlying4
  a4 := Try.isAgg4
  z4 := Try.sizeOf4
  v4 := Try.zeroValue4
  t5 := Try.underlying5
  a5 := Try.isAgg5
  z5 := Try.sizeOf5
  v5 := Try.zeroValue5
  t9 := Try.underlying9
  a9 := Try.isAgg9
  z9 := Try.sizeOf9
  v9 := Try.zeroValue9
  t22 := Try.underlying72
  a22 := Try.isAgg72
  z22 := Try.sizeOf72
  v22 := Try.zeroValue72
  t23 := Try.underlying72
  a23 := Try.isAgg72
  z23 := Try.sizeOf72
  v23 := Try.zeroValue72
  t25 := Try.underlying3
  a25 := Try.isAgg3
  z25 := Try.sizeOf3
  v25 := Try.zeroValue3
  t32 := Try.underlying155
  a32 := Try.isAgg155
  z32 := Try.sizeOf155
  v32 := Try.zeroValue155
  t35 := Try.underlying158
  a35 := Try.isAgg158
  z35 := Try.sizeOf158
  v35 := Try.zeroValue158
  t36 := Try.underlying159
  a36 := Try.isAgg159
  z36 := Try.sizeOf159
  v36 := Try.zeroValue159
  t41 := Try.underlying163
  a41 := Try.isAgg163
  z41 := Try.sizeOf163
  v41 := Try.zeroValue163
  t44 := Try.underlying166
  a44 := Try.isAgg166
  z44 := Try.sizeOf166
  v44 := Try.zeroValue166
  t46 := Try.underlying25
  a46 := Try.isAgg25
  z46 := Try.sizeOf25
  v46 := Try.zeroValue25
  t53 := Try.underlying167
  a53 := Try.isAgg167
  z53 := Try.sizeOf167
  v53 := Try.zeroValue167
  t57 := Try.underlying170
  a57 := Try.isAgg170
  z57 := Try.sizeOf170
  v57 := Try.zeroValue170
  t63 := Try.underlying172
  a63 := Try.isAgg172
  z63 := Try.sizeOf172
  v63 := Try.zeroValue172
  t64 := Try.underlying173
  a64 := Try.isAgg173
  z64 := Try.sizeOf173
  v64 := Try.zeroValue173 }
end Go.Proofs

namespace Go.Proofs.Ytdolepapmpcpiaa
open Go Go.RowKit Go.Maps Go.Shelf
set_option linter.unusedSectionVars false
variable [Base]
open Go.WideElems (Fit rd rg)
/-- A slice of n items, at its own row from its start. -/
def Row (h : Hp) (base sz : Nat) (v : Value) (n : Nat) (xs : List Value) : Prop :=
  xs.length = n * sz ∧ ((v = .slice none 0 0 ∧ n = 0) ∨ ∃ g cap c, v = .slice (some ⟨g, 0, none⟩) n cap ∧ base ≤ g ∧ h[g]? = some (.cells c) ∧ n ≤ cap ∧ cap ≤ maxLen ∧ c.size = cap * sz ∧ c.toList.take (n * sz) = xs)
theorem Row.of_own {w : World} {base e sz n : Nat} {v : Value} {xs : List Value} (hB : Base.b ≤ base) (h : w.ownsRow base e sz v n xs) : Row (hv w) base sz v n xs := by
  refine ⟨h.1, h.2.imp id ?_⟩
  rintro ⟨g, cap, cur, h1, h2, h3, h4⟩
  exact ⟨g, cap, cur, h1, h2, by rw [hv_get, h3, Option.map_some, see_new (Nat.le_trans hB h2)]; simp [absObj], h4⟩
theorem Ext.of_below {w w' : World} (h : Below w.heap.size w w') : Ext (hv w) (hv w') := by
  refine ⟨by rw [hv_size, hv_size]; exact h.size, fun r hr _ => ?_⟩
  rw [hv_size] at hr
  rw [hv_get, hv_get, h.block r hr, see_eq h.os h.output]
theorem kvOf_keys (es : Array MapEntry) : (kvOf es).map (·.1) = es.toList.map (·.key) := by simp [kvOf]
abbrev Rany : Value → Option (DataW Unit × List MemPlace) := fun _ => some (.lit (.bool true), [])
abbrev i64ok (x : Int) : Prop := -9223372036854775808 ≤ x ∧ x ≤ 9223372036854775807
theorem i64wf {x : Int} (h : i64ok x) : (Lit.int .i64 x).wf = true := by
  simp only [Lit.wf, i64ok] at *
  have h1 : IntKind.i64.min = -9223372036854775808 := by decide
  have h2 : IntKind.i64.max = 9223372036854775807 := by decide
  rw [h1, h2]
  simpa using h
/-- A seen map of int keys is one that the kit's readers own. -/
theorem owns_of {P : Program} {k : TypeId} (hk : P.underlying k = some (.int .i64)) {w : World} {r : Nat} {kv : List (Value × Value)} (h : (hv w)[r]? = some (.map kv)) {ks : List Int} (hks : kv.map (·.1) = ks.map encZ)
    (hwf : ∀ x ∈ ks, i64ok x) (hlen : ks.length ≤ maxLen) :
    ∃ D : DataW Unit, w.ownsMap P k Rany r ks.length D ∧ (intKeys D).Perm ks ∧ Maps.size D = ks.length := by
  obtain ⟨es, ck, hb, hs, rfl⟩ := of_map h
  rw [kvOf_keys] at hks
  have hl : es.size = ks.length := by have := congrArg List.length hks; simpa using this
  have hrd : ∀ x ∈ es.toList, ∃ a, a ∈ ks ∧ x.key = encZ a := by
    intro x hx
    have : x.key ∈ ks.map encZ := hks ▸ List.mem_map_of_mem hx
    obtain ⟨a, ha, e⟩ := List.mem_map.1 this
    exact ⟨a, ha, e.symm⟩
  have hr : ∀ x ∈ es.toList, ∃ a, x.key = encZ a ∧ rd P k Rany x = some (.int .i64 a, .lit (.bool true)) := by
    intro x hx
    obtain ⟨a, ha, e⟩ := hrd x hx
    refine ⟨a, e, ?_⟩
    unfold rd
    rw [e, show keyOf P k (encZ a) = some (.int .i64 a) from keyOf_int_mk hk (i64wf (hwf a ha))]
    rfl
  have hF : Fit P k Rany es ck := ⟨by omega, hs, fun x hx => by obtain ⟨a, _, e⟩ := hr x hx; exact ⟨_, e⟩⟩
  refine ⟨_, ⟨es, ck, hb, hF, by omega, rfl⟩, ?_, ?_⟩
  · have h1 : ((es.toList.map (rg P k Rany)).foldr DataW.insert []).Perm (es.toList.map (rg P k Rany)) := WideShapes.sorted_perm _
    have h2 : (es.toList.map (rg P k Rany)).map (fun p => Go.intOf p.1) = ks := by
      have : ∀ (l : List MapEntry) (q : List Int), (∀ x ∈ l, ∃ a, x.key = encZ a ∧ rd P k Rany x = some (.int .i64 a, .lit (.bool true))) → l.map (·.key) = q.map encZ → (l.map (rg P k Rany)).map (fun p => Go.intOf p.1) = q := by
        intro l
        induction l with
        | nil => intro q _ hq; cases q with
          | nil => rfl
          | cons a b => simp at hq
        | cons x l ih =>
          intro q hx hq
          cases q with
          | nil => simp at hq
          | cons a q =>
            simp only [List.map_cons, List.cons.injEq] at hq
            obtain ⟨b, e, e'⟩ := hx x (List.mem_cons_self ..)
            rw [e] at hq
            have : b = a := encZ_inj hq.1
            subst this
            simp only [List.map_cons]
            rw [ih q (fun y hy => hx y (List.mem_cons_of_mem _ hy)) hq.2]
            congr 1
            unfold rg
            rw [e']
            rfl
      exact this _ _ hr hks
    exact (h1.map _).trans (h2 ▸ List.Perm.refl _)
  · show ((es.toList.map (rg P k Rany)).foldr DataW.insert []).length = _
    rw [length_sorted]; simp [hl]
abbrev sortI (l : List Int) : List Int := l.mergeSort fun x y => decide (x ≤ y)
theorem sorts_at (m : Nat) : AnyZI.SortsIn Try.prog Try.sortedA_ren Fence.wide m :=
  ⟨fun blk off cap ss W hH hblk hsz => callsIn_wide.2 (AnyM.slices_Sort_int Try.sortA blk off cap ss W hH hblk hsz),
   fun p cap W => callsIn_wide.2 (AnyM.slices_Sort_int_none Try.sortA p cap W)⟩
/-- What comes back of Sorted(Keys) at a map of the keys ks. -/
def SortsTo (h : Hp) (ks : List Int) (K : Kont) : Prop :=
  ∀ v h', Ext h h' → Row h' h.size 1 v ks.length ((sortI ks).map encZ) → (v = .slice none 0 0 ↔ ks = []) → K v h'
def CollectsTo (h : Hp) (ks : List Int) (K : Kont) : Prop :=
  ∀ (v : Value) (h' : Hp) (ss : List Int), ss.Perm ks → Ext h h' → Row h' h.size 1 v ks.length (ss.map encZ) → (v = .slice none 0 0 ↔ ks = []) → K v h'
theorem sorted_of {g : Nat} {la : Array Value} {h : Hp} {ks : List Int} {K : Kont} (hB : Base.b ≤ h.size) (eg : ∀ args w, (callFunc g args).run Try.prog w = .ok (.enter g args) w) (hlen : ks.length ≤ 1048576)
    (hseq : ∀ w, hv w = h → SeqGives Fence.wide 2 Try.prog g la encZ (fun ss => ss.Perm ks) ks.length w) (hK : SortsTo h ks K) : C_q61 [.func (.func g) #[] la] h K := by
  intro w hw
  refine (callsIn_wide (n := 5)).1 ?_
  have hl : ks.length ≤ maxLen := by unfold maxLen; omega
  have cS := AnyZI.sorted_in Try.sortedA Fence.wide 5 trivial trivial trivial trivial rfl (by omega) (sorts_at _) (enters_of Try.func86 (by kernel_rfl) rfl) g la trivial eg _ _ hl (by omega) _ (hseq w hw)
  refine CallsIn.mono (P := Try.prog) cS ?_
  rintro e w' ⟨v, ss, rfl, hp, hrow, hnil, hb⟩
  refine ⟨v, rfl, hK v _ (hw ▸ Ext.of_below hb) ?_ ?_⟩
  · have := Row.of_own (by rw [← hv_size, hw]; exact hB) hrow
    rw [hp.length_eq, mergeSort_of_perm_i hp, ← hv_size, hw] at this
    exact this
  · rw [hnil]
    exact ⟨fun e => by subst e; exact List.nil_perm.1 hp, fun e => by subst e; exact List.perm_nil.1 hp⟩
theorem collect_of {g : Nat} {la : Array Value} {h : Hp} {ks : List Int} {K : Kont} (hB : Base.b ≤ h.size) (eg : ∀ args w, (callFunc g args).run Try.prog w = .ok (.enter g args) w) (hlen : ks.length ≤ 1048576)
    (hseq : ∀ w, hv w = h → SeqGives Fence.wide 2 Try.prog g la encZ (fun ss => ss.Perm ks) ks.length w) (hK : CollectsTo h ks K) : C_q51 [.func (.func g) #[] la] h K := by
  intro w hw
  refine (callsIn_wide (n := 4)).1 ?_
  have hl : ks.length ≤ maxLen := by unfold maxLen; omega
  have cS := AnyZI.collect_in { Try.sortedA with } Fence.wide 4 trivial trivial rfl (by omega) g la trivial eg _ _ hl (by omega) _ (hseq w hw)
  refine CallsIn.mono (P := Try.prog) cS ?_
  rintro e w' ⟨v, ss, rfl, hp, hrow, hnil, hb⟩
  refine ⟨v, rfl, hK v _ ss hp (hw ▸ Ext.of_below hb) ?_ ?_⟩
  · have := Row.of_own (by rw [← hv_size, hw]; exact hB) hrow
    rw [hp.length_eq, ← hv_size, hw] at this
    exact this
  · rw [hnil]
    exact ⟨fun e => by subst e; exact List.nil_perm.1 hp, fun e => by subst e; exact List.perm_nil.1 hp⟩
theorem cell_of {w : World} {b : Nat} {v : Value} (h : (hv w)[b]? = some (.cells #[v])) : w.cell? ⟨b, 0, none⟩ = some v := by
  obtain ⟨t, ht⟩ := of_cells h
  simp [World.cell?, ht]
theorem seqA {h : Hp} {b r : Nat} {kv : List (Value × Value)} {ks : List Int} (hb : h[b]? = some (.cells #[.map (some r)])) (hm : h[r]? = some (.map kv)) (hks : kv.map (·.1) = ks.map encZ) (hwf : ∀ x ∈ ks, i64ok x) (hlen : ks.length ≤ 1048576) (w : World) (hw : hv w = h) :
    SeqGives Fence.wide 2 Try.prog 76 #[pt b 0] encZ (fun ss => ss.Perm ks) ks.length w := by
  subst hw
  obtain ⟨D, hD, hp, hsz⟩ := owns_of (P := Try.prog) (k := 3) (by kernel_rfl) hm hks hwf (by unfold maxLen; omega)
  have := AnyZI.keys_gives (ρ := Try.keysA_ren) { Try.keysA with } Fence.wide 2 trivial rfl (by omega) b r _ D w (by rw [← hv_size]; exact lt_of_get hb) (cell_of hb) hD
  rw [hsz] at this
  intro l J W hW hJ hY h0
  refine CallsIn.mono (this l J W hW hJ hY h0) ?_
  rintro e W' ⟨hv, xs, hx, hj⟩
  exact ⟨hv, xs, hx.trans hp, hj⟩
theorem seqB {h : Hp} {b r : Nat} {kv : List (Value × Value)} {ks : List Int} (hb : h[b]? = some (.cells #[.map (some r)])) (hm : h[r]? = some (.map kv)) (hks : kv.map (·.1) = ks.map encZ) (hwf : ∀ x ∈ ks, i64ok x) (hlen : ks.length ≤ 1048576) (w : World) (hw : hv w = h) :
    SeqGives Fence.wide 2 Try.prog 80 #[pt b 0] encZ (fun ss => ss.Perm ks) ks.length w := by
  subst hw
  obtain ⟨D, hD, hp, hsz⟩ := owns_of (P := Try.prog) (k := 3) (by kernel_rfl) hm hks hwf (by unfold maxLen; omega)
  have := AnyZI.keys_gives (ρ := Try.keysB_ren) { Try.keysB with } Fence.wide 2 trivial rfl (by omega) b r _ D w (by rw [← hv_size]; exact lt_of_get hb) (cell_of hb) hD
  rw [hsz] at this
  intro l J W hW hJ hY h0
  refine CallsIn.mono (this l J W hW hJ hY h0) ?_
  rintro e W' ⟨hv, xs, hx, hj⟩
  exact ⟨hv, xs, hx.trans hp, hj⟩
theorem seqC {h : Hp} {b r : Nat} {kv : List (Value × Value)} {ks : List Int} (hb : h[b]? = some (.cells #[.map (some r)])) (hm : h[r]? = some (.map kv)) (hks : kv.map (·.1) = ks.map encZ) (hwf : ∀ x ∈ ks, i64ok x) (hlen : ks.length ≤ 1048576) (w : World) (hw : hv w = h) :
    SeqGives Fence.wide 2 Try.prog 87 #[pt b 0] encZ (fun ss => ss.Perm ks) ks.length w := by
  subst hw
  obtain ⟨D, hD, hp, hsz⟩ := owns_of (P := Try.prog) (k := 3) (by kernel_rfl) hm hks hwf (by unfold maxLen; omega)
  have := AnyZI.keys_gives (ρ := Try.keysC_ren) { Try.keysC with } Fence.wide 2 trivial rfl (by omega) b r _ D w (by rw [← hv_size]; exact lt_of_get hb) (cell_of hb) hD
  rw [hsz] at this
  intro l J W hW hJ hY h0
  refine CallsIn.mono (this l J W hW hJ hY h0) ?_
  rintro e W' ⟨hv, xs, hx, hj⟩
  exact ⟨hv, xs, hx.trans hp, hj⟩
theorem en76 : ∀ args w, (callFunc 76 args).run Try.prog w = .ok (.enter 76 args) w := enters_of Try.func76 (by kernel_rfl) rfl
theorem en80 : ∀ args w, (callFunc 80 args).run Try.prog w = .ok (.enter 80 args) w := enters_of Try.func80 (by kernel_rfl) rfl
theorem en87 : ∀ args w, (callFunc 87 args).run Try.prog w = .ok (.enter 87 args) w := enters_of Try.func87 (by kernel_rfl) rfl
end Go.Proofs.Ytdolepapmpcpiaa

namespace Go.Proofs.Ytdolepapmpcpiaa
open Go
set_option linter.unusedSectionVars false
variable [Base]
set_option linter.unusedVariables false
set_option linter.unusedSimpArgs false
def vcells (v : Vote) : List Value := [.int .i64 v.slot, .int .u64 v.ballot, .int .i64 v.cmd.kind, .int .i64 v.cmd.chain, .int .u64 v.cmd.epoch, .int .i64 v.cmd.node]
theorem voteV_eq (v : Vote) : voteV v = .agg (vcells v).toArray := rfl
theorem vcells_len (v : Vote) : (vcells v).length = 6 := rfl
theorem vcells_one (v : Vote) : (vcells v).all one = true := rfl
abbrev icell (x : Int) : List Value := [encZ x]
/-- The votes of a map by rising slots. -/
def pick (m : List (Int × Vote)) (f : Int) (ks : List Int) : List Vote := ks.filterMap fun k => if f ≤ k then mget m k else none
theorem pick_snoc (m : List (Int × Vote)) (f : Int) (a : List Int) (k : Int) : pick m f (a ++ [k]) = pick m f a ++ (if f ≤ k then mget m k else none).toList := by
  unfold pick
  rw [List.filterMap_append]
  by_cases h : f ≤ k
  · simp only [List.filterMap_cons, if_pos h]
    cases mget m k <;> rfl
  · simp only [List.filterMap_cons, if_neg h, List.filterMap_nil, Option.toList]
def risingL (m : List (Int × Vote)) (f : Int) : List Vote := pick m f (sortI (m.map (·.1)))
theorem sp_keysA {h : Hp} (hB : Base.b ≤ h.size) {r : Nat} {K : Kont} (hK : K (.func (.func 76) #[] #[pt h.size 0]) (h.push (.cells #[.map (some r)]))) : C_q6 [.map (some r)] h K := by
  refine ok_q6 ?_
  unfold G_q6
  simp (disch := (first | omega | (simp only [sz]; done) | (simp only [lz, Nat.reduceAdd, Nat.reduceLeDiff, Nat.le_refl]; done) | (simp only [sz]; omega))) only [e_pickT, e_pickF, e_alloc, e_box, e_build, e_buildSlice, e_ld1, e_ldN, e_st, e_nilCheck, e_bin, e_eq, e_not, e_conv, e_makeMap, e_fieldAddr, e_idxS, e_idxA, e_lookup, e_lookupN, e_mapUpdate, e_delete, e_clearMap, e_len0, e_len1, e_len2, e_len2n, e_extract, e_ifT, e_ifF, e_gTT, e_gFF, e_gTF, e_gFT, e_hTT, e_hFF, e_hTF, e_hFT, e_gU, e_hU, e_minmax, e_field1, b_add, b_sub, b_mul, b_quo, b_rem, b_eql, b_neq, b_lss, b_leq, b_gtr, b_geq, Int.cast_ofNat_Int, decide_true, decide_false, Int.reduceLT, Int.reduceLE, Int.reduceEq, List.toList_toArray, rdC_eq, Bool.false_eq_true, if_false, Bool.true_eq_false, onS_some, asCells_cells, asMap_map, cellAt_cells, g_push_lt, g_push_eq, g_set_eq, g_set_ne, wrap_i, wrap_u, Option.bind_some, Array.size_push, Array.size_setIfInBounds, List.size_toArray, List.length_cons, List.length_nil, List.getElem?_toArray, List.getElem?_cons_zero, List.getElem?_cons_succ, List.setIfInBounds_toArray, List.set_cons_zero, List.set_cons_succ, Nat.reduceAdd, Nat.zero_add, Nat.add_zero, true_and, and_true, Value.cells, setL, rdN, bfill, one, List.all_cons, List.all_nil, Bool.and_self, Option.map_some, Nat.reduceLeDiff, Nat.le_refl, if_true, Option.isNone_some, Option.isNone_none, eqV, Bool.not_true, Bool.not_false, Nat.zero_mul, Nat.reduceMul, lookRes]
  exact hK
theorem encM_keys {α : Type} (e : α → Value) (m : List (Int × α)) : (encM e m).map (·.1) = (m.map (·.1)).map Go.encZ := by simp [encM]
theorem sp_rising {h : Hp} (hB : Base.b ≤ h.size) {r : Nat} {m : List (Int × Vote)} (hm : h[r]? = some (.map (encM voteV m))) (hks : keysOk m) (hok : ∀ k ∈ m.map (·.1), i64ok k) (hlen : m.length ≤ 1048576) (f : Int) {K : Kont}
    (hK : ∀ v h', Ext h h' → Own h' h.size 6 vcells v (risingL m f) → K v h') : C_q101 [.map (some r), .int .i64 f] h K := by
  refine ok_q101 ?_
  unfold G_q101
  have lr := lt_of_get hm
  refine sp_keysA hB ?_
  have hm1 : (h.push (.cells #[.map (some r)]))[r]? = some (.map (encM voteV m)) := by rw [g_push_lt lr]; exact hm
  refine sorted_of (ks := m.map (·.1)) (by simp; omega) en76 (by simpa using hlen) (seqA (g_push_eq rfl) hm1 (encM_keys _ _) hok (by simpa using hlen)) ?_
  intro v10 h2 x2 hrow hnil
  have hB2 : Base.b ≤ h2.size := by have := x2.1; simp at this; omega
  have hm2 := x2.get hm1 id
  have hks2 : Own h2 (h.size + 1) 1 (fun x => [Go.encZ x]) v10 (sortI (m.map (·.1))) := by
    obtain ⟨h1, h2⟩ := hrow
    have e : (sortI (m.map (·.1))).length = (m.map (·.1)).length := by simp
    rcases h2 with ⟨rfl, hz⟩ | ⟨g, cap, c, rfl, hb, hg, hn, _, hs, ht⟩
    · exact .inl ⟨rfl, List.eq_nil_of_length_eq_zero (by rw [e]; exact hz)⟩
    · refine .inr ⟨g, cap, c, by rw [e], by simpa using hb, hg, by rw [e]; exact hn, by simpa using hs, ?_⟩
      rw [e, ht]
      generalize sortI (m.map (·.1)) = q
      induction q with
      | nil => rfl
      | cons a q ih => simp [ih]
  have x02 : Ext h h2 := (Upd.push (Upd.refl _) _).trans x2
  generalize hl : sortI (m.map (·.1)) = l at hks2
  have sl2 := hks2.sl
  rw [sl2.len]
  have hll : l.length ≤ 1048576 := by rw [← hl]; simpa using hlen
  refine rule_q101_1 (fun v5 v12 h' => ∃ i : Nat, v12 = .int .i64 i ∧ i ≤ l.length ∧ Ext h2 h' ∧ Own h' h2.size 6 vcells v5 (pick m f (l.take i)))
    (fun v5 v12 h' => l.length - ival v12) ?_ _ _ _ _ ⟨0, rfl, Nat.zero_le _, Upd.refl _, by simpa [pick] using Own.nil⟩
  rintro s0 v5 v12 d h3 ⟨i, rfl, hi, x3, ho⟩ self
  have hm3 := x3.get hm2 id
  have sl3 := sl2.ext x3
  have hB3 : Base.b ≤ h3.size := Nat.le_trans hB2 x3.1
  unfold B_q101_1
  by_cases hlt : i < l.length
  · obtain ⟨b, o, cap, rfl, hrd⟩ := sl3.at (fun _ => rfl) i hlt
    have hc := rdN_one hrd
    rw [rdC_eq] at hc
    have hlt' : (i : Int) < (l.length : Int) := by omega
    have h0 : (0 : Int) ≤ (i : Int) := by omega
    obtain ⟨x, hx⟩ : ∃ x, mget m l[i] = some x := by
      have h1 : l[i] ∈ m.map (·.1) := by
        rw [← List.mem_mergeSort (le := fun x y => decide (x ≤ y)), show (m.map (·.1)).mergeSort (fun x y => decide (x ≤ y)) = l from hl]
        exact List.getElem_mem hlt
      obtain ⟨p, hp, e⟩ := List.mem_map.1 h1
      exact ⟨p.2, mget_of_mem hks (by rw [← e]; exact hp)⟩
    obtain ⟨⟨q, x'⟩, hq, rfl⟩ : ∃ q, mfind m l[i] 0 = some q ∧ q.2 = x := by simpa [mget] using hx
    have htk : l.take (i + 1) = l.take i ++ [l[i]] := by simp
    by_cases hf : f ≤ l[i]
    · simp (disch := (first | omega | (simp only [sz]; done) | (simp only [lz, Nat.reduceAdd, Nat.reduceLeDiff, Nat.le_refl]; done) | (simp only [sz]; omega))) only [e_pickT, e_pickF, e_alloc, e_box, e_build, e_buildSlice, e_ld1, e_ldN, e_st, e_nilCheck, e_bin, e_eq, e_not, e_conv, e_makeMap, e_fieldAddr, e_idxS, e_idxA, e_lookup, e_lookupN, e_mapUpdate, e_delete, e_clearMap, e_len0, e_len1, e_len2, e_len2n, e_extract, e_ifT, e_ifF, e_gTT, e_gFF, e_gTF, e_gFT, e_hTT, e_hFF, e_hTF, e_hFT, e_gU, e_hU, e_minmax, e_field1, b_add, b_sub, b_mul, b_quo, b_rem, b_eql, b_neq, b_lss, b_leq, b_gtr, b_geq, Int.cast_ofNat_Int, decide_true, decide_false, Int.reduceLT, Int.reduceLE, Int.reduceEq, List.toList_toArray, rdC_eq, Bool.false_eq_true, if_false, Bool.true_eq_false, onS_some, asCells_cells, asMap_map, cellAt_cells, g_push_lt, g_push_eq, g_set_eq, g_set_ne, wrap_i, wrap_u, Option.bind_some, Array.size_push, Array.size_setIfInBounds, List.size_toArray, List.length_cons, List.length_nil, List.getElem?_toArray, List.getElem?_cons_zero, List.getElem?_cons_succ, List.setIfInBounds_toArray, List.set_cons_zero, List.set_cons_succ, Nat.reduceAdd, Nat.zero_add, Nat.add_zero, true_and, and_true, Value.cells, setL, rdN_push, rdN_setne, Int.toNat_natCast, bfill, one, List.all_cons, List.all_nil, Bool.and_self, Option.map_some, Nat.reduceLeDiff, Nat.le_refl, if_true, Option.isNone_some, Option.isNone_none, eqV, Bool.not_true, Bool.not_false, Nat.zero_mul, Nat.reduceMul, lookRes, hc, decide_eq_true hlt', hlt', h0, decide_eq_true hf, hm3, kvFind_enc, hq, voteV, List.getElem_cons_zero]
      refine Own.append (ho.ext (Upd.push (Upd.refl _) _)) vcells_len vcells_one (by simp; omega) (by rfl) (Sl.one (a := x') (by rfl) rfl) (by have := x3.1; simp; omega) ?_ ?_
      · have hp : (pick m f (l.take i)).length ≤ (l.take i).length := List.length_filterMap_le _ _
        have hp2 : (l.take i).length ≤ i := List.length_take_le _ _
        simp only [List.length_cons, List.length_nil]
        omega
      · intro v' h' ho' hu
        have x4 : Ext h2 h' := x3.fresh (S := fun _ => False) (Upd.fresh (S := fun b => h2.size ≤ b) (Upd.push (Upd.refl _) _) hu (fun b hb => .inr hb)) (fun b hb => .inl hb)
        rw [req_q101_2]
        unfold R_q101_2
        simp (disch := (first | omega | (simp only [sz]; done) | (simp only [lz, Nat.reduceAdd, Nat.reduceLeDiff, Nat.le_refl]; done) | (simp only [sz]; omega))) only [e_pickT, e_pickF, e_alloc, e_box, e_build, e_buildSlice, e_ld1, e_ldN, e_st, e_nilCheck, e_bin, e_eq, e_not, e_conv, e_makeMap, e_fieldAddr, e_idxS, e_idxA, e_lookup, e_lookupN, e_mapUpdate, e_delete, e_clearMap, e_len0, e_len1, e_len2, e_len2n, e_extract, e_ifT, e_ifF, e_gTT, e_gFF, e_gTF, e_gFT, e_hTT, e_hFF, e_hTF, e_hFT, e_gU, e_hU, e_minmax, e_field1, b_add, b_sub, b_mul, b_quo, b_rem, b_eql, b_neq, b_lss, b_leq, b_gtr, b_geq, Int.cast_ofNat_Int, decide_true, decide_false, Int.reduceLT, Int.reduceLE, Int.reduceEq, List.toList_toArray, rdC_eq, Bool.false_eq_true, if_false, Bool.true_eq_false, onS_some, asCells_cells, asMap_map, cellAt_cells, g_push_lt, g_push_eq, g_set_eq, g_set_ne, wrap_i, wrap_u, Option.bind_some, Array.size_push, Array.size_setIfInBounds, List.size_toArray, List.length_cons, List.length_nil, List.getElem?_toArray, List.getElem?_cons_zero, List.getElem?_cons_succ, List.setIfInBounds_toArray, List.set_cons_zero, List.set_cons_succ, Nat.reduceAdd, Nat.zero_add, Nat.add_zero, true_and, and_true, Value.cells, setL, rdN_push, rdN_setne, Int.toNat_natCast, bfill, one, List.all_cons, List.all_nil, Bool.and_self, Option.map_some, Nat.reduceLeDiff, Nat.le_refl, if_true, Option.isNone_some, Option.isNone_none, eqV, Bool.not_true, Bool.not_false, Nat.zero_mul, Nat.reduceMul, lookRes]
        refine self _ _ _ _ ⟨i + 1, rfl, hlt, x4, ?_⟩ (by simp only [ival_nat, show ((i : Int) + 1) = ((i + 1 : Nat) : Int) from rfl]; omega)
        rw [htk]
        have e : mget m l[i] = some x' := by simp [mget, hq]
        rw [pick_snoc, if_pos hf, e]
        exact ho'
    · simp (disch := (first | omega | (simp only [sz]; done) | (simp only [lz, Nat.reduceAdd, Nat.reduceLeDiff, Nat.le_refl]; done) | (simp only [sz]; omega))) only [e_pickT, e_pickF, e_alloc, e_box, e_build, e_buildSlice, e_ld1, e_ldN, e_st, e_nilCheck, e_bin, e_eq, e_not, e_conv, e_makeMap, e_fieldAddr, e_idxS, e_idxA, e_lookup, e_lookupN, e_mapUpdate, e_delete, e_clearMap, e_len0, e_len1, e_len2, e_len2n, e_extract, e_ifT, e_ifF, e_gTT, e_gFF, e_gTF, e_gFT, e_hTT, e_hFF, e_hTF, e_hFT, e_gU, e_hU, e_minmax, e_field1, b_add, b_sub, b_mul, b_quo, b_rem, b_eql, b_neq, b_lss, b_leq, b_gtr, b_geq, Int.cast_ofNat_Int, decide_true, decide_false, Int.reduceLT, Int.reduceLE, Int.reduceEq, List.toList_toArray, rdC_eq, Bool.false_eq_true, if_false, Bool.true_eq_false, onS_some, asCells_cells, asMap_map, cellAt_cells, g_push_lt, g_push_eq, g_set_eq, g_set_ne, wrap_i, wrap_u, Option.bind_some, Array.size_push, Array.size_setIfInBounds, List.size_toArray, List.length_cons, List.length_nil, List.getElem?_toArray, List.getElem?_cons_zero, List.getElem?_cons_succ, List.setIfInBounds_toArray, List.set_cons_zero, List.set_cons_succ, Nat.reduceAdd, Nat.zero_add, Nat.add_zero, true_and, and_true, Value.cells, setL, rdN_push, rdN_setne, Int.toNat_natCast, bfill, one, List.all_cons, List.all_nil, Bool.and_self, Option.map_some, Nat.reduceLeDiff, Nat.le_refl, if_true, Option.isNone_some, Option.isNone_none, eqV, Bool.not_true, Bool.not_false, Nat.zero_mul, Nat.reduceMul, lookRes, hc, decide_eq_true hlt', hlt', h0, decide_eq_false hf, req_q101_2]
      unfold R_q101_2
      simp (disch := (first | omega | (simp only [sz]; done) | (simp only [lz, Nat.reduceAdd, Nat.reduceLeDiff, Nat.le_refl]; done) | (simp only [sz]; omega))) only [e_pickT, e_pickF, e_alloc, e_box, e_build, e_buildSlice, e_ld1, e_ldN, e_st, e_nilCheck, e_bin, e_eq, e_not, e_conv, e_makeMap, e_fieldAddr, e_idxS, e_idxA, e_lookup, e_lookupN, e_mapUpdate, e_delete, e_clearMap, e_len0, e_len1, e_len2, e_len2n, e_extract, e_ifT, e_ifF, e_gTT, e_gFF, e_gTF, e_gFT, e_hTT, e_hFF, e_hTF, e_hFT, e_gU, e_hU, e_minmax, e_field1, b_add, b_sub, b_mul, b_quo, b_rem, b_eql, b_neq, b_lss, b_leq, b_gtr, b_geq, Int.cast_ofNat_Int, decide_true, decide_false, Int.reduceLT, Int.reduceLE, Int.reduceEq, List.toList_toArray, rdC_eq, Bool.false_eq_true, if_false, Bool.true_eq_false, onS_some, asCells_cells, asMap_map, cellAt_cells, g_push_lt, g_push_eq, g_set_eq, g_set_ne, wrap_i, wrap_u, Option.bind_some, Array.size_push, Array.size_setIfInBounds, List.size_toArray, List.length_cons, List.length_nil, List.getElem?_toArray, List.getElem?_cons_zero, List.getElem?_cons_succ, List.setIfInBounds_toArray, List.set_cons_zero, List.set_cons_succ, Nat.reduceAdd, Nat.zero_add, Nat.add_zero, true_and, and_true, Value.cells, setL, rdN_push, rdN_setne, Int.toNat_natCast, bfill, one, List.all_cons, List.all_nil, Bool.and_self, Option.map_some, Nat.reduceLeDiff, Nat.le_refl, if_true, Option.isNone_some, Option.isNone_none, eqV, Bool.not_true, Bool.not_false, Nat.zero_mul, Nat.reduceMul, lookRes]
      refine self _ _ _ _ ⟨i + 1, rfl, hlt, x3, ?_⟩ (by simp only [ival_nat, show ((i : Int) + 1) = ((i + 1 : Nat) : Int) from rfl]; omega)
      rw [htk]
      rw [pick_snoc, if_neg hf]
      simpa using ho
  · have : ¬ (i : Int) < (l.length : Int) := by omega
    simp (disch := (first | omega | (simp only [sz]; done) | (simp only [lz, Nat.reduceAdd, Nat.reduceLeDiff, Nat.le_refl]; done) | (simp only [sz]; omega))) only [e_pickT, e_pickF, e_alloc, e_box, e_build, e_buildSlice, e_ld1, e_ldN, e_st, e_nilCheck, e_bin, e_eq, e_not, e_conv, e_makeMap, e_fieldAddr, e_idxS, e_idxA, e_lookup, e_lookupN, e_mapUpdate, e_delete, e_clearMap, e_len0, e_len1, e_len2, e_len2n, e_extract, e_ifT, e_ifF, e_gTT, e_gFF, e_gTF, e_gFT, e_hTT, e_hFF, e_hTF, e_hFT, e_gU, e_hU, e_minmax, e_field1, b_add, b_sub, b_mul, b_quo, b_rem, b_eql, b_neq, b_lss, b_leq, b_gtr, b_geq, Int.cast_ofNat_Int, decide_true, decide_false, Int.reduceLT, Int.reduceLE, Int.reduceEq, List.toList_toArray, rdC_eq, Bool.false_eq_true, if_false, Bool.true_eq_false, onS_some, asCells_cells, asMap_map, cellAt_cells, g_push_lt, g_push_eq, g_set_eq, g_set_ne, wrap_i, wrap_u, Option.bind_some, Array.size_push, Array.size_setIfInBounds, List.size_toArray, List.length_cons, List.length_nil, List.getElem?_toArray, List.getElem?_cons_zero, List.getElem?_cons_succ, List.setIfInBounds_toArray, List.set_cons_zero, List.set_cons_succ, Nat.reduceAdd, Nat.zero_add, Nat.add_zero, true_and, and_true, Value.cells, setL, rdN_push, rdN_setne, Int.toNat_natCast, bfill, one, List.all_cons, List.all_nil, Bool.and_self, Option.map_some, Nat.reduceLeDiff, Nat.le_refl, if_true, Option.isNone_some, Option.isNone_none, eqV, Bool.not_true, Bool.not_false, Nat.zero_mul, Nat.reduceMul, lookRes, decide_eq_false this]
    have e : l.take i = l := List.take_of_length_le (by omega)
    rw [e] at ho
    refine hK _ _ (x02.trans x3) ?_
    unfold risingL
    rw [hl]
    exact ho.low x02.1
end Go.Proofs.Ytdolepapmpcpiaa

namespace Go.Proofs.Ytdolepapmpcpiaa
open Go
set_option linter.unusedSectionVars false
variable [Base]
set_option linter.unusedVariables false
set_option linter.unusedSimpArgs false
abbrev u64ok (x : Int) : Prop := 0 ≤ x ∧ x < 18446744073709551616
theorem sp_master {h : Hp} (n : Int) {K : Kont} (hK : K (.bool (decide (1 ≤ n ∧ n ≤ 5))) h) : C_q104 [.int .i64 n] h K := by
  refine ok_q104 ?_
  unfold G_q104
  by_cases h1 : 1 ≤ n
  · simp (disch := (first | omega | (simp only [sz]; done) | (simp only [lz, Nat.reduceAdd, Nat.reduceLeDiff, Nat.le_refl]; done) | (simp only [sz]; omega))) only [e_pickT, e_pickF, e_alloc, e_box, e_build, e_buildSlice, e_ld1, e_ldN, e_st, e_nilCheck, e_bin, e_eq, e_not, e_conv, e_makeMap, e_fieldAddr, e_idxS, e_idxA, e_lookup, e_lookupN, e_mapUpdate, e_delete, e_clearMap, e_len0, e_len1, e_len2, e_len2n, e_extract, e_ifT, e_ifF, e_gTT, e_gFF, e_gTF, e_gFT, e_hTT, e_hFF, e_hTF, e_hFT, e_gU, e_hU, e_minmax, e_field1, b_add, b_sub, b_mul, b_quo, b_rem, b_eql, b_neq, b_lss, b_leq, b_gtr, b_geq, Int.cast_ofNat_Int, decide_true, decide_false, Int.reduceLT, Int.reduceLE, Int.reduceEq, List.toList_toArray, rdC_eq, Bool.false_eq_true, if_false, Bool.true_eq_false, onS_some, asCells_cells, asMap_map, cellAt_cells, g_push_lt, g_push_eq, g_set_eq, g_set_ne, wrap_i, wrap_u, Option.bind_some, Array.size_push, Array.size_setIfInBounds, List.size_toArray, List.length_cons, List.length_nil, List.getElem?_toArray, List.getElem?_cons_zero, List.getElem?_cons_succ, List.setIfInBounds_toArray, List.set_cons_zero, List.set_cons_succ, Nat.reduceAdd, Nat.zero_add, Nat.add_zero, true_and, and_true, Value.cells, setL, rdN_push, rdN_setne, Int.toNat_natCast, bfill, one, List.all_cons, List.all_nil, Bool.and_self, Option.map_some, Nat.reduceLeDiff, Nat.le_refl, if_true, Option.isNone_some, Option.isNone_none, eqV, Bool.not_true, Bool.not_false, Nat.zero_mul, Nat.reduceMul, lookRes, decide_eq_true h1]
    simpa [h1] using hK
  · simp (disch := (first | omega | (simp only [sz]; done) | (simp only [lz, Nat.reduceAdd, Nat.reduceLeDiff, Nat.le_refl]; done) | (simp only [sz]; omega))) only [e_pickT, e_pickF, e_alloc, e_box, e_build, e_buildSlice, e_ld1, e_ldN, e_st, e_nilCheck, e_bin, e_eq, e_not, e_conv, e_makeMap, e_fieldAddr, e_idxS, e_idxA, e_lookup, e_lookupN, e_mapUpdate, e_delete, e_clearMap, e_len0, e_len1, e_len2, e_len2n, e_extract, e_ifT, e_ifF, e_gTT, e_gFF, e_gTF, e_gFT, e_hTT, e_hFF, e_hTF, e_hFT, e_gU, e_hU, e_minmax, e_field1, b_add, b_sub, b_mul, b_quo, b_rem, b_eql, b_neq, b_lss, b_leq, b_gtr, b_geq, Int.cast_ofNat_Int, decide_true, decide_false, Int.reduceLT, Int.reduceLE, Int.reduceEq, List.toList_toArray, rdC_eq, Bool.false_eq_true, if_false, Bool.true_eq_false, onS_some, asCells_cells, asMap_map, cellAt_cells, g_push_lt, g_push_eq, g_set_eq, g_set_ne, wrap_i, wrap_u, Option.bind_some, Array.size_push, Array.size_setIfInBounds, List.size_toArray, List.length_cons, List.length_nil, List.getElem?_toArray, List.getElem?_cons_zero, List.getElem?_cons_succ, List.setIfInBounds_toArray, List.set_cons_zero, List.set_cons_succ, Nat.reduceAdd, Nat.zero_add, Nat.add_zero, true_and, and_true, Value.cells, setL, rdN_push, rdN_setne, Int.toNat_natCast, bfill, one, List.all_cons, List.all_nil, Bool.and_self, Option.map_some, Nat.reduceLeDiff, Nat.le_refl, if_true, Option.isNone_some, Option.isNone_none, eqV, Bool.not_true, Bool.not_false, Nat.zero_mul, Nat.reduceMul, lookRes, decide_eq_false h1]
    simpa [h1] using hK
def cmdV (c : Cmd) : Value := .agg #[.int .i64 c.kind, .int .i64 c.chain, .int .u64 c.epoch, .int .i64 c.node]
def checkC (c : Cmd) : Int :=
  if c.kind < 0 ∨ 5 ≤ c.kind then 1
  else if c.kind = 0 then (if c = cmd0 then 0 else 4)
  else if c.chain < 0 ∨ 4 ≤ c.chain ∨ c.epoch < 1 ∨ c.node < 1 ∨ 24 < c.node then 4 else 0
theorem eqL_i {i : Nat} {k : IntKind} {r : List (Nat × TypeDesc)} {xs ys : List Value} {a b : Int} {c : Bool} (hx : xs[i]? = some (.int k a)) (hy : ys[i]? = some (.int k b)) (hr : eqL r xs ys = some c) :
    eqL ((i, .int k) :: r) xs ys = some (decide (a = b) && c) := by
  unfold eqL
  rw [hx, hy]
  simp only [Instr.sameNow]
  by_cases h : a = b
  · subst h; simp [hr]
  · have hb : (a == b) = false := by simpa using h
    rw [hb]; simp [h]
theorem eq_cmd (k ch ep nd k' ch' ep' nd' : Int) : eqL [(0, .int .i64), (1, .int .i64), (2, .int .u64), (3, .int .i64)] [.int .i64 k, .int .i64 ch, .int .u64 ep, .int .i64 nd] [.int .i64 k', .int .i64 ch', .int .u64 ep', .int .i64 nd'] =
    some (decide (k = k') && (decide (ch = ch') && (decide (ep = ep') && (decide (nd = nd') && true)))) :=
  eqL_i rfl rfl (eqL_i rfl rfl (eqL_i rfl rfl (eqL_i rfl rfl rfl)))
theorem eq_vote (s b k ch ep nd s' b' k' ch' ep' nd' : Int) : eqL [(0, .int .i64), (1, .int .u64), (2, .int .i64), (3, .int .i64), (4, .int .u64), (5, .int .i64)] [.int .i64 s, .int .u64 b, .int .i64 k, .int .i64 ch, .int .u64 ep, .int .i64 nd] [.int .i64 s', .int .u64 b', .int .i64 k', .int .i64 ch', .int .u64 ep', .int .i64 nd'] =
    some (decide (s = s') && (decide (b = b') && (decide (k = k') && (decide (ch = ch') && (decide (ep = ep') && (decide (nd = nd') && true)))))) :=
  eqL_i rfl rfl (eqL_i rfl rfl (eqL_i rfl rfl (eqL_i rfl rfl (eqL_i rfl rfl (eqL_i rfl rfl rfl)))))
set_option maxHeartbeats 4000000 in
theorem sp_Check {h : Hp} (hB : Base.b ≤ h.size) (c : Cmd) {K : Kont} (hK : ∀ h', Ext h h' → K (.int .i64 (checkC c)) h') : C_q147 [cmdV c] h K := by
  refine ok_q147 ?_
  unfold G_q147
  obtain ⟨k, ch, ep, nd⟩ := c
  unfold checkC at hK
  unfold cmdV
  by_cases h1 : k < 0
  · simp (disch := (first | omega | (simp only [sz]; done) | (simp only [lz, Nat.reduceAdd, Nat.reduceLeDiff, Nat.le_refl]; done) | (simp only [sz]; omega))) only [e_pickT, e_pickF, e_alloc, e_box, e_build, e_buildSlice, e_ld1, e_ldN, e_st, e_nilCheck, e_bin, e_eq, e_not, e_conv, e_makeMap, e_fieldAddr, e_idxS, e_idxA, e_lookup, e_lookupN, e_mapUpdate, e_delete, e_clearMap, e_len0, e_len1, e_len2, e_len2n, e_extract, e_ifT, e_ifF, e_gTT, e_gFF, e_gTF, e_gFT, e_hTT, e_hFF, e_hTF, e_hFT, e_gU, e_hU, e_minmax, e_field1, b_add, b_sub, b_mul, b_quo, b_rem, b_eql, b_neq, b_lss, b_leq, b_gtr, b_geq, Int.cast_ofNat_Int, decide_true, decide_false, Int.reduceLT, Int.reduceLE, Int.reduceEq, List.toList_toArray, rdC_eq, Bool.false_eq_true, if_false, Bool.true_eq_false, onS_some, asCells_cells, asMap_map, cellAt_cells, g_push_lt, g_push_eq, g_set_eq, g_set_ne, wrap_i, wrap_u, Option.bind_some, Array.size_push, Array.size_setIfInBounds, List.size_toArray, List.length_cons, List.length_nil, List.getElem?_toArray, List.getElem?_cons_zero, List.getElem?_cons_succ, List.setIfInBounds_toArray, List.set_cons_zero, List.set_cons_succ, Nat.reduceAdd, Nat.zero_add, Nat.add_zero, true_and, and_true, Value.cells, setL, rdN, bfill, one, List.all_cons, List.all_nil, Bool.and_self, Option.map_some, Nat.reduceLeDiff, Nat.le_refl, if_true, Option.isNone_some, Option.isNone_none, eqV, Bool.not_true, Bool.not_false, Nat.zero_mul, Nat.reduceMul, lookRes, decide_eq_true h1]
    simp only [h1, true_or, if_true] at hK
    exact hK _ (by repeat' (first | with_reducible exact Upd.refl _ | with_reducible refine Upd.push ?_ _ | with_reducible refine Upd.set ?_ _ _ ?_ | exact .inl (by (first | omega | (simp only [sz]; done) | (simp only [lz, Nat.reduceAdd, Nat.reduceLeDiff, Nat.le_refl]; done) | (simp only [sz]; omega))) | exact .inr rfl | exact .inr (by simp; done)))
  by_cases h2 : 5 ≤ k
  · simp (disch := (first | omega | (simp only [sz]; done) | (simp only [lz, Nat.reduceAdd, Nat.reduceLeDiff, Nat.le_refl]; done) | (simp only [sz]; omega))) only [e_pickT, e_pickF, e_alloc, e_box, e_build, e_buildSlice, e_ld1, e_ldN, e_st, e_nilCheck, e_bin, e_eq, e_not, e_conv, e_makeMap, e_fieldAddr, e_idxS, e_idxA, e_lookup, e_lookupN, e_mapUpdate, e_delete, e_clearMap, e_len0, e_len1, e_len2, e_len2n, e_extract, e_ifT, e_ifF, e_gTT, e_gFF, e_gTF, e_gFT, e_hTT, e_hFF, e_hTF, e_hFT, e_gU, e_hU, e_minmax, e_field1, b_add, b_sub, b_mul, b_quo, b_rem, b_eql, b_neq, b_lss, b_leq, b_gtr, b_geq, Int.cast_ofNat_Int, decide_true, decide_false, Int.reduceLT, Int.reduceLE, Int.reduceEq, List.toList_toArray, rdC_eq, Bool.false_eq_true, if_false, Bool.true_eq_false, onS_some, asCells_cells, asMap_map, cellAt_cells, g_push_lt, g_push_eq, g_set_eq, g_set_ne, wrap_i, wrap_u, Option.bind_some, Array.size_push, Array.size_setIfInBounds, List.size_toArray, List.length_cons, List.length_nil, List.getElem?_toArray, List.getElem?_cons_zero, List.getElem?_cons_succ, List.setIfInBounds_toArray, List.set_cons_zero, List.set_cons_succ, Nat.reduceAdd, Nat.zero_add, Nat.add_zero, true_and, and_true, Value.cells, setL, rdN, bfill, one, List.all_cons, List.all_nil, Bool.and_self, Option.map_some, Nat.reduceLeDiff, Nat.le_refl, if_true, Option.isNone_some, Option.isNone_none, eqV, Bool.not_true, Bool.not_false, Nat.zero_mul, Nat.reduceMul, lookRes, decide_eq_false h1, decide_eq_true h2]
    simp only [h2, or_true, if_true] at hK
    exact hK _ (by repeat' (first | with_reducible exact Upd.refl _ | with_reducible refine Upd.push ?_ _ | with_reducible refine Upd.set ?_ _ _ ?_ | exact .inl (by (first | omega | (simp only [sz]; done) | (simp only [lz, Nat.reduceAdd, Nat.reduceLeDiff, Nat.le_refl]; done) | (simp only [sz]; omega))) | exact .inr rfl | exact .inr (by simp; done)))
  have h12 : ¬ (k < 0 ∨ 5 ≤ k) := by omega
  simp only [if_neg h12] at hK
  by_cases h3 : k = 0
  · subst h3
    simp only [if_true, cmd0, Cmd.mk.injEq, true_and] at hK
    by_cases hz : ch = 0 ∧ ep = 0 ∧ nd = 0
    · obtain ⟨rfl, rfl, rfl⟩ := hz
      simp (disch := (first | omega | (simp only [sz]; done) | (simp only [lz, Nat.reduceAdd, Nat.reduceLeDiff, Nat.le_refl]; done) | (simp only [sz]; omega))) only [e_pickT, e_pickF, e_alloc, e_box, e_build, e_buildSlice, e_ld1, e_ldN, e_st, e_nilCheck, e_bin, e_eq, e_not, e_conv, e_makeMap, e_fieldAddr, e_idxS, e_idxA, e_lookup, e_lookupN, e_mapUpdate, e_delete, e_clearMap, e_len0, e_len1, e_len2, e_len2n, e_extract, e_ifT, e_ifF, e_gTT, e_gFF, e_gTF, e_gFT, e_hTT, e_hFF, e_hTF, e_hFT, e_gU, e_hU, e_minmax, e_field1, b_add, b_sub, b_mul, b_quo, b_rem, b_eql, b_neq, b_lss, b_leq, b_gtr, b_geq, Int.cast_ofNat_Int, decide_true, decide_false, Int.reduceLT, Int.reduceLE, Int.reduceEq, List.toList_toArray, rdC_eq, Bool.false_eq_true, if_false, Bool.true_eq_false, onS_some, asCells_cells, asMap_map, cellAt_cells, g_push_lt, g_push_eq, g_set_eq, g_set_ne, wrap_i, wrap_u, Option.bind_some, Array.size_push, Array.size_setIfInBounds, List.size_toArray, List.length_cons, List.length_nil, List.getElem?_toArray, List.getElem?_cons_zero, List.getElem?_cons_succ, List.setIfInBounds_toArray, List.set_cons_zero, List.set_cons_succ, Nat.reduceAdd, Nat.zero_add, Nat.add_zero, true_and, and_true, Value.cells, setL, rdN, bfill, one, List.all_cons, List.all_nil, Bool.and_self, Option.map_some, Nat.reduceLeDiff, Nat.le_refl, if_true, Option.isNone_some, Option.isNone_none, eqV, Bool.not_true, Bool.not_false, Nat.zero_mul, Nat.reduceMul, lookRes, eq_cmd]
      simp only [and_self, if_true] at hK
      exact hK _ (by repeat' (first | with_reducible exact Upd.refl _ | with_reducible refine Upd.push ?_ _ | with_reducible refine Upd.set ?_ _ _ ?_ | exact .inl (by (first | omega | (simp only [sz]; done) | (simp only [lz, Nat.reduceAdd, Nat.reduceLeDiff, Nat.le_refl]; done) | (simp only [sz]; omega))) | exact .inr rfl | exact .inr (by simp; done)))
    · have hq : (decide (ch = 0) && (decide (ep = 0) && (decide (nd = 0) && true))) = false := by
        simpa using hz
      simp (disch := (first | omega | (simp only [sz]; done) | (simp only [lz, Nat.reduceAdd, Nat.reduceLeDiff, Nat.le_refl]; done) | (simp only [sz]; omega))) only [e_pickT, e_pickF, e_alloc, e_box, e_build, e_buildSlice, e_ld1, e_ldN, e_st, e_nilCheck, e_bin, e_eq, e_not, e_conv, e_makeMap, e_fieldAddr, e_idxS, e_idxA, e_lookup, e_lookupN, e_mapUpdate, e_delete, e_clearMap, e_len0, e_len1, e_len2, e_len2n, e_extract, e_ifT, e_ifF, e_gTT, e_gFF, e_gTF, e_gFT, e_hTT, e_hFF, e_hTF, e_hFT, e_gU, e_hU, e_minmax, e_field1, b_add, b_sub, b_mul, b_quo, b_rem, b_eql, b_neq, b_lss, b_leq, b_gtr, b_geq, Int.cast_ofNat_Int, decide_true, decide_false, Int.reduceLT, Int.reduceLE, Int.reduceEq, List.toList_toArray, rdC_eq, Bool.false_eq_true, if_false, Bool.true_eq_false, onS_some, asCells_cells, asMap_map, cellAt_cells, g_push_lt, g_push_eq, g_set_eq, g_set_ne, wrap_i, wrap_u, Option.bind_some, Array.size_push, Array.size_setIfInBounds, List.size_toArray, List.length_cons, List.length_nil, List.getElem?_toArray, List.getElem?_cons_zero, List.getElem?_cons_succ, List.setIfInBounds_toArray, List.set_cons_zero, List.set_cons_succ, Nat.reduceAdd, Nat.zero_add, Nat.add_zero, true_and, and_true, Value.cells, setL, rdN, bfill, one, List.all_cons, List.all_nil, Bool.and_self, Option.map_some, Nat.reduceLeDiff, Nat.le_refl, if_true, Option.isNone_some, Option.isNone_none, eqV, Bool.not_true, Bool.not_false, Nat.zero_mul, Nat.reduceMul, lookRes, eq_cmd, hq]
      simp only [if_neg hz] at hK
      exact hK _ (by repeat' (first | with_reducible exact Upd.refl _ | with_reducible refine Upd.push ?_ _ | with_reducible refine Upd.set ?_ _ _ ?_ | exact .inl (by (first | omega | (simp only [sz]; done) | (simp only [lz, Nat.reduceAdd, Nat.reduceLeDiff, Nat.le_refl]; done) | (simp only [sz]; omega))) | exact .inr rfl | exact .inr (by simp; done)))
  simp only [if_neg h3] at hK
  by_cases h4 : ch < 0
  · simp (disch := (first | omega | (simp only [sz]; done) | (simp only [lz, Nat.reduceAdd, Nat.reduceLeDiff, Nat.le_refl]; done) | (simp only [sz]; omega))) only [e_pickT, e_pickF, e_alloc, e_box, e_build, e_buildSlice, e_ld1, e_ldN, e_st, e_nilCheck, e_bin, e_eq, e_not, e_conv, e_makeMap, e_fieldAddr, e_idxS, e_idxA, e_lookup, e_lookupN, e_mapUpdate, e_delete, e_clearMap, e_len0, e_len1, e_len2, e_len2n, e_extract, e_ifT, e_ifF, e_gTT, e_gFF, e_gTF, e_gFT, e_hTT, e_hFF, e_hTF, e_hFT, e_gU, e_hU, e_minmax, e_field1, b_add, b_sub, b_mul, b_quo, b_rem, b_eql, b_neq, b_lss, b_leq, b_gtr, b_geq, Int.cast_ofNat_Int, decide_true, decide_false, Int.reduceLT, Int.reduceLE, Int.reduceEq, List.toList_toArray, rdC_eq, Bool.false_eq_true, if_false, Bool.true_eq_false, onS_some, asCells_cells, asMap_map, cellAt_cells, g_push_lt, g_push_eq, g_set_eq, g_set_ne, wrap_i, wrap_u, Option.bind_some, Array.size_push, Array.size_setIfInBounds, List.size_toArray, List.length_cons, List.length_nil, List.getElem?_toArray, List.getElem?_cons_zero, List.getElem?_cons_succ, List.setIfInBounds_toArray, List.set_cons_zero, List.set_cons_succ, Nat.reduceAdd, Nat.zero_add, Nat.add_zero, true_and, and_true, Value.cells, setL, rdN, bfill, one, List.all_cons, List.all_nil, Bool.and_self, Option.map_some, Nat.reduceLeDiff, Nat.le_refl, if_true, Option.isNone_some, Option.isNone_none, eqV, Bool.not_true, Bool.not_false, Nat.zero_mul, Nat.reduceMul, lookRes, decide_eq_false h1, decide_eq_false h2, decide_eq_false h3, decide_eq_true h4]
    simp only [h4, true_or, if_true] at hK
    exact hK _ (by repeat' (first | with_reducible exact Upd.refl _ | with_reducible refine Upd.push ?_ _ | with_reducible refine Upd.set ?_ _ _ ?_ | exact .inl (by (first | omega | (simp only [sz]; done) | (simp only [lz, Nat.reduceAdd, Nat.reduceLeDiff, Nat.le_refl]; done) | (simp only [sz]; omega))) | exact .inr rfl | exact .inr (by simp; done)))
  by_cases h5 : 4 ≤ ch
  · simp (disch := (first | omega | (simp only [sz]; done) | (simp only [lz, Nat.reduceAdd, Nat.reduceLeDiff, Nat.le_refl]; done) | (simp only [sz]; omega))) only [e_pickT, e_pickF, e_alloc, e_box, e_build, e_buildSlice, e_ld1, e_ldN, e_st, e_nilCheck, e_bin, e_eq, e_not, e_conv, e_makeMap, e_fieldAddr, e_idxS, e_idxA, e_lookup, e_lookupN, e_mapUpdate, e_delete, e_clearMap, e_len0, e_len1, e_len2, e_len2n, e_extract, e_ifT, e_ifF, e_gTT, e_gFF, e_gTF, e_gFT, e_hTT, e_hFF, e_hTF, e_hFT, e_gU, e_hU, e_minmax, e_field1, b_add, b_sub, b_mul, b_quo, b_rem, b_eql, b_neq, b_lss, b_leq, b_gtr, b_geq, Int.cast_ofNat_Int, decide_true, decide_false, Int.reduceLT, Int.reduceLE, Int.reduceEq, List.toList_toArray, rdC_eq, Bool.false_eq_true, if_false, Bool.true_eq_false, onS_some, asCells_cells, asMap_map, cellAt_cells, g_push_lt, g_push_eq, g_set_eq, g_set_ne, wrap_i, wrap_u, Option.bind_some, Array.size_push, Array.size_setIfInBounds, List.size_toArray, List.length_cons, List.length_nil, List.getElem?_toArray, List.getElem?_cons_zero, List.getElem?_cons_succ, List.setIfInBounds_toArray, List.set_cons_zero, List.set_cons_succ, Nat.reduceAdd, Nat.zero_add, Nat.add_zero, true_and, and_true, Value.cells, setL, rdN, bfill, one, List.all_cons, List.all_nil, Bool.and_self, Option.map_some, Nat.reduceLeDiff, Nat.le_refl, if_true, Option.isNone_some, Option.isNone_none, eqV, Bool.not_true, Bool.not_false, Nat.zero_mul, Nat.reduceMul, lookRes, decide_eq_false h1, decide_eq_false h2, decide_eq_false h3, decide_eq_false h4, decide_eq_true h5]
    simp only [h5, true_or, or_true, if_true] at hK
    exact hK _ (by repeat' (first | with_reducible exact Upd.refl _ | with_reducible refine Upd.push ?_ _ | with_reducible refine Upd.set ?_ _ _ ?_ | exact .inl (by (first | omega | (simp only [sz]; done) | (simp only [lz, Nat.reduceAdd, Nat.reduceLeDiff, Nat.le_refl]; done) | (simp only [sz]; omega))) | exact .inr rfl | exact .inr (by simp; done)))
  by_cases h6 : ep < 1
  · simp (disch := (first | omega | (simp only [sz]; done) | (simp only [lz, Nat.reduceAdd, Nat.reduceLeDiff, Nat.le_refl]; done) | (simp only [sz]; omega))) only [e_pickT, e_pickF, e_alloc, e_box, e_build, e_buildSlice, e_ld1, e_ldN, e_st, e_nilCheck, e_bin, e_eq, e_not, e_conv, e_makeMap, e_fieldAddr, e_idxS, e_idxA, e_lookup, e_lookupN, e_mapUpdate, e_delete, e_clearMap, e_len0, e_len1, e_len2, e_len2n, e_extract, e_ifT, e_ifF, e_gTT, e_gFF, e_gTF, e_gFT, e_hTT, e_hFF, e_hTF, e_hFT, e_gU, e_hU, e_minmax, e_field1, b_add, b_sub, b_mul, b_quo, b_rem, b_eql, b_neq, b_lss, b_leq, b_gtr, b_geq, Int.cast_ofNat_Int, decide_true, decide_false, Int.reduceLT, Int.reduceLE, Int.reduceEq, List.toList_toArray, rdC_eq, Bool.false_eq_true, if_false, Bool.true_eq_false, onS_some, asCells_cells, asMap_map, cellAt_cells, g_push_lt, g_push_eq, g_set_eq, g_set_ne, wrap_i, wrap_u, Option.bind_some, Array.size_push, Array.size_setIfInBounds, List.size_toArray, List.length_cons, List.length_nil, List.getElem?_toArray, List.getElem?_cons_zero, List.getElem?_cons_succ, List.setIfInBounds_toArray, List.set_cons_zero, List.set_cons_succ, Nat.reduceAdd, Nat.zero_add, Nat.add_zero, true_and, and_true, Value.cells, setL, rdN, bfill, one, List.all_cons, List.all_nil, Bool.and_self, Option.map_some, Nat.reduceLeDiff, Nat.le_refl, if_true, Option.isNone_some, Option.isNone_none, eqV, Bool.not_true, Bool.not_false, Nat.zero_mul, Nat.reduceMul, lookRes, decide_eq_false h1, decide_eq_false h2, decide_eq_false h3, decide_eq_false h4, decide_eq_false h5, decide_eq_true h6]
    simp only [h6, true_or, or_true, if_true] at hK
    exact hK _ (by repeat' (first | with_reducible exact Upd.refl _ | with_reducible refine Upd.push ?_ _ | with_reducible refine Upd.set ?_ _ _ ?_ | exact .inl (by (first | omega | (simp only [sz]; done) | (simp only [lz, Nat.reduceAdd, Nat.reduceLeDiff, Nat.le_refl]; done) | (simp only [sz]; omega))) | exact .inr rfl | exact .inr (by simp; done)))
  by_cases h7 : nd < 1
  · simp (disch := (first | omega | (simp only [sz]; done) | (simp only [lz, Nat.reduceAdd, Nat.reduceLeDiff, Nat.le_refl]; done) | (simp only [sz]; omega))) only [e_pickT, e_pickF, e_alloc, e_box, e_build, e_buildSlice, e_ld1, e_ldN, e_st, e_nilCheck, e_bin, e_eq, e_not, e_conv, e_makeMap, e_fieldAddr, e_idxS, e_idxA, e_lookup, e_lookupN, e_mapUpdate, e_delete, e_clearMap, e_len0, e_len1, e_len2, e_len2n, e_extract, e_ifT, e_ifF, e_gTT, e_gFF, e_gTF, e_gFT, e_hTT, e_hFF, e_hTF, e_hFT, e_gU, e_hU, e_minmax, e_field1, b_add, b_sub, b_mul, b_quo, b_rem, b_eql, b_neq, b_lss, b_leq, b_gtr, b_geq, Int.cast_ofNat_Int, decide_true, decide_false, Int.reduceLT, Int.reduceLE, Int.reduceEq, List.toList_toArray, rdC_eq, Bool.false_eq_true, if_false, Bool.true_eq_false, onS_some, asCells_cells, asMap_map, cellAt_cells, g_push_lt, g_push_eq, g_set_eq, g_set_ne, wrap_i, wrap_u, Option.bind_some, Array.size_push, Array.size_setIfInBounds, List.size_toArray, List.length_cons, List.length_nil, List.getElem?_toArray, List.getElem?_cons_zero, List.getElem?_cons_succ, List.setIfInBounds_toArray, List.set_cons_zero, List.set_cons_succ, Nat.reduceAdd, Nat.zero_add, Nat.add_zero, true_and, and_true, Value.cells, setL, rdN, bfill, one, List.all_cons, List.all_nil, Bool.and_self, Option.map_some, Nat.reduceLeDiff, Nat.le_refl, if_true, Option.isNone_some, Option.isNone_none, eqV, Bool.not_true, Bool.not_false, Nat.zero_mul, Nat.reduceMul, lookRes, decide_eq_false h1, decide_eq_false h2, decide_eq_false h3, decide_eq_false h4, decide_eq_false h5, decide_eq_false h6, decide_eq_true h7]
    simp only [h7, true_or, or_true, if_true] at hK
    exact hK _ (by repeat' (first | with_reducible exact Upd.refl _ | with_reducible refine Upd.push ?_ _ | with_reducible refine Upd.set ?_ _ _ ?_ | exact .inl (by (first | omega | (simp only [sz]; done) | (simp only [lz, Nat.reduceAdd, Nat.reduceLeDiff, Nat.le_refl]; done) | (simp only [sz]; omega))) | exact .inr rfl | exact .inr (by simp; done)))
  by_cases h8 : 24 < nd
  · simp (disch := (first | omega | (simp only [sz]; done) | (simp only [lz, Nat.reduceAdd, Nat.reduceLeDiff, Nat.le_refl]; done) | (simp only [sz]; omega))) only [e_pickT, e_pickF, e_alloc, e_box, e_build, e_buildSlice, e_ld1, e_ldN, e_st, e_nilCheck, e_bin, e_eq, e_not, e_conv, e_makeMap, e_fieldAddr, e_idxS, e_idxA, e_lookup, e_lookupN, e_mapUpdate, e_delete, e_clearMap, e_len0, e_len1, e_len2, e_len2n, e_extract, e_ifT, e_ifF, e_gTT, e_gFF, e_gTF, e_gFT, e_hTT, e_hFF, e_hTF, e_hFT, e_gU, e_hU, e_minmax, e_field1, b_add, b_sub, b_mul, b_quo, b_rem, b_eql, b_neq, b_lss, b_leq, b_gtr, b_geq, Int.cast_ofNat_Int, decide_true, decide_false, Int.reduceLT, Int.reduceLE, Int.reduceEq, List.toList_toArray, rdC_eq, Bool.false_eq_true, if_false, Bool.true_eq_false, onS_some, asCells_cells, asMap_map, cellAt_cells, g_push_lt, g_push_eq, g_set_eq, g_set_ne, wrap_i, wrap_u, Option.bind_some, Array.size_push, Array.size_setIfInBounds, List.size_toArray, List.length_cons, List.length_nil, List.getElem?_toArray, List.getElem?_cons_zero, List.getElem?_cons_succ, List.setIfInBounds_toArray, List.set_cons_zero, List.set_cons_succ, Nat.reduceAdd, Nat.zero_add, Nat.add_zero, true_and, and_true, Value.cells, setL, rdN, bfill, one, List.all_cons, List.all_nil, Bool.and_self, Option.map_some, Nat.reduceLeDiff, Nat.le_refl, if_true, Option.isNone_some, Option.isNone_none, eqV, Bool.not_true, Bool.not_false, Nat.zero_mul, Nat.reduceMul, lookRes, decide_eq_false h1, decide_eq_false h2, decide_eq_false h3, decide_eq_false h4, decide_eq_false h5, decide_eq_false h6, decide_eq_false h7, decide_eq_true h8]
    simp only [h8, true_or, or_true, if_true] at hK
    exact hK _ (by repeat' (first | with_reducible exact Upd.refl _ | with_reducible refine Upd.push ?_ _ | with_reducible refine Upd.set ?_ _ _ ?_ | exact .inl (by (first | omega | (simp only [sz]; done) | (simp only [lz, Nat.reduceAdd, Nat.reduceLeDiff, Nat.le_refl]; done) | (simp only [sz]; omega))) | exact .inr rfl | exact .inr (by simp; done)))
  have h9 : ¬ (ch < 0 ∨ 4 ≤ ch ∨ ep < 1 ∨ nd < 1 ∨ 24 < nd) := by omega
  simp only [if_neg h9] at hK
  simp (disch := (first | omega | (simp only [sz]; done) | (simp only [lz, Nat.reduceAdd, Nat.reduceLeDiff, Nat.le_refl]; done) | (simp only [sz]; omega))) only [e_pickT, e_pickF, e_alloc, e_box, e_build, e_buildSlice, e_ld1, e_ldN, e_st, e_nilCheck, e_bin, e_eq, e_not, e_conv, e_makeMap, e_fieldAddr, e_idxS, e_idxA, e_lookup, e_lookupN, e_mapUpdate, e_delete, e_clearMap, e_len0, e_len1, e_len2, e_len2n, e_extract, e_ifT, e_ifF, e_gTT, e_gFF, e_gTF, e_gFT, e_hTT, e_hFF, e_hTF, e_hFT, e_gU, e_hU, e_minmax, e_field1, b_add, b_sub, b_mul, b_quo, b_rem, b_eql, b_neq, b_lss, b_leq, b_gtr, b_geq, Int.cast_ofNat_Int, decide_true, decide_false, Int.reduceLT, Int.reduceLE, Int.reduceEq, List.toList_toArray, rdC_eq, Bool.false_eq_true, if_false, Bool.true_eq_false, onS_some, asCells_cells, asMap_map, cellAt_cells, g_push_lt, g_push_eq, g_set_eq, g_set_ne, wrap_i, wrap_u, Option.bind_some, Array.size_push, Array.size_setIfInBounds, List.size_toArray, List.length_cons, List.length_nil, List.getElem?_toArray, List.getElem?_cons_zero, List.getElem?_cons_succ, List.setIfInBounds_toArray, List.set_cons_zero, List.set_cons_succ, Nat.reduceAdd, Nat.zero_add, Nat.add_zero, true_and, and_true, Value.cells, setL, rdN, bfill, one, List.all_cons, List.all_nil, Bool.and_self, Option.map_some, Nat.reduceLeDiff, Nat.le_refl, if_true, Option.isNone_some, Option.isNone_none, eqV, Bool.not_true, Bool.not_false, Nat.zero_mul, Nat.reduceMul, lookRes, decide_eq_false h1, decide_eq_false h2, decide_eq_false h3, decide_eq_false h4, decide_eq_false h5, decide_eq_false h6, decide_eq_false h7, decide_eq_false h8]
  exact hK _ (by repeat' (first | with_reducible exact Upd.refl _ | with_reducible refine Upd.push ?_ _ | with_reducible refine Upd.set ?_ _ _ ?_ | exact .inl (by (first | omega | (simp only [sz]; done) | (simp only [lz, Nat.reduceAdd, Nat.reduceLeDiff, Nat.le_refl]; done) | (simp only [sz]; omega))) | exact .inr rfl | exact .inr (by simp; done)))
end Go.Proofs.Ytdolepapmpcpiaa

namespace Go.Proofs.Ytdolepapmpcpiaa
open Go
set_option linter.unusedSectionVars false
variable [Base]
set_option linter.unusedVariables false
set_option linter.unusedSimpArgs false
end Go.Proofs.Ytdolepapmpcpiaa

namespace Go.Proofs.Ytdolepapmpcpiaa
open Go
set_option linter.unusedSectionVars false
variable [Base]
set_option linter.unusedVariables false
set_option linter.unusedSimpArgs false
end Go.Proofs.Ytdolepapmpcpiaa

namespace Go.Proofs.Ytdolepapmpcpiaa
open Go
set_option linter.unusedSectionVars false
variable [Base]
set_option linter.unusedVariables false
set_option linter.unusedSimpArgs false
def sblk : Value → Nat
  | .slice (some a) _ _ => a.block
  | _ => 0
def soff : Value → Nat
  | .slice (some a) _ _ => a.off
  | _ => 0
def nth {α : Type} [Inhabited α] (l : List α) (i : Nat) : α := l.getD i default
theorem nth_get {α : Type} [Inhabited α] {l : List α} {i : Nat} (h : i < l.length) : nth l i = l[i] := by simp [nth, List.getD, h]
theorem nth_mem {α : Type} [Inhabited α] {l : List α} {i : Nat} (h : i < l.length) : nth l i ∈ l := by rw [nth_get h]; exact List.getElem_mem h
theorem take_nth {α : Type} [Inhabited α] {l : List α} {i : Nat} (h : i < l.length) : l.take (i + 1) = l.take i ++ [nth l i] := by rw [nth_get h]; simp
theorem drop_nth {α : Type} [Inhabited α] {l : List α} {i : Nat} (h : i < l.length) : l.drop i = nth l i :: l.drop (i + 1) := by rw [nth_get h]; exact List.drop_eq_getElem_cons h
theorem vc_int (k : IntKind) (n : Int) : Value.cells (.int k n) = #[.int k n] := id rfl
theorem vc_bool (b : Bool) : Value.cells (.bool b) = #[.bool b] := id rfl
theorem vc_str (s : ByteArray) : Value.cells (.string s) = #[.string s] := id rfl
theorem vc_ptr (a : Option Addr) : Value.cells (.pointer a) = #[.pointer a] := id rfl
theorem vc_slice (a : Option Addr) (n c : Nat) : Value.cells (.slice a n c) = #[.slice a n c] := id rfl
theorem vc_map (a : Option Nat) : Value.cells (.map a) = #[.map a] := id rfl
theorem vc_func (f : Fn) (a b : Array Value) : Value.cells (.func f a b) = #[.func f a b] := id rfl
theorem vc_agg (a : Array Value) : Value.cells (.agg a) = a := id rfl
theorem one_cells {v : Value} (h : one v = true) : v.cells = #[v] := by cases v <;> first | rfl | cases h
theorem o_int (k : IntKind) (n : Int) : one (.int k n) = true := id rfl
theorem o_bool (b : Bool) : one (.bool b) = true := id rfl
theorem o_str (s : ByteArray) : one (.string s) = true := id rfl
theorem o_ptr (a : Option Addr) : one (.pointer a) = true := id rfl
theorem o_slice (a : Option Addr) (n c : Nat) : one (.slice a n c) = true := id rfl
theorem o_map (a : Option Nat) : one (.map a) = true := id rfl
theorem o_func (f : Fn) (a b : Array Value) : one (.func f a b) = true := id rfl
theorem sl_one {α : Type} {h : Hp} {sz : Nat} {enc : α → List Value} {v : Value} {l : List α} (s : Sl h sz enc v l) : one v = true := by obtain ⟨p, cap, rfl, _⟩ := s; rfl
theorem own_one {α : Type} {h : Hp} {base sz : Nat} {enc : α → List Value} {v : Value} {l : List α} (s : Own h base sz enc v l) : one v = true := sl_one s.sl
theorem c_ld1 (b i : Nat) (h : Hp) (K : Kont) : oLd1 (.pointer (some ⟨b, i, none⟩)) h K = onS (rdC h b i) (fun v => K v h) := onS_ex _ _
theorem rdC_push {h : Hp} {o : AObj} {b i : Nat} (hb : b < h.size) : rdC (h.push o) b i = rdC h b i := by unfold rdC; rw [g_push_lt hb]
theorem rdC_pushE {h : Hp} {c : Array Value} {b i : Nat} (hb : b = h.size) : rdC (h.push (.cells c)) b i = c[i]? := by unfold rdC; rw [g_push_eq hb]
theorem rdC_setN {h : Hp} {o : AObj} {b r i : Nat} (e : r ≠ b) : rdC (h.setIfInBounds r o) b i = rdC h b i := by unfold rdC; rw [g_set_ne e]
theorem rdC_setE {h : Hp} {c : Array Value} {b r i : Nat} (hb : r < h.size) (e : r = b) : rdC (h.setIfInBounds r (.cells c)) b i = c[i]? := by unfold rdC; rw [g_set_eq hb e]
theorem rdC_blk {h : Hp} {c : Array Value} {b : Nat} (e : h[b]? = some (.cells c)) (i : Nat) : rdC h b i = c[i]? := by unfold rdC; rw [e]
theorem rdN_all {h : Hp} {c : Array Value} {b n : Nat} (e : h[b]? = some (.cells c)) (hn : n = c.size) : rdN h b 0 n = some c.toList := by
  rw [rdN_blk e (by omega), List.drop_zero, hn, List.take_of_length_le (by simp)]
theorem rdN_pushE {h : Hp} {c : Array Value} {b n : Nat} (hb : b = h.size) (hn : n = c.size) : rdN (h.push (.cells c)) b 0 n = some c.toList := rdN_all (g_push_eq hb) hn
theorem rdN_setE {h : Hp} {c : Array Value} {b r n : Nat} (hb : r < h.size) (e : r = b) (hn : n = c.size) : rdN (h.setIfInBounds r (.cells c)) b 0 n = some c.toList := rdN_all (g_set_eq hb e) hn
theorem rdN_of {h : Hp} {c : Array Value} {b i n : Nat} (e : h[b]? = some (.cells c)) (hn : i + n ≤ c.size) : rdN h b i n = some ((c.toList.drop i).take n) := rdN_blk e hn
theorem rdN_pushP {h : Hp} {c : Array Value} {b i n : Nat} (hb : b = h.size) (hn : i + n ≤ c.size) : rdN (h.push (.cells c)) b i n = some ((c.toList.drop i).take n) := rdN_blk (g_push_eq hb) hn
theorem rdN_setP {h : Hp} {c : Array Value} {b r i n : Nat} (hb : r < h.size) (e : r = b) (hn : i + n ≤ c.size) : rdN (h.setIfInBounds r (.cells c)) b i n = some ((c.toList.drop i).take n) := rdN_blk (g_set_eq hb e) hn
theorem b_push {h : Hp} {o : AObj} {b : Nat} (hb : b < h.size) : ((h.push o)[b]?).bind asCells = (h[b]?).bind asCells := by rw [g_push_lt hb]
theorem b_pushE {h : Hp} {c : Array Value} {b : Nat} (hb : b = h.size) : ((h.push (.cells c))[b]?).bind asCells = some c := by rw [g_push_eq hb]; rfl
theorem b_setN {h : Hp} {o : AObj} {b r : Nat} (e : r ≠ b) : ((h.setIfInBounds r o)[b]?).bind asCells = (h[b]?).bind asCells := by rw [g_set_ne e]
theorem b_setE {h : Hp} {c : Array Value} {b r : Nat} (hb : r < h.size) (e : r = b) : ((h.setIfInBounds r (.cells c))[b]?).bind asCells = some c := by rw [g_set_eq hb e]; rfl
theorem b_blk {h : Hp} {c : Array Value} {b : Nat} (e : h[b]? = some (.cells c)) : (h[b]?).bind asCells = some c := by rw [e]; rfl
theorem m_blk {h : Hp} {c : List (Value × Value)} {b : Nat} (e : h[b]? = some (.map c)) : (h[b]?).bind asMap = some c := by rw [e]; rfl
theorem m_push {h : Hp} {o : AObj} {b : Nat} (hb : b < h.size) : ((h.push o)[b]?).bind asMap = (h[b]?).bind asMap := by rw [g_push_lt hb]
theorem m_pushE {h : Hp} {c : List (Value × Value)} {b : Nat} (hb : b = h.size) : ((h.push (.map c))[b]?).bind asMap = some c := by rw [g_push_eq hb]; rfl
theorem m_setN {h : Hp} {o : AObj} {b r : Nat} (e : r ≠ b) : ((h.setIfInBounds r o)[b]?).bind asMap = (h[b]?).bind asMap := by rw [g_set_ne e]
theorem m_setE {h : Hp} {c : List (Value × Value)} {b r : Nat} (hb : r < h.size) (e : r = b) : ((h.setIfInBounds r (.map c))[b]?).bind asMap = some c := by rw [g_set_eq hb e]; rfl
section
variable {α : Type} {h h0 : Hp} {sz base : Nat} {enc : α → List Value} {v : Value} {l : List α}
theorem Sl.addr (s : Sl h sz enc v l) (hl : 0 < l.length) : ∃ cap, v = .slice (some ⟨sblk v, soff v, none⟩) l.length cap := by
  obtain ⟨p, cap, rfl, _, e⟩ := s
  unfold srcCells at e
  split at e <;> rename_i hm
  · split at e
    · rename_i h0; cases hm; omega
    · cases e
  · cases hm; exact ⟨_, rfl⟩
  · split at e
    · cases hm; omega
    · cases e
  · cases hm
  · cases e
theorem Sl.idx (s : Sl h0 sz enc v l) (k : IntKind) (n : Int) (h : Hp) (K : Kont) (hn : 0 ≤ n) (hl : n < l.length) : oIdxS sz v (.int k n) h K = K (pt (sblk v) (soff v + n.toNat * sz)) h := by
  obtain ⟨cap, e⟩ := s.addr (by omega)
  rw [e]
  simp only [oIdxS, hn, hl, true_and]
  rfl
theorem Sl.row [Inhabited α] (s : Sl h sz enc v l) (he : ∀ a, (enc a).length = sz) (i : Nat) (hi : i < l.length) : rdN h (sblk v) (soff v + i * sz) sz = some (enc (nth l i)) := by
  obtain ⟨b, o, cap, rfl, hr⟩ := s.at he i hi
  rw [nth_get hi]
  exact hr
theorem Sl.cell [Inhabited α] (s : Sl h sz enc v l) (he : ∀ a, (enc a).length = sz) (i j : Nat) (hi : i < l.length) (hj : j < sz) : rdC h (sblk v) (soff v + i * sz + j) = (enc (nth l i))[j]? := by
  have := s.row he i hi
  have h2 : (enc (nth l i))[j]? = some ((enc (nth l i))[j]'(by rw [he]; exact hj)) := List.getElem?_eq_getElem _
  rw [h2]
  exact rdN_cell this h2
theorem Sl.cell0 [Inhabited α] (s : Sl h sz enc v l) (he : ∀ a, (enc a).length = sz) (i : Nat) (hi : i < l.length) (hj : 0 < sz) : rdC h (sblk v) (soff v + i * sz) = (enc (nth l i))[0]? := s.cell he i 0 hi hj
theorem Sl.lt (s : Sl h sz enc v l) (he : ∀ a, (enc a).length = sz) (hl : 0 < l.length) (hsz : 0 < sz) : sblk v < h.size := by
  obtain ⟨b, o, cap, rfl, hr⟩ := s.at he 0 hl
  obtain ⟨k, rfl⟩ : ∃ k, sz = k + 1 := ⟨sz - 1, by omega⟩
  exact rdN_lt hr
theorem Sl.push (s : Sl h sz enc v l) (o : AObj) : Sl (h.push o) sz enc v l := s.ext (Upd.push (Upd.refl _) _)
theorem Own.push (s : Own h base sz enc v l) (o : AObj) : Own (h.push o) base sz enc v l := s.ext (Upd.push (Upd.refl _) _)
theorem Own.blk_ge (o : Own h base sz enc v l) {b : Nat} (hb : blk v = some b) : base ≤ b := by
  rcases o with ⟨rfl, _⟩ | ⟨g, cap, c, rfl, hg, _⟩
  · cases hb
  · cases hb; exact hg
theorem Own.blk_lt (o : Own h base sz enc v l) {b : Nat} (hb : blk v = some b) : b < h.size := by
  rcases o with ⟨rfl, _⟩ | ⟨g, cap, c, rfl, _, hg, _⟩
  · cases hb
  · cases hb; exact lt_of_get hg
theorem Own.len (s : Own h base sz enc v l) {h' : Hp} {K : Kont} : oLen 0 v h' K = K (.int .i64 l.length) h' := by
  obtain ⟨p, cap, rfl, _⟩ := s.sl; rfl
theorem Sl.len' (s : Sl h0 sz enc v l) (h : Hp) (K : Kont) : oLen 0 v h K = K (.int .i64 l.length) h := by
  obtain ⟨p, cap, rfl, _⟩ := s; rfl
theorem flat_sub (he : ∀ a, (enc a).length = sz) : ∀ (l : List α) (lo n : Nat), ((l.flatMap enc).drop (lo * sz)).take (n * sz) = ((l.drop lo).take n).flatMap enc
  | [], lo, n => by simp
  | a :: l, 0, 0 => by simp
  | a :: l, 0, n + 1 => by
    have := flat_sub he l 0 n
    simp only [Nat.zero_mul, List.drop_zero, List.flatMap_cons, List.take_succ_cons] at this ⊢
    rw [Nat.add_mul, Nat.one_mul, Nat.add_comm, ← he a, List.take_length_add_append, he a, this]
  | a :: l, lo + 1, n => by
    rw [List.flatMap_cons, Nat.add_mul, Nat.one_mul, Nat.add_comm, ← List.drop_drop, List.drop_left' (he a), List.drop_succ_cons]
    exact flat_sub he l lo n
theorem bnd_int {k : IntKind} {n : Int} {d m : Nat} (h0 : 0 ≤ n) (h1 : n ≤ m) : bnd (some (.int k n)) d m = some n.toNat := by simp [bnd, h0, h1]
/-- xs[lo:hi]. -/
theorem Sl.sub (s : Sl h0 sz enc v l) (he : ∀ a, (enc a).length = sz) {lo hi : Option Value} {a b : Nat} (hlo : ∀ m, b ≤ m → bnd lo 0 m = some a) (hhi : ∀ m, l.length ≤ m → bnd hi l.length m = some b) (hab : a ≤ b) (hb : b ≤ l.length) {h : Hp} {K : Kont}
    (hK : ∀ v', Sl h0 sz enc v' ((l.take b).drop a) → (blk v' = blk v ∨ blk v' = none) → K v' h) : oSlice 0 sz v lo hi none h K := by
  obtain ⟨p, cap, rfl, hcap, e⟩ := s
  refine ⟨cap, b, a, rfl, hhi _ hcap, fun _ => rfl, hlo _ (Nat.le_refl _), ?_⟩
  have hlen : ((l.take b).drop a).length = b - a := by simp; omega
  have hflat : ((l.take b).drop a).flatMap enc = ((l.flatMap enc).drop (a * sz)).take ((b - a) * sz) := by
    rw [flat_sub he, List.drop_take]
  refine hK _ ⟨_, cap - a, by rw [hlen], by rw [hlen]; omega, ?_⟩ ?_
  · rw [hlen, hflat]
    cases p with
    | none =>
      simp only [srcCells] at e
      split at e
      · rename_i h0
        have : l = [] := List.eq_nil_of_length_eq_zero h0
        subst this
        have hb0 : b = 0 := by simpa using hb
        have ha0 : a = 0 := by omega
        subst hb0; subst ha0
        split <;> simp [srcCells]
      · cases e
    | some q =>
      obtain ⟨x, y, sp⟩ := q
      cases sp with
      | some _ =>
        simp only [srcCells] at e
        split at e
        · rename_i h0
          have : l = [] := List.eq_nil_of_length_eq_zero h0
          subst this
          have hb0 : b = 0 := by simpa using hb
          have ha0 : a = 0 := by omega
          subst hb0; subst ha0
          split <;> simp [srcCells, Addr.add]
        · cases e
      | none =>
        simp only [srcCells, Option.map_eq_some_iff, Prod.mk.injEq, true_and] at e
        obtain ⟨r, hr, rfl⟩ := e
        by_cases hc : cap = a
        · have : b - a = 0 := by omega
          simp [hc, this, srcCells, rdN]
        · simp only [if_neg hc, Option.map_some, add0, srcCells]
          rw [rdN_part hr (by rw [← Nat.add_mul]; exact Nat.mul_le_mul_right _ (by omega))]
          rfl
  · cases p with
    | none => right; split <;> rfl
    | some q => left; split <;> simp [blk, Addr.add] ; split <;> rfl
/-- append(out, a): a struct's cells go behind what the row holds. -/
theorem Own.push1 (o : Own h base sz enc v l) (he : ∀ a, (enc a).length = sz) (ho : ∀ a, (enc a).all one = true) (a : α) {z c : Array Value} {bytes : Nat}
    (hc : c.toList = enc a) (hB : Base.b ≤ h.size) (hz : z.size = sz) (hb : base ≤ h.size) (hbytes : (l.length + 1) * bytes ≤ 140737488355328) {K : Kont}
    (hK : ∀ v' h', Own h' base sz enc v' (l ++ [a]) → Upd (fun b => base ≤ b) h h' → K v' h') :
    oAppend sz bytes z v (.slice (some ⟨h.size, 0, none⟩) 1 1) (h.push (.cells c)) K := by
  refine Own.append (o.push _) he ho (by simp; omega) hz (Sl.one (a := a) hc (he a)) (by simp; omega) (by simpa using hbytes) ?_
  intro v' h' o' u
  exact hK v' h' o' ((Upd.push (Upd.refl _) _).trans u)
end
theorem e_if2 (c : Bool) (a b : Prop) (ha : c = true → a) (hb : c = false → b) : oIf (.bool c) a b := by cases c <;> simp_all [oIf]
theorem e_ifd (p : Prop) [Decidable p] (a b : Prop) (ha : p → a) (hb : ¬ p → b) : oIf (.bool (decide p)) a b := by
  by_cases h : p
  · rw [decide_eq_true h]; exact ha h
  · rw [decide_eq_false h]; exact hb h
theorem e_ifn (p : Prop) [Decidable p] (a b : Prop) (ha : ¬ p → a) (hb : p → b) : oIf (.bool (!decide p)) a b := by
  by_cases h : p
  · rw [decide_eq_true h]; exact hb h
  · rw [decide_eq_false h]; exact ha h
theorem e_gd (p : Prop) [Decidable p] (w : Bool) (m : Kont → Prop) (h : Hp) (K : Kont) (ha : p → oGuard (.bool true) w m h K) (hb : ¬ p → oGuard (.bool false) w m h K) : oGuard (.bool (decide p)) w m h K := by
  by_cases h : p
  · rw [decide_eq_true h]; exact ha h
  · rw [decide_eq_false h]; exact hb h
theorem e_gn (p : Prop) [Decidable p] (w : Bool) (m : Kont → Prop) (h : Hp) (K : Kont) (ha : ¬ p → oGuard (.bool true) w m h K) (hb : p → oGuard (.bool false) w m h K) : oGuard (.bool (!decide p)) w m h K := by
  by_cases h : p
  · rw [decide_eq_true h]; exact hb h
  · rw [decide_eq_false h]; exact ha h
theorem e_g2 (c : Bool) (w : Bool) (m : Kont → Prop) (h : Hp) (K : Kont) (ha : c = true → oGuard (.bool true) w m h K) (hb : c = false → oGuard (.bool false) w m h K) : oGuard (.bool c) w m h K := by cases c <;> simp_all
theorem e_pd (p : Prop) [Decidable p] (a b : Value) (h : Hp) (K : Kont) (ha : p → K a h) (hb : ¬ p → K b h) : oPick (.bool (decide p)) a b h K := by
  by_cases h : p
  · rw [decide_eq_true h]; exact ha h
  · rw [decide_eq_false h]; exact hb h
theorem e_pn (p : Prop) [Decidable p] (a b : Value) (h : Hp) (K : Kont) (ha : ¬ p → K a h) (hb : p → K b h) : oPick (.bool (!decide p)) a b h K := by
  by_cases h : p
  · rw [decide_eq_true h]; exact hb h
  · rw [decide_eq_false h]; exact ha h
theorem k_cast {K : Kont} {v v' : Value} {h : Hp} (k : K v h) (e : v = v') : K v' h := e ▸ k
/-- Whatever fell below a mark stays, whatever is new may have turned. -/
theorem Upd.ext {a b c : Hp} {base : Nat} (x : Ext a b) (y : Upd (fun r => base ≤ r) b c) (hb : a.size ≤ base) : Ext a c := Upd.fresh x y (fun r hr => .inl (by omega))
theorem Ext.trans {a b c : Hp} (x : Ext a b) (y : Ext b c) : Ext a c := Upd.trans x y
theorem Ext.lift {a b : Hp} {S : Nat → Prop} (x : Ext a b) : Upd S a b := x.mono (fun _ _ h => h.elim)
theorem Ext.hB {a b : Hp} (x : Ext a b) (h : Base.b ≤ a.size) : Base.b ≤ b.size := Nat.le_trans h x.1
theorem Upd.hB {a b : Hp} {S : Nat → Prop} (x : Upd S a b) (h : Base.b ≤ a.size) : Base.b ≤ b.size := Nat.le_trans h x.1
theorem xa [Base] : type_of% (And.intro (@e_pickT _) (And.intro (@e_pickF _) (And.intro (@e_alloc _) (And.intro (@e_box _) (And.intro (@e_build _) (And.intro (@e_buildSlice _) (And.intro (@e_ldN _) (And.intro (@e_st _) (And.intro (@e_nilCheck _) (And.intro (@e_bin _) (And.intro (@e_eq _) (And.intro (@e_not _) (And.intro (@e_conv _) (And.intro (@e_makeMap _) (And.intro (@e_fieldAddr _) (And.intro (@e_idxS _) (And.intro (@e_idxA _) (And.intro (@e_lookup _) (And.intro (@e_lookupN _) (And.intro (@e_mapUpdate _) (And.intro (@e_delete _) (And.intro (@e_clearMap _) (And.intro (@e_len0 _) (And.intro (@e_len1 _) (And.intro (@e_len2 _) (And.intro (@e_len2n _) (And.intro (@e_extract _) (And.intro (@e_ifT _) (And.intro (@e_ifF _) (And.intro (@e_gTT _) (And.intro (@e_gFF _) (And.intro (@e_gTF _) (And.intro (@e_gFT _) (And.intro (@e_hTT _) (And.intro (@e_hFF _) (And.intro (@e_hTF _) (And.intro (@e_hFT _) (And.intro (@e_gU _) (And.intro (@e_hU _) (And.intro (@e_minmax _) (And.intro (@e_field1 _) (And.intro (@c_ld1 _) ((@onS_some _)))))))))))))))))))))))))))))))))))))))))))) := And.intro (@e_pickT _) (And.intro (@e_pickF _) (And.intro (@e_alloc _) (And.intro (@e_box _) (And.intro (@e_build _) (And.intro (@e_buildSlice _) (And.intro (@e_ldN _) (And.intro (@e_st _) (And.intro (@e_nilCheck _) (And.intro (@e_bin _) (And.intro (@e_eq _) (And.intro (@e_not _) (And.intro (@e_conv _) (And.intro (@e_makeMap _) (And.intro (@e_fieldAddr _) (And.intro (@e_idxS _) (And.intro (@e_idxA _) (And.intro (@e_lookup _) (And.intro (@e_lookupN _) (And.intro (@e_mapUpdate _) (And.intro (@e_delete _) (And.intro (@e_clearMap _) (And.intro (@e_len0 _) (And.intro (@e_len1 _) (And.intro (@e_len2 _) (And.intro (@e_len2n _) (And.intro (@e_extract _) (And.intro (@e_ifT _) (And.intro (@e_ifF _) (And.intro (@e_gTT _) (And.intro (@e_gFF _) (And.intro (@e_gTF _) (And.intro (@e_gFT _) (And.intro (@e_hTT _) (And.intro (@e_hFF _) (And.intro (@e_hTF _) (And.intro (@e_hFT _) (And.intro (@e_gU _) (And.intro (@e_hU _) (And.intro (@e_minmax _) (And.intro (@e_field1 _) (And.intro (@c_ld1 _) ((@onS_some _)))))))))))))))))))))))))))))))))))))))))))
theorem xb [Base] : type_of% (And.intro (@b_add _) (And.intro (@b_sub _) (And.intro (@b_mul _) (And.intro (@b_quo _) (And.intro (@b_rem _) (And.intro (@b_eql _) (And.intro (@b_neq _) (And.intro (@b_lss _) (And.intro (@b_leq _) (And.intro (@b_gtr _) (And.intro (@b_geq _) (And.intro (@rdC_push _) (And.intro (@rdC_pushE _) (And.intro (@rdC_setN _) (And.intro (@rdC_setE _) (And.intro (@rdN_push _) (And.intro (@rdN_pushE _) (And.intro (@rdN_setne _) (And.intro (@rdN_setE _) (And.intro (@rdN_pushP _) (And.intro (@rdN_setP _) (And.intro (@b_push _) (And.intro (@b_pushE _) (And.intro (@b_setN _) (And.intro (@b_setE _) (And.intro (@m_push _) (And.intro (@m_pushE _) (And.intro (@m_setN _) (And.intro (@m_setE _) (And.intro (@wrap_i _) (And.intro (@wrap_u _) (And.intro (@vc_int _) (And.intro (@vc_bool _) (And.intro (@vc_str _) (And.intro (@vc_ptr _) (And.intro (@vc_slice _) (And.intro (@vc_map _) (And.intro (@vc_func _) (And.intro (@vc_agg _) (And.intro (@o_int _) (And.intro (@o_bool _) (And.intro (@o_str _) (And.intro (@o_ptr _) (And.intro (@o_slice _) (And.intro (@o_map _) ((@o_func _))))))))))))))))))))))))))))))))))))))))))))))) := And.intro (@b_add _) (And.intro (@b_sub _) (And.intro (@b_mul _) (And.intro (@b_quo _) (And.intro (@b_rem _) (And.intro (@b_eql _) (And.intro (@b_neq _) (And.intro (@b_lss _) (And.intro (@b_leq _) (And.intro (@b_gtr _) (And.intro (@b_geq _) (And.intro (@rdC_push _) (And.intro (@rdC_pushE _) (And.intro (@rdC_setN _) (And.intro (@rdC_setE _) (And.intro (@rdN_push _) (And.intro (@rdN_pushE _) (And.intro (@rdN_setne _) (And.intro (@rdN_setE _) (And.intro (@rdN_pushP _) (And.intro (@rdN_setP _) (And.intro (@b_push _) (And.intro (@b_pushE _) (And.intro (@b_setN _) (And.intro (@b_setE _) (And.intro (@m_push _) (And.intro (@m_pushE _) (And.intro (@m_setN _) (And.intro (@m_setE _) (And.intro (@wrap_i _) (And.intro (@wrap_u _) (And.intro (@vc_int _) (And.intro (@vc_bool _) (And.intro (@vc_str _) (And.intro (@vc_ptr _) (And.intro (@vc_slice _) (And.intro (@vc_map _) (And.intro (@vc_func _) (And.intro (@vc_agg _) (And.intro (@o_int _) (And.intro (@o_bool _) (And.intro (@o_str _) (And.intro (@o_ptr _) (And.intro (@o_slice _) (And.intro (@o_map _) ((@o_func _))))))))))))))))))))))))))))))))))))))))))))))
theorem xl [Base] : type_of% (And.intro (@Option.isNone_none Addr) (And.intro (@Option.isNone_none Nat) (And.intro (@Option.isNone_some Addr) (And.intro (@Option.isNone_some Nat) (And.intro (@List.drop_zero Value) (And.intro (@List.drop_succ_cons Value) (And.intro (@List.take_zero Value) (And.intro (@List.take_succ_cons Value) (And.intro (@List.toList_toArray Value) (And.intro (@List.size_toArray Value) (And.intro (@List.length_cons Value) (And.intro (@List.length_nil Value) (And.intro (@List.getElem?_toArray Value) (And.intro (@List.getElem?_cons_zero Value) (And.intro (@List.getElem?_cons_succ Value) (And.intro (@List.setIfInBounds_toArray Value) (And.intro (@List.set_cons_zero Value) (And.intro (@List.set_cons_succ Value) (And.intro (@List.all_cons Value) (And.intro (@List.all_nil Value) (And.intro (@Array.size_push AObj) (And.intro (@Array.size_setIfInBounds AObj) (And.intro Int.toNat_natCast (And.intro Nat.zero_add (And.intro Nat.add_zero (And.intro Nat.zero_mul (And.intro Nat.le_refl (And.intro Bool.and_self (And.intro Bool.not_true (And.intro Bool.not_false (And.intro Bool.true_eq_false (Bool.false_eq_true)))))))))))))))))))))))))))))))) := And.intro (@Option.isNone_none Addr) (And.intro (@Option.isNone_none Nat) (And.intro (@Option.isNone_some Addr) (And.intro (@Option.isNone_some Nat) (And.intro (@List.drop_zero Value) (And.intro (@List.drop_succ_cons Value) (And.intro (@List.take_zero Value) (And.intro (@List.take_succ_cons Value) (And.intro (@List.toList_toArray Value) (And.intro (@List.size_toArray Value) (And.intro (@List.length_cons Value) (And.intro (@List.length_nil Value) (And.intro (@List.getElem?_toArray Value) (And.intro (@List.getElem?_cons_zero Value) (And.intro (@List.getElem?_cons_succ Value) (And.intro (@List.setIfInBounds_toArray Value) (And.intro (@List.set_cons_zero Value) (And.intro (@List.set_cons_succ Value) (And.intro (@List.all_cons Value) (And.intro (@List.all_nil Value) (And.intro (@Array.size_push AObj) (And.intro (@Array.size_setIfInBounds AObj) (And.intro Int.toNat_natCast (And.intro Nat.zero_add (And.intro Nat.add_zero (And.intro Nat.zero_mul (And.intro Nat.le_refl (And.intro Bool.and_self (And.intro Bool.not_true (And.intro Bool.not_false (And.intro Bool.true_eq_false (Bool.false_eq_true)))))))))))))))))))))))))))))))
end Go.Proofs.Ytdolepapmpcpiaa

