/- Lemmas for the theorem of the last text; no condition. -/
import Derived.Test.YtdolepapmpcpiaaLp0
import Derived.Test.YtdolepapmpcpiaaLp1
import Derived.Test.YtdolepapmpcpiaaLp2
import Derived.Test.YtdolepapmpcpiaaLp3
import Derived.Test.YtdolepapmpcpiaaLp4
import Derived.Test.YtdolepapmpcpiaaLp5
import Derived.Test.YtdolepapmpcpiaaLp6
import Derived.Test.YtdolepapmpcpiaaLp7
import Derived.Test.YtdolepapmpcpiaaLp8
import Derived.Test.YtdolepapmpcpiaaLp9
import Derived.Test.YtdolepapmpcpiaaLp10
import Derived.Test.YtdolepapmpcpiaaLp11
import Derived.Test.YtdolepapmpcpiaaLp12
namespace Go.Proofs.Ytdolepapmpcpiaa
open Go Go.RowKit Go.Maps Go.Shelf
set_option linter.unusedSectionVars false
variable [Base]
set_option linter.unusedVariables false
set_option linter.unusedSimpArgs false
set_option maxRecDepth 10000
structure RP where
  slot : Int
  cmd : Cmd
  who : Value × List Int
instance : Inhabited RP := ⟨⟨0, cmd0, .slice none 0 0, []⟩⟩
def pcells (q : RP) : List Value := [.int .i64 q.slot, .int .i64 q.cmd.kind, .int .i64 q.cmd.chain, .int .u64 q.cmd.epoch, .int .i64 q.cmd.node, q.who.1]
theorem pcells_len (q : RP) : (pcells q).length = 6 := rfl
theorem pcells_one {q : RP} (h : one q.who.1 = true) : (pcells q).all one = true := by
  simp only [pcells, List.all_cons, List.all_nil, h, o_int, Bool.and_self]
def rcells (x : LS) (wv vv pv : Value) : List Value := [.int .i64 x.me, .int .i64 x.masters, .int .i64 x.state, .int .u64 x.ballot, .int .i64 x.frm, .int .i64 x.next, wv, vv, pv]
def rV (x : LS) (wv vv pv : Value) : Value := .agg (rcells x wv vv pv).toArray
section
variable {α : Type} {h h0 h' : Hp} {sz base : Nat} {enc : α → List Value} {v : Value} {l : List α}
/-- A part of an element. -/
theorem Sl.part [Inhabited α] (s : Sl h sz enc v l) (he : ∀ a, (enc a).length = sz) (i j n : Nat) (hi : i < l.length) (hj : j + n ≤ sz) : rdN h (sblk v) (soff v + i * sz + j) n = some (((enc (nth l i)).drop j).take n) := rdN_part (s.row he i hi) hj
theorem Sl.blk_some (s : Sl h sz enc v l) (hl : 0 < l.length) : blk v = some (sblk v) := by
  obtain ⟨cap, e⟩ := s.addr hl
  rw [e]; rfl
/-- What is not written to stays, as far as anything is read of it. -/
theorem Sl.keep [Inhabited α] {S : Nat → Prop} (s : Sl h sz enc v l) (he : ∀ a, (enc a).length = sz) (hsz : 0 < sz) (u : Upd S h h') (hb : ∀ b, S b → blk v = some b → ∃ m, h[b]? = some (.map m)) : Sl h' sz enc v l := by
  by_cases hl : 0 < l.length
  · refine s.upd u (fun b hb' hs => ?_)
    obtain ⟨m, hm⟩ := hb b hs hb'
    have e := s.blk_some hl
    rw [hb'] at e
    cases e
    have := s.row he 0 hl
    obtain ⟨k, hk⟩ : ∃ k, sz = k + 1 := ⟨sz - 1, by omega⟩
    rw [hk] at this
    simp only [rdN, rdC, hm, Option.bind_none] at this
    cases this
  · have : l = [] := List.eq_nil_of_length_eq_zero (by omega)
    subst this
    obtain ⟨p, cap, rfl, hc, e⟩ := s
    refine ⟨p, cap, rfl, hc, ?_⟩
    cases p with
    | none => exact e
    | some a =>
      obtain ⟨b, o, sp⟩ := a
      cases sp with
      | none => simp [srcCells, rdN]
      | some _ => simp [srcCells]
theorem flat_all {r : List α} (ho : ∀ a ∈ r, (enc a).all one = true) : (r.flatMap enc).all one = true := by
  induction r with
  | nil => rfl
  | cons a q ih => simp only [List.flatMap_cons, List.all_append, ho a (List.mem_cons_self ..), ih (fun b hb => ho b (List.mem_cons_of_mem _ hb)), Bool.and_self]
theorem flat_set (he : ∀ a, (enc a).length = sz) {w : Value} {a' : α} {j : Nat} (hj : j < sz) [Inhabited α] : ∀ (l : List α) (i : Nat), i < l.length → enc a' = (enc (nth l i)).set j w → (l.flatMap enc).set (i * sz + j) w = (l.set i a').flatMap enc
  | a :: l, 0, _, e => by
    have e' : enc a' = (enc a).set j w := e
    rw [List.set_cons_zero, List.flatMap_cons, List.flatMap_cons, e', Nat.zero_mul, Nat.zero_add, List.set_append_left _ _ (by rw [he]; exact hj)]
  | a :: l, i + 1, hi, e => by
    have ih := flat_set he hj l i (by simpa using hi) (w := w) (a' := a') (by simpa [nth] using e)
    rw [List.set_cons_succ, List.flatMap_cons, List.flatMap_cons, ← ih, List.set_append_right _ _ (by rw [he, Nat.add_mul]; omega), he, Nat.add_mul, Nat.one_mul]
    congr 2
    omega
/-- One cell of an element of one's own row is written. -/
theorem Own.put [Inhabited α] (o : Own h base sz enc v l) (he : ∀ a, (enc a).length = sz) {i j : Nat} (hi : i < l.length) (hj : j < sz) {w : Value} (hw : one w = true) (a' : α) (e : enc a' = (enc (nth l i)).set j w) {K : Kont}
    (hK : ∀ h', Own h' base sz enc v (l.set i a') → Upd (fun b => base ≤ b) h h' → K undef h') : oSt 1 (pt (sblk v) (soff v + i * sz + j)) w h K := by
  rcases o with ⟨rfl, rfl⟩ | ⟨g, cap, c, rfl, hbase, hg, hn, hsz, ht⟩
  · simp at hi
  · have hlt : i * sz + j < l.length * sz := by
      have : (i + 1) * sz ≤ l.length * sz := Nat.mul_le_mul_right _ hi
      rw [Nat.add_mul, Nat.one_mul] at this
      omega
    have hle : l.length * sz ≤ cap * sz := Nat.mul_le_mul_right _ hn
    refine ⟨c, hg, by rw [one_cells hw]; rfl, by show 0 + i * sz + j + 1 ≤ c.size; omega, by rw [one_cells hw]; simp [hw], ?_⟩
    refine hK _ (.inr ⟨g, cap, _, by simp, hbase, g_set_eq (lt_of_get hg) rfl, by simpa using hn, by rw [setL_size]; exact hsz, ?_⟩) (Upd.set (Upd.refl _) _ _ (.inr hbase))
    rw [one_cells hw, List.length_set, ← flat_set he hj l i hi e, ← ht]
    show (c.setIfInBounds (0 + i * sz + j) w).toList.take (l.length * sz) = _
    rw [Nat.zero_add, Array.toList_setIfInBounds, List.take_set]
/-- append(out, l..), of whatever cells. -/
theorem Own.appendV (o : Own h base sz enc v l) (he : ∀ a, (enc a).length = sz) {z : Array Value} {bytes : Nat} {x : Value} {r : List α} (ho : ∀ a ∈ r, (enc a).all one = true)
    (hB : Base.b ≤ h.size) (hz : z.size = sz) (s : Sl h sz enc x r) (hb : base ≤ h.size) (hbytes : (l.length + r.length) * bytes ≤ 140737488355328) {K : Kont}
    (hK : ∀ v' h', Own h' base sz enc v' (l ++ r) → Upd (fun b => base ≤ b) h h' → K v' h') : oAppend sz bytes z v x h K := by
  obtain ⟨q, c2, rfl, _, hs⟩ := s
  have ho' := flat_all ho
  have hl := flat_len he l
  have hr := flat_len he r
  rcases o with ⟨rfl, rfl⟩ | ⟨g, cap, c, rfl, hbase, hg, hn, hsz, ht⟩
  · refine ⟨_, _, hs, ?_, ?_⟩
    · intro hc
      have : r = [] := by
        cases r with
        | nil => rfl
        | cons a r => simp at hc
      subst this
      exact .inl ⟨rfl, hK _ _ (.inl ⟨rfl, rfl⟩) (Upd.refl _)⟩
    · intro _
      refine ⟨[], rfl, by simpa using hbytes, hB, fun nc hnc => hK _ _ (.inr ⟨h.size, nc, _, by simp, hb, g_push_eq rfl, by simpa using hnc, ?_, ?_⟩) (Upd.push (Upd.refl _) _)⟩
      · simp only [Nat.zero_add] at hnc
        simp only [Array.size_append, List.size_toArray, List.length_nil, Nat.zero_add, hr, zeroCells_size, hz]
        rw [← Nat.add_mul]; congr 1; omega
      · simp only [List.nil_append, Array.toList_append, List.append_nil]
        rw [List.take_append_of_le_length (by rw [hr]; exact Nat.le_refl _), List.take_of_length_le (by rw [hr]; exact Nat.le_refl _)]
  · refine ⟨_, _, hs, ?_, ?_⟩
    · intro hc
      refine .inr ⟨g, 0, c, rfl, hg, ?_, ho', ?_⟩
      · rw [hr, hsz, Nat.zero_add, ← Nat.add_mul]; exact Nat.mul_le_mul_right _ hc
      · refine hK _ _ (.inr ⟨g, cap, _, by simp, hbase, g_set_eq (lt_of_get hg) rfl, by simpa using hc, by rw [setL_size]; exact hsz, ?_⟩) (Upd.set (Upd.refl _) _ _ (.inr hbase))
        rw [List.length_append, Nat.add_mul, ← hr, Nat.zero_add, setL_take _ _ _ (by rw [hr, hsz, ← Nat.add_mul]; exact Nat.mul_le_mul_right _ hc), ht, List.flatMap_append]
    · intro hc
      have hself : srcCells sz (.slice (some ⟨g, 0, none⟩) l.length cap) h = some (l.length, l.flatMap enc) := by
        have : Sl h sz enc (.slice (some ⟨g, 0, none⟩) l.length cap) l := Own.sl (base := base) (.inr ⟨g, cap, c, rfl, hbase, hg, hn, hsz, ht⟩)
        obtain ⟨_, _, _, _, e⟩ := this; exact e
      refine ⟨_, hself, hbytes, hB, fun nc hnc => hK _ _ (.inr ⟨h.size, nc, _, by simp, hb, g_push_eq rfl, by simpa using hnc, ?_, ?_⟩) (Upd.push (Upd.refl _) _)⟩
      · simp only [Array.size_append, List.size_toArray, hl, hr, zeroCells_size, hz]
        rw [← Nat.add_mul, ← Nat.add_mul]; congr 1; omega
      · rw [Array.toList_append, List.take_append_of_le_length (by simp [hl, hr, Nat.add_mul]), List.take_of_length_le (by simp [hl, hr, Nat.add_mul])]
        simp
end
theorem sp_r13Start {h : Hp} (hB : Base.b ≤ h.size) {x : LS} {wv vv pv : Value} (h1 : one wv = true) (h2 : one vv = true) (h3 : one pv = true) (hm : i64ok x.me) (hxb : u64ok x.ballot) {above : Int} (ha : u64ok above) (f : Int) {K : Kont}
    (hbad : startE x above f ≠ 0 → ∀ h', Ext h h' → K (.tuple #[rV x wv vv pv, .int .u64 0, .int .i64 (startE x above f)]) h')
    (hok : startE x above f = 0 → ∀ h', Ext h h' → K (.tuple #[rV (startX x above f) (.slice none 0 0) (.slice none 0 0) (.slice none 0 0), .int .u64 (startB x above f), .int .i64 0]) h') : C_q168 [rV x wv vv pv, .int .u64 above, .int .i64 f] h K := by
  refine ok_q168 ?_
  unfold G_q168
  have hmax : u64ok (maxI above x.ballot) := by unfold maxI; split <;> assumption
  unfold rV rcells at *
  unfold startB startX startE at *
  (repeat' (first | (simp (maxSteps := 1000000) (disch := (first | omega | (simp only [sz]; done) | (simp only [lz, Nat.reduceAdd, Nat.reduceLeDiff, Nat.le_refl]; done) | (simp only [sz]; omega))) only [↓xa, xb, xl, Option.bind_some, Option.map_some, implies_true, imp_self, true_and, and_true, if_true, if_false, decide_true, decide_false, Int.cast_ofNat_Int, Int.reduceLT, Int.reduceLE, Int.reduceEq, Nat.reduceAdd, Nat.reduceMul, Nat.reduceLeDiff, setL, bfill, eqV, lookRes, h1, h2, h3]) | ((refine e_ifd _ _ _ (fun hc => ?_) (fun hc => ?_)) <;> first | (exfalso; omega) | (simp (maxSteps := 1000000) (disch := (first | omega | (simp only [sz]; done) | (simp only [lz, Nat.reduceAdd, Nat.reduceLeDiff, Nat.le_refl]; done) | (simp only [sz]; omega))) only [↓xa, xb, xl, Option.bind_some, Option.map_some, implies_true, imp_self, true_and, and_true, if_true, if_false, decide_true, decide_false, Int.cast_ofNat_Int, Int.reduceLT, Int.reduceLE, Int.reduceEq, Nat.reduceAdd, Nat.reduceMul, Nat.reduceLeDiff, setL, bfill, eqV, lookRes, h1, h2, h3, hc]) | skip) | ((refine e_ifn _ _ _ (fun hc => ?_) (fun hc => ?_)) <;> first | (exfalso; omega) | (simp (maxSteps := 1000000) (disch := (first | omega | (simp only [sz]; done) | (simp only [lz, Nat.reduceAdd, Nat.reduceLeDiff, Nat.le_refl]; done) | (simp only [sz]; omega))) only [↓xa, xb, xl, Option.bind_some, Option.map_some, implies_true, imp_self, true_and, and_true, if_true, if_false, decide_true, decide_false, Int.cast_ofNat_Int, Int.reduceLT, Int.reduceLE, Int.reduceEq, Nat.reduceAdd, Nat.reduceMul, Nat.reduceLeDiff, setL, bfill, eqV, lookRes, h1, h2, h3, hc]) | skip) | ((refine e_gd _ _ _ _ _ (fun hc => ?_) (fun hc => ?_)) <;> first | (exfalso; omega) | (simp (maxSteps := 1000000) (disch := (first | omega | (simp only [sz]; done) | (simp only [lz, Nat.reduceAdd, Nat.reduceLeDiff, Nat.le_refl]; done) | (simp only [sz]; omega))) only [↓xa, xb, xl, Option.bind_some, Option.map_some, implies_true, imp_self, true_and, and_true, if_true, if_false, decide_true, decide_false, Int.cast_ofNat_Int, Int.reduceLT, Int.reduceLE, Int.reduceEq, Nat.reduceAdd, Nat.reduceMul, Nat.reduceLeDiff, setL, bfill, eqV, lookRes, h1, h2, h3, hc]) | skip) | ((refine e_gn _ _ _ _ _ (fun hc => ?_) (fun hc => ?_)) <;> first | (exfalso; omega) | (simp (maxSteps := 1000000) (disch := (first | omega | (simp only [sz]; done) | (simp only [lz, Nat.reduceAdd, Nat.reduceLeDiff, Nat.le_refl]; done) | (simp only [sz]; omega))) only [↓xa, xb, xl, Option.bind_some, Option.map_some, implies_true, imp_self, true_and, and_true, if_true, if_false, decide_true, decide_false, Int.cast_ofNat_Int, Int.reduceLT, Int.reduceLE, Int.reduceEq, Nat.reduceAdd, Nat.reduceMul, Nat.reduceLeDiff, setL, bfill, eqV, lookRes, h1, h2, h3, hc]) | skip) | ((refine e_pd _ _ _ _ _ (fun hc => ?_) (fun hc => ?_)) <;> first | (exfalso; omega) | (simp (maxSteps := 1000000) (disch := (first | omega | (simp only [sz]; done) | (simp only [lz, Nat.reduceAdd, Nat.reduceLeDiff, Nat.le_refl]; done) | (simp only [sz]; omega))) only [↓xa, xb, xl, Option.bind_some, Option.map_some, implies_true, imp_self, true_and, and_true, if_true, if_false, decide_true, decide_false, Int.cast_ofNat_Int, Int.reduceLT, Int.reduceLE, Int.reduceEq, Nat.reduceAdd, Nat.reduceMul, Nat.reduceLeDiff, setL, bfill, eqV, lookRes, h1, h2, h3, hc]) | skip) | ((refine e_pn _ _ _ _ _ (fun hc => ?_) (fun hc => ?_)) <;> first | (exfalso; omega) | (simp (maxSteps := 1000000) (disch := (first | omega | (simp only [sz]; done) | (simp only [lz, Nat.reduceAdd, Nat.reduceLeDiff, Nat.le_refl]; done) | (simp only [sz]; omega))) only [↓xa, xb, xl, Option.bind_some, Option.map_some, implies_true, imp_self, true_and, and_true, if_true, if_false, decide_true, decide_false, Int.cast_ofNat_Int, Int.reduceLT, Int.reduceLE, Int.reduceEq, Nat.reduceAdd, Nat.reduceMul, Nat.reduceLeDiff, setL, bfill, eqV, lookRes, h1, h2, h3, hc]) | skip) | ((refine e_if2 _ _ _ (fun hc => ?_) (fun hc => ?_)) <;> first | (exfalso; omega) | (simp (maxSteps := 1000000) (disch := (first | omega | (simp only [sz]; done) | (simp only [lz, Nat.reduceAdd, Nat.reduceLeDiff, Nat.le_refl]; done) | (simp only [sz]; omega))) only [↓xa, xb, xl, Option.bind_some, Option.map_some, implies_true, imp_self, true_and, and_true, if_true, if_false, decide_true, decide_false, Int.cast_ofNat_Int, Int.reduceLT, Int.reduceLE, Int.reduceEq, Nat.reduceAdd, Nat.reduceMul, Nat.reduceLeDiff, setL, bfill, eqV, lookRes, h1, h2, h3, hc]) | skip) | ((refine e_g2 _ _ _ _ _ (fun hc => ?_) (fun hc => ?_)) <;> first | (exfalso; omega) | (simp (maxSteps := 1000000) (disch := (first | omega | (simp only [sz]; done) | (simp only [lz, Nat.reduceAdd, Nat.reduceLeDiff, Nat.le_refl]; done) | (simp only [sz]; omega))) only [↓xa, xb, xl, Option.bind_some, Option.map_some, implies_true, imp_self, true_and, and_true, if_true, if_false, decide_true, decide_false, Int.cast_ofNat_Int, Int.reduceLT, Int.reduceLE, Int.reduceEq, Nat.reduceAdd, Nat.reduceMul, Nat.reduceLeDiff, setL, bfill, eqV, lookRes, h1, h2, h3, hc]) | skip)))
  · rw [if_pos (by omega)] at hbad
    exact hbad (by decide) _ (by repeat' (first | with_reducible exact Upd.refl _ | with_reducible refine Upd.push ?_ _ | with_reducible refine Upd.set ?_ _ _ ?_ | exact .inl (by (first | omega | (simp only [sz]; done) | (simp only [lz, Nat.reduceAdd, Nat.reduceLeDiff, Nat.le_refl]; done) | (simp only [sz]; omega))) | exact .inr rfl | exact .inr (by simp; done)))
  · rw [if_pos (by omega)] at hbad
    exact hbad (by decide) _ (by repeat' (first | with_reducible exact Upd.refl _ | with_reducible refine Upd.push ?_ _ | with_reducible refine Upd.set ?_ _ _ ?_ | exact .inl (by (first | omega | (simp only [sz]; done) | (simp only [lz, Nat.reduceAdd, Nat.reduceLeDiff, Nat.le_refl]; done) | (simp only [sz]; omega))) | exact .inr rfl | exact .inr (by simp; done)))
  · rw [if_neg (by omega)] at hbad hok
    refine sp_r07Next hmax hm ?_
    by_cases he : nextE (maxI above x.ballot) x.me = 0
    · simp only [he, if_true, true_implies] at hok
      simp (maxSteps := 1000000) (disch := (first | omega | (simp only [sz]; done) | (simp only [lz, Nat.reduceAdd, Nat.reduceLeDiff, Nat.le_refl]; done) | (simp only [sz]; omega))) only [↓xa, xb, xl, Option.bind_some, Option.map_some, implies_true, imp_self, true_and, and_true, if_true, if_false, decide_true, decide_false, Int.cast_ofNat_Int, Int.reduceLT, Int.reduceLE, Int.reduceEq, Nat.reduceAdd, Nat.reduceMul, Nat.reduceLeDiff, setL, bfill, eqV, lookRes, he, h1, h2, h3]
      exact hok _ (by repeat' (first | with_reducible exact Upd.refl _ | with_reducible refine Upd.push ?_ _ | with_reducible refine Upd.set ?_ _ _ ?_ | exact .inl (by (first | omega | (simp only [sz]; done) | (simp only [lz, Nat.reduceAdd, Nat.reduceLeDiff, Nat.le_refl]; done) | (simp only [sz]; omega))) | exact .inr rfl | exact .inr (by simp; done)))
    · simp (maxSteps := 1000000) (disch := (first | omega | (simp only [sz]; done) | (simp only [lz, Nat.reduceAdd, Nat.reduceLeDiff, Nat.le_refl]; done) | (simp only [sz]; omega))) only [↓xa, xb, xl, Option.bind_some, Option.map_some, implies_true, imp_self, true_and, and_true, if_true, if_false, decide_true, decide_false, Int.cast_ofNat_Int, Int.reduceLT, Int.reduceLE, Int.reduceEq, Nat.reduceAdd, Nat.reduceMul, Nat.reduceLeDiff, setL, bfill, eqV, lookRes, decide_eq_false he, h1, h2, h3]
      exact hbad he _ (by repeat' (first | with_reducible exact Upd.refl _ | with_reducible refine Upd.push ?_ _ | with_reducible refine Upd.set ?_ _ _ ?_ | exact .inl (by (first | omega | (simp only [sz]; done) | (simp only [lz, Nat.reduceAdd, Nat.reduceLeDiff, Nat.le_refl]; done) | (simp only [sz]; omega))) | exact .inr rfl | exact .inr (by simp; done)))
theorem sp_r13Refuse {h : Hp} (hB : Base.b ≤ h.size) {x : LS} {wv vv pv : Value} (h1 : one wv = true) (h2 : one vv = true) (h3 : one pv = true) (b : Int) {K : Kont}
    (hno : refuseB x b = false → ∀ h', Ext h h' → K (.tuple #[rV x wv vv pv, .bool false]) h')
    (hyes : refuseB x b = true → ∀ h', Ext h h' → K (.tuple #[rV { x with state := 0 } (.slice none 0 0) (.slice none 0 0) (.slice none 0 0), .bool true]) h') : C_q156 [rV x wv vv pv, .int .u64 b] h K := by
  refine ok_q156 ?_
  unfold G_q156
  unfold rV rcells refuseB at *
  (repeat' (first | (simp (maxSteps := 1000000) (disch := (first | omega | (simp only [sz]; done) | (simp only [lz, Nat.reduceAdd, Nat.reduceLeDiff, Nat.le_refl]; done) | (simp only [sz]; omega))) only [↓xa, xb, xl, Option.bind_some, Option.map_some, implies_true, imp_self, true_and, and_true, if_true, if_false, decide_true, decide_false, Int.cast_ofNat_Int, Int.reduceLT, Int.reduceLE, Int.reduceEq, Nat.reduceAdd, Nat.reduceMul, Nat.reduceLeDiff, setL, bfill, eqV, lookRes, h1, h2, h3]) | ((refine e_ifd _ _ _ (fun hc => ?_) (fun hc => ?_)) <;> first | (exfalso; omega) | (simp (maxSteps := 1000000) (disch := (first | omega | (simp only [sz]; done) | (simp only [lz, Nat.reduceAdd, Nat.reduceLeDiff, Nat.le_refl]; done) | (simp only [sz]; omega))) only [↓xa, xb, xl, Option.bind_some, Option.map_some, implies_true, imp_self, true_and, and_true, if_true, if_false, decide_true, decide_false, Int.cast_ofNat_Int, Int.reduceLT, Int.reduceLE, Int.reduceEq, Nat.reduceAdd, Nat.reduceMul, Nat.reduceLeDiff, setL, bfill, eqV, lookRes, h1, h2, h3, hc]) | skip) | ((refine e_ifn _ _ _ (fun hc => ?_) (fun hc => ?_)) <;> first | (exfalso; omega) | (simp (maxSteps := 1000000) (disch := (first | omega | (simp only [sz]; done) | (simp only [lz, Nat.reduceAdd, Nat.reduceLeDiff, Nat.le_refl]; done) | (simp only [sz]; omega))) only [↓xa, xb, xl, Option.bind_some, Option.map_some, implies_true, imp_self, true_and, and_true, if_true, if_false, decide_true, decide_false, Int.cast_ofNat_Int, Int.reduceLT, Int.reduceLE, Int.reduceEq, Nat.reduceAdd, Nat.reduceMul, Nat.reduceLeDiff, setL, bfill, eqV, lookRes, h1, h2, h3, hc]) | skip) | ((refine e_gd _ _ _ _ _ (fun hc => ?_) (fun hc => ?_)) <;> first | (exfalso; omega) | (simp (maxSteps := 1000000) (disch := (first | omega | (simp only [sz]; done) | (simp only [lz, Nat.reduceAdd, Nat.reduceLeDiff, Nat.le_refl]; done) | (simp only [sz]; omega))) only [↓xa, xb, xl, Option.bind_some, Option.map_some, implies_true, imp_self, true_and, and_true, if_true, if_false, decide_true, decide_false, Int.cast_ofNat_Int, Int.reduceLT, Int.reduceLE, Int.reduceEq, Nat.reduceAdd, Nat.reduceMul, Nat.reduceLeDiff, setL, bfill, eqV, lookRes, h1, h2, h3, hc]) | skip) | ((refine e_gn _ _ _ _ _ (fun hc => ?_) (fun hc => ?_)) <;> first | (exfalso; omega) | (simp (maxSteps := 1000000) (disch := (first | omega | (simp only [sz]; done) | (simp only [lz, Nat.reduceAdd, Nat.reduceLeDiff, Nat.le_refl]; done) | (simp only [sz]; omega))) only [↓xa, xb, xl, Option.bind_some, Option.map_some, implies_true, imp_self, true_and, and_true, if_true, if_false, decide_true, decide_false, Int.cast_ofNat_Int, Int.reduceLT, Int.reduceLE, Int.reduceEq, Nat.reduceAdd, Nat.reduceMul, Nat.reduceLeDiff, setL, bfill, eqV, lookRes, h1, h2, h3, hc]) | skip) | ((refine e_pd _ _ _ _ _ (fun hc => ?_) (fun hc => ?_)) <;> first | (exfalso; omega) | (simp (maxSteps := 1000000) (disch := (first | omega | (simp only [sz]; done) | (simp only [lz, Nat.reduceAdd, Nat.reduceLeDiff, Nat.le_refl]; done) | (simp only [sz]; omega))) only [↓xa, xb, xl, Option.bind_some, Option.map_some, implies_true, imp_self, true_and, and_true, if_true, if_false, decide_true, decide_false, Int.cast_ofNat_Int, Int.reduceLT, Int.reduceLE, Int.reduceEq, Nat.reduceAdd, Nat.reduceMul, Nat.reduceLeDiff, setL, bfill, eqV, lookRes, h1, h2, h3, hc]) | skip) | ((refine e_pn _ _ _ _ _ (fun hc => ?_) (fun hc => ?_)) <;> first | (exfalso; omega) | (simp (maxSteps := 1000000) (disch := (first | omega | (simp only [sz]; done) | (simp only [lz, Nat.reduceAdd, Nat.reduceLeDiff, Nat.le_refl]; done) | (simp only [sz]; omega))) only [↓xa, xb, xl, Option.bind_some, Option.map_some, implies_true, imp_self, true_and, and_true, if_true, if_false, decide_true, decide_false, Int.cast_ofNat_Int, Int.reduceLT, Int.reduceLE, Int.reduceEq, Nat.reduceAdd, Nat.reduceMul, Nat.reduceLeDiff, setL, bfill, eqV, lookRes, h1, h2, h3, hc]) | skip) | ((refine e_if2 _ _ _ (fun hc => ?_) (fun hc => ?_)) <;> first | (exfalso; omega) | (simp (maxSteps := 1000000) (disch := (first | omega | (simp only [sz]; done) | (simp only [lz, Nat.reduceAdd, Nat.reduceLeDiff, Nat.le_refl]; done) | (simp only [sz]; omega))) only [↓xa, xb, xl, Option.bind_some, Option.map_some, implies_true, imp_self, true_and, and_true, if_true, if_false, decide_true, decide_false, Int.cast_ofNat_Int, Int.reduceLT, Int.reduceLE, Int.reduceEq, Nat.reduceAdd, Nat.reduceMul, Nat.reduceLeDiff, setL, bfill, eqV, lookRes, h1, h2, h3, hc]) | skip) | ((refine e_g2 _ _ _ _ _ (fun hc => ?_) (fun hc => ?_)) <;> first | (exfalso; omega) | (simp (maxSteps := 1000000) (disch := (first | omega | (simp only [sz]; done) | (simp only [lz, Nat.reduceAdd, Nat.reduceLeDiff, Nat.le_refl]; done) | (simp only [sz]; omega))) only [↓xa, xb, xl, Option.bind_some, Option.map_some, implies_true, imp_self, true_and, and_true, if_true, if_false, decide_true, decide_false, Int.cast_ofNat_Int, Int.reduceLT, Int.reduceLE, Int.reduceEq, Nat.reduceAdd, Nat.reduceMul, Nat.reduceLeDiff, setL, bfill, eqV, lookRes, h1, h2, h3, hc]) | skip)))
  all_goals first
    | exact hno (by simp only [decide_eq_false_iff_not]; omega) _ (by repeat' (first | with_reducible exact Upd.refl _ | with_reducible refine Upd.push ?_ _ | with_reducible refine Upd.set ?_ _ _ ?_ | exact .inl (by (first | omega | (simp only [sz]; done) | (simp only [lz, Nat.reduceAdd, Nat.reduceLeDiff, Nat.le_refl]; done) | (simp only [sz]; omega))) | exact .inr rfl | exact .inr (by simp; done)))
    | exact hyes (by simp only [decide_eq_true_eq]; omega) _ (by repeat' (first | with_reducible exact Upd.refl _ | with_reducible refine Upd.push ?_ _ | with_reducible refine Upd.set ?_ _ _ ?_ | exact .inl (by (first | omega | (simp only [sz]; done) | (simp only [lz, Nat.reduceAdd, Nat.reduceLeDiff, Nat.le_refl]; done) | (simp only [sz]; omega))) | exact .inr rfl | exact .inr (by simp; done)))
    | (have q := hno (by simp only [decide_eq_false_iff_not]; omega); rw [hc] at q; exact q _ (by repeat' (first | with_reducible exact Upd.refl _ | with_reducible refine Upd.push ?_ _ | with_reducible refine Upd.set ?_ _ _ ?_ | exact .inl (by (first | omega | (simp only [sz]; done) | (simp only [lz, Nat.reduceAdd, Nat.reduceLeDiff, Nat.le_refl]; done) | (simp only [sz]; omega))) | exact .inr rfl | exact .inr (by simp; done))))
def openR (x : LS) (ps : List RP) : List Vote := ps.map fun q => ⟨q.slot, x.ballot, q.cmd⟩
set_option maxHeartbeats 2000000 in
theorem sp_r13Open {h : Hp} (hB : Base.b ≤ h.size) {x : LS} {wv vv pv : Value} {ps : List RP} (hP : Sl h 6 pcells pv ps) (hl : ps.length ≤ 1000000) {K : Kont}
    (hK : ∀ v h', Ext h h' → Own h' h.size 6 vcells v (openR x ps) → K v h') : C_q176 [rV x wv vv pv] h K := by
  refine ok_q176 ?_
  unfold G_q176
  unfold rV rcells
  (try simp (maxSteps := 1000000) (disch := (first | omega | (simp only [sz]; done) | (simp only [lz, Nat.reduceAdd, Nat.reduceLeDiff, Nat.le_refl]; done) | (simp only [sz]; omega))) only [↓xa, xb, xl, Option.bind_some, Option.map_some, implies_true, imp_self, true_and, and_true, if_true, if_false, decide_true, decide_false, Int.cast_ofNat_Int, Int.reduceLT, Int.reduceLE, Int.reduceEq, Nat.reduceAdd, Nat.reduceMul, Nat.reduceLeDiff, setL, bfill, eqV, lookRes])
  have x1 : Ext h (h.push (.cells #[.int .i64 x.me, .int .i64 x.masters, .int .i64 x.state, .int .u64 x.ballot, .int .i64 x.frm, .int .i64 x.next, wv, vv, pv])) := (by repeat' (first | with_reducible exact Upd.refl _ | with_reducible refine Upd.push ?_ _ | with_reducible refine Upd.set ?_ _ _ ?_ | exact .inl (by (first | omega | (simp only [sz]; done) | (simp only [lz, Nat.reduceAdd, Nat.reduceLeDiff, Nat.le_refl]; done) | (simp only [sz]; omega))) | exact .inr rfl | exact .inr (by simp; done)))
  have hb1 : (h.push (.cells #[.int .i64 x.me, .int .i64 x.masters, .int .i64 x.state, .int .u64 x.ballot, .int .i64 x.frm, .int .i64 x.next, wv, vv, pv]))[h.size]? = some (.cells #[.int .i64 x.me, .int .i64 x.masters, .int .i64 x.state, .int .u64 x.ballot, .int .i64 x.frm, .int .i64 x.next, wv, vv, pv]) := g_push_eq rfl
  generalize h.push (.cells #[.int .i64 x.me, .int .i64 x.masters, .int .i64 x.state, .int .u64 x.ballot, .int .i64 x.frm, .int .i64 x.next, wv, vv, pv]) = h1 at *
  refine rule_q176_1 (fun v3 v4 h' => ∃ i : Nat, v4 = .int .i64 i ∧ i ≤ ps.length ∧ Ext h1 h' ∧ Own h' h1.size 6 vcells v3 (openR x (ps.take i))) (fun v3 v4 h' => ps.length - ival v4) ?_ _ _ _ _ ⟨0, rfl, Nat.zero_le _, Upd.refl _, Own.nil⟩
  rintro self v3 v4 d h' ⟨i, rfl, hi, y, o⟩ hself
  unfold B_q176_1
  have hb := y.get hb1 id
  have hS := hP.ext (x1.trans y)
  have hB' := (x1.trans y).hB hB
  by_cases hlt : i < ps.length
  · have lS := hS.lt pcells_len (by omega) (by decide)
    have htk : openR x (ps.take (i + 1)) = openR x (ps.take i) ++ [⟨(nth ps i).slot, x.ballot, (nth ps i).cmd⟩] := by
      rw [take_nth hlt]; simp [openR]
    have hle : (openR x (ps.take i)).length = i := by simp [openR]; omega
    have c0 := hS.cell0 pcells_len i hlt (by decide)
    have c1 := hS.part pcells_len i 1 4 hlt (by decide)
    generalize hq : nth ps i = q at htk c0 c1
    obtain ⟨qs, ⟨k1, k2, k3, k4⟩, qw⟩ := q
    simp only [pcells] at c0 c1
    have lb := lt_of_get hb
    simp (maxSteps := 1000000) (disch := (first | omega | (simp only [sz]; done) | (simp only [lz, Nat.reduceAdd, Nat.reduceLeDiff, Nat.le_refl]; done) | (simp only [sz]; omega))) only [↓xa, xb, xl, Option.bind_some, Option.map_some, implies_true, imp_self, true_and, and_true, if_true, if_false, decide_true, decide_false, Int.cast_ofNat_Int, Int.reduceLT, Int.reduceLE, Int.reduceEq, Nat.reduceAdd, Nat.reduceMul, Nat.reduceLeDiff, setL, bfill, eqV, lookRes, rdC_blk hb, ↓hS.len', decide_eq_true (Int.ofNat_lt.2 hlt), ↓hS.idx, c0, c1, List.drop_succ_cons, List.drop_zero, List.take_succ_cons, List.take_zero]
    refine Own.push1 o vcells_len vcells_one ⟨qs, x.ballot, ⟨k1, k2, k3, k4⟩⟩ ?_ hB' ?_ y.1 ?_ ?_
    · rfl
    · rfl
    · omega
    intro v' h3 o3 u3
    have y3 : Ext h1 h3 := y.ext u3 (Nat.le_refl _)
    have hb3 := y3.get hb1 id
    have hS3 := hP.ext (x1.trans y3)
    have d0 := hS3.cell0 pcells_len i hlt (by decide)
    have d1 := hS3.part pcells_len i 1 4 hlt (by decide)
    rw [hq] at d0 d1
    simp only [pcells] at d0 d1
    simp (maxSteps := 1000000) (disch := (first | omega | (simp only [sz]; done) | (simp only [lz, Nat.reduceAdd, Nat.reduceLeDiff, Nat.le_refl]; done) | (simp only [sz]; omega))) only [↓xa, xb, xl, Option.bind_some, Option.map_some, implies_true, imp_self, true_and, and_true, if_true, if_false, decide_true, decide_false, Int.cast_ofNat_Int, Int.reduceLT, Int.reduceLE, Int.reduceEq, Nat.reduceAdd, Nat.reduceMul, Nat.reduceLeDiff, setL, bfill, eqV, lookRes, rdC_blk hb3, d0, d1, List.drop_succ_cons, List.drop_zero, List.take_succ_cons, List.take_zero]
    exact hself _ _ _ _ ⟨i + 1, rfl, hlt, y3, by rw [htk]; exact o3⟩ (by simp only [ival_nat, isucc]; omega)
  · simp (maxSteps := 1000000) (disch := (first | omega | (simp only [sz]; done) | (simp only [lz, Nat.reduceAdd, Nat.reduceLeDiff, Nat.le_refl]; done) | (simp only [sz]; omega))) only [↓xa, xb, xl, Option.bind_some, Option.map_some, implies_true, imp_self, true_and, and_true, if_true, if_false, decide_true, decide_false, Int.cast_ofNat_Int, Int.reduceLT, Int.reduceLE, Int.reduceEq, Nat.reduceAdd, Nat.reduceMul, Nat.reduceLeDiff, setL, bfill, eqV, lookRes, rdC_blk hb, ↓hS.len', decide_eq_false (show ¬ (i : Int) < (ps.length : Int) by omega)]
    rw [List.take_of_length_le (by omega)] at o
    exact hK _ _ (x1.trans y) (o.low x1.1)
end Go.Proofs.Ytdolepapmpcpiaa

namespace Go.Proofs.Ytdolepapmpcpiaa
open Go Go.RowKit Go.Maps Go.Shelf
set_option linter.unusedSectionVars false
variable [Base]
set_option linter.unusedVariables false
set_option linter.unusedSimpArgs false
set_option maxRecDepth 10000
def rng (m : Int) : List Int := (List.range m.toNat).map fun (i : Nat) => (i : Int) + 1
def risM (vm : List (Int × LV)) (m : Int) : List LV := allKs vm (rng m)
theorem rng_succ {j : Int} (h : 1 ≤ j) : rng j = rng (j - 1) ++ [j] := by
  unfold rng
  obtain ⟨n, rfl⟩ : ∃ n : Nat, j = n + 1 := ⟨(j - 1).toNat, by omega⟩
  rw [show ((n : Int) + 1).toNat = n + 1 by omega, show ((n : Int) + 1 - 1).toNat = n by omega, List.range_succ, List.map_append]
  rfl
theorem rng_mem {m k : Int} : k ∈ rng m ↔ 1 ≤ k ∧ k ≤ m := by
  unfold rng
  rw [List.mem_map]
  constructor
  · rintro ⟨i, hi, rfl⟩
    rw [List.mem_range] at hi
    omega
  · rintro ⟨h1, h2⟩
    exact ⟨(k - 1).toNat, List.mem_range.2 (by omega), by omega⟩
def hits (vm : List (Int × LV)) (k : Int) : List LV := vm.filterMap fun e => if e.1 = k then some e.2 else none
theorem hits_mget {vm : List (Int × LV)} (hk : keysOk vm) (k : Int) : hits vm k = (mget vm k).toList := by
  induction vm with
  | nil => rfl
  | cons e r ih =>
    obtain ⟨j, y⟩ := e
    unfold keysOk at hk
    simp only [List.map_cons, List.nodup_cons] at hk
    have ih' := ih hk.2
    rw [mget_cons]
    unfold hits at ih' ⊢
    rw [List.filterMap_cons]
    by_cases h : j = k
    · subst h
      have : mget r j = none := by
        cases hg : mget r j with
        | none => rfl
        | some q => exact absurd (List.mem_map.2 ⟨_, mget_mem hg, rfl⟩) hk.1
      rw [ih', this]
      simp
    · simp only [if_neg h]
      rw [if_neg (fun e : k = j => h e.symm)]
      exact ih'
theorem risM_succ (vm : List (Int × LV)) {j : Int} (h : 1 ≤ j) : risM vm j = risM vm (j - 1) ++ (mget vm j).toList := by
  unfold risM
  rw [rng_succ h, allKs_snoc]
theorem hits_mem {vm : List (Int × LV)} {k : Int} {a : LV} (h : a ∈ hits vm k) : ∃ k, (k, a) ∈ vm := by
  obtain ⟨e, he, h2⟩ := List.mem_filterMap.1 h
  split at h2
  · cases h2; exact ⟨e.1, he⟩
  · cases h2
theorem nth_zip {ws : List Int} {vs : List LV} {i : Nat} (h1 : i < ws.length) (h2 : i < vs.length) : nth (ws.zip vs) i = (nth ws i, nth vs i) := by
  rw [nth_get (by simp; omega), nth_get h1, nth_get h2, List.getElem_zip]
theorem hits_take {vm : List (Int × LV)} {i : Nat} (h : i < vm.length) (k : Int) : hits (vm.take (i + 1)) k = hits (vm.take i) k ++ (if (nth vm i).1 = k then [(nth vm i).2] else []) := by
  unfold hits
  rw [take_nth h, List.filterMap_append]
  congr 1
  by_cases e : (nth vm i).1 = k <;> simp [e]
set_option maxHeartbeats 2000000 in
theorem sp_r13rising {h : Hp} (hB : Base.b ≤ h.size) {x : LS} {wv vv pv : Value} {ws : List Int} {vs : List LV} (hW : Sl h 1 icell wv ws) (hV : Sl h 1 lvc vv vs) (ho : ∀ a ∈ vs, one a.1 = true) (hlen : ws.length = vs.length) (hnd : ws.Nodup) (hl : ws.length ≤ 1000) (hm : 1 ≤ x.masters ∧ x.masters ≤ 5) {K : Kont}
    (hK : ∀ v h', Ext h h' → Own h' h.size 1 lvc v (risM (ws.zip vs) x.masters) → K v h') : C_q158 [rV x wv vv pv] h K := by
  refine ok_q158 ?_
  unfold G_q158
  unfold rV rcells
  (try simp (maxSteps := 1000000) (disch := (first | omega | (simp only [sz]; done) | (simp only [lz, Nat.reduceAdd, Nat.reduceLeDiff, Nat.le_refl]; done) | (simp only [sz]; omega))) only [↓xa, xb, xl, Option.bind_some, Option.map_some, implies_true, imp_self, true_and, and_true, if_true, if_false, decide_true, decide_false, Int.cast_ofNat_Int, Int.reduceLT, Int.reduceLE, Int.reduceEq, Nat.reduceAdd, Nat.reduceMul, Nat.reduceLeDiff, setL, bfill, eqV, lookRes])
  have x1 : Ext h (h.push (.cells #[.int .i64 x.me, .int .i64 x.masters, .int .i64 x.state, .int .u64 x.ballot, .int .i64 x.frm, .int .i64 x.next, wv, vv, pv])) := (by repeat' (first | with_reducible exact Upd.refl _ | with_reducible refine Upd.push ?_ _ | with_reducible refine Upd.set ?_ _ _ ?_ | exact .inl (by (first | omega | (simp only [sz]; done) | (simp only [lz, Nat.reduceAdd, Nat.reduceLeDiff, Nat.le_refl]; done) | (simp only [sz]; omega))) | exact .inr rfl | exact .inr (by simp; done)))
  have hb1 : (h.push (.cells #[.int .i64 x.me, .int .i64 x.masters, .int .i64 x.state, .int .u64 x.ballot, .int .i64 x.frm, .int .i64 x.next, wv, vv, pv]))[h.size]? = some (.cells #[.int .i64 x.me, .int .i64 x.masters, .int .i64 x.state, .int .u64 x.ballot, .int .i64 x.frm, .int .i64 x.next, wv, vv, pv]) := g_push_eq rfl
  generalize h.push (.cells #[.int .i64 x.me, .int .i64 x.masters, .int .i64 x.state, .int .u64 x.ballot, .int .i64 x.frm, .int .i64 x.next, wv, vv, pv]) = h1 at *
  obtain ⟨vm, hvm⟩ : ∃ vm, vm = ws.zip vs := ⟨_, rfl⟩
  have hkeys : vm.map (·.1) = ws := by rw [hvm, List.map_fst_zip (by omega)]
  have hko : keysOk vm := by unfold keysOk; rw [hkeys]; exact hnd
  have hvl : vm.length = ws.length := by rw [hvm]; simp; omega
  have hvo : ∀ a : LV, (∃ k, (k, a) ∈ vm) → one a.1 = true := fun a ⟨k, hk⟩ => ho a (by rw [hvm] at hk; exact (List.of_mem_zip hk).2)
  rw [← hvm] at hK
  have rlen : ∀ j : Int, j ≤ 5 → (risM vm j).length ≤ 5 := fun j hj => by
    have h1 := List.length_filterMap_le (mget vm) (rng j)
    have h2 : (rng j).length = j.toNat := by simp [rng]
    unfold risM allKs
    omega
  refine rule_q158_1 (fun v3 v4 h' => ∃ j : Int, v4 = .int .i64 j ∧ 1 ≤ j ∧ j ≤ x.masters + 1 ∧ Ext h1 h' ∧ Own h' h1.size 1 lvc v3 (risM vm (j - 1))) (fun v3 v4 h' => (x.masters + 1).toNat - ival v4) ?_ _ _ _ _ ⟨1, rfl, by omega, by omega, Upd.refl _, Own.nil⟩
  rintro self v3 v4 d h' ⟨j, rfl, j1, j2, y, o⟩ hself
  unfold B_q158_1
  have hb := y.get hb1 id
  by_cases hle : j ≤ x.masters
  rotate_left
  · simp (maxSteps := 1000000) (disch := (first | omega | (simp only [sz]; done) | (simp only [lz, Nat.reduceAdd, Nat.reduceLeDiff, Nat.le_refl]; done) | (simp only [sz]; omega))) only [↓xa, xb, xl, Option.bind_some, Option.map_some, implies_true, imp_self, true_and, and_true, if_true, if_false, decide_true, decide_false, Int.cast_ofNat_Int, Int.reduceLT, Int.reduceLE, Int.reduceEq, Nat.reduceAdd, Nat.reduceMul, Nat.reduceLeDiff, setL, bfill, eqV, lookRes, rdC_blk hb, decide_eq_false hle]
    rw [show j - 1 = x.masters by omega] at o
    exact hK _ _ (x1.trans y) (o.low x1.1)
  simp (maxSteps := 1000000) (disch := (first | omega | (simp only [sz]; done) | (simp only [lz, Nat.reduceAdd, Nat.reduceLeDiff, Nat.le_refl]; done) | (simp only [sz]; omega))) only [↓xa, xb, xl, Option.bind_some, Option.map_some, implies_true, imp_self, true_and, and_true, if_true, if_false, decide_true, decide_false, Int.cast_ofNat_Int, Int.reduceLT, Int.reduceLE, Int.reduceEq, Nat.reduceAdd, Nat.reduceMul, Nat.reduceLeDiff, setL, bfill, eqV, lookRes, rdC_blk hb, decide_eq_true hle]
  have hr0 := rlen (j - 1) (by omega)
  refine rule_q158_2 (fun v3 v5 h2 => ∃ i : Nat, v5 = .int .i64 i ∧ i ≤ ws.length ∧ Ext h1 h2 ∧ Own h2 h1.size 1 lvc v3 (risM vm (j - 1) ++ hits (vm.take i) j)) (fun v3 v5 h2 => ws.length - ival v5) ?_ _ _ _ _ ⟨0, rfl, Nat.zero_le _, y, by simpa [hits] using o⟩
  clear o hb y
  rintro self2 v3 v5 d h2 ⟨i, rfl, hi, y, o⟩ hself2
  unfold B_q158_2
  have hb := y.get hb1 id
  have hW2 := hW.ext (x1.trans y)
  have hV2 := hV.ext (x1.trans y)
  have hB2 := (x1.trans y).hB hB
  by_cases hlt : i < ws.length
  rotate_left
  · simp (maxSteps := 1000000) (disch := (first | omega | (simp only [sz]; done) | (simp only [lz, Nat.reduceAdd, Nat.reduceLeDiff, Nat.le_refl]; done) | (simp only [sz]; omega))) only [↓xa, xb, xl, Option.bind_some, Option.map_some, implies_true, imp_self, true_and, and_true, if_true, if_false, decide_true, decide_false, Int.cast_ofNat_Int, Int.reduceLT, Int.reduceLE, Int.reduceEq, Nat.reduceAdd, Nat.reduceMul, Nat.reduceLeDiff, setL, bfill, eqV, lookRes, rdC_blk hb, ↓hW2.len', decide_eq_false (show ¬ (i : Int) < (ws.length : Int) by omega)]
    rw [List.take_of_length_le (by omega), hits_mget hko, ← risM_succ vm j1] at o
    exact hself _ _ _ _ ⟨j + 1, rfl, by omega, by omega, y, by rw [show j + 1 - 1 = j by omega]; exact o⟩ (by simp only [ival]; omega)
  have htk := hits_take (vm := vm) (i := i) (by omega) j
  have hnz : nth vm i = (nth ws i, nth vs i) := by rw [hvm]; exact nth_zip hlt (by omega)
  rw [hnz] at htk
  simp only at htk
  have hhl : (hits (vm.take i) j).length ≤ i := by
    have h1 := List.length_filterMap_le (fun e : Int × LV => if e.1 = j then some e.2 else none) (vm.take i)
    have h2 := List.length_take_le i vm
    unfold hits
    omega
  have next : ∀ v3' d h3, Ext h1 h3 → Own h3 h1.size 1 lvc v3' (risM vm (j - 1) ++ hits (vm.take (i + 1)) j) → G_q158_3 K self self2 (pt h.size 0) v3' (.int .i64 j) (.int .i64 i) d h3 := by
    intro v3' d h3 y3 o3
    rw [req_q158_3]
    unfold R_q158_3
    (try simp (maxSteps := 1000000) (disch := (first | omega | (simp only [sz]; done) | (simp only [lz, Nat.reduceAdd, Nat.reduceLeDiff, Nat.le_refl]; done) | (simp only [sz]; omega))) only [↓xa, xb, xl, Option.bind_some, Option.map_some, implies_true, imp_self, true_and, and_true, if_true, if_false, decide_true, decide_false, Int.cast_ofNat_Int, Int.reduceLT, Int.reduceLE, Int.reduceEq, Nat.reduceAdd, Nat.reduceMul, Nat.reduceLeDiff, setL, bfill, eqV, lookRes])
    exact hself2 _ _ _ _ ⟨i + 1, rfl, hlt, y3, o3⟩ (by simp only [ival_nat, isucc]; omega)
  by_cases he : nth ws i = j
  · rw [if_pos he] at htk
    simp (maxSteps := 1000000) (disch := (first | omega | (simp only [sz]; done) | (simp only [lz, Nat.reduceAdd, Nat.reduceLeDiff, Nat.le_refl]; done) | (simp only [sz]; omega))) only [↓xa, xb, xl, Option.bind_some, Option.map_some, implies_true, imp_self, true_and, and_true, if_true, if_false, decide_true, decide_false, Int.cast_ofNat_Int, Int.reduceLT, Int.reduceLE, Int.reduceEq, Nat.reduceAdd, Nat.reduceMul, Nat.reduceLeDiff, setL, bfill, eqV, lookRes, rdC_blk hb, ↓hW2.len', decide_eq_true (Int.ofNat_lt.2 hlt), ↓hW2.idx, hW2.cell0 icell_len, Go.encZ, decide_eq_true he, ↓hV2.idx, hV2.cell0 lvc_len]
    have h1v : ∀ b ∈ (risM vm (j - 1) ++ hits (vm.take i) j) ++ [nth vs i], (lvc b).all one = true := by
      intro b hb
      rw [List.append_assoc, ← htk] at hb
      have : one b.1 = true := by
        rcases List.mem_append.1 hb with hb | hb
        · obtain ⟨k, hk⟩ := allKs_mem hb; exact hvo b ⟨k, hk⟩
        · obtain ⟨k, hk⟩ := hits_mem hb; exact hvo b ⟨k, List.mem_of_mem_take hk⟩
      simpa using this
    have hq1 : one (nth vs i).1 = true := ho _ (nth_mem (by omega))
    have hqc := one_cells hq1
    simp (maxSteps := 1000000) (disch := (first | omega | (simp only [sz]; done) | (simp only [lz, Nat.reduceAdd, Nat.reduceLeDiff, Nat.le_refl]; done) | (simp only [sz]; omega))) only [↓xa, xb, xl, Option.bind_some, Option.map_some, implies_true, imp_self, true_and, and_true, if_true, if_false, decide_true, decide_false, Int.cast_ofNat_Int, Int.reduceLT, Int.reduceLE, Int.reduceEq, Nat.reduceAdd, Nat.reduceMul, Nat.reduceLeDiff, setL, bfill, eqV, lookRes, hqc]
    refine Own.pushV o lvc_len (nth vs i) h1v ?_ hB2 ?_ y.1 ?_ ?_
    · rfl
    · rfl
    · simp; omega
    intro v' h3 o3 u3
    refine next _ _ _ (y.ext u3 (Nat.le_refl _)) ?_
    rw [htk, ← List.append_assoc]
    exact o3
  · rw [if_neg he, List.append_nil] at htk
    simp (maxSteps := 1000000) (disch := (first | omega | (simp only [sz]; done) | (simp only [lz, Nat.reduceAdd, Nat.reduceLeDiff, Nat.le_refl]; done) | (simp only [sz]; omega))) only [↓xa, xb, xl, Option.bind_some, Option.map_some, implies_true, imp_self, true_and, and_true, if_true, if_false, decide_true, decide_false, Int.cast_ofNat_Int, Int.reduceLT, Int.reduceLE, Int.reduceEq, Nat.reduceAdd, Nat.reduceMul, Nat.reduceLeDiff, setL, bfill, eqV, lookRes, rdC_blk hb, ↓hW2.len', decide_eq_true (Int.ofNat_lt.2 hlt), ↓hW2.idx, hW2.cell0 icell_len, Go.encZ, decide_eq_false he]
    exact next _ _ _ y (by rw [htk]; exact o)
end Go.Proofs.Ytdolepapmpcpiaa

namespace Go.Proofs.Ytdolepapmpcpiaa
open Go Go.RowKit Go.Maps Go.Shelf
set_option linter.unusedSectionVars false
variable [Base]
set_option linter.unusedVariables false
set_option linter.unusedSimpArgs false
set_option maxRecDepth 10000
def moreR (best : List Vote) (s : Int) : Bool := best.any fun v => decide (s ≤ v.slot ∧ v.slot < 512)
def fillR (f : Int) (best : List Vote) (n : Nat) : List RP := (List.range n).map fun (j : Nat) => ⟨f + (j : Int), ((atL best (f + (j : Int))).getD vote0).cmd, (.slice none 0 0, [])⟩
theorem fillR_succ (f : Int) (best : List Vote) (n : Nat) : fillR f best (n + 1) = fillR f best n ++ [⟨f + n, ((atL best (f + n)).getD vote0).cmd, (.slice none 0 0, [])⟩] := by
  unfold fillR
  rw [List.range_succ, List.map_append]
  rfl
theorem fillR_len (f : Int) (best : List Vote) (n : Nat) : (fillR f best n).length = n := by simp [fillR]
theorem fillR_who {f : Int} {best : List Vote} {n : Nat} {q : RP} (h : q ∈ fillR f best n) : q.who = (.slice none 0 0, []) := by
  unfold fillR at h
  obtain ⟨j, _, rfl⟩ := List.mem_map.1 h
  rfl
def refWs (ws : List Int) (who : Int) : List Int := if who ∈ ws then ws else ws ++ [who]
def refVs (ws : List Int) (vs : List LV) (who : Int) (a : LV) : List LV := if who ∈ ws then vs else vs ++ [a]
theorem sp_r13PromiseBad {h : Hp} (hB : Base.b ≤ h.size) {x : LS} {wv vv pv : Value} (h1 : one wv = true) (h2 : one vv = true) (h3 : one pv = true) (b who : Int) (va : Value) (hbad : ¬ ((x.state = 1 ∧ x.ballot = b) ∧ 1 ≤ who ∧ who ≤ x.masters)) {K : Kont}
    (hK : ∀ h', Ext h h' → K (.tuple #[rV x wv vv pv, .slice none 0 0, .bool false]) h') : C_q144 [rV x wv vv pv, .int .u64 b, .int .i64 who, va] h K := by
  refine ok_q144 ?_
  unfold G_q144
  unfold rV rcells at *
  by_cases c1 : x.state = 1
  · by_cases c2 : x.ballot = b
    · by_cases c3 : who < 1
      · simp (maxSteps := 1000000) (disch := (first | omega | (simp only [sz]; done) | (simp only [lz, Nat.reduceAdd, Nat.reduceLeDiff, Nat.le_refl]; done) | (simp only [sz]; omega))) only [↓xa, xb, xl, Option.bind_some, Option.map_some, implies_true, imp_self, true_and, and_true, if_true, if_false, decide_true, decide_false, Int.cast_ofNat_Int, Int.reduceLT, Int.reduceLE, Int.reduceEq, Nat.reduceAdd, Nat.reduceMul, Nat.reduceLeDiff, setL, bfill, eqV, lookRes, decide_eq_true c1, decide_eq_true c2, decide_eq_true c3, h1, h2, h3]
        exact hK _ (by repeat' (first | with_reducible exact Upd.refl _ | with_reducible refine Upd.push ?_ _ | with_reducible refine Upd.set ?_ _ _ ?_ | exact .inl (by (first | omega | (simp only [sz]; done) | (simp only [lz, Nat.reduceAdd, Nat.reduceLeDiff, Nat.le_refl]; done) | (simp only [sz]; omega))) | exact .inr rfl | exact .inr (by simp; done)))
      · have c4 : x.masters < who := by omega
        simp (maxSteps := 1000000) (disch := (first | omega | (simp only [sz]; done) | (simp only [lz, Nat.reduceAdd, Nat.reduceLeDiff, Nat.le_refl]; done) | (simp only [sz]; omega))) only [↓xa, xb, xl, Option.bind_some, Option.map_some, implies_true, imp_self, true_and, and_true, if_true, if_false, decide_true, decide_false, Int.cast_ofNat_Int, Int.reduceLT, Int.reduceLE, Int.reduceEq, Nat.reduceAdd, Nat.reduceMul, Nat.reduceLeDiff, setL, bfill, eqV, lookRes, decide_eq_true c1, decide_eq_true c2, decide_eq_false c3, decide_eq_true c4, h1, h2, h3]
        exact hK _ (by repeat' (first | with_reducible exact Upd.refl _ | with_reducible refine Upd.push ?_ _ | with_reducible refine Upd.set ?_ _ _ ?_ | exact .inl (by (first | omega | (simp only [sz]; done) | (simp only [lz, Nat.reduceAdd, Nat.reduceLeDiff, Nat.le_refl]; done) | (simp only [sz]; omega))) | exact .inr rfl | exact .inr (by simp; done)))
    · simp (maxSteps := 1000000) (disch := (first | omega | (simp only [sz]; done) | (simp only [lz, Nat.reduceAdd, Nat.reduceLeDiff, Nat.le_refl]; done) | (simp only [sz]; omega))) only [↓xa, xb, xl, Option.bind_some, Option.map_some, implies_true, imp_self, true_and, and_true, if_true, if_false, decide_true, decide_false, Int.cast_ofNat_Int, Int.reduceLT, Int.reduceLE, Int.reduceEq, Nat.reduceAdd, Nat.reduceMul, Nat.reduceLeDiff, setL, bfill, eqV, lookRes, decide_eq_true c1, decide_eq_false c2, h1, h2, h3]
      exact hK _ (by repeat' (first | with_reducible exact Upd.refl _ | with_reducible refine Upd.push ?_ _ | with_reducible refine Upd.set ?_ _ _ ?_ | exact .inl (by (first | omega | (simp only [sz]; done) | (simp only [lz, Nat.reduceAdd, Nat.reduceLeDiff, Nat.le_refl]; done) | (simp only [sz]; omega))) | exact .inr rfl | exact .inr (by simp; done)))
  · simp (maxSteps := 1000000) (disch := (first | omega | (simp only [sz]; done) | (simp only [lz, Nat.reduceAdd, Nat.reduceLeDiff, Nat.le_refl]; done) | (simp only [sz]; omega))) only [↓xa, xb, xl, Option.bind_some, Option.map_some, implies_true, imp_self, true_and, and_true, if_true, if_false, decide_true, decide_false, Int.cast_ofNat_Int, Int.reduceLT, Int.reduceLE, Int.reduceEq, Nat.reduceAdd, Nat.reduceMul, Nat.reduceLeDiff, setL, bfill, eqV, lookRes, decide_eq_false c1, h1, h2, h3]
    exact hK _ (by repeat' (first | with_reducible exact Upd.refl _ | with_reducible refine Upd.push ?_ _ | with_reducible refine Upd.set ?_ _ _ ?_ | exact .inl (by (first | omega | (simp only [sz]; done) | (simp only [lz, Nat.reduceAdd, Nat.reduceLeDiff, Nat.le_refl]; done) | (simp only [sz]; omega))) | exact .inr rfl | exact .inr (by simp; done)))
def Lo (n : Nat) (v : Value) : Prop := ∀ b, blk v = some b → b < n
def Nw (h h' : Hp) (v v0 : Value) : Prop := ∀ b, blk v = some b → (h.size ≤ b ∧ b < h'.size) ∨ blk v0 = some b
theorem moreR_top (best : List Vote) : moreR best 512 = false := by
  unfold moreR
  rw [List.any_eq_false]
  intro v _
  simp only [decide_eq_true_eq]
  omega
set_option maxHeartbeats 4000000 in
theorem sp_r13Promise {h : Hp} (hB : Base.b ≤ h.size) {x : LS} {wv vv : Value} {ws : List Int} {vs : List LV} (hW : Sl h 1 icell wv ws) (hV : Sll h vv vs) (hlw : Lo h.size wv) (hlv : Lo h.size vv) (hlen : ws.length = vs.length) (hnd : ws.Nodup) (hws : ∀ k ∈ ws, 1 ≤ k ∧ k ≤ x.masters) (hvl : ∀ a ∈ vs, a.2.length ≤ 100000)
    (hm : 1 ≤ x.masters ∧ x.masters ≤ 5) (hn : x.next = x.frm) (hf : 0 ≤ x.frm ∧ x.frm ≤ 512) {b who : Int} (hok : (x.state = 1 ∧ x.ballot = b) ∧ 1 ≤ who ∧ who ≤ x.masters) {va : Value} {vl : List Vote} (hS : Sl h 6 vcells va vl) (hl : vl.length ≤ 100000) {K : Kont}
    (hno : enoughQ (memQ (refWs ws who)) x.masters = false → ∀ h' wv' vv', Ext h h' → Sl h' 1 icell wv' (refWs ws who) → Sl h' 1 lvc vv' (refVs ws vs who (va, vl)) → Nw h h' wv' wv → Nw h h' vv' vv →
      K (.tuple #[rV x wv' vv' (.slice none 0 0), .slice none 0 0, .bool false]) h')
    (hyes : let best := rBestL (votesOf (risM ((refWs ws who).zip (refVs ws vs who (va, vl))) x.masters)); enoughQ (memQ (refWs ws who)) x.masters = true → ∀ n : Nat, (∀ j : Nat, j < n → moreR best (x.frm + j) = true) → moreR best (x.frm + n) = false → x.frm + n ≤ 512 →
      ∀ h' wv' vv' pv' w, Ext h h' → Sl h' 1 icell wv' (refWs ws who) → Sl h' 1 lvc vv' (refVs ws vs who (va, vl)) → Nw h h' wv' wv → Nw h h' vv' vv →
      Own h' h.size 6 pcells pv' (fillR x.frm best n) → Own h' h.size 6 vcells w (openR { x with state := 2, next := x.frm + n } (fillR x.frm best n)) →
      K (.tuple #[rV { x with state := 2, next := x.frm + n } wv' vv' pv', w, .bool true]) h') :
    C_q144 [rV x wv vv (.slice none 0 0), .int .u64 b, .int .i64 who, va] h K := by
  refine ok_q144 ?_
  unfold G_q144
  unfold rV rcells at *
  have h1 := sl_one hW
  have hvv := sl_one hV.1
  have hva := sl_one hS
  have hmm : isM x.masters := isM_of hm.1 hm.2
  have hl5 : ws.length ≤ 5 := nodup_le (n := 5) hnd (fun k hk => by have := hws k hk; omega)
  simp (maxSteps := 1000000) (disch := (first | omega | (simp only [sz]; done) | (simp only [lz, Nat.reduceAdd, Nat.reduceLeDiff, Nat.le_refl]; done) | (simp only [sz]; omega))) only [↓xa, xb, xl, Option.bind_some, Option.map_some, implies_true, imp_self, true_and, and_true, if_true, if_false, decide_true, decide_false, Int.cast_ofNat_Int, Int.reduceLT, Int.reduceLE, Int.reduceEq, Nat.reduceAdd, Nat.reduceMul, Nat.reduceLeDiff, setL, bfill, eqV, lookRes, decide_eq_true hok.1.1, decide_eq_true hok.1.2, decide_eq_false (show ¬ who < 1 by omega), decide_eq_false (show ¬ x.masters < who by omega)]
  have x2 : Ext h ((h.push (.cells #[.int .i64 x.me, .int .i64 x.masters, .int .i64 x.state, .int .u64 x.ballot, .int .i64 x.frm, .int .i64 x.next, wv, vv, .slice none 0 0])).push (.cells #[.int .i64 0, .int .i64 0, .int .i64 0, .int .u64 0, .int .i64 0, .int .i64 0, .slice none 0 0, .slice none 0 0, .slice none 0 0])) := (by repeat' (first | with_reducible exact Upd.refl _ | with_reducible refine Upd.push ?_ _ | with_reducible refine Upd.set ?_ _ _ ?_ | exact .inl (by (first | omega | (simp only [sz]; done) | (simp only [lz, Nat.reduceAdd, Nat.reduceLeDiff, Nat.le_refl]; done) | (simp only [sz]; omega))) | exact .inr rfl | exact .inr (by simp; done)))
  have hb2 : ((h.push (.cells #[.int .i64 x.me, .int .i64 x.masters, .int .i64 x.state, .int .u64 x.ballot, .int .i64 x.frm, .int .i64 x.next, wv, vv, .slice none 0 0])).push (.cells #[.int .i64 0, .int .i64 0, .int .i64 0, .int .u64 0, .int .i64 0, .int .i64 0, .slice none 0 0, .slice none 0 0, .slice none 0 0]))[h.size]? = some (.cells #[.int .i64 x.me, .int .i64 x.masters, .int .i64 x.state, .int .u64 x.ballot, .int .i64 x.frm, .int .i64 x.next, wv, vv, .slice none 0 0]) := by rw [g_push_lt (by simp), g_push_eq rfl]
  have hr2 : ((h.push (.cells #[.int .i64 x.me, .int .i64 x.masters, .int .i64 x.state, .int .u64 x.ballot, .int .i64 x.frm, .int .i64 x.next, wv, vv, .slice none 0 0])).push (.cells #[.int .i64 0, .int .i64 0, .int .i64 0, .int .u64 0, .int .i64 0, .int .i64 0, .slice none 0 0, .slice none 0 0, .slice none 0 0]))[h.size + 1]? = some (.cells #[.int .i64 0, .int .i64 0, .int .i64 0, .int .u64 0, .int .i64 0, .int .i64 0, .slice none 0 0, .slice none 0 0, .slice none 0 0]) := by rw [g_push_eq (by simp)]
  have z2 : ((h.push (.cells #[.int .i64 x.me, .int .i64 x.masters, .int .i64 x.state, .int .u64 x.ballot, .int .i64 x.frm, .int .i64 x.next, wv, vv, .slice none 0 0])).push (.cells #[.int .i64 0, .int .i64 0, .int .i64 0, .int .u64 0, .int .i64 0, .int .i64 0, .slice none 0 0, .slice none 0 0, .slice none 0 0])).size = h.size + 2 := by simp
  generalize (h.push (.cells #[.int .i64 x.me, .int .i64 x.masters, .int .i64 x.state, .int .u64 x.ballot, .int .i64 x.frm, .int .i64 x.next, wv, vv, .slice none 0 0])).push (.cells #[.int .i64 0, .int .i64 0, .int .i64 0, .int .u64 0, .int .i64 0, .int .i64 0, .slice none 0 0, .slice none 0 0, .slice none 0 0]) = h2 at *
  have hel : ∀ a ∈ refVs ws vs who (va, vl), Sl h 6 vcells a.1 a.2 := by
    intro a ha
    unfold refVs at ha
    split at ha
    · exact hV.2 a ha
    · rcases List.mem_append.1 ha with ha | ha
      · exact hV.2 a ha
      · rw [List.mem_singleton] at ha; subst ha; exact hS
  -- behind the laying in
  have after : ∀ (h3 : Hp) (wv' vv' : Value) d, Ext h h3 → h.size + 2 ≤ h3.size → Sl h3 1 icell wv' (refWs ws who) → Sl h3 1 lvc vv' (refVs ws vs who (va, vl)) → (∀ b, blk wv' = some b → (h.size + 2 ≤ b ∧ b < h3.size) ∨ blk wv = some b) → (∀ b, blk vv' = some b → (h.size + 2 ≤ b ∧ b < h3.size) ∨ blk vv = some b) →
      h3[h.size]? = some (.cells #[.int .i64 x.me, .int .i64 x.masters, .int .i64 x.state, .int .u64 x.ballot, .int .i64 x.frm, .int .i64 x.next, wv', vv', .slice none 0 0]) → h3[h.size + 1]? = some (.cells #[.int .i64 0, .int .i64 0, .int .i64 0, .int .u64 0, .int .i64 0, .int .i64 0, .slice none 0 0, .slice none 0 0, .slice none 0 0]) → G_q144_1 K (pt h.size 0) (pt (h.size + 1) 0) d h3 := by
    intro h3 wv' vv' d x3 z3 hW3 hV3 hbw hbv hb3 hr3
    rw [req_q144_1]
    unfold R_q144_1
    have k1 := sl_one hW3
    have k2 := sl_one hV3
    have lr3 := lt_of_get hr3
    have lb3 := lt_of_get hb3
    have hB3 := x3.hB hB
    have hws' : ∀ k ∈ refWs ws who, 1 ≤ k ∧ k ≤ x.masters := by
      intro k hk
      unfold refWs at hk
      split at hk
      · exact hws k hk
      · rcases List.mem_append.1 hk with hk | hk
        · exact hws k hk
        · rw [List.mem_singleton] at hk; subst hk; exact hok.2
    have hnd' : (refWs ws who).Nodup := by
      unfold refWs
      split
      · exact hnd
      · rename_i hno
        rw [List.nodup_append]
        refine ⟨hnd, by simp, ?_⟩
        intro a ha b hb
        rw [List.mem_singleton] at hb
        subst hb
        exact fun e => hno (e ▸ ha)
    have hl5' : (refWs ws who).length ≤ 5 := nodup_le (n := 5) hnd' (fun k hk => by have := hws' k hk; omega)
    have hlen' : (refWs ws who).length = (refVs ws vs who (va, vl)).length := by
      unfold refWs refVs
      split <;> simp [hlen]
    have hvl' : ∀ a ∈ refVs ws vs who (va, vl), a.2.length ≤ 100000 := by
      intro a ha
      unfold refVs at ha
      split at ha
      · exact hvl a ha
      · rcases List.mem_append.1 ha with ha | ha
        · exact hvl a ha
        · rw [List.mem_singleton] at ha; subst ha; exact hl
    generalize refWs ws who = ws' at *
    generalize refVs ws vs who (va, vl) = vs' at *
    have hoff : ∀ b, (b = h.size ∨ b = h.size + 1) → ∀ v, (v = wv' ∨ v = vv') → blk v = some b → False := by
      rintro b hb v (rfl | rfl) hv
      · rcases hbw b hv with h | h
        · omega
        · have := hlw b h; omega
      · rcases hbv b hv with h | h
        · omega
        · have := hlv b h; omega
    have keepW : ∀ {H : Hp}, Upd (fun b => b = h.size ∨ b = h.size + 1) h3 H → Sl H 1 icell wv' ws' := fun u => hW3.upd u (fun b hb hs => hoff b hs _ (.inl rfl) hb)
    have keepV : ∀ {H : Hp}, Upd (fun b => b = h.size ∨ b = h.size + 1) h3 H → Sl H 1 lvc vv' vs' := fun u => hV3.upd u (fun b hb hs => hoff b hs _ (.inr rfl) hb)
    have nwW : ∀ {H : Hp}, h3.size ≤ H.size → Nw h H wv' wv := fun hz b hb => (hbw b hb).imp (fun h => ⟨by omega, by omega⟩) id
    have nwV : ∀ {H : Hp}, h3.size ≤ H.size → Nw h H vv' vv := fun hz b hb => (hbv b hb).imp (fun h => ⟨by omega, by omega⟩) id
    simp (maxSteps := 1000000) (disch := (first | omega | (simp only [sz]; done) | (simp only [lz, Nat.reduceAdd, Nat.reduceLeDiff, Nat.le_refl]; done) | (simp only [sz]; omega))) only [↓xa, xb, xl, Option.bind_some, Option.map_some, implies_true, imp_self, true_and, and_true, if_true, if_false, decide_true, decide_false, Int.cast_ofNat_Int, Int.reduceLT, Int.reduceLE, Int.reduceEq, Nat.reduceAdd, Nat.reduceMul, Nat.reduceLeDiff, setL, bfill, eqV, lookRes, rdC_blk hb3]
    refine sp_r13enough hW3 (by omega) (fun k hk => isM_of (hws' k hk).1 (by have := hws' k hk; omega)) x.masters hmm ?_
    cases he : enoughQ (memQ ws') x.masters with
    | false =>
      simp (maxSteps := 1000000) (disch := (first | omega | (simp only [sz]; done) | (simp only [lz, Nat.reduceAdd, Nat.reduceLeDiff, Nat.le_refl]; done) | (simp only [sz]; omega))) only [↓xa, xb, xl, Option.bind_some, Option.map_some, implies_true, imp_self, true_and, and_true, if_true, if_false, decide_true, decide_false, Int.cast_ofNat_Int, Int.reduceLT, Int.reduceLE, Int.reduceEq, Nat.reduceAdd, Nat.reduceMul, Nat.reduceLeDiff, setL, bfill, eqV, lookRes, rdN_all hb3, b_blk hr3, k1, k2]
      exact hno he _ wv' vv' (by repeat' (first | with_reducible exact Upd.refl _ | with_reducible exact x3 | with_reducible refine Upd.push ?_ _ | with_reducible refine Upd.set ?_ _ _ ?_ | exact .inl (by (first | omega | (simp only [sz]; done) | (simp only [lz, Nat.reduceAdd, Nat.reduceLeDiff, Nat.le_refl]; done) | (simp only [sz]; omega))) | exact .inr rfl | exact .inr (by simp; done))) (keepW (Upd.set (Upd.refl _) _ _ (.inr (.inr rfl)))) (keepV (Upd.set (Upd.refl _) _ _ (.inr (.inr rfl)))) (nwW (by simp)) (nwV (by simp))
    | true =>
      simp (maxSteps := 1000000) (disch := (first | omega | (simp only [sz]; done) | (simp only [lz, Nat.reduceAdd, Nat.reduceLeDiff, Nat.le_refl]; done) | (simp only [sz]; omega))) only [↓xa, xb, xl, Option.bind_some, Option.map_some, implies_true, imp_self, true_and, and_true, if_true, if_false, decide_true, decide_false, Int.cast_ofNat_Int, Int.reduceLT, Int.reduceLE, Int.reduceEq, Nat.reduceAdd, Nat.reduceMul, Nat.reduceLeDiff, setL, bfill, eqV, lookRes, b_blk hb3, k1, k2]
      have u4 : Upd (fun b => b = h.size ∨ b = h.size + 1) h3 (h3.setIfInBounds h.size (.cells #[.int .i64 x.me, .int .i64 x.masters, .int .i64 2, .int .u64 x.ballot, .int .i64 x.frm, .int .i64 x.next, wv', vv', .slice none 0 0])) := Upd.set (Upd.refl _) _ _ (.inr (.inl rfl))
      have hb4 : (h3.setIfInBounds h.size (.cells #[.int .i64 x.me, .int .i64 x.masters, .int .i64 2, .int .u64 x.ballot, .int .i64 x.frm, .int .i64 x.next, wv', vv', .slice none 0 0]))[h.size]? = some (.cells #[.int .i64 x.me, .int .i64 x.masters, .int .i64 2, .int .u64 x.ballot, .int .i64 x.frm, .int .i64 x.next, wv', vv', .slice none 0 0]) := g_set_eq lb3 rfl
      have hr4 : (h3.setIfInBounds h.size (.cells #[.int .i64 x.me, .int .i64 x.masters, .int .i64 2, .int .u64 x.ballot, .int .i64 x.frm, .int .i64 x.next, wv', vv', .slice none 0 0]))[h.size + 1]? = some (.cells #[.int .i64 0, .int .i64 0, .int .i64 0, .int .u64 0, .int .i64 0, .int .i64 0, .slice none 0 0, .slice none 0 0, .slice none 0 0]) := by rw [g_set_ne (by omega)]; exact hr3
      have x4 : Ext h (h3.setIfInBounds h.size (.cells #[.int .i64 x.me, .int .i64 x.masters, .int .i64 2, .int .u64 x.ballot, .int .i64 x.frm, .int .i64 x.next, wv', vv', .slice none 0 0])) := (by repeat' (first | with_reducible exact Upd.refl _ | with_reducible exact x3 | with_reducible refine Upd.push ?_ _ | with_reducible refine Upd.set ?_ _ _ ?_ | exact .inl (by (first | omega | (simp only [sz]; done) | (simp only [lz, Nat.reduceAdd, Nat.reduceLeDiff, Nat.le_refl]; done) | (simp only [sz]; omega))) | exact .inr rfl | exact .inr (by simp; done)))
      generalize h3.setIfInBounds h.size (.cells #[.int .i64 x.me, .int .i64 x.masters, .int .i64 2, .int .u64 x.ballot, .int .i64 x.frm, .int .i64 x.next, wv', vv', .slice none 0 0]) = h4 at *
      have hB4 := x4.hB hB
      have z4 := u4.1
      have hvo : ∀ a ∈ vs', one a.1 = true := fun a ha => sl_one (hel a ha)
      refine sp_r13rising (x := { x with state := 2 }) hB4 (keepW u4) (keepV u4) hvo hlen' hnd' (by omega) hm ?_
      intro v5 h5 x5 o5
      change Own h5 h4.size 1 lvc v5 (risM (ws'.zip vs') x.masters) at o5
      have hmem : ∀ a ∈ risM (ws'.zip vs') x.masters, a ∈ vs' := fun a ha => by
        obtain ⟨k, hk⟩ := allKs_mem ha
        exact (List.of_mem_zip hk).2
      have hrl : (risM (ws'.zip vs') x.masters).length ≤ 5 := by
        have h1 := List.length_filterMap_le (mget (ws'.zip vs')) (rng x.masters)
        have h2 : (rng x.masters).length = x.masters.toNat := by simp [rng]
        unfold risM allKs
        omega
      have htot := votesOf_len (risM (ws'.zip vs') x.masters) (fun a ha => hvl' a (hmem a ha))
      have hB5 := x5.hB hB4
      refine sp_rBest hB5 ⟨o5.sl, fun a ha => (hel a (hmem a ha)).ext (x4.trans x5)⟩ (by omega) (by omega) ?_
      intro v6 h6 x6 o6
      dsimp only at hyes
      have hbl := rBestL_len (votesOf (risM (ws'.zip vs') x.masters))
      have hbest : (rBestL (votesOf (risM (ws'.zip vs') x.masters))).length ≤ 500000 := by omega
      generalize rBestL (votesOf (risM (ws'.zip vs') x.masters)) = best at *
      have hb6 := (x5.trans x6).get hb4 id
      have hr6 := (x5.trans x6).get hr4 id
      have z5 := x5.1
      have z6 := x6.1
      simp (maxSteps := 1000000) (disch := (first | omega | (simp only [sz]; done) | (simp only [lz, Nat.reduceAdd, Nat.reduceLeDiff, Nat.le_refl]; done) | (simp only [sz]; omega))) only [↓xa, xb, xl, Option.bind_some, Option.map_some, implies_true, imp_self, true_and, and_true, if_true, if_false, decide_true, decide_false, Int.cast_ofNat_Int, Int.reduceLT, Int.reduceLE, Int.reduceEq, Nat.reduceAdd, Nat.reduceMul, Nat.reduceLeDiff, setL, bfill, eqV, lookRes, rdC_blk hb6]
      -- the end
      have fin : ∀ (n : Nat) (pvn : Value) (H : Hp) d, x.frm + n ≤ 512 → Upd (fun b => b = h.size ∨ b = h.size + 1) h6 H → H[h.size]? = some (.cells #[.int .i64 x.me, .int .i64 x.masters, .int .i64 2, .int .u64 x.ballot, .int .i64 x.frm, .int .i64 (x.frm + n), wv', vv', pvn]) → H[h.size + 1]? = some (.cells #[.int .i64 0, .int .i64 0, .int .i64 0, .int .u64 0, .int .i64 0, .int .i64 0, .slice none 0 0, .slice none 0 0, .slice none 0 0]) → Own H h6.size 6 pcells pvn (fillR x.frm best n) →
          (∀ j : Nat, j < n → moreR best (x.frm + j) = true) → moreR best (x.frm + n) = false → G_q144_4 K (pt h.size 0) (pt (h.size + 1) 0) d H := by
        intro n pvn H d hn5 uH hbH hrH oH hm1 hm2
        rw [req_q144_4]
        unfold R_q144_4
        have k3 := own_one oH
        have xH : Ext h H := Upd.fresh ((x4.trans x5).trans x6) uH (fun r hr => .inl (by omega))
        have hBH := xH.hB hB
        simp (maxSteps := 1000000) (disch := (first | omega | (simp only [sz]; done) | (simp only [lz, Nat.reduceAdd, Nat.reduceLeDiff, Nat.le_refl]; done) | (simp only [sz]; omega))) only [↓xa, xb, xl, Option.bind_some, Option.map_some, implies_true, imp_self, true_and, and_true, if_true, if_false, decide_true, decide_false, Int.cast_ofNat_Int, Int.reduceLT, Int.reduceLE, Int.reduceEq, Nat.reduceAdd, Nat.reduceMul, Nat.reduceLeDiff, setL, bfill, eqV, lookRes, rdN_all hbH]
        refine sp_r13Open (x := { x with state := 2, next := x.frm + n }) hBH oH.sl (by rw [fillR_len]; omega) ?_
        intro w h8 x8 o8
        have hb8 := x8.get hbH id
        have hr8 := x8.get hrH id
        have lr8 := lt_of_get hr8
        have x08 := xH.trans x8
        have z8 := x8.1
        have zH := uH.1
        simp (maxSteps := 1000000) (disch := (first | omega | (simp only [sz]; done) | (simp only [lz, Nat.reduceAdd, Nat.reduceLeDiff, Nat.le_refl]; done) | (simp only [sz]; omega))) only [↓xa, xb, xl, Option.bind_some, Option.map_some, implies_true, imp_self, true_and, and_true, if_true, if_false, decide_true, decide_false, Int.cast_ofNat_Int, Int.reduceLT, Int.reduceLE, Int.reduceEq, Nat.reduceAdd, Nat.reduceMul, Nat.reduceLeDiff, setL, bfill, eqV, lookRes, rdN_all hb8, b_blk hr8, k1, k2, k3]
        have u9 : Upd (fun b => b = h.size ∨ b = h.size + 1) h8 (h8.setIfInBounds (h.size + 1) (.cells #[.int .i64 x.me, .int .i64 x.masters, .int .i64 2, .int .u64 x.ballot, .int .i64 x.frm, .int .i64 (x.frm + n), wv', vv', pvn])) := Upd.set (Upd.refl _) _ _ (.inr (.inr rfl))
        have uall : Upd (fun b => b = h.size ∨ b = h.size + 1) h3 (h8.setIfInBounds (h.size + 1) (.cells #[.int .i64 x.me, .int .i64 x.masters, .int .i64 2, .int .u64 x.ballot, .int .i64 x.frm, .int .i64 (x.frm + n), wv', vv', pvn])) := u4.trans ((x5.lift.trans x6.lift).trans (uH.trans (x8.lift.trans u9)))
        refine hyes he n hm1 hm2 hn5 _ wv' vv' pvn w (by repeat' (first | with_reducible exact Upd.refl _ | with_reducible exact x08 | with_reducible refine Upd.push ?_ _ | with_reducible refine Upd.set ?_ _ _ ?_ | exact .inl (by (first | omega | (simp only [sz]; done) | (simp only [lz, Nat.reduceAdd, Nat.reduceLeDiff, Nat.le_refl]; done) | (simp only [sz]; omega))) | exact .inr rfl | exact .inr (by simp; done))) (keepW uall) (keepV uall) (nwW uall.1) (nwV uall.1) ?_ ?_
        · refine ((oH.ext x8).upd u9 (fun b hb hs => ?_)).low (by omega)
          have := oH.blk_ge hb
          have := x4.1
          omega
        · refine (o8.upd u9 (fun b hb hs => ?_)).low (by have := xH.1; omega)
          have := o8.blk_ge hb
          omega
      refine rule_q144_2 (fun v12 H => ∃ (n : Nat) (pvn : Value), v12 = .int .i64 (x.frm + n) ∧ x.frm + n ≤ 512 ∧ Upd (fun b => b = h.size ∨ b = h.size + 1) h6 H ∧ H[h.size]? = some (.cells #[.int .i64 x.me, .int .i64 x.masters, .int .i64 2, .int .u64 x.ballot, .int .i64 x.frm, .int .i64 (x.frm + n), wv', vv', pvn]) ∧ H[h.size + 1]? = some (.cells #[.int .i64 0, .int .i64 0, .int .i64 0, .int .u64 0, .int .i64 0, .int .i64 0, .slice none 0 0, .slice none 0 0, .slice none 0 0]) ∧ Own H h6.size 6 pcells pvn (fillR x.frm best n) ∧ (∀ j : Nat, j < n → moreR best (x.frm + j) = true)) (fun v12 H => 512 - ival v12) ?_ _ _ _
        ⟨0, .slice none 0 0, by simp, by simp; exact hf.2, Upd.refl _, by rw [hn] at hb6; simpa using hb6, hr6, Own.nil, fun j hj => by omega⟩
      rintro self v12 d H ⟨n, pvn, rfl, hn5, uH, hbH, hrH, oH, hm1⟩ hself
      unfold B_q144_2
      by_cases hlt : x.frm + (n : Int) < 512
      rotate_left
      · simp (maxSteps := 1000000) (disch := (first | omega | (simp only [sz]; done) | (simp only [lz, Nat.reduceAdd, Nat.reduceLeDiff, Nat.le_refl]; done) | (simp only [sz]; omega))) only [↓xa, xb, xl, Option.bind_some, Option.map_some, implies_true, imp_self, true_and, and_true, if_true, if_false, decide_true, decide_false, Int.cast_ofNat_Int, Int.reduceLT, Int.reduceLE, Int.reduceEq, Nat.reduceAdd, Nat.reduceMul, Nat.reduceLeDiff, setL, bfill, eqV, lookRes, decide_eq_false hlt]
        refine fin n pvn H _ hn5 uH hbH hrH oH hm1 ?_
        rw [show x.frm + (n : Int) = 512 by omega, moreR_top]
      simp (maxSteps := 1000000) (disch := (first | omega | (simp only [sz]; done) | (simp only [lz, Nat.reduceAdd, Nat.reduceLeDiff, Nat.le_refl]; done) | (simp only [sz]; omega))) only [↓xa, xb, xl, Option.bind_some, Option.map_some, implies_true, imp_self, true_and, and_true, if_true, if_false, decide_true, decide_false, Int.cast_ofNat_Int, Int.reduceLT, Int.reduceLE, Int.reduceEq, Nat.reduceAdd, Nat.reduceMul, Nat.reduceLeDiff, setL, bfill, eqV, lookRes, decide_eq_true hlt]
      have s6 : Sl H 6 vcells v6 best := o6.sl.upd uH (fun b hb hs => by have := o6.blk_ge hb; omega)
      refine rule_q144_3 (fun v13 v14 H2 => ∃ i : Nat, v14 = .int .i64 i ∧ i ≤ best.length ∧ H2 = H ∧ v13 = .bool ((best.take i).any fun v => decide (x.frm + n ≤ v.slot ∧ v.slot < 512))) (fun v13 v14 H2 => best.length - ival v14) ?_ _ _ _ _ ⟨0, rfl, Nat.zero_le _, rfl, rfl⟩
      rintro self2 v13 v14 d H2 ⟨i, rfl, hi, rfl, rfl⟩ hself2
      unfold B_q144_3
      have lbH := lt_of_get hbH
      have lrH := lt_of_get hrH
      have hBH : Base.b ≤ H2.size := by have := uH.1; omega
      by_cases hil : i < best.length
      · have hrow := s6.cell0 vcells_len i hil (by decide)
        have htk := take_nth hil
        generalize nth best i = v at hrow htk
        obtain ⟨vs0, vb, vc⟩ := v
        simp only [vcells, List.getElem?_cons_zero] at hrow
        have next : ∀ c d', c = ((best.take (i + 1)).any fun v => decide (x.frm + n ≤ v.slot ∧ v.slot < 512)) → self2 (E_q144_3 (pt h.size 0) (pt (h.size + 1) 0) v6 (.int .i64 (x.frm + n)) (.bool c) (.int .i64 (((i + 1 : Nat) : Int))) d') H2 := by
          rintro c d' rfl
          exact hself2 _ _ _ _ ⟨i + 1, rfl, hil, rfl, rfl⟩ (by simp only [ival_nat]; omega)
        rw [htk, List.any_append] at next
        simp only [List.any_cons, List.any_nil, Bool.or_false] at next
        cases hq : (best.take i).any fun v => decide (x.frm + n ≤ v.slot ∧ v.slot < 512) with
        | true =>
          simp (maxSteps := 1000000) (disch := (first | omega | (simp only [sz]; done) | (simp only [lz, Nat.reduceAdd, Nat.reduceLeDiff, Nat.le_refl]; done) | (simp only [sz]; omega))) only [↓xa, xb, xl, Option.bind_some, Option.map_some, implies_true, imp_self, true_and, and_true, if_true, if_false, decide_true, decide_false, Int.cast_ofNat_Int, Int.reduceLT, Int.reduceLE, Int.reduceEq, Nat.reduceAdd, Nat.reduceMul, Nat.reduceLeDiff, setL, bfill, eqV, lookRes, ↓s6.len', decide_eq_true (Int.ofNat_lt.2 hil)]
          exact next _ _ (by rw [hq]; rfl)
        | false =>
          rw [hq, Bool.false_or] at next
          by_cases c1 : x.frm + (n : Int) ≤ vs0
          · by_cases c2 : vs0 < 512
            · simp (maxSteps := 1000000) (disch := (first | omega | (simp only [sz]; done) | (simp only [lz, Nat.reduceAdd, Nat.reduceLeDiff, Nat.le_refl]; done) | (simp only [sz]; omega))) only [↓xa, xb, xl, Option.bind_some, Option.map_some, implies_true, imp_self, true_and, and_true, if_true, if_false, decide_true, decide_false, Int.cast_ofNat_Int, Int.reduceLT, Int.reduceLE, Int.reduceEq, Nat.reduceAdd, Nat.reduceMul, Nat.reduceLeDiff, setL, bfill, eqV, lookRes, ↓s6.len', decide_eq_true (Int.ofNat_lt.2 hil), ↓s6.idx, hrow, decide_eq_true c1, decide_eq_true c2]
              exact next _ _ (decide_eq_true ⟨c1, c2⟩).symm
            · simp (maxSteps := 1000000) (disch := (first | omega | (simp only [sz]; done) | (simp only [lz, Nat.reduceAdd, Nat.reduceLeDiff, Nat.le_refl]; done) | (simp only [sz]; omega))) only [↓xa, xb, xl, Option.bind_some, Option.map_some, implies_true, imp_self, true_and, and_true, if_true, if_false, decide_true, decide_false, Int.cast_ofNat_Int, Int.reduceLT, Int.reduceLE, Int.reduceEq, Nat.reduceAdd, Nat.reduceMul, Nat.reduceLeDiff, setL, bfill, eqV, lookRes, ↓s6.len', decide_eq_true (Int.ofNat_lt.2 hil), ↓s6.idx, hrow, decide_eq_true c1, decide_eq_false c2]
              exact next _ _ (decide_eq_false (fun h => c2 h.2)).symm
          · simp (maxSteps := 1000000) (disch := (first | omega | (simp only [sz]; done) | (simp only [lz, Nat.reduceAdd, Nat.reduceLeDiff, Nat.le_refl]; done) | (simp only [sz]; omega))) only [↓xa, xb, xl, Option.bind_some, Option.map_some, implies_true, imp_self, true_and, and_true, if_true, if_false, decide_true, decide_false, Int.cast_ofNat_Int, Int.reduceLT, Int.reduceLE, Int.reduceEq, Nat.reduceAdd, Nat.reduceMul, Nat.reduceLeDiff, setL, bfill, eqV, lookRes, ↓s6.len', decide_eq_true (Int.ofNat_lt.2 hil), ↓s6.idx, hrow, decide_eq_false c1]
            exact next _ _ (decide_eq_false (fun h => c1 h.1)).symm
      · rw [List.take_of_length_le (by omega)]
        cases hq : best.any fun v => decide (x.frm + n ≤ v.slot ∧ v.slot < 512) with
        | false =>
          simp (maxSteps := 1000000) (disch := (first | omega | (simp only [sz]; done) | (simp only [lz, Nat.reduceAdd, Nat.reduceLeDiff, Nat.le_refl]; done) | (simp only [sz]; omega))) only [↓xa, xb, xl, Option.bind_some, Option.map_some, implies_true, imp_self, true_and, and_true, if_true, if_false, decide_true, decide_false, Int.cast_ofNat_Int, Int.reduceLT, Int.reduceLE, Int.reduceEq, Nat.reduceAdd, Nat.reduceMul, Nat.reduceLeDiff, setL, bfill, eqV, lookRes, ↓s6.len', decide_eq_false (show ¬ (i : Int) < (best.length : Int) by omega)]
          exact fin n pvn H2 _ hn5 uH hbH hrH oH hm1 hq
        | true =>
          simp (maxSteps := 1000000) (disch := (first | omega | (simp only [sz]; done) | (simp only [lz, Nat.reduceAdd, Nat.reduceLeDiff, Nat.le_refl]; done) | (simp only [sz]; omega))) only [↓xa, xb, xl, Option.bind_some, Option.map_some, implies_true, imp_self, true_and, and_true, if_true, if_false, decide_true, decide_false, Int.cast_ofNat_Int, Int.reduceLT, Int.reduceLE, Int.reduceEq, Nat.reduceAdd, Nat.reduceMul, Nat.reduceLeDiff, setL, bfill, eqV, lookRes, ↓s6.len', decide_eq_false (show ¬ (i : Int) < (best.length : Int) by omega)]
          refine sp_At hBH s6 (by omega) (x.frm + n) ?_
          intro h8 x8
          have hfs := fillR_succ x.frm best n
          generalize (atL best (x.frm + n)).getD vote0 = v at hfs
          obtain ⟨v1, v2, c1, c2, c3, c4⟩ := v
          have hb8 := x8.get hbH id
          have hr8 := x8.get hrH id
          have lb8 := lt_of_get hb8
          have lr8 := lt_of_get hr8
          have z8 := x8.1
          have hB8 := x8.hB hBH
          have zH := uH.1
          unfold voteV
          simp (maxSteps := 1000000) (disch := (first | omega | (simp only [sz]; done) | (simp only [lz, Nat.reduceAdd, Nat.reduceLeDiff, Nat.le_refl]; done) | (simp only [sz]; omega))) only [↓xa, xb, xl, Option.bind_some, Option.map_some, implies_true, imp_self, true_and, and_true, if_true, if_false, decide_true, decide_false, Int.cast_ofNat_Int, Int.reduceLT, Int.reduceLE, Int.reduceEq, Nat.reduceAdd, Nat.reduceMul, Nat.reduceLeDiff, setL, bfill, eqV, lookRes, rdC_blk hb8, List.drop_succ_cons, List.drop_zero, List.take_succ_cons, List.take_zero]
          have x9 : Ext h8 ((h8.push (.cells #[.int .i64 0, .int .u64 0, .int .i64 0, .int .i64 0, .int .u64 0, .int .i64 0])).setIfInBounds h8.size (.cells #[.int .i64 v1, .int .u64 v2, .int .i64 c1, .int .i64 c2, .int .u64 c3, .int .i64 c4])) := (by repeat' (first | with_reducible exact Upd.refl _ | with_reducible refine Upd.push ?_ _ | with_reducible refine Upd.set ?_ _ _ ?_ | exact .inl (by (first | omega | (simp only [sz]; done) | (simp only [lz, Nat.reduceAdd, Nat.reduceLeDiff, Nat.le_refl]; done) | (simp only [sz]; omega))) | exact .inr rfl | exact .inr (by simp; done)))
          have l9 : ((h8.push (.cells #[.int .i64 0, .int .u64 0, .int .i64 0, .int .i64 0, .int .u64 0, .int .i64 0])).setIfInBounds h8.size (.cells #[.int .i64 v1, .int .u64 v2, .int .i64 c1, .int .i64 c2, .int .u64 c3, .int .i64 c4])).size = h8.size + 1 := by simp
          generalize (h8.push (.cells #[.int .i64 0, .int .u64 0, .int .i64 0, .int .i64 0, .int .u64 0, .int .i64 0])).setIfInBounds h8.size (.cells #[.int .i64 v1, .int .u64 v2, .int .i64 c1, .int .i64 c2, .int .u64 c3, .int .i64 c4]) = h9 at *
          rw [← l9]
          have hb9 := x9.get hb8 id
          have hr9 := x9.get hr8 id
          have o9 := (oH.ext x8).ext x9
          have hpo : ∀ q ∈ fillR x.frm best n ++ [⟨x.frm + n, ⟨c1, c2, c3, c4⟩, (.slice none 0 0, [])⟩], (pcells q).all one = true := by
            intro q hq
            rw [← hfs] at hq
            refine pcells_one ?_
            rw [fillR_who hq]
            rfl
          refine Own.pushV o9 pcells_len ⟨x.frm + n, ⟨c1, c2, c3, c4⟩, (.slice none 0 0, [])⟩ hpo ?_ (x9.hB hB8) ?_ (by have := x9.1; omega) ?_ ?_
          · rfl
          · rfl
          · rw [fillR_len]; omega
          intro pv' h10 o10 u10
          rw [← hfs] at o10
          have z10 := u10.1
          have U10 : Upd (fun b => b = h.size ∨ b = h.size + 1) h6 h10 := Upd.fresh (uH.trans (x8.lift.trans x9.lift)) u10 (fun r hr => .inl hr)
          have hb10 := u10.get hb9 (by omega)
          have hr10 := u10.get hr9 (by omega)
          have lb10 := lt_of_get hb10
          have k10 := own_one o10
          have kc10 := one_cells k10
          simp (maxSteps := 1000000) (disch := (first | omega | (simp only [sz]; done) | (simp only [lz, Nat.reduceAdd, Nat.reduceLeDiff, Nat.le_refl]; done) | (simp only [sz]; omega))) only [↓xa, xb, xl, Option.bind_some, Option.map_some, implies_true, imp_self, true_and, and_true, if_true, if_false, decide_true, decide_false, Int.cast_ofNat_Int, Int.reduceLT, Int.reduceLE, Int.reduceEq, Nat.reduceAdd, Nat.reduceMul, Nat.reduceLeDiff, setL, bfill, eqV, lookRes, b_blk hb10, k1, k2, k10, kc10]
          refine hself _ _ _ ⟨n + 1, pv', by congr 1; omega, by omega, Upd.set (Upd.set U10 _ _ (.inr (.inl rfl))) _ _ (.inr (.inl rfl)), ?_, ?_, ?_, ?_⟩ ?_
          · rw [g_set_eq (by simpa using lb10) rfl, show x.frm + ((n + 1 : Nat) : Int) = x.frm + n + 1 by omega]
          · rw [g_set_ne (by omega), g_set_ne (by omega)]; exact hr10
          · have ub : Upd (fun b => b = h.size) h10 ((h10.setIfInBounds h.size (.cells #[.int .i64 x.me, .int .i64 x.masters, .int .i64 2, .int .u64 x.ballot, .int .i64 x.frm, .int .i64 (x.frm + n), wv', vv', pv'])).setIfInBounds h.size (.cells #[.int .i64 x.me, .int .i64 x.masters, .int .i64 2, .int .u64 x.ballot, .int .i64 x.frm, .int .i64 (x.frm + n + 1), wv', vv', pv'])) := (by repeat' (first | with_reducible exact Upd.refl _ | with_reducible refine Upd.push ?_ _ | with_reducible refine Upd.set ?_ _ _ ?_ | exact .inl (by (first | omega | (simp only [sz]; done) | (simp only [lz, Nat.reduceAdd, Nat.reduceLeDiff, Nat.le_refl]; done) | (simp only [sz]; omega))) | exact .inr rfl | exact .inr (by simp; done)))
            exact o10.upd ub (fun b hb hs => by have := o10.blk_ge hb; omega)
          · intro j hj
            by_cases hjn : j = n
            · subst hjn; exact hq
            · exact hm1 j (by omega)
          · simp only [ival]; omega
  -- who is there
  refine sp_r04Has (hW.ext x2) (by omega) who ?_
  have hB2 := x2.hB hB
  by_cases hin : who ∈ ws
  · simp (maxSteps := 1000000) (disch := (first | omega | (simp only [sz]; done) | (simp only [lz, Nat.reduceAdd, Nat.reduceLeDiff, Nat.le_refl]; done) | (simp only [sz]; omega))) only [↓xa, xb, xl, Option.bind_some, Option.map_some, implies_true, imp_self, true_and, and_true, if_true, if_false, decide_true, decide_false, Int.cast_ofNat_Int, Int.reduceLT, Int.reduceLE, Int.reduceEq, Nat.reduceAdd, Nat.reduceMul, Nat.reduceLeDiff, setL, bfill, eqV, lookRes, decide_eq_true hin]
    refine after h2 wv vv _ x2 (by omega) ?_ ?_ (fun b hb => .inr hb) (fun b hb => .inr hb) hb2 hr2
    · unfold refWs; rw [if_pos hin]; exact hW.ext x2
    · unfold refVs; rw [if_pos hin]; exact hV.1.ext x2
  · have e1 : refWs ws who = ws ++ [who] := by unfold refWs; rw [if_neg hin]
    have e2 : refVs ws vs who (va, vl) = vs ++ [(va, vl)] := by unfold refVs; rw [if_neg hin]
    rw [e1, e2] at after
    simp (maxSteps := 1000000) (disch := (first | omega | (simp only [sz]; done) | (simp only [lz, Nat.reduceAdd, Nat.reduceLeDiff, Nat.le_refl]; done) | (simp only [sz]; omega))) only [↓xa, xb, xl, Option.bind_some, Option.map_some, implies_true, imp_self, true_and, and_true, if_true, if_false, decide_true, decide_false, Int.cast_ofNat_Int, Int.reduceLT, Int.reduceLE, Int.reduceEq, Nat.reduceAdd, Nat.reduceMul, Nat.reduceLeDiff, setL, bfill, eqV, lookRes, decide_eq_false hin, rdC_blk hb2]
    refine Own.append (base := h2.size) (bytes := 8) Own.nil icell_len icell_one hB2 ?_ (hW.ext x2) (Nat.le_refl _) (by simp; omega) ?_
    · rfl
    intro v3 h3 o3 u3
    rw [List.nil_append] at o3
    have x3 : Ext h2 h3 := Upd.ext (Upd.refl _) u3 (Nat.le_refl _)
    have hB3 := x3.hB hB2
    (try simp (maxSteps := 1000000) (disch := (first | omega | (simp only [sz]; done) | (simp only [lz, Nat.reduceAdd, Nat.reduceLeDiff, Nat.le_refl]; done) | (simp only [sz]; omega))) only [↓xa, xb, xl, Option.bind_some, Option.map_some, implies_true, imp_self, true_and, and_true, if_true, if_false, decide_true, decide_false, Int.cast_ofNat_Int, Int.reduceLT, Int.reduceLE, Int.reduceEq, Nat.reduceAdd, Nat.reduceMul, Nat.reduceLeDiff, setL, bfill, eqV, lookRes])
    refine Own.push1 (bytes := 8) o3 icell_len icell_one who ?_ hB3 ?_ x3.1 (by omega) ?_
    · rfl
    · rfl
    intro v4 h4 o4 u4
    have x4 : Ext h2 h4 := x3.ext u4 (Nat.le_refl _)
    have hB4 := x4.hB hB2
    have hb4 := x4.get hb2 id
    have hr4 := x4.get hr2 id
    have lb4 := lt_of_get hb4
    have k4 := own_one o4
    have kc4 := one_cells k4
    simp (maxSteps := 1000000) (disch := (first | omega | (simp only [sz]; done) | (simp only [lz, Nat.reduceAdd, Nat.reduceLeDiff, Nat.le_refl]; done) | (simp only [sz]; omega))) only [↓xa, xb, xl, Option.bind_some, Option.map_some, implies_true, imp_self, true_and, and_true, if_true, if_false, decide_true, decide_false, Int.cast_ofNat_Int, Int.reduceLT, Int.reduceLE, Int.reduceEq, Nat.reduceAdd, Nat.reduceMul, Nat.reduceLeDiff, setL, bfill, eqV, lookRes, b_blk hb4, k4, kc4, h1, hvv]
    have hb5 : (h4.setIfInBounds h.size (.cells #[.int .i64 x.me, .int .i64 x.masters, .int .i64 x.state, .int .u64 x.ballot, .int .i64 x.frm, .int .i64 x.next, v4, vv, .slice none 0 0]))[h.size]? = some (.cells #[.int .i64 x.me, .int .i64 x.masters, .int .i64 x.state, .int .u64 x.ballot, .int .i64 x.frm, .int .i64 x.next, v4, vv, .slice none 0 0]) := g_set_eq lb4 rfl
    have hr5 : (h4.setIfInBounds h.size (.cells #[.int .i64 x.me, .int .i64 x.masters, .int .i64 x.state, .int .u64 x.ballot, .int .i64 x.frm, .int .i64 x.next, v4, vv, .slice none 0 0]))[h.size + 1]? = some (.cells #[.int .i64 0, .int .i64 0, .int .i64 0, .int .u64 0, .int .i64 0, .int .i64 0, .slice none 0 0, .slice none 0 0, .slice none 0 0]) := by rw [g_set_ne (by omega)]; exact hr4
    have u5 : Upd (fun b => b = h.size) h4 (h4.setIfInBounds h.size (.cells #[.int .i64 x.me, .int .i64 x.masters, .int .i64 x.state, .int .u64 x.ballot, .int .i64 x.frm, .int .i64 x.next, v4, vv, .slice none 0 0])) := (by repeat' (first | with_reducible exact Upd.refl _ | with_reducible refine Upd.push ?_ _ | with_reducible refine Upd.set ?_ _ _ ?_ | exact .inl (by (first | omega | (simp only [sz]; done) | (simp only [lz, Nat.reduceAdd, Nat.reduceLeDiff, Nat.le_refl]; done) | (simp only [sz]; omega))) | exact .inr rfl | exact .inr (by simp; done)))
    have x5 : Ext h (h4.setIfInBounds h.size (.cells #[.int .i64 x.me, .int .i64 x.masters, .int .i64 x.state, .int .u64 x.ballot, .int .i64 x.frm, .int .i64 x.next, v4, vv, .slice none 0 0])) := (by repeat' (first | with_reducible exact Upd.refl _ | with_reducible exact (x2.trans x4) | with_reducible refine Upd.push ?_ _ | with_reducible refine Upd.set ?_ _ _ ?_ | exact .inl (by (first | omega | (simp only [sz]; done) | (simp only [lz, Nat.reduceAdd, Nat.reduceLeDiff, Nat.le_refl]; done) | (simp only [sz]; omega))) | exact .inr rfl | exact .inr (by simp; done)))
    generalize h4.setIfInBounds h.size (.cells #[.int .i64 x.me, .int .i64 x.masters, .int .i64 x.state, .int .u64 x.ballot, .int .i64 x.frm, .int .i64 x.next, v4, vv, .slice none 0 0]) = h5 at *
    have hB5 := x5.hB hB
    have z4 := x4.1
    have z5 := u5.1
    refine Own.appendV (base := h5.size) (bytes := 24) Own.nil lvc_len (fun a ha => by have := sl_one (hV.2 a ha); simpa using this) hB5 ?_ (hV.1.ext x5) (Nat.le_refl _) (by simp; omega) ?_
    · rfl
    intro v6 h6 o6 u6
    rw [List.nil_append] at o6
    have x6 : Ext h5 h6 := Upd.ext (Upd.refl _) u6 (Nat.le_refl _)
    have hB6 := x6.hB hB5
    have hcva := one_cells hva
    simp (maxSteps := 1000000) (disch := (first | omega | (simp only [sz]; done) | (simp only [lz, Nat.reduceAdd, Nat.reduceLeDiff, Nat.le_refl]; done) | (simp only [sz]; omega))) only [↓xa, xb, xl, Option.bind_some, Option.map_some, implies_true, imp_self, true_and, and_true, if_true, if_false, decide_true, decide_false, Int.cast_ofNat_Int, Int.reduceLT, Int.reduceLE, Int.reduceEq, Nat.reduceAdd, Nat.reduceMul, Nat.reduceLeDiff, setL, bfill, eqV, lookRes, hcva]
    have hpo : ∀ q ∈ vs ++ [(va, vl)], (lvc q).all one = true := by
      intro q hq
      rcases List.mem_append.1 hq with hq | hq
      · have := sl_one (hV.2 q hq); simpa using this
      · rw [List.mem_singleton] at hq; subst hq; simpa using hva
    refine Own.pushV o6 lvc_len (va, vl) hpo ?_ hB6 ?_ x6.1 (by omega) ?_
    · rfl
    · rfl
    intro v7 h7 o7 u7
    have x7 : Ext h5 h7 := x6.ext u7 (Nat.le_refl _)
    have hb7 := x7.get hb5 id
    have hr7 := x7.get hr5 id
    have lb7 := lt_of_get hb7
    have k7 := own_one o7
    have kc7 := one_cells k7
    have z7 := x7.1
    simp (maxSteps := 1000000) (disch := (first | omega | (simp only [sz]; done) | (simp only [lz, Nat.reduceAdd, Nat.reduceLeDiff, Nat.le_refl]; done) | (simp only [sz]; omega))) only [↓xa, xb, xl, Option.bind_some, Option.map_some, implies_true, imp_self, true_and, and_true, if_true, if_false, decide_true, decide_false, Int.cast_ofNat_Int, Int.reduceLT, Int.reduceLE, Int.reduceEq, Nat.reduceAdd, Nat.reduceMul, Nat.reduceLeDiff, setL, bfill, eqV, lookRes, b_blk hb7, k4, k7, kc7]
    have u8 : Upd (fun b => b = h.size) h7 (h7.setIfInBounds h.size (.cells #[.int .i64 x.me, .int .i64 x.masters, .int .i64 x.state, .int .u64 x.ballot, .int .i64 x.frm, .int .i64 x.next, v4, v7, .slice none 0 0])) := (by repeat' (first | with_reducible exact Upd.refl _ | with_reducible refine Upd.push ?_ _ | with_reducible refine Upd.set ?_ _ _ ?_ | exact .inl (by (first | omega | (simp only [sz]; done) | (simp only [lz, Nat.reduceAdd, Nat.reduceLeDiff, Nat.le_refl]; done) | (simp only [sz]; omega))) | exact .inr rfl | exact .inr (by simp; done)))
    have x8 : Ext h (h7.setIfInBounds h.size (.cells #[.int .i64 x.me, .int .i64 x.masters, .int .i64 x.state, .int .u64 x.ballot, .int .i64 x.frm, .int .i64 x.next, v4, v7, .slice none 0 0])) := (by repeat' (first | with_reducible exact Upd.refl _ | with_reducible exact (x5.trans x7) | with_reducible refine Upd.push ?_ _ | with_reducible refine Upd.set ?_ _ _ ?_ | exact .inl (by (first | omega | (simp only [sz]; done) | (simp only [lz, Nat.reduceAdd, Nat.reduceLeDiff, Nat.le_refl]; done) | (simp only [sz]; omega))) | exact .inr rfl | exact .inr (by simp; done)))
    refine after _ v4 v7 _ x8 (by simp; omega) ?_ ?_ (fun b hb => .inl ⟨by have := o4.blk_ge hb; omega, by have := o4.blk_lt hb; simp; omega⟩) (fun b hb => .inl ⟨by have := o7.blk_ge hb; omega, by have := o7.blk_lt hb; simp; omega⟩) (g_set_eq lb7 rfl) ?_
    · refine ((o4.sl.upd u5 (fun b hb hs => ?_)).ext x7).upd u8 (fun b hb hs => ?_)
      · have := o4.blk_ge hb; omega
      · have := o4.blk_ge hb; omega
    · refine o7.sl.upd u8 (fun b hb hs => ?_)
      have := o7.blk_ge hb; omega
    · rw [g_set_ne (by omega)]; exact hr7
end Go.Proofs.Ytdolepapmpcpiaa

