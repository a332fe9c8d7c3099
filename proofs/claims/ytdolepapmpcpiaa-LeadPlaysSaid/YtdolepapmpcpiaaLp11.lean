/- Lemmas for the theorem of the last text; no condition. -/
import Derived.Test.YtdolepapmpcpiaaLp0
import Derived.Test.YtdolepapmpcpiaaLp1
import Derived.Test.YtdolepapmpcpiaaLp2
import Derived.Test.YtdolepapmpcpiaaLp3
import Derived.Test.YtdolepapmpcpiaaLp4
import Derived.Test.YtdolepapmpcpiaaLp5
import Derived.Test.YtdolepapmpcpiaaLp6
import Derived.Test.YtdolepapmpcpiaaLp7
import Derived.Test.YtdolepapmpcpiaaLp8
import Derived.Test.YtdolepapmpcpiaaLp9
import Derived.Test.YtdolepapmpcpiaaLp10
import Derived.RowKit3
import Derived.HandedShaped
import Derived.ReadAgain
import Derived.Carry
import Derived.ChangeSame
import Derived.ChangeShapes
import Derived.Deep.Onto
import Derived.RowKit
import Derived.JoinedOf
import Derived.JoinedAt
namespace Go.Proofs.Ytdolepapmpcpiaa
open Go Go.RowKit Go.Maps Go.Shelf
set_option linter.unusedSectionVars false
variable [Base]
set_option linter.unusedVariables false
set_option linter.unusedSimpArgs false
set_option maxRecDepth 10000
def memQ (l : List Int) : Int → Bool := fun i => decide (i ∈ l)
theorem foldl_addQ : ∀ (l : List Int) (q : Int → Bool), l.foldl addQ q = fun i => q i || decide (i ∈ l)
  | [], q => by funext i; simp
  | a :: l, q => by
    rw [List.foldl_cons, foldl_addQ l]
    funext i
    simp only [addQ, List.mem_cons]
    by_cases h1 : i = a <;> by_cases h2 : i ∈ l <;> simp [h1, h2]
theorem foldl_noneQ (l : List Int) : l.foldl addQ noneQ = memQ l := by rw [foldl_addQ]; funext i; simp [noneQ, memQ]
theorem memQ_perm {a b : List Int} (h : a.Perm b) : memQ a = memQ b := by funext i; simp [memQ, h.mem_iff]
def badSlot (f : Int) (v : Vote) : Bool := decide (v.slot < f ∨ 512 ≤ v.slot)
def cutV (f : Int) (l : List Vote) : List Vote := l.filter fun v => !badSlot f v
theorem sp_c1 {h : Hp} (hB : Base.b ≤ h.size) {p w : Nat} {x : LS} {cm om : Option Nat} (hb : h[p]? = some (.cells (lcells x cm om))) (hw : h[w]? = some (.cells #[pt p 0])) (v : Vote) {K : Kont} (hK : ∀ h', Ext h h' → K (.bool (badSlot x.frm v)) h') : C_q34 [voteV v, pt w 0] h K := by
  refine ok_q34 ?_
  unfold G_q34
  have lp := lt_of_get hb
  have lw := lt_of_get hw
  obtain ⟨s, b, c1, c2, c3, c4⟩ := v
  unfold voteV
  (repeat' (first | (simp (disch := (first | omega | (simp only [sz]; done) | (simp only [lz, Nat.reduceAdd, Nat.reduceLeDiff, Nat.le_refl]; done) | (simp only [sz]; omega))) only [↓xa, xb, xl, Option.bind_some, Option.map_some, implies_true, imp_self, true_and, and_true, if_true, if_false, decide_true, decide_false, Int.cast_ofNat_Int, Int.reduceLT, Int.reduceLE, Int.reduceEq, Nat.reduceAdd, Nat.reduceMul, Nat.reduceLeDiff, setL, bfill, eqV, lookRes, rdC_blk hb, rdC_blk hw, lcells]) | ((refine e_ifd _ _ _ (fun hc => ?_) (fun hc => ?_)) <;> first | (exfalso; omega) | (simp (disch := (first | omega | (simp only [sz]; done) | (simp only [lz, Nat.reduceAdd, Nat.reduceLeDiff, Nat.le_refl]; done) | (simp only [sz]; omega))) only [↓xa, xb, xl, Option.bind_some, Option.map_some, implies_true, imp_self, true_and, and_true, if_true, if_false, decide_true, decide_false, Int.cast_ofNat_Int, Int.reduceLT, Int.reduceLE, Int.reduceEq, Nat.reduceAdd, Nat.reduceMul, Nat.reduceLeDiff, setL, bfill, eqV, lookRes, rdC_blk hb, rdC_blk hw, lcells, hc]) | skip) | ((refine e_ifn _ _ _ (fun hc => ?_) (fun hc => ?_)) <;> first | (exfalso; omega) | (simp (disch := (first | omega | (simp only [sz]; done) | (simp only [lz, Nat.reduceAdd, Nat.reduceLeDiff, Nat.le_refl]; done) | (simp only [sz]; omega))) only [↓xa, xb, xl, Option.bind_some, Option.map_some, implies_true, imp_self, true_and, and_true, if_true, if_false, decide_true, decide_false, Int.cast_ofNat_Int, Int.reduceLT, Int.reduceLE, Int.reduceEq, Nat.reduceAdd, Nat.reduceMul, Nat.reduceLeDiff, setL, bfill, eqV, lookRes, rdC_blk hb, rdC_blk hw, lcells, hc]) | skip) | ((refine e_gd _ _ _ _ _ (fun hc => ?_) (fun hc => ?_)) <;> first | (exfalso; omega) | (simp (disch := (first | omega | (simp only [sz]; done) | (simp only [lz, Nat.reduceAdd, Nat.reduceLeDiff, Nat.le_refl]; done) | (simp only [sz]; omega))) only [↓xa, xb, xl, Option.bind_some, Option.map_some, implies_true, imp_self, true_and, and_true, if_true, if_false, decide_true, decide_false, Int.cast_ofNat_Int, Int.reduceLT, Int.reduceLE, Int.reduceEq, Nat.reduceAdd, Nat.reduceMul, Nat.reduceLeDiff, setL, bfill, eqV, lookRes, rdC_blk hb, rdC_blk hw, lcells, hc]) | skip) | ((refine e_gn _ _ _ _ _ (fun hc => ?_) (fun hc => ?_)) <;> first | (exfalso; omega) | (simp (disch := (first | omega | (simp only [sz]; done) | (simp only [lz, Nat.reduceAdd, Nat.reduceLeDiff, Nat.le_refl]; done) | (simp only [sz]; omega))) only [↓xa, xb, xl, Option.bind_some, Option.map_some, implies_true, imp_self, true_and, and_true, if_true, if_false, decide_true, decide_false, Int.cast_ofNat_Int, Int.reduceLT, Int.reduceLE, Int.reduceEq, Nat.reduceAdd, Nat.reduceMul, Nat.reduceLeDiff, setL, bfill, eqV, lookRes, rdC_blk hb, rdC_blk hw, lcells, hc]) | skip) | ((refine e_pd _ _ _ _ _ (fun hc => ?_) (fun hc => ?_)) <;> first | (exfalso; omega) | (simp (disch := (first | omega | (simp only [sz]; done) | (simp only [lz, Nat.reduceAdd, Nat.reduceLeDiff, Nat.le_refl]; done) | (simp only [sz]; omega))) only [↓xa, xb, xl, Option.bind_some, Option.map_some, implies_true, imp_self, true_and, and_true, if_true, if_false, decide_true, decide_false, Int.cast_ofNat_Int, Int.reduceLT, Int.reduceLE, Int.reduceEq, Nat.reduceAdd, Nat.reduceMul, Nat.reduceLeDiff, setL, bfill, eqV, lookRes, rdC_blk hb, rdC_blk hw, lcells, hc]) | skip) | ((refine e_pn _ _ _ _ _ (fun hc => ?_) (fun hc => ?_)) <;> first | (exfalso; omega) | (simp (disch := (first | omega | (simp only [sz]; done) | (simp only [lz, Nat.reduceAdd, Nat.reduceLeDiff, Nat.le_refl]; done) | (simp only [sz]; omega))) only [↓xa, xb, xl, Option.bind_some, Option.map_some, implies_true, imp_self, true_and, and_true, if_true, if_false, decide_true, decide_false, Int.cast_ofNat_Int, Int.reduceLT, Int.reduceLE, Int.reduceEq, Nat.reduceAdd, Nat.reduceMul, Nat.reduceLeDiff, setL, bfill, eqV, lookRes, rdC_blk hb, rdC_blk hw, lcells, hc]) | skip) | ((refine e_if2 _ _ _ (fun hc => ?_) (fun hc => ?_)) <;> first | (exfalso; omega) | (simp (disch := (first | omega | (simp only [sz]; done) | (simp only [lz, Nat.reduceAdd, Nat.reduceLeDiff, Nat.le_refl]; done) | (simp only [sz]; omega))) only [↓xa, xb, xl, Option.bind_some, Option.map_some, implies_true, imp_self, true_and, and_true, if_true, if_false, decide_true, decide_false, Int.cast_ofNat_Int, Int.reduceLT, Int.reduceLE, Int.reduceEq, Nat.reduceAdd, Nat.reduceMul, Nat.reduceLeDiff, setL, bfill, eqV, lookRes, rdC_blk hb, rdC_blk hw, lcells, hc]) | skip) | ((refine e_g2 _ _ _ _ _ (fun hc => ?_) (fun hc => ?_)) <;> first | (exfalso; omega) | (simp (disch := (first | omega | (simp only [sz]; done) | (simp only [lz, Nat.reduceAdd, Nat.reduceLeDiff, Nat.le_refl]; done) | (simp only [sz]; omega))) only [↓xa, xb, xl, Option.bind_some, Option.map_some, implies_true, imp_self, true_and, and_true, if_true, if_false, decide_true, decide_false, Int.cast_ofNat_Int, Int.reduceLT, Int.reduceLE, Int.reduceEq, Nat.reduceAdd, Nat.reduceMul, Nat.reduceLeDiff, setL, bfill, eqV, lookRes, rdC_blk hb, rdC_blk hw, lcells, hc]) | skip)))
  all_goals exact k_cast (hK _ (by repeat' (first | with_reducible exact Upd.refl _ | with_reducible refine Upd.push ?_ _ | with_reducible refine Upd.set ?_ _ _ ?_ | exact .inl (by (first | omega | (simp only [sz]; done) | (simp only [lz, Nat.reduceAdd, Nat.reduceLeDiff, Nat.le_refl]; done) | (simp only [sz]; omega))) | exact .inr rfl | exact .inr (by simp; done)))) (by congr 1; simp [badSlot]; omega)
theorem asks_c1 {h : Hp} (hB : Base.b ≤ h.size) {p w : Nat} {x : LS} {cm om : Option Nat} (hb : h[p]? = some (.cells (lcells x cm om))) (hw : h[w]? = some (.cells #[pt p 0])) : Asks h (.func (.func 56) #[] #[pt w 0]) (badSlot x.frm) := by
  intro v h' K y hk
  rw [e_callV _ _ _ _ _ _ _ ent_q34]
  exact sp_c1 (y.hB hB) (y.get hb id) (y.get hw id) v hk
/-- What came, as it may be. -/
structure CameOk (x : LS) (came : List (Int × LV)) : Prop where
  keys : keysOk came
  who : ∀ k ∈ came.map (·.1), 1 ≤ k ∧ k ≤ x.masters
  slots : ∀ e ∈ came, ∀ v ∈ e.2.2, x.frm ≤ v.slot ∧ v.slot < 512
  len : ∀ e ∈ came, e.2.2.length ≤ 100000
  masters : 1 ≤ x.masters ∧ x.masters ≤ 5
  frm : 0 ≤ x.frm ∧ x.frm ≤ 512
theorem nodup_le {n : Nat} : ∀ {l : List Int}, l.Nodup → (∀ k ∈ l, 1 ≤ k ∧ k ≤ (n : Int)) → l.length ≤ n := by
  induction n with
  | zero => intro l _ h; cases l with | nil => simp | cons a l => have := h a (List.mem_cons_self ..); omega
  | succ n ih =>
    intro l hl h
    by_cases hm : ((n + 1 : Nat) : Int) ∈ l
    · have h1 := ih (l := l.erase ((n + 1 : Nat) : Int)) (hl.erase _) (fun k hk => by
        have h2 := (List.Nodup.mem_erase_iff hl).1 hk
        have := h k h2.2
        have := h2.1
        omega)
      rw [List.length_erase_of_mem hm] at h1
      omega
    · have := ih hl (fun k hk => by
        have h1 := h k hk
        have : k ≠ ((n + 1 : Nat) : Int) := fun e => hm (e ▸ hk)
        omega)
      omega
theorem CameOk.le5 {x : LS} {came : List (Int × LV)} (c : CameOk x came) : came.length ≤ 5 := by
  have := nodup_le (n := 5) c.keys (fun k hk => by have := c.who k hk; have := c.masters; omega)
  simpa using this
theorem CameOk.fine {x : LS} {came : List (Int × LV)} (c : CameOk x came) : KeysFine came :=
  ⟨c.keys, fun k hk => by have := c.who k hk; have := c.masters; unfold i64ok; omega, by have := c.le5; omega⟩
theorem CameOk.nil {x : LS} (h1 : 1 ≤ x.masters ∧ x.masters ≤ 5) (h2 : 0 ≤ x.frm ∧ x.frm ≤ 512) : CameOk x [] := ⟨List.nodup_nil, by simp, by simp, by simp, h1, h2⟩
theorem votesOf_len : ∀ (ls : List LV), (∀ a ∈ ls, a.2.length ≤ 100000) → (votesOf ls).length ≤ 100000 * ls.length
  | [], _ => by simp [votesOf]
  | a :: ls, h => by
    have h1 := h a (List.mem_cons_self ..)
    have h2 := votesOf_len ls (fun b hb => h b (List.mem_cons_of_mem _ hb))
    simp only [votesOf, List.flatMap_cons, List.length_append, List.length_cons] at h2 ⊢
    omega
theorem CameOk.total {x : LS} {came : List (Int × LV)} (c : CameOk x came) : (votesOf (allL came)).length ≤ 500000 := by
  have h1 := votesOf_len (allL came) (fun a ha => by obtain ⟨k, hk⟩ := allKs_mem ha; exact c.len _ hk)
  have h2 := List.length_filterMap_le (mget came) (sortI (came.map (·.1)))
  have h3 := c.le5
  unfold allL allKs at h1 ⊢
  simp at h2
  omega
theorem CameOk.all {x : LS} {came : List (Int × LV)} (c : CameOk x came) : ∀ v ∈ votesOf (allL came), x.frm ≤ v.slot ∧ v.slot < 512 := by
  intro v hv
  obtain ⟨a, ha, hv⟩ := List.mem_flatMap.1 hv
  obtain ⟨k, hk⟩ := allKs_mem ha
  exact c.slots _ hk v hv
/-- What comes of a promise: the votes are laid in, if that master is new. -/
def cameP (came : List (Int × LV)) (who : Int) (a : LV) : List (Int × LV) := if (mget came who).isSome then came else mset came who a
theorem CameOk.put {x : LS} {came : List (Int × LV)} (c : CameOk x came) {who : Int} (hw : 1 ≤ who ∧ who ≤ x.masters) {a : LV} (ha : ∀ v ∈ a.2, x.frm ≤ v.slot ∧ v.slot < 512) (hl : a.2.length ≤ 100000) : CameOk x (cameP came who a) := by
  unfold cameP
  split
  · exact c
  · rename_i hn
    have hnew : who ∉ came.map (·.1) := by
      intro h
      obtain ⟨q, hq⟩ := mget_key c.keys h
      rw [hq] at hn
      exact hn rfl
    rw [mset_new hnew]
    refine ⟨?_, ?_, ?_, ?_, c.masters, c.frm⟩
    · have := keysOk_mset c.keys who a
      rw [mset_new hnew] at this
      exact this
    · intro k hk
      simp only [List.map_append, List.mem_append, List.map_cons, List.map_nil, List.mem_singleton] at hk
      rcases hk with hk | rfl
      · exact c.who k hk
      · exact hw
    · intro e he
      rcases List.mem_append.1 he with he | he
      · exact c.slots e he
      · rw [List.mem_singleton] at he; subst he; exact ha
    · intro e he
      rcases List.mem_append.1 he with he | he
      · exact c.len e he
      · rw [List.mem_singleton] at he; subst he; exact hl
def promX (x : LS) (came : List (Int × LV)) : LS := { x with state := 2, next := x.frm + fillN x.frm (rBestL (votesOf (allL came))) }
def promO (x : LS) (came : List (Int × LV)) : List (Int × Prp) := fillM x.frm (rBestL (votesOf (allL came))) (fillN x.frm (rBestL (votesOf (allL came))))
end Go.Proofs.Ytdolepapmpcpiaa

namespace Go.Proofs.Ytdolepapmpcpiaa
open Go Go.RowKit Go.Maps Go.Shelf
set_option linter.unusedSectionVars false
variable [Base]
set_option linter.unusedVariables false
set_option linter.unusedSimpArgs false
set_option maxRecDepth 10000
theorem mem_cameP {came : List (Int × LV)} {who : Int} {a : LV} {e : Int × LV} (h : e ∈ cameP came who a) : e ∈ came ∨ e = (who, a) := by
  unfold cameP at h
  split at h
  · exact .inl h
  · rename_i hn
    unfold mset at h
    cases hf : mfind came who 0 with
    | none =>
      rw [hf] at h
      rcases List.mem_append.1 h with h | h
      · exact .inl h
      · exact .inr (by simpa using h)
    | some z => simp [mget, hf] at hn
theorem fillN_le {f : Int} {l : List Vote} (hf : 0 ≤ f ∧ f ≤ 512) (h : ∀ v ∈ l, f ≤ v.slot ∧ v.slot < 512) : f + (fillN f l : Int) ≤ 512 := by
  unfold fillN
  cases hg : l.getLast? with
  | none => simp; exact hf.2
  | some v => have := h v (List.mem_of_getLast? hg); simp only; omega
theorem rBest_mem (P : Vote → Prop) : ∀ (l out : List Vote), (∀ v ∈ l, P v) → (∀ v ∈ out, P v) → ∀ v ∈ l.foldl bestR out, P v := by
  intro l
  induction l with
  | nil => intro out _ h; exact h
  | cons w l ih =>
    intro out hl ho
    refine ih _ (fun v hv => hl v (List.mem_cons_of_mem _ hv)) ?_
    intro v hv
    have hw := hl w (List.mem_cons_self ..)
    unfold bestR at hv
    split at hv
    · rcases putL_mem w hv with rfl | hv
      · exact hw
      · exact ho v hv
    · split at hv
      · rcases putL_mem w hv with rfl | hv
        · exact hw
        · exact ho v hv
      · exact ho v hv
/-- A promise that is not asked for. -/
theorem sp_lPromiseBad {h : Hp} (hB : Base.b ≤ h.size) {p : Nat} {x : LS} {cm om : Option Nat} (hb : h[p]? = some (.cells (lcells x cm om))) (b who : Int) (va : Value) (hbad : ¬ ((x.state = 1 ∧ x.ballot = b) ∧ 1 ≤ who ∧ who ≤ x.masters)) {K : Kont}
    (hK : ∀ h', Ext h h' → K (.tuple #[.slice none 0 0, .bool false]) h') : C_q57 [pt p 0, .int .u64 b, .int .i64 who, va] h K := by
  refine ok_q57 ?_
  unfold G_q57
  have x1 : Ext h (h.push (.cells #[pt p 0])) := (by repeat' (first | with_reducible exact Upd.refl _ | with_reducible refine Upd.push ?_ _ | with_reducible refine Upd.set ?_ _ _ ?_ | exact .inl (by (first | omega | (simp only [sz]; done) | (simp only [lz, Nat.reduceAdd, Nat.reduceLeDiff, Nat.le_refl]; done) | (simp only [sz]; omega))) | exact .inr rfl | exact .inr (by simp; done)))
  have hb1 := x1.get hb id
  (try simp (disch := (first | omega | (simp only [sz]; done) | (simp only [lz, Nat.reduceAdd, Nat.reduceLeDiff, Nat.le_refl]; done) | (simp only [sz]; omega))) only [↓xa, xb, xl, Option.bind_some, Option.map_some, implies_true, imp_self, true_and, and_true, if_true, if_false, decide_true, decide_false, Int.cast_ofNat_Int, Int.reduceLT, Int.reduceLE, Int.reduceEq, Nat.reduceAdd, Nat.reduceMul, Nat.reduceLeDiff, setL, bfill, eqV, lookRes])
  refine sp_lis hb1 1 b ?_
  by_cases h1 : x.state = 1 ∧ x.ballot = b
  · simp (disch := (first | omega | (simp only [sz]; done) | (simp only [lz, Nat.reduceAdd, Nat.reduceLeDiff, Nat.le_refl]; done) | (simp only [sz]; omega))) only [↓xa, xb, xl, Option.bind_some, Option.map_some, implies_true, imp_self, true_and, and_true, if_true, if_false, decide_true, decide_false, Int.cast_ofNat_Int, Int.reduceLT, Int.reduceLE, Int.reduceEq, Nat.reduceAdd, Nat.reduceMul, Nat.reduceLeDiff, setL, bfill, eqV, lookRes, decide_eq_true h1]
    refine sp_lmaster hb1 who ?_
    have h2 : ¬ (1 ≤ who ∧ who ≤ x.masters) := fun h => hbad ⟨h1, h⟩
    simp (disch := (first | omega | (simp only [sz]; done) | (simp only [lz, Nat.reduceAdd, Nat.reduceLeDiff, Nat.le_refl]; done) | (simp only [sz]; omega))) only [↓xa, xb, xl, Option.bind_some, Option.map_some, implies_true, imp_self, true_and, and_true, if_true, if_false, decide_true, decide_false, Int.cast_ofNat_Int, Int.reduceLT, Int.reduceLE, Int.reduceEq, Nat.reduceAdd, Nat.reduceMul, Nat.reduceLeDiff, setL, bfill, eqV, lookRes, decide_eq_false h2]
    exact hK _ (by repeat' (first | with_reducible exact Upd.refl _ | with_reducible refine Upd.push ?_ _ | with_reducible refine Upd.set ?_ _ _ ?_ | exact .inl (by (first | omega | (simp only [sz]; done) | (simp only [lz, Nat.reduceAdd, Nat.reduceLeDiff, Nat.le_refl]; done) | (simp only [sz]; omega))) | exact .inr rfl | exact .inr (by simp; done)))
  · simp (disch := (first | omega | (simp only [sz]; done) | (simp only [lz, Nat.reduceAdd, Nat.reduceLeDiff, Nat.le_refl]; done) | (simp only [sz]; omega))) only [↓xa, xb, xl, Option.bind_some, Option.map_some, implies_true, imp_self, true_and, and_true, if_true, if_false, decide_true, decide_false, Int.cast_ofNat_Int, Int.reduceLT, Int.reduceLE, Int.reduceEq, Nat.reduceAdd, Nat.reduceMul, Nat.reduceLeDiff, setL, bfill, eqV, lookRes, decide_eq_false h1]
    exact hK _ (by repeat' (first | with_reducible exact Upd.refl _ | with_reducible refine Upd.push ?_ _ | with_reducible refine Upd.set ?_ _ _ ?_ | exact .inl (by (first | omega | (simp only [sz]; done) | (simp only [lz, Nat.reduceAdd, Nat.reduceLeDiff, Nat.le_refl]; done) | (simp only [sz]; omega))) | exact .inr rfl | exact .inr (by simp; done)))
set_option maxHeartbeats 4000000 in
theorem sp_lPromise {h : Hp} (hB : Base.b ≤ h.size) {p rc ro : Nat} {x : LS} {came : List (Int × LV)} (hL : Lead h p rc ro x came []) (hn : x.next = x.frm) (hc : CameIn h came) (hco : CameOk x came) (hcb : ∀ e ∈ came, ∀ b, blk e.2.1 = some b → b ≠ p ∧ b ≠ rc ∧ b ≠ ro)
    {b who : Int} (hok : (x.state = 1 ∧ x.ballot = b) ∧ 1 ≤ who ∧ who ≤ x.masters) {va : Value} {vl : List Vote} (hS : Sl h 6 vcells va vl) (hvl : vl.length ≤ 100000) {K : Kont}
    (hno : ∀ h' v', let came' := cameP came who (v', cutV x.frm vl); enoughQ (memQ (came'.map (·.1))) x.masters = false → Upd (fun r => r = rc) h h' → Lead h' p rc ro x came' [] → CameIn h' came' → (∀ b, blk v' = some b → h.size ≤ b ∧ b < h'.size) → K (.tuple #[.slice none 0 0, .bool false]) h')
    (hyes : ∀ h' v' w, let came' := cameP came who (v', cutV x.frm vl); enoughQ (memQ (came'.map (·.1))) x.masters = true → Upd (fun r => r = p ∨ r = rc ∨ r = ro) h h' → Lead h' p rc ro (promX x came') came' (promO x came') → (∀ b, blk v' = some b → h.size ≤ b ∧ b < h'.size) → Own h' h.size 6 vcells w (openL (promX x came') (promO x came')) → K (.tuple #[w, .bool true]) h') :
    C_q57 [pt p 0, .int .u64 b, .int .i64 who, va] h K := by
  refine ok_q57 ?_
  unfold G_q57
  have x1 : Ext h (h.push (.cells #[pt p 0])) := (by repeat' (first | with_reducible exact Upd.refl _ | with_reducible refine Upd.push ?_ _ | with_reducible refine Upd.set ?_ _ _ ?_ | exact .inl (by (first | omega | (simp only [sz]; done) | (simp only [lz, Nat.reduceAdd, Nat.reduceLeDiff, Nat.le_refl]; done) | (simp only [sz]; omega))) | exact .inr rfl | exact .inr (by simp; done)))
  have hL1 := hL.ext x1
  have hw1 : (h.push (.cells #[pt p 0]))[h.size]? = some (.cells #[pt p 0]) := g_push_eq rfl
  have hS1 := hS.ext x1
  have hc1 := hc.ext x1
  have lp := lt_of_get hL.blk
  have lc := lt_of_get hL.came
  have lo := lt_of_get hL.opn
  have hpc : p ≠ rc := by intro e; have := hL.came; rw [← e, hL.blk] at this; cases this
  have hpo : p ≠ ro := by intro e; have := hL.opn; rw [← e, hL.blk] at this; cases this
  have l1 : (h.push (.cells #[pt p 0])).size = h.size + 1 := by simp
  have hB1 := x1.hB hB
  (try simp (disch := (first | omega | (simp only [sz]; done) | (simp only [lz, Nat.reduceAdd, Nat.reduceLeDiff, Nat.le_refl]; done) | (simp only [sz]; omega))) only [↓xa, xb, xl, Option.bind_some, Option.map_some, implies_true, imp_self, true_and, and_true, if_true, if_false, decide_true, decide_false, Int.cast_ofNat_Int, Int.reduceLT, Int.reduceLE, Int.reduceEq, Nat.reduceAdd, Nat.reduceMul, Nat.reduceLeDiff, setL, bfill, eqV, lookRes])
  generalize h.push (.cells #[pt p 0]) = h1 at *
  refine sp_lis hL1.blk 1 b ?_
  simp (disch := (first | omega | (simp only [sz]; done) | (simp only [lz, Nat.reduceAdd, Nat.reduceLeDiff, Nat.le_refl]; done) | (simp only [sz]; omega))) only [↓xa, xb, xl, Option.bind_some, Option.map_some, implies_true, imp_self, true_and, and_true, if_true, if_false, decide_true, decide_false, Int.cast_ofNat_Int, Int.reduceLT, Int.reduceLE, Int.reduceEq, Nat.reduceAdd, Nat.reduceMul, Nat.reduceLeDiff, setL, bfill, eqV, lookRes, decide_eq_true hok.1, rdC_blk hw1]
  refine sp_lmaster hL1.blk who ?_
  have hb1 := hL1.blk
  obtain ⟨f, hf⟩ : ∃ f, mfind came who 0 = f := ⟨_, rfl⟩
  -- what stands behind the votes that are laid in
  have after : ∀ (h2 : Hp) (v' : Value) d, let came' := cameP came who (v', cutV x.frm vl); Upd (fun r => r = rc) h h2 → Lead h2 p rc ro x came' [] → CameIn h2 came' → (∀ b, blk v' = some b → h.size ≤ b ∧ b < h2.size) → h2[h.size]? = some (.cells #[pt p 0]) → G_q57_1 K (pt h.size 0) d h2 := by
    intro h2 v' d came' u2 hL2 hc2 hv2 hw2
    have hco2 : CameOk x came' := hco.put hok.2 (a := (v', cutV x.frm vl)) (fun v hv => by
      have := (List.mem_filter.1 hv).2
      simp [badSlot] at this
      omega) (Nat.le_trans (List.length_filter_le ..) hvl)
    rw [req_q57_1]
    unfold R_q57_1
    have hb2 := hL2.blk
    have hB2 := u2.hB hB
    have lb2 := u2.1
    simp (disch := (first | omega | (simp only [sz]; done) | (simp only [lz, Nat.reduceAdd, Nat.reduceLeDiff, Nat.le_refl]; done) | (simp only [sz]; omega))) only [↓xa, xb, xl, Option.bind_some, Option.map_some, implies_true, imp_self, true_and, and_true, if_true, if_false, decide_true, decide_false, Int.cast_ofNat_Int, Int.reduceLT, Int.reduceLE, Int.reduceEq, Nat.reduceAdd, Nat.reduceMul, Nat.reduceLeDiff, setL, bfill, eqV, lookRes, rdC_blk hw2, rdC_blk hb2, lcells]
    refine sp_collectB hB2 hL2.came hco2.fine ?_
    intro _ v3 h3 ks hp3 x3 o3
    have hm3 : ∀ k ∈ ks, isM k := fun k hk => by
      have h1 := hco2.who k (hp3.mem_iff.1 hk)
      have := hco2.masters
      exact isM_of (by omega) (by omega)
    have hk3 : ks.length ≤ 1048576 := by rw [hp3.length_eq]; have := hco2.le5; simp; omega
    have hb3 := x3.get hb2 id
    have hw3 := x3.get hw2 id
    have hwith := fun (K : Kont) (hK : K (.int .u64 (bitsOf (ks.foldl addQ noneQ))) h3) => sp_With noneQ o3.sl hk3 hm3 hK
    rw [bits_none] at hwith
    refine hwith _ ?_
    rw [foldl_noneQ, memQ_perm hp3]
    simp (disch := (first | omega | (simp only [sz]; done) | (simp only [lz, Nat.reduceAdd, Nat.reduceLeDiff, Nat.le_refl]; done) | (simp only [sz]; omega))) only [↓xa, xb, xl, Option.bind_some, Option.map_some, implies_true, imp_self, true_and, and_true, if_true, if_false, decide_true, decide_false, Int.cast_ofNat_Int, Int.reduceLT, Int.reduceLE, Int.reduceEq, Nat.reduceAdd, Nat.reduceMul, Nat.reduceLeDiff, setL, bfill, eqV, lookRes, rdC_blk hw3, rdC_blk hb3, lcells]
    refine sp_Enough _ x.masters hco2.masters.1 hco2.masters.2 ?_
    cases he : enoughQ (memQ (came'.map (·.1))) x.masters with
    | false =>
      (try simp (disch := (first | omega | (simp only [sz]; done) | (simp only [lz, Nat.reduceAdd, Nat.reduceLeDiff, Nat.le_refl]; done) | (simp only [sz]; omega))) only [↓xa, xb, xl, Option.bind_some, Option.map_some, implies_true, imp_self, true_and, and_true, if_true, if_false, decide_true, decide_false, Int.cast_ofNat_Int, Int.reduceLT, Int.reduceLE, Int.reduceEq, Nat.reduceAdd, Nat.reduceMul, Nat.reduceLeDiff, setL, bfill, eqV, lookRes])
      exact hno h3 v' he (u2.trans x3.lift) (hL2.ext x3) (hc2.ext x3) (fun b hb => ⟨(hv2 b hb).1, x3.lt (hv2 b hb).2⟩)
    | true =>
      simp (disch := (first | omega | (simp only [sz]; done) | (simp only [lz, Nat.reduceAdd, Nat.reduceLeDiff, Nat.le_refl]; done) | (simp only [sz]; omega))) only [↓xa, xb, xl, Option.bind_some, Option.map_some, implies_true, imp_self, true_and, and_true, if_true, if_false, decide_true, decide_false, Int.cast_ofNat_Int, Int.reduceLT, Int.reduceLE, Int.reduceEq, Nat.reduceAdd, Nat.reduceMul, Nat.reduceLeDiff, setL, bfill, eqV, lookRes, rdC_blk hw3, rdC_blk hb3, b_blk hb3, lcells]
      have lp3 := lt_of_get hb3
      have hL3 := hL2.ext x3
      have lc3 := lt_of_get hL3.came
      have lo3 := lt_of_get hL3.opn
      have lw3 := lt_of_get hw3
      have u4 : Upd (fun r => r = p) h3 (h3.setIfInBounds p (.cells (lcells { x with state := 2 } (some rc) (some ro)))) := Upd.set (Upd.refl _) _ _ (.inr rfl)
      have hL4 : Lead (h3.setIfInBounds p (.cells (lcells { x with state := 2 } (some rc) (some ro)))) p rc ro { x with state := 2 } came' [] :=
        ⟨g_set_eq lp3 rfl, by rw [g_set_ne hpc]; exact hL3.came, by rw [g_set_ne hpo]; exact hL3.opn, hL.ne⟩
      have hw4 := u4.get hw3 (by omega)
      have hc4 : CameIn (h3.setIfInBounds p (.cells (lcells { x with state := 2 } (some rc) (some ro)))) came' := by
        intro e he'
        refine ((hc2.ext x3) e he').upd u4 ?_
        intro b hb hp
        subst hp
        have := mem_cameP he'
        rcases this with h | rfl
        · exact (hcb e h b hb).1 rfl
        · have := (hv2 b hb).1; omega
      have hcells : #[Value.int .i64 x.me, .int .i64 x.masters, .int .i64 2, .int .u64 x.ballot, .int .i64 x.frm, .int .i64 x.next, .map (some rc), .map (some ro)] = lcells { x with state := 2 } (some rc) (some ro) := rfl
      have hB4 := u4.hB (x3.hB hB2)
      rw [hcells]
      generalize h3.setIfInBounds p (.cells (lcells { x with state := 2 } (some rc) (some ro))) = h4 at *
      have hco4 : CameOk { x with state := 2 } came' := ⟨hco2.keys, hco2.who, hco2.slots, hco2.len, hco2.masters, hco2.frm⟩
      refine sp_lfill hB4 hL4 hco4.fine hc4 hn hco4.frm hco4.all (by have := hco4.total; omega) ?_
      intro h5 u5 hL5
      have hw5 := u5.get hw4 (by omega)
      simp (disch := (first | omega | (simp only [sz]; done) | (simp only [lz, Nat.reduceAdd, Nat.reduceLeDiff, Nat.le_refl]; done) | (simp only [sz]; omega))) only [↓xa, xb, xl, Option.bind_some, Option.map_some, implies_true, imp_self, true_and, and_true, if_true, if_false, decide_true, decide_false, Int.cast_ofNat_Int, Int.reduceLT, Int.reduceLE, Int.reduceEq, Nat.reduceAdd, Nat.reduceMul, Nat.reduceLeDiff, setL, bfill, eqV, lookRes, rdC_blk hw5]
      have hN : x.frm + (fillN x.frm (rBestL (votesOf (allL came'))) : Int) ≤ 512 := by
        exact fillN_le hco4.frm (rBest_mem _ _ [] hco4.all (by simp))
      refine sp_lOpen (u5.hB hB4) hL5 (fillM_fine _ _ _ hco4.frm.1 hN) ?_
      intro w h6 x6 o6
      (try simp (disch := (first | omega | (simp only [sz]; done) | (simp only [lz, Nat.reduceAdd, Nat.reduceLeDiff, Nat.le_refl]; done) | (simp only [sz]; omega))) only [↓xa, xb, xl, Option.bind_some, Option.map_some, implies_true, imp_self, true_and, and_true, if_true, if_false, decide_true, decide_false, Int.cast_ofNat_Int, Int.reduceLT, Int.reduceLE, Int.reduceEq, Nat.reduceAdd, Nat.reduceMul, Nat.reduceLeDiff, setL, bfill, eqV, lookRes])
      have U : Upd (fun r => r = p ∨ r = rc ∨ r = ro) h h6 := by
        refine Upd.trans (u2.mono (fun _ _ h => .inr (.inl h))) (Upd.trans x3.lift (Upd.trans (u4.mono (fun _ _ h => .inl h)) (Upd.trans (u5.mono ?_) x6.lift)))
        intro _ _ h
        rcases h with h | h
        · exact .inl h
        · exact .inr (.inr h)
      have l56 := u5.1
      have l34 := u4.1
      have l23 := x3.1
      have l6 := x6.1
      exact hyes h6 v' w he U (hL5.ext x6) (fun b hb => ⟨(hv2 b hb).1, by have := (hv2 b hb).2; omega⟩) (o6.low (by omega))
  rcases f with _ | ⟨n, q⟩
  · have hcm : ∀ v', cameP came who (v', cutV x.frm vl) = mset came who (v', cutV x.frm vl) := by
      intro v'
      unfold cameP mget
      rw [hf]
      rfl
    have lp1 := lt_of_get hb1
    simp (disch := (first | omega | (simp only [sz]; done) | (simp only [lz, Nat.reduceAdd, Nat.reduceLeDiff, Nat.le_refl]; done) | (simp only [sz]; omega))) only [↓xa, xb, xl, Option.bind_some, Option.map_some, implies_true, imp_self, true_and, and_true, if_true, if_false, decide_true, decide_false, Int.cast_ofNat_Int, Int.reduceLT, Int.reduceLE, Int.reduceEq, Nat.reduceAdd, Nat.reduceMul, Nat.reduceLeDiff, setL, bfill, eqV, lookRes, decide_eq_true hok.2, rdC_blk hw1, rdC_blk hb1, lcells, m_blk hL1.came, kvFind_enc, hf, Option.map_none]
    refine sp_Clone hB1 hS1 (by omega) ?_
    intro v2 h2 x2 o2
    simp (disch := (first | omega | (simp only [sz]; done) | (simp only [lz, Nat.reduceAdd, Nat.reduceLeDiff, Nat.le_refl]; done) | (simp only [sz]; omega))) only [↓xa, xb, xl, Option.bind_some, Option.map_some, implies_true, imp_self, true_and, and_true, if_true, if_false, decide_true, decide_false, Int.cast_ofNat_Int, Int.reduceLT, Int.reduceLE, Int.reduceEq, Nat.reduceAdd, Nat.reduceMul, Nat.reduceLeDiff, setL, bfill, eqV, lookRes, rdC_blk (x2.get hb1 id), rdC_blk (x2.get hw1 id), lcells]
    have hB2 := x2.hB hB1
    have lx2 := x2.1
    refine sp_DeleteFunc (base := h1.size) hB2 o2 (by omega) (fun h' u => asks_c1 (u.hB hB2) (u.get (x2.get hb1 id) (by omega)) (u.get (x2.get hw1 id) (by omega))) ?_
    intro v3 h3 u3 o3
    have hb3 := u3.get (x2.get hb1 id) (by omega)
    have hw3 := u3.get (x2.get hw1 id) (by omega)
    have hL2 := hL1.ext x2
    have lc1 := lt_of_get hL1.came
    have lo1 := lt_of_get hL1.opn
    have hm3 := u3.get hL2.came (by omega)
    have lm3 := lt_of_get hm3
    have hv3 := own_one o3
    simp (disch := (first | omega | (simp only [sz]; done) | (simp only [lz, Nat.reduceAdd, Nat.reduceLeDiff, Nat.le_refl]; done) | (simp only [sz]; omega))) only [↓xa, xb, xl, Option.bind_some, Option.map_some, implies_true, imp_self, true_and, and_true, if_true, if_false, decide_true, decide_false, Int.cast_ofNat_Int, Int.reduceLT, Int.reduceLE, Int.reduceEq, Nat.reduceAdd, Nat.reduceMul, Nat.reduceLeDiff, setL, bfill, eqV, lookRes, rdC_blk hb3, rdC_blk hw3, lcells, m_blk hm3, kvFind_enc]
    have hput : kvPut (encM lvV came) (Option.map (fun p => (p.1, lvV p.2)) (mfind came who 0)) (.int .i64 who) v3 = encM lvV (mset came who (v3, cutV x.frm vl)) := kvPut_enc lvV came who (v3, cutV x.frm vl)
    rw [hput]
    have u03 : Upd (fun r => r = rc) h h3 := Upd.fresh (S := fun r => r = rc) ((x1.trans x2).lift) u3 (fun r hr => .inl (by omega))
    have U : Upd (fun r => r = rc) h (h3.setIfInBounds rc (.map (encM lvV (mset came who (v3, cutV x.frm vl))))) := Upd.set u03 _ _ (.inr rfl)
    have us : Upd (fun r => r = rc) h3 (h3.setIfInBounds rc (.map (encM lvV (mset came who (v3, cutV x.frm vl))))) := Upd.set (Upd.refl _) _ _ (.inr rfl)
    have lo3 := u03.1
    have ho3 := u3.get hL2.opn (by omega)
    have key := after (h3.setIfInBounds rc (.map (encM lvV (mset came who (v3, cutV x.frm vl))))) v3
    simp only [hcm] at key
    refine key _ U ⟨?_, g_set_eq lm3 rfl, ?_, hL.ne⟩ ?_ (fun b hb => ⟨by have := o3.blk_ge hb; omega, by have := o3.blk_lt hb; simp; omega⟩) ?_
    · rw [g_set_ne (Ne.symm hpc)]; exact hb3
    · rw [g_set_ne hL.ne]; exact ho3
    · intro e he
      rw [← hcm] at he
      rcases mem_cameP he with he | rfl
      · refine ((hc e he).upd u03 ?_).upd us ?_
        · intro b hb hr; exact (hcb e he b hb).2.1 hr
        · intro b hb hr; exact (hcb e he b hb).2.1 hr
      · refine o3.sl.upd us ?_
        intro b hb hr
        have := o3.blk_ge hb
        omega
    · rw [g_set_ne (by omega)]; exact hw3
  · simp (disch := (first | omega | (simp only [sz]; done) | (simp only [lz, Nat.reduceAdd, Nat.reduceLeDiff, Nat.le_refl]; done) | (simp only [sz]; omega))) only [↓xa, xb, xl, Option.bind_some, Option.map_some, implies_true, imp_self, true_and, and_true, if_true, if_false, decide_true, decide_false, Int.cast_ofNat_Int, Int.reduceLT, Int.reduceLE, Int.reduceEq, Nat.reduceAdd, Nat.reduceMul, Nat.reduceLeDiff, setL, bfill, eqV, lookRes, decide_eq_true hok.2, rdC_blk hw1, rdC_blk hb1, lcells, m_blk hL1.came, kvFind_enc, hf]
    have hcm : ∀ v', cameP came who (v', cutV x.frm vl) = came := by
      intro v'
      unfold cameP mget
      rw [hf]
      rfl
    have := after h1 (.slice none 0 0)
    simp only [hcm] at this
    exact this _ x1.lift hL1 hc1 (fun b hb => by cases hb) hw1
end Go.Proofs.Ytdolepapmpcpiaa

namespace Go.Proofs.Ytdolepapmpcpiaa
open Go Go.RowKit Go.Maps Go.Shelf
set_option linter.unusedSectionVars false
variable [Base]
set_option linter.unusedVariables false
set_option linter.unusedSimpArgs false
set_option maxRecDepth 10000
def isCmd (c : Cmd) (v : Vote) : Bool := decide (v.cmd = c)
def cmdC (c : Cmd) : Array Value := #[.int .i64 c.kind, .int .i64 c.chain, .int .u64 c.epoch, .int .i64 c.node]
theorem sp_p1 {h : Hp} (hB : Base.b ≤ h.size) {w : Nat} {c : Cmd} (hw : h[w]? = some (.cells (cmdC c))) (v : Vote) {K : Kont} (hK : ∀ h', Ext h h' → K (.bool (isCmd c v)) h') : C_q29 [voteV v, pt w 0] h K := by
  refine ok_q29 ?_
  unfold G_q29
  have lw := lt_of_get hw
  obtain ⟨s, b, v1, v2, v3, v4⟩ := v
  obtain ⟨c1, c2, c3, c4⟩ := c
  unfold voteV
  unfold cmdC at hw
  simp (disch := (first | omega | (simp only [sz]; done) | (simp only [lz, Nat.reduceAdd, Nat.reduceLeDiff, Nat.le_refl]; done) | (simp only [sz]; omega))) only [↓xa, xb, xl, Option.bind_some, Option.map_some, implies_true, imp_self, true_and, and_true, if_true, if_false, decide_true, decide_false, Int.cast_ofNat_Int, Int.reduceLT, Int.reduceLE, Int.reduceEq, Nat.reduceAdd, Nat.reduceMul, Nat.reduceLeDiff, setL, bfill, eqV, lookRes, rdN_all hw, eq_cmd]
  exact k_cast (hK _ (by repeat' (first | with_reducible exact Upd.refl _ | with_reducible refine Upd.push ?_ _ | with_reducible refine Upd.set ?_ _ _ ?_ | exact .inl (by (first | omega | (simp only [sz]; done) | (simp only [lz, Nat.reduceAdd, Nat.reduceLeDiff, Nat.le_refl]; done) | (simp only [sz]; omega))) | exact .inr rfl | exact .inr (by simp; done)))) (by congr 1; simp [isCmd])
theorem asks_p1 {h : Hp} (hB : Base.b ≤ h.size) {w : Nat} {c : Cmd} (hw : h[w]? = some (.cells (cmdC c))) : Asks h (.func (.func 85) #[] #[pt w 0]) (isCmd c) := by
  intro v h' K y hk
  rw [e_callV _ _ _ _ _ _ _ ent_q29]
  exact sp_p1 (y.hB hB) (y.get hw id) v hk
theorem openL_len (x : LS) (opn : List (Int × Prp)) : (openL x opn).length ≤ opn.length := Nat.le_trans (openKs_len ..) (by simp)
theorem sp_lproposed {h : Hp} (hB : Base.b ≤ h.size) {p rc ro : Nat} {x : LS} {came : List (Int × LV)} {opn : List (Int × Prp)} (hL : Lead h p rc ro x came opn) (hk : KeysFine opn) (c : Cmd) {K : Kont}
    (hK : ∀ h', Ext h h' → K (.bool ((openL x opn).any (isCmd c))) h') : C_q50 [pt p 0, cmdV c] h K := by
  refine ok_q50 ?_
  unfold G_q50
  unfold cmdV
  (try simp (disch := (first | omega | (simp only [sz]; done) | (simp only [lz, Nat.reduceAdd, Nat.reduceLeDiff, Nat.le_refl]; done) | (simp only [sz]; omega))) only [↓xa, xb, xl, Option.bind_some, Option.map_some, implies_true, imp_self, true_and, and_true, if_true, if_false, decide_true, decide_false, Int.cast_ofNat_Int, Int.reduceLT, Int.reduceLE, Int.reduceEq, Nat.reduceAdd, Nat.reduceMul, Nat.reduceLeDiff, setL, bfill, eqV, lookRes])
  have x1 : Ext h (h.push (.cells (cmdC c))) := (by repeat' (first | with_reducible exact Upd.refl _ | with_reducible refine Upd.push ?_ _ | with_reducible refine Upd.set ?_ _ _ ?_ | exact .inl (by (first | omega | (simp only [sz]; done) | (simp only [lz, Nat.reduceAdd, Nat.reduceLeDiff, Nat.le_refl]; done) | (simp only [sz]; omega))) | exact .inr rfl | exact .inr (by simp; done)))
  refine sp_lOpen (x1.hB hB) (hL.ext x1) hk ?_
  intro v h2 x2 o2
  have hw : h2[h.size]? = some (.cells (cmdC c)) := x2.get (g_push_eq rfl) id
  refine sp_ContainsFunc o2.sl (by have := openL_len x opn; have := hk.2.2; omega) (asks_p1 (x2.hB (x1.hB hB)) hw) ?_
  intro h3 x3
  exact hK _ (x1.trans (x2.trans x3))
theorem Lead.set {h : Hp} {p rc ro r : Nat} {x : LS} {came : List (Int × LV)} {opn : List (Int × Prp)} {o : AObj} (a : Lead h p rc ro x came opn) (e1 : r ≠ p) (e2 : r ≠ rc) (e3 : r ≠ ro) : Lead (h.setIfInBounds r o) p rc ro x came opn :=
  ⟨by rw [g_set_ne e1]; exact a.blk, by rw [g_set_ne e2]; exact a.came, by rw [g_set_ne e3]; exact a.opn, a.ne⟩
def propE (x : LS) (opn : List (Int × Prp)) (c : Cmd) : Int :=
  if x.state ≠ 2 then 12 else if checkC c ≠ 0 then checkC c else if c.kind ≠ 0 ∧ (openL x opn).any (isCmd c) = true then 8 else if 8 ≤ opn.length ∨ 512 ≤ x.next then 9 else 0
theorem sp_lProposeBad {h : Hp} (hB : Base.b ≤ h.size) {p : Nat} {x : LS} {cm om : Option Nat} (hb : h[p]? = some (.cells (lcells x cm om))) (c : Cmd) (hs : x.state ≠ 2) {K : Kont}
    (hK : ∀ h', Ext h h' → K (.tuple #[voteV vote0, .int .i64 12]) h') : C_q58 [pt p 0, cmdV c] h K := by
  refine ok_q58 ?_
  unfold G_q58
  have lp := lt_of_get hb
  obtain ⟨c1, c2, c3, c4⟩ := c
  unfold cmdV
  simp (disch := (first | omega | (simp only [sz]; done) | (simp only [lz, Nat.reduceAdd, Nat.reduceLeDiff, Nat.le_refl]; done) | (simp only [sz]; omega))) only [↓xa, xb, xl, Option.bind_some, Option.map_some, implies_true, imp_self, true_and, and_true, if_true, if_false, decide_true, decide_false, Int.cast_ofNat_Int, Int.reduceLT, Int.reduceLE, Int.reduceEq, Nat.reduceAdd, Nat.reduceMul, Nat.reduceLeDiff, setL, bfill, eqV, lookRes, rdC_blk hb, lcells, decide_eq_false hs]
  refine hK _ (by repeat' (first | with_reducible exact Upd.refl _ | with_reducible refine Upd.push ?_ _ | with_reducible refine Upd.set ?_ _ _ ?_ | exact .inl (by (first | omega | (simp only [sz]; done) | (simp only [lz, Nat.reduceAdd, Nat.reduceLeDiff, Nat.le_refl]; done) | (simp only [sz]; omega))) | exact .inr rfl | exact .inr (by simp; done)))
set_option maxHeartbeats 2000000 in
theorem sp_lPropose {h : Hp} (hB : Base.b ≤ h.size) {p rc ro : Nat} {x : LS} {came : List (Int × LV)} {opn : List (Int × Prp)} (hL : Lead h p rc ro x came opn) (hk : KeysFine opn) (hn : 0 ≤ x.next ∧ x.next ≤ 512) (c : Cmd) {K : Kont}
    (hbad : propE x opn c ≠ 0 → ∀ h', Ext h h' → K (.tuple #[voteV vote0, .int .i64 (propE x opn c)]) h')
    (hok : propE x opn c = 0 → ∀ h', Upd (fun r => r = p ∨ r = ro) h h' → Lead h' p rc ro (layX x) came (mset opn x.next ⟨c, noneQ⟩) → K (.tuple #[voteV (voteP x x.next c), .int .i64 0]) h') : C_q58 [pt p 0, cmdV c] h K := by
  by_cases hs : x.state ≠ 2
  · have e : propE x opn c = 12 := by unfold propE; rw [if_pos hs]
    rw [e] at hbad
    exact sp_lProposeBad hB hL.blk c hs (hbad (by decide))
  refine ok_q58 ?_
  unfold G_q58
  have hb := hL.blk
  have lp := lt_of_get hb
  have lo := lt_of_get hL.opn
  have lc := lt_of_get hL.came
  unfold propE at hbad hok
  rw [if_neg hs] at hbad hok
  obtain ⟨c1, c2, c3, c4⟩ := c
  unfold cmdV
  have hs2 : x.state = 2 := Decidable.not_not.1 hs
  simp (disch := (first | omega | (simp only [sz]; done) | (simp only [lz, Nat.reduceAdd, Nat.reduceLeDiff, Nat.le_refl]; done) | (simp only [sz]; omega))) only [↓xa, xb, xl, Option.bind_some, Option.map_some, implies_true, imp_self, true_and, and_true, if_true, if_false, decide_true, decide_false, Int.cast_ofNat_Int, Int.reduceLT, Int.reduceLE, Int.reduceEq, Nat.reduceAdd, Nat.reduceMul, Nat.reduceLeDiff, setL, bfill, eqV, lookRes, rdC_blk hb, lcells, decide_eq_true hs2]
  have k1 : ((h.push (.cells (cmdC ⟨c1, c2, c3, c4⟩))).push (.cells #[.int .i64 0, .int .u64 0, .int .i64 0, .int .i64 0, .int .u64 0, .int .i64 0]))[h.size]? = some (.cells (cmdC ⟨c1, c2, c3, c4⟩)) := by
    rw [g_push_lt (by simp), g_push_eq rfl]
  have k2 : ((h.push (.cells (cmdC ⟨c1, c2, c3, c4⟩))).push (.cells #[.int .i64 0, .int .u64 0, .int .i64 0, .int .i64 0, .int .u64 0, .int .i64 0]))[h.size + 1]? = some (.cells #[.int .i64 0, .int .u64 0, .int .i64 0, .int .i64 0, .int .u64 0, .int .i64 0]) := by
    rw [g_push_eq (by simp)]
  have x2 : Ext h ((h.push (.cells (cmdC ⟨c1, c2, c3, c4⟩))).push (.cells #[.int .i64 0, .int .u64 0, .int .i64 0, .int .i64 0, .int .u64 0, .int .i64 0])) := (by repeat' (first | with_reducible exact Upd.refl _ | with_reducible refine Upd.push ?_ _ | with_reducible refine Upd.set ?_ _ _ ?_ | exact .inl (by (first | omega | (simp only [sz]; done) | (simp only [lz, Nat.reduceAdd, Nat.reduceLeDiff, Nat.le_refl]; done) | (simp only [sz]; omega))) | exact .inr rfl | exact .inr (by simp; done)))
  refine sp_Check (x2.hB hB) ⟨c1, c2, c3, c4⟩ ?_
  intro h3 y3
  have x3 := x2.trans y3
  replace k1 := y3.get k1 id
  replace k2 := y3.get k2 id
  have hb3 := x3.get hb id
  have hL3 := hL.ext x3
  have z3 := x3.1
  have y2 := y3.1
  simp only [Array.size_push] at y2
  unfold cmdC at k1
  by_cases e1 : checkC ⟨c1, c2, c3, c4⟩ = 0
  · rw [if_neg (by simpa using e1)] at hbad hok
    by_cases e2 : c1 = 0
    · rw [if_neg (by simp [e2])] at hbad hok
      simp (disch := (first | omega | (simp only [sz]; done) | (simp only [lz, Nat.reduceAdd, Nat.reduceLeDiff, Nat.le_refl]; done) | (simp only [sz]; omega))) only [↓xa, xb, xl, Option.bind_some, Option.map_some, implies_true, imp_self, true_and, and_true, if_true, if_false, decide_true, decide_false, Int.cast_ofNat_Int, Int.reduceLT, Int.reduceLE, Int.reduceEq, Nat.reduceAdd, Nat.reduceMul, Nat.reduceLeDiff, setL, bfill, eqV, lookRes, decide_eq_true e1, rdC_blk k1, decide_eq_true e2]
      (repeat' (first | (simp (disch := (first | omega | (simp only [sz]; done) | (simp only [lz, Nat.reduceAdd, Nat.reduceLeDiff, Nat.le_refl]; done) | (simp only [sz]; omega))) only [↓xa, xb, xl, Option.bind_some, Option.map_some, implies_true, imp_self, true_and, and_true, if_true, if_false, decide_true, decide_false, Int.cast_ofNat_Int, Int.reduceLT, Int.reduceLE, Int.reduceEq, Nat.reduceAdd, Nat.reduceMul, Nat.reduceLeDiff, setL, bfill, eqV, lookRes, rdC_blk hb3, rdN_all k1, lcells, m_blk hL3.opn, encM_length, b_blk k2]) | ((refine e_ifd _ _ _ (fun hc => ?_) (fun hc => ?_)) <;> first | (exfalso; omega) | (simp (disch := (first | omega | (simp only [sz]; done) | (simp only [lz, Nat.reduceAdd, Nat.reduceLeDiff, Nat.le_refl]; done) | (simp only [sz]; omega))) only [↓xa, xb, xl, Option.bind_some, Option.map_some, implies_true, imp_self, true_and, and_true, if_true, if_false, decide_true, decide_false, Int.cast_ofNat_Int, Int.reduceLT, Int.reduceLE, Int.reduceEq, Nat.reduceAdd, Nat.reduceMul, Nat.reduceLeDiff, setL, bfill, eqV, lookRes, rdC_blk hb3, rdN_all k1, lcells, m_blk hL3.opn, encM_length, b_blk k2, hc]) | skip) | ((refine e_ifn _ _ _ (fun hc => ?_) (fun hc => ?_)) <;> first | (exfalso; omega) | (simp (disch := (first | omega | (simp only [sz]; done) | (simp only [lz, Nat.reduceAdd, Nat.reduceLeDiff, Nat.le_refl]; done) | (simp only [sz]; omega))) only [↓xa, xb, xl, Option.bind_some, Option.map_some, implies_true, imp_self, true_and, and_true, if_true, if_false, decide_true, decide_false, Int.cast_ofNat_Int, Int.reduceLT, Int.reduceLE, Int.reduceEq, Nat.reduceAdd, Nat.reduceMul, Nat.reduceLeDiff, setL, bfill, eqV, lookRes, rdC_blk hb3, rdN_all k1, lcells, m_blk hL3.opn, encM_length, b_blk k2, hc]) | skip) | ((refine e_gd _ _ _ _ _ (fun hc => ?_) (fun hc => ?_)) <;> first | (exfalso; omega) | (simp (disch := (first | omega | (simp only [sz]; done) | (simp only [lz, Nat.reduceAdd, Nat.reduceLeDiff, Nat.le_refl]; done) | (simp only [sz]; omega))) only [↓xa, xb, xl, Option.bind_some, Option.map_some, implies_true, imp_self, true_and, and_true, if_true, if_false, decide_true, decide_false, Int.cast_ofNat_Int, Int.reduceLT, Int.reduceLE, Int.reduceEq, Nat.reduceAdd, Nat.reduceMul, Nat.reduceLeDiff, setL, bfill, eqV, lookRes, rdC_blk hb3, rdN_all k1, lcells, m_blk hL3.opn, encM_length, b_blk k2, hc]) | skip) | ((refine e_gn _ _ _ _ _ (fun hc => ?_) (fun hc => ?_)) <;> first | (exfalso; omega) | (simp (disch := (first | omega | (simp only [sz]; done) | (simp only [lz, Nat.reduceAdd, Nat.reduceLeDiff, Nat.le_refl]; done) | (simp only [sz]; omega))) only [↓xa, xb, xl, Option.bind_some, Option.map_some, implies_true, imp_self, true_and, and_true, if_true, if_false, decide_true, decide_false, Int.cast_ofNat_Int, Int.reduceLT, Int.reduceLE, Int.reduceEq, Nat.reduceAdd, Nat.reduceMul, Nat.reduceLeDiff, setL, bfill, eqV, lookRes, rdC_blk hb3, rdN_all k1, lcells, m_blk hL3.opn, encM_length, b_blk k2, hc]) | skip) | ((refine e_pd _ _ _ _ _ (fun hc => ?_) (fun hc => ?_)) <;> first | (exfalso; omega) | (simp (disch := (first | omega | (simp only [sz]; done) | (simp only [lz, Nat.reduceAdd, Nat.reduceLeDiff, Nat.le_refl]; done) | (simp only [sz]; omega))) only [↓xa, xb, xl, Option.bind_some, Option.map_some, implies_true, imp_self, true_and, and_true, if_true, if_false, decide_true, decide_false, Int.cast_ofNat_Int, Int.reduceLT, Int.reduceLE, Int.reduceEq, Nat.reduceAdd, Nat.reduceMul, Nat.reduceLeDiff, setL, bfill, eqV, lookRes, rdC_blk hb3, rdN_all k1, lcells, m_blk hL3.opn, encM_length, b_blk k2, hc]) | skip) | ((refine e_pn _ _ _ _ _ (fun hc => ?_) (fun hc => ?_)) <;> first | (exfalso; omega) | (simp (disch := (first | omega | (simp only [sz]; done) | (simp only [lz, Nat.reduceAdd, Nat.reduceLeDiff, Nat.le_refl]; done) | (simp only [sz]; omega))) only [↓xa, xb, xl, Option.bind_some, Option.map_some, implies_true, imp_self, true_and, and_true, if_true, if_false, decide_true, decide_false, Int.cast_ofNat_Int, Int.reduceLT, Int.reduceLE, Int.reduceEq, Nat.reduceAdd, Nat.reduceMul, Nat.reduceLeDiff, setL, bfill, eqV, lookRes, rdC_blk hb3, rdN_all k1, lcells, m_blk hL3.opn, encM_length, b_blk k2, hc]) | skip) | ((refine e_if2 _ _ _ (fun hc => ?_) (fun hc => ?_)) <;> first | (exfalso; omega) | (simp (disch := (first | omega | (simp only [sz]; done) | (simp only [lz, Nat.reduceAdd, Nat.reduceLeDiff, Nat.le_refl]; done) | (simp only [sz]; omega))) only [↓xa, xb, xl, Option.bind_some, Option.map_some, implies_true, imp_self, true_and, and_true, if_true, if_false, decide_true, decide_false, Int.cast_ofNat_Int, Int.reduceLT, Int.reduceLE, Int.reduceEq, Nat.reduceAdd, Nat.reduceMul, Nat.reduceLeDiff, setL, bfill, eqV, lookRes, rdC_blk hb3, rdN_all k1, lcells, m_blk hL3.opn, encM_length, b_blk k2, hc]) | skip) | ((refine e_g2 _ _ _ _ _ (fun hc => ?_) (fun hc => ?_)) <;> first | (exfalso; omega) | (simp (disch := (first | omega | (simp only [sz]; done) | (simp only [lz, Nat.reduceAdd, Nat.reduceLeDiff, Nat.le_refl]; done) | (simp only [sz]; omega))) only [↓xa, xb, xl, Option.bind_some, Option.map_some, implies_true, imp_self, true_and, and_true, if_true, if_false, decide_true, decide_false, Int.cast_ofNat_Int, Int.reduceLT, Int.reduceLE, Int.reduceEq, Nat.reduceAdd, Nat.reduceMul, Nat.reduceLeDiff, setL, bfill, eqV, lookRes, rdC_blk hb3, rdN_all k1, lcells, m_blk hL3.opn, encM_length, b_blk k2, hc]) | skip)))
      all_goals first
        | (have hfull : 8 ≤ opn.length ∨ 512 ≤ x.next := by omega
           rw [if_pos hfull] at hbad
           exact hbad (by decide) _ (Upd.set x3 _ _ (.inl (by omega))))
        | skip
      rw [if_neg (by omega)] at hok
      refine sp_llay (x3.hB hB) hL3 ⟨by omega, by omega⟩ ⟨c1, c2, c3, c4⟩ ?_
      intro h5 u5 hL5
      have z5 := u5.1
      have k5 : h5[h.size + 1]? = some (.cells #[.int .i64 0, .int .u64 0, .int .i64 0, .int .i64 0, .int .u64 0, .int .i64 0]) := u5.get k2 (by omega)
      refine sp_lvote (by omega) hL5 x.next (q := ⟨⟨c1, c2, c3, c4⟩, noneQ⟩) (by rw [mget_mset, if_pos rfl]) ?_
      intro h6 y6
      have z6 := y6.1
      have k6 := y6.get k5 id
      unfold voteV at *
      simp (disch := (first | omega | (simp only [sz]; done) | (simp only [lz, Nat.reduceAdd, Nat.reduceLeDiff, Nat.le_refl]; done) | (simp only [sz]; omega))) only [↓xa, xb, xl, Option.bind_some, Option.map_some, implies_true, imp_self, true_and, and_true, if_true, if_false, decide_true, decide_false, Int.cast_ofNat_Int, Int.reduceLT, Int.reduceLE, Int.reduceEq, Nat.reduceAdd, Nat.reduceMul, Nat.reduceLeDiff, setL, bfill, eqV, lookRes, b_blk k6]
      refine hok rfl _ (Upd.set (((x3.lift).trans u5).trans y6.lift) _ _ (.inl (by omega))) ?_
      exact (hL5.ext y6).set (by omega) (by omega) (by omega)
    · simp (disch := (first | omega | (simp only [sz]; done) | (simp only [lz, Nat.reduceAdd, Nat.reduceLeDiff, Nat.le_refl]; done) | (simp only [sz]; omega))) only [↓xa, xb, xl, Option.bind_some, Option.map_some, implies_true, imp_self, true_and, and_true, if_true, if_false, decide_true, decide_false, Int.cast_ofNat_Int, Int.reduceLT, Int.reduceLE, Int.reduceEq, Nat.reduceAdd, Nat.reduceMul, Nat.reduceLeDiff, setL, bfill, eqV, lookRes, decide_eq_true e1, rdC_blk k1, decide_eq_false e2, rdN_all k1]
      refine sp_lproposed (x3.hB hB) hL3 hk ⟨c1, c2, c3, c4⟩ ?_
      intro h4 y4
      have x4 := x3.trans y4
      have hb4 := x4.get hb id
      have hL4 := hL.ext x4
      have z4 := y4.1
      have m1 := y4.get k1 id
      have m2 := y4.get k2 id
      by_cases e3 : (openL x opn).any (isCmd ⟨c1, c2, c3, c4⟩) = true
      · rw [if_pos ⟨e2, e3⟩] at hbad
        simp (disch := (first | omega | (simp only [sz]; done) | (simp only [lz, Nat.reduceAdd, Nat.reduceLeDiff, Nat.le_refl]; done) | (simp only [sz]; omega))) only [↓xa, xb, xl, Option.bind_some, Option.map_some, implies_true, imp_self, true_and, and_true, if_true, if_false, decide_true, decide_false, Int.cast_ofNat_Int, Int.reduceLT, Int.reduceLE, Int.reduceEq, Nat.reduceAdd, Nat.reduceMul, Nat.reduceLeDiff, setL, bfill, eqV, lookRes, e3, b_blk m2]
        exact hbad (by decide) _ (Upd.set x4 _ _ (.inl (by omega)))
      · rw [if_neg (by simp [e3])] at hbad hok
        simp (disch := (first | omega | (simp only [sz]; done) | (simp only [lz, Nat.reduceAdd, Nat.reduceLeDiff, Nat.le_refl]; done) | (simp only [sz]; omega))) only [↓xa, xb, xl, Option.bind_some, Option.map_some, implies_true, imp_self, true_and, and_true, if_true, if_false, decide_true, decide_false, Int.cast_ofNat_Int, Int.reduceLT, Int.reduceLE, Int.reduceEq, Nat.reduceAdd, Nat.reduceMul, Nat.reduceLeDiff, setL, bfill, eqV, lookRes, eq_false_of_ne_true e3]
        (repeat' (first | (simp (disch := (first | omega | (simp only [sz]; done) | (simp only [lz, Nat.reduceAdd, Nat.reduceLeDiff, Nat.le_refl]; done) | (simp only [sz]; omega))) only [↓xa, xb, xl, Option.bind_some, Option.map_some, implies_true, imp_self, true_and, and_true, if_true, if_false, decide_true, decide_false, Int.cast_ofNat_Int, Int.reduceLT, Int.reduceLE, Int.reduceEq, Nat.reduceAdd, Nat.reduceMul, Nat.reduceLeDiff, setL, bfill, eqV, lookRes, rdC_blk hb4, rdN_all m1, lcells, m_blk hL4.opn, encM_length, b_blk m2]) | ((refine e_ifd _ _ _ (fun hc => ?_) (fun hc => ?_)) <;> first | (exfalso; omega) | (simp (disch := (first | omega | (simp only [sz]; done) | (simp only [lz, Nat.reduceAdd, Nat.reduceLeDiff, Nat.le_refl]; done) | (simp only [sz]; omega))) only [↓xa, xb, xl, Option.bind_some, Option.map_some, implies_true, imp_self, true_and, and_true, if_true, if_false, decide_true, decide_false, Int.cast_ofNat_Int, Int.reduceLT, Int.reduceLE, Int.reduceEq, Nat.reduceAdd, Nat.reduceMul, Nat.reduceLeDiff, setL, bfill, eqV, lookRes, rdC_blk hb4, rdN_all m1, lcells, m_blk hL4.opn, encM_length, b_blk m2, hc]) | skip) | ((refine e_ifn _ _ _ (fun hc => ?_) (fun hc => ?_)) <;> first | (exfalso; omega) | (simp (disch := (first | omega | (simp only [sz]; done) | (simp only [lz, Nat.reduceAdd, Nat.reduceLeDiff, Nat.le_refl]; done) | (simp only [sz]; omega))) only [↓xa, xb, xl, Option.bind_some, Option.map_some, implies_true, imp_self, true_and, and_true, if_true, if_false, decide_true, decide_false, Int.cast_ofNat_Int, Int.reduceLT, Int.reduceLE, Int.reduceEq, Nat.reduceAdd, Nat.reduceMul, Nat.reduceLeDiff, setL, bfill, eqV, lookRes, rdC_blk hb4, rdN_all m1, lcells, m_blk hL4.opn, encM_length, b_blk m2, hc]) | skip) | ((refine e_gd _ _ _ _ _ (fun hc => ?_) (fun hc => ?_)) <;> first | (exfalso; omega) | (simp (disch := (first | omega | (simp only [sz]; done) | (simp only [lz, Nat.reduceAdd, Nat.reduceLeDiff, Nat.le_refl]; done) | (simp only [sz]; omega))) only [↓xa, xb, xl, Option.bind_some, Option.map_some, implies_true, imp_self, true_and, and_true, if_true, if_false, decide_true, decide_false, Int.cast_ofNat_Int, Int.reduceLT, Int.reduceLE, Int.reduceEq, Nat.reduceAdd, Nat.reduceMul, Nat.reduceLeDiff, setL, bfill, eqV, lookRes, rdC_blk hb4, rdN_all m1, lcells, m_blk hL4.opn, encM_length, b_blk m2, hc]) | skip) | ((refine e_gn _ _ _ _ _ (fun hc => ?_) (fun hc => ?_)) <;> first | (exfalso; omega) | (simp (disch := (first | omega | (simp only [sz]; done) | (simp only [lz, Nat.reduceAdd, Nat.reduceLeDiff, Nat.le_refl]; done) | (simp only [sz]; omega))) only [↓xa, xb, xl, Option.bind_some, Option.map_some, implies_true, imp_self, true_and, and_true, if_true, if_false, decide_true, decide_false, Int.cast_ofNat_Int, Int.reduceLT, Int.reduceLE, Int.reduceEq, Nat.reduceAdd, Nat.reduceMul, Nat.reduceLeDiff, setL, bfill, eqV, lookRes, rdC_blk hb4, rdN_all m1, lcells, m_blk hL4.opn, encM_length, b_blk m2, hc]) | skip) | ((refine e_pd _ _ _ _ _ (fun hc => ?_) (fun hc => ?_)) <;> first | (exfalso; omega) | (simp (disch := (first | omega | (simp only [sz]; done) | (simp only [lz, Nat.reduceAdd, Nat.reduceLeDiff, Nat.le_refl]; done) | (simp only [sz]; omega))) only [↓xa, xb, xl, Option.bind_some, Option.map_some, implies_true, imp_self, true_and, and_true, if_true, if_false, decide_true, decide_false, Int.cast_ofNat_Int, Int.reduceLT, Int.reduceLE, Int.reduceEq, Nat.reduceAdd, Nat.reduceMul, Nat.reduceLeDiff, setL, bfill, eqV, lookRes, rdC_blk hb4, rdN_all m1, lcells, m_blk hL4.opn, encM_length, b_blk m2, hc]) | skip) | ((refine e_pn _ _ _ _ _ (fun hc => ?_) (fun hc => ?_)) <;> first | (exfalso; omega) | (simp (disch := (first | omega | (simp only [sz]; done) | (simp only [lz, Nat.reduceAdd, Nat.reduceLeDiff, Nat.le_refl]; done) | (simp only [sz]; omega))) only [↓xa, xb, xl, Option.bind_some, Option.map_some, implies_true, imp_self, true_and, and_true, if_true, if_false, decide_true, decide_false, Int.cast_ofNat_Int, Int.reduceLT, Int.reduceLE, Int.reduceEq, Nat.reduceAdd, Nat.reduceMul, Nat.reduceLeDiff, setL, bfill, eqV, lookRes, rdC_blk hb4, rdN_all m1, lcells, m_blk hL4.opn, encM_length, b_blk m2, hc]) | skip) | ((refine e_if2 _ _ _ (fun hc => ?_) (fun hc => ?_)) <;> first | (exfalso; omega) | (simp (disch := (first | omega | (simp only [sz]; done) | (simp only [lz, Nat.reduceAdd, Nat.reduceLeDiff, Nat.le_refl]; done) | (simp only [sz]; omega))) only [↓xa, xb, xl, Option.bind_some, Option.map_some, implies_true, imp_self, true_and, and_true, if_true, if_false, decide_true, decide_false, Int.cast_ofNat_Int, Int.reduceLT, Int.reduceLE, Int.reduceEq, Nat.reduceAdd, Nat.reduceMul, Nat.reduceLeDiff, setL, bfill, eqV, lookRes, rdC_blk hb4, rdN_all m1, lcells, m_blk hL4.opn, encM_length, b_blk m2, hc]) | skip) | ((refine e_g2 _ _ _ _ _ (fun hc => ?_) (fun hc => ?_)) <;> first | (exfalso; omega) | (simp (disch := (first | omega | (simp only [sz]; done) | (simp only [lz, Nat.reduceAdd, Nat.reduceLeDiff, Nat.le_refl]; done) | (simp only [sz]; omega))) only [↓xa, xb, xl, Option.bind_some, Option.map_some, implies_true, imp_self, true_and, and_true, if_true, if_false, decide_true, decide_false, Int.cast_ofNat_Int, Int.reduceLT, Int.reduceLE, Int.reduceEq, Nat.reduceAdd, Nat.reduceMul, Nat.reduceLeDiff, setL, bfill, eqV, lookRes, rdC_blk hb4, rdN_all m1, lcells, m_blk hL4.opn, encM_length, b_blk m2, hc]) | skip)))
        all_goals first
          | (have hfull : 8 ≤ opn.length ∨ 512 ≤ x.next := by omega
             rw [if_pos hfull] at hbad
             exact hbad (by decide) _ (Upd.set x4 _ _ (.inl (by omega))))
          | skip
        rw [if_neg (by omega)] at hok
        refine sp_llay (x4.hB hB) hL4 ⟨by omega, by omega⟩ ⟨c1, c2, c3, c4⟩ ?_
        intro h5 u5 hL5
        have z5 := u5.1
        have k5 : h5[h.size + 1]? = some (.cells #[.int .i64 0, .int .u64 0, .int .i64 0, .int .i64 0, .int .u64 0, .int .i64 0]) := u5.get m2 (by omega)
        refine sp_lvote (by omega) hL5 x.next (q := ⟨⟨c1, c2, c3, c4⟩, noneQ⟩) (by rw [mget_mset, if_pos rfl]) ?_
        intro h6 y6
        have z6 := y6.1
        have k6 := y6.get k5 id
        unfold voteV at *
        simp (disch := (first | omega | (simp only [sz]; done) | (simp only [lz, Nat.reduceAdd, Nat.reduceLeDiff, Nat.le_refl]; done) | (simp only [sz]; omega))) only [↓xa, xb, xl, Option.bind_some, Option.map_some, implies_true, imp_self, true_and, and_true, if_true, if_false, decide_true, decide_false, Int.cast_ofNat_Int, Int.reduceLT, Int.reduceLE, Int.reduceEq, Nat.reduceAdd, Nat.reduceMul, Nat.reduceLeDiff, setL, bfill, eqV, lookRes, b_blk k6]
        refine hok rfl _ (Upd.set (((x4.lift).trans u5).trans y6.lift) _ _ (.inl (by omega))) ?_
        exact (hL5.ext y6).set (by omega) (by omega) (by omega)
  · rw [if_pos e1] at hbad
    simp (disch := (first | omega | (simp only [sz]; done) | (simp only [lz, Nat.reduceAdd, Nat.reduceLeDiff, Nat.le_refl]; done) | (simp only [sz]; omega))) only [↓xa, xb, xl, Option.bind_some, Option.map_some, implies_true, imp_self, true_and, and_true, if_true, if_false, decide_true, decide_false, Int.cast_ofNat_Int, Int.reduceLT, Int.reduceLE, Int.reduceEq, Nat.reduceAdd, Nat.reduceMul, Nat.reduceLeDiff, setL, bfill, eqV, lookRes, decide_eq_false e1, b_blk k2]
    exact hbad e1 _ (Upd.set x3 _ _ (.inl (by omega)))
end Go.Proofs.Ytdolepapmpcpiaa

namespace Go.Proofs.Ytdolepapmpcpiaa
open Go Go.RowKit Go.Maps Go.Shelf
set_option linter.unusedSectionVars false
variable [Base]
set_option linter.unusedVariables false
set_option linter.unusedSimpArgs false
set_option maxRecDepth 10000
def accW (q : Prp) (who : Int) : Prp := ⟨q.cmd, addQ q.who who⟩
theorem sp_lAcceptedBad {h : Hp} (hB : Base.b ≤ h.size) {p : Nat} {x : LS} {cm om : Option Nat} (hb : h[p]? = some (.cells (lcells x cm om))) (b slot who : Int) (hbad : ¬ ((x.state = 2 ∧ x.ballot = b) ∧ 1 ≤ who ∧ who ≤ x.masters)) {K : Kont}
    (hK : ∀ h', Ext h h' → K (.tuple #[voteV vote0, .bool false]) h') : C_q47 [pt p 0, .int .u64 b, .int .i64 slot, .int .i64 who] h K := by
  refine ok_q47 ?_
  unfold G_q47
  have x1 : Ext h (h.push (.cells #[.int .i64 0, .int .u64 0, .int .i64 0, .int .i64 0, .int .u64 0, .int .i64 0])) := (by repeat' (first | with_reducible exact Upd.refl _ | with_reducible refine Upd.push ?_ _ | with_reducible refine Upd.set ?_ _ _ ?_ | exact .inl (by (first | omega | (simp only [sz]; done) | (simp only [lz, Nat.reduceAdd, Nat.reduceLeDiff, Nat.le_refl]; done) | (simp only [sz]; omega))) | exact .inr rfl | exact .inr (by simp; done)))
  have hb1 := x1.get hb id
  (try simp (disch := (first | omega | (simp only [sz]; done) | (simp only [lz, Nat.reduceAdd, Nat.reduceLeDiff, Nat.le_refl]; done) | (simp only [sz]; omega))) only [↓xa, xb, xl, Option.bind_some, Option.map_some, implies_true, imp_self, true_and, and_true, if_true, if_false, decide_true, decide_false, Int.cast_ofNat_Int, Int.reduceLT, Int.reduceLE, Int.reduceEq, Nat.reduceAdd, Nat.reduceMul, Nat.reduceLeDiff, setL, bfill, eqV, lookRes])
  refine sp_lis hb1 2 b ?_
  by_cases h1 : x.state = 2 ∧ x.ballot = b
  · simp (disch := (first | omega | (simp only [sz]; done) | (simp only [lz, Nat.reduceAdd, Nat.reduceLeDiff, Nat.le_refl]; done) | (simp only [sz]; omega))) only [↓xa, xb, xl, Option.bind_some, Option.map_some, implies_true, imp_self, true_and, and_true, if_true, if_false, decide_true, decide_false, Int.cast_ofNat_Int, Int.reduceLT, Int.reduceLE, Int.reduceEq, Nat.reduceAdd, Nat.reduceMul, Nat.reduceLeDiff, setL, bfill, eqV, lookRes, decide_eq_true h1]
    refine sp_lmaster hb1 who ?_
    have h2 : ¬ (1 ≤ who ∧ who ≤ x.masters) := fun h => hbad ⟨h1, h⟩
    simp (disch := (first | omega | (simp only [sz]; done) | (simp only [lz, Nat.reduceAdd, Nat.reduceLeDiff, Nat.le_refl]; done) | (simp only [sz]; omega))) only [↓xa, xb, xl, Option.bind_some, Option.map_some, implies_true, imp_self, true_and, and_true, if_true, if_false, decide_true, decide_false, Int.cast_ofNat_Int, Int.reduceLT, Int.reduceLE, Int.reduceEq, Nat.reduceAdd, Nat.reduceMul, Nat.reduceLeDiff, setL, bfill, eqV, lookRes, decide_eq_false h2]
    exact hK _ (by repeat' (first | with_reducible exact Upd.refl _ | with_reducible refine Upd.push ?_ _ | with_reducible refine Upd.set ?_ _ _ ?_ | exact .inl (by (first | omega | (simp only [sz]; done) | (simp only [lz, Nat.reduceAdd, Nat.reduceLeDiff, Nat.le_refl]; done) | (simp only [sz]; omega))) | exact .inr rfl | exact .inr (by simp; done)))
  · simp (disch := (first | omega | (simp only [sz]; done) | (simp only [lz, Nat.reduceAdd, Nat.reduceLeDiff, Nat.le_refl]; done) | (simp only [sz]; omega))) only [↓xa, xb, xl, Option.bind_some, Option.map_some, implies_true, imp_self, true_and, and_true, if_true, if_false, decide_true, decide_false, Int.cast_ofNat_Int, Int.reduceLT, Int.reduceLE, Int.reduceEq, Nat.reduceAdd, Nat.reduceMul, Nat.reduceLeDiff, setL, bfill, eqV, lookRes, decide_eq_false h1]
    exact hK _ (by repeat' (first | with_reducible exact Upd.refl _ | with_reducible refine Upd.push ?_ _ | with_reducible refine Upd.set ?_ _ _ ?_ | exact .inl (by (first | omega | (simp only [sz]; done) | (simp only [lz, Nat.reduceAdd, Nat.reduceLeDiff, Nat.le_refl]; done) | (simp only [sz]; omega))) | exact .inr rfl | exact .inr (by simp; done)))
set_option maxHeartbeats 2000000 in
theorem sp_lAccepted {h : Hp} (hB : Base.b ≤ h.size) {p rc ro : Nat} {x : LS} {came : List (Int × LV)} {opn : List (Int × Prp)} (hL : Lead h p rc ro x came opn) (hm : 1 ≤ x.masters ∧ x.masters ≤ 5) (b slot who : Int) (hok : (x.state = 2 ∧ x.ballot = b) ∧ 1 ≤ who ∧ who ≤ x.masters) {K : Kont}
    (hnone : mget opn slot = none → ∀ h', Ext h h' → K (.tuple #[voteV vote0, .bool false]) h')
    (hno : ∀ q, mget opn slot = some q → enoughQ (addQ q.who who) x.masters = false → ∀ h', Upd (fun r => r = ro) h h' → Lead h' p rc ro x came (mset opn slot (accW q who)) → K (.tuple #[voteV vote0, .bool false]) h')
    (hyes : ∀ q, mget opn slot = some q → enoughQ (addQ q.who who) x.masters = true → ∀ h', Upd (fun r => r = ro) h h' → Lead h' p rc ro x came (mdel (mset opn slot (accW q who)) slot) → K (.tuple #[voteV (voteP x slot q.cmd), .bool true]) h') :
    C_q47 [pt p 0, .int .u64 b, .int .i64 slot, .int .i64 who] h K := by
  refine ok_q47 ?_
  unfold G_q47
  have x1 : Ext h (h.push (.cells #[.int .i64 0, .int .u64 0, .int .i64 0, .int .i64 0, .int .u64 0, .int .i64 0])) := (by repeat' (first | with_reducible exact Upd.refl _ | with_reducible refine Upd.push ?_ _ | with_reducible refine Upd.set ?_ _ _ ?_ | exact .inl (by (first | omega | (simp only [sz]; done) | (simp only [lz, Nat.reduceAdd, Nat.reduceLeDiff, Nat.le_refl]; done) | (simp only [sz]; omega))) | exact .inr rfl | exact .inr (by simp; done)))
  have k1 : (h.push (.cells #[.int .i64 0, .int .u64 0, .int .i64 0, .int .i64 0, .int .u64 0, .int .i64 0]))[h.size]? = some (.cells #[.int .i64 0, .int .u64 0, .int .i64 0, .int .i64 0, .int .u64 0, .int .i64 0]) := g_push_eq rfl
  have hL1 := hL.ext x1
  have l1 : (h.push (.cells #[.int .i64 0, .int .u64 0, .int .i64 0, .int .i64 0, .int .u64 0, .int .i64 0])).size = h.size + 1 := by simp
  have lp := lt_of_get hL.blk
  have lc := lt_of_get hL.came
  have lo := lt_of_get hL.opn
  have hpc : p ≠ rc := by intro e; have := hL.came; rw [← e, hL.blk] at this; cases this
  have hpo : p ≠ ro := by intro e; have := hL.opn; rw [← e, hL.blk] at this; cases this
  have hne := hL.ne
  have hB1 := x1.hB hB
  (try simp (disch := (first | omega | (simp only [sz]; done) | (simp only [lz, Nat.reduceAdd, Nat.reduceLeDiff, Nat.le_refl]; done) | (simp only [sz]; omega))) only [↓xa, xb, xl, Option.bind_some, Option.map_some, implies_true, imp_self, true_and, and_true, if_true, if_false, decide_true, decide_false, Int.cast_ofNat_Int, Int.reduceLT, Int.reduceLE, Int.reduceEq, Nat.reduceAdd, Nat.reduceMul, Nat.reduceLeDiff, setL, bfill, eqV, lookRes])
  generalize h.push (.cells #[.int .i64 0, .int .u64 0, .int .i64 0, .int .i64 0, .int .u64 0, .int .i64 0]) = h1 at *
  refine sp_lis hL1.blk 2 b ?_
  simp (disch := (first | omega | (simp only [sz]; done) | (simp only [lz, Nat.reduceAdd, Nat.reduceLeDiff, Nat.le_refl]; done) | (simp only [sz]; omega))) only [↓xa, xb, xl, Option.bind_some, Option.map_some, implies_true, imp_self, true_and, and_true, if_true, if_false, decide_true, decide_false, Int.cast_ofNat_Int, Int.reduceLT, Int.reduceLE, Int.reduceEq, Nat.reduceAdd, Nat.reduceMul, Nat.reduceLeDiff, setL, bfill, eqV, lookRes, decide_eq_true hok.1]
  refine sp_lmaster hL1.blk who ?_
  have hb1 := hL1.blk
  obtain ⟨f, hf⟩ : ∃ f, mfind opn slot 0 = f := ⟨_, rfl⟩
  rcases f with _ | ⟨n, q⟩
  · have hg : mget opn slot = none := by unfold mget; rw [hf]; rfl
    simp (disch := (first | omega | (simp only [sz]; done) | (simp only [lz, Nat.reduceAdd, Nat.reduceLeDiff, Nat.le_refl]; done) | (simp only [sz]; omega))) only [↓xa, xb, xl, Option.bind_some, Option.map_some, implies_true, imp_self, true_and, and_true, if_true, if_false, decide_true, decide_false, Int.cast_ofNat_Int, Int.reduceLT, Int.reduceLE, Int.reduceEq, Nat.reduceAdd, Nat.reduceMul, Nat.reduceLeDiff, setL, bfill, eqV, lookRes, decide_eq_true hok.2, rdC_blk hb1, lcells, m_blk hL1.opn, kvFind_enc, hf, Option.map_none, b_blk k1]
    exact hnone hg _ (Upd.set (Ext.trans x1 (by repeat' (first | with_reducible exact Upd.refl _ | with_reducible refine Upd.push ?_ _ | with_reducible refine Upd.set ?_ _ _ ?_ | exact .inl (by (first | omega | (simp only [sz]; done) | (simp only [lz, Nat.reduceAdd, Nat.reduceLeDiff, Nat.le_refl]; done) | (simp only [sz]; omega))) | exact .inr rfl | exact .inr (by simp; done)))) _ _ (.inl (by omega)))
  · have hg : mget opn slot = some q := by unfold mget; rw [hf]; rfl
    have hq : ∀ w, prpV ⟨q.cmd, w⟩ = .agg #[.int .i64 q.cmd.kind, .int .i64 q.cmd.chain, .int .u64 q.cmd.epoch, .int .i64 q.cmd.node, .int .u64 (bitsOf w)] := fun _ => rfl
    simp (disch := (first | omega | (simp only [sz]; done) | (simp only [lz, Nat.reduceAdd, Nat.reduceLeDiff, Nat.le_refl]; done) | (simp only [sz]; omega))) only [↓xa, xb, xl, Option.bind_some, Option.map_some, implies_true, imp_self, true_and, and_true, if_true, if_false, decide_true, decide_false, Int.cast_ofNat_Int, Int.reduceLT, Int.reduceLE, Int.reduceEq, Nat.reduceAdd, Nat.reduceMul, Nat.reduceLeDiff, setL, bfill, eqV, lookRes, decide_eq_true hok.2, rdC_blk hb1, lcells, m_blk hL1.opn, kvFind_enc, hf, prpV]
    have hkw : isM who := isM_of (by omega) (by omega)
    obtain ⟨h2, e2⟩ : ∃ h2 : Hp, h2 = ((h1.push (.cells #[.int .i64 0, .int .i64 0, .int .u64 0, .int .i64 0, .int .u64 0])).setIfInBounds h1.size (.cells #[.int .i64 q.cmd.kind, .int .i64 q.cmd.chain, .int .u64 q.cmd.epoch, .int .i64 q.cmd.node, .int .u64 (bitsOf q.who)])).push (.cells #[.int .i64 who]) := ⟨_, rfl⟩
    have l2 : h2.size = h.size + 3 := by rw [e2]; simp; omega
    have x2 : Ext h1 h2 := by rw [e2]; exact (by repeat' (first | with_reducible exact Upd.refl _ | with_reducible refine Upd.push ?_ _ | with_reducible refine Upd.set ?_ _ _ ?_ | exact .inl (by (first | omega | (simp only [sz]; done) | (simp only [lz, Nat.reduceAdd, Nat.reduceLeDiff, Nat.le_refl]; done) | (simp only [sz]; omega))) | exact .inr rfl | exact .inr (by simp; done)))
    have k2 : h2[h1.size]? = some (.cells #[.int .i64 q.cmd.kind, .int .i64 q.cmd.chain, .int .u64 q.cmd.epoch, .int .i64 q.cmd.node, .int .u64 (bitsOf q.who)]) := by
      rw [e2, g_push_lt (by simp), g_set_eq (by simp) rfl]
    have ks : h2[h1.size + 1]? = some (.cells #[.int .i64 who]) := by
      rw [e2, g_push_eq (by simp)]
    rw [← e2]
    clear e2
    have hS : Sl h2 1 icell (.slice (some ⟨h1.size + 1, 0, none⟩) 1 1) [who] := Own.sl (base := 0) (.inr ⟨_, 1, _, rfl, Nat.zero_le _, ks, Nat.le_refl _, rfl, rfl⟩)
    refine sp_With q.who hS (by simp) (by intro y hy; cases hy with | head => exact hkw | tail _ hy => cases hy) ?_
    have hL2 := hL1.ext x2
    have hb2 := hL2.blk
    have kv2 := x2.get k1 id
    have hw : [who].foldl addQ q.who = addQ q.who who := rfl
    rw [hw]
    simp only [l1] at k2 ks hS ⊢
    simp (disch := (first | omega | (simp only [sz]; done) | (simp only [lz, Nat.reduceAdd, Nat.reduceLeDiff, Nat.le_refl]; done) | (simp only [sz]; omega))) only [↓xa, xb, xl, Option.bind_some, Option.map_some, implies_true, imp_self, true_and, and_true, if_true, if_false, decide_true, decide_false, Int.cast_ofNat_Int, Int.reduceLT, Int.reduceLE, Int.reduceEq, Nat.reduceAdd, Nat.reduceMul, Nat.reduceLeDiff, setL, bfill, eqV, lookRes, rdC_blk hb2, lcells, b_blk k2, m_blk hL2.opn, kvFind_enc, hf]
    have hput : kvPut (encM prpV opn) (some (n, prpV q)) (.int .i64 slot) (.agg #[.int .i64 q.cmd.kind, .int .i64 q.cmd.chain, .int .u64 q.cmd.epoch, .int .i64 q.cmd.node, .int .u64 (bitsOf (addQ q.who who))]) = encM prpV (mset opn slot (accW q who)) := by
      have := kvPut_enc prpV opn slot (accW q who)
      rw [hf] at this
      exact this
    rw [hput]
    have lo2 := lt_of_get hL2.opn
    have u3 : Upd (fun r => r = ro) h ((h2.setIfInBounds (h.size + 1) (.cells #[.int .i64 q.cmd.kind, .int .i64 q.cmd.chain, .int .u64 q.cmd.epoch, .int .i64 q.cmd.node, .int .u64 (bitsOf (addQ q.who who))])).setIfInBounds ro (.map (encM prpV (mset opn slot (accW q who))))) :=
      Upd.set (Upd.set (x1.trans x2).lift _ _ (.inl (by omega))) _ _ (.inr rfl)
    have hL3 : Lead ((h2.setIfInBounds (h.size + 1) (.cells #[.int .i64 q.cmd.kind, .int .i64 q.cmd.chain, .int .u64 q.cmd.epoch, .int .i64 q.cmd.node, .int .u64 (bitsOf (addQ q.who who))])).setIfInBounds ro (.map (encM prpV (mset opn slot (accW q who))))) p rc ro x came (mset opn slot (accW q who)) :=
      ⟨by rw [g_set_ne (by omega), g_set_ne (by omega)]; exact hL2.blk, by rw [g_set_ne (by omega), g_set_ne (by omega)]; exact hL2.came, g_set_eq (by simpa using lo2) rfl, hne⟩
    have k3 : ((h2.setIfInBounds (h.size + 1) (.cells #[.int .i64 q.cmd.kind, .int .i64 q.cmd.chain, .int .u64 q.cmd.epoch, .int .i64 q.cmd.node, .int .u64 (bitsOf (addQ q.who who))])).setIfInBounds ro (.map (encM prpV (mset opn slot (accW q who)))))[h.size]? = some (.cells #[.int .i64 0, .int .u64 0, .int .i64 0, .int .i64 0, .int .u64 0, .int .i64 0]) := by
      rw [g_set_ne (by omega), g_set_ne (by omega)]; exact kv2
    have l3 : ((h2.setIfInBounds (h.size + 1) (.cells #[.int .i64 q.cmd.kind, .int .i64 q.cmd.chain, .int .u64 q.cmd.epoch, .int .i64 q.cmd.node, .int .u64 (bitsOf (addQ q.who who))])).setIfInBounds ro (.map (encM prpV (mset opn slot (accW q who))))).size = h.size + 3 := by simp [l2]
    generalize (h2.setIfInBounds (h.size + 1) (.cells #[.int .i64 q.cmd.kind, .int .i64 q.cmd.chain, .int .u64 q.cmd.epoch, .int .i64 q.cmd.node, .int .u64 (bitsOf (addQ q.who who))])).setIfInBounds ro (.map (encM prpV (mset opn slot (accW q who)))) = h3 at u3 hL3 k3 l3 ⊢
    refine sp_Enough _ x.masters hm.1 hm.2 ?_
    cases he : enoughQ (addQ q.who who) x.masters with
    | false =>
      simp (disch := (first | omega | (simp only [sz]; done) | (simp only [lz, Nat.reduceAdd, Nat.reduceLeDiff, Nat.le_refl]; done) | (simp only [sz]; omega))) only [↓xa, xb, xl, Option.bind_some, Option.map_some, implies_true, imp_self, true_and, and_true, if_true, if_false, decide_true, decide_false, Int.cast_ofNat_Int, Int.reduceLT, Int.reduceLE, Int.reduceEq, Nat.reduceAdd, Nat.reduceMul, Nat.reduceLeDiff, setL, bfill, eqV, lookRes, b_blk k3]
      exact hno q hg he _ (Upd.set u3 _ _ (.inl (by omega))) (hL3.set (by omega) (by omega) (by omega))
    | true =>
      (try simp (disch := (first | omega | (simp only [sz]; done) | (simp only [lz, Nat.reduceAdd, Nat.reduceLeDiff, Nat.le_refl]; done) | (simp only [sz]; omega))) only [↓xa, xb, xl, Option.bind_some, Option.map_some, implies_true, imp_self, true_and, and_true, if_true, if_false, decide_true, decide_false, Int.cast_ofNat_Int, Int.reduceLT, Int.reduceLE, Int.reduceEq, Nat.reduceAdd, Nat.reduceMul, Nat.reduceLeDiff, setL, bfill, eqV, lookRes])
      refine sp_lvote (by omega) hL3 slot (q := accW q who) (by rw [mget_mset, if_pos rfl]) ?_
      intro h4 x4
      have hL4 := hL3.ext x4
      have hb4 := hL4.blk
      have k4 := x4.get k3 id
      have z4 := x4.1
      have lo4 := lt_of_get hL4.opn
      obtain ⟨⟨n4, q4⟩, hf4⟩ : ∃ f4, mfind (mset opn slot (accW q who)) slot 0 = some f4 := by
        have := mget_mset opn slot (accW q who) slot
        rw [if_pos rfl] at this
        unfold mget at this
        cases hz : mfind (mset opn slot (accW q who)) slot 0 with
        | none => rw [hz] at this; cases this
        | some z => exact ⟨z, rfl⟩
      have hdel := kvDel_enc prpV (mset opn slot (accW q who)) slot
      rw [hf4] at hdel
      simp only [Option.map_some] at hdel
      have hc : (accW q who).cmd = q.cmd := rfl
      rw [hc]
      generalize hv : voteP x slot q.cmd = v
      obtain ⟨v1, v2, v3, v4, v5, v6⟩ := v
      unfold voteV
      simp (disch := (first | omega | (simp only [sz]; done) | (simp only [lz, Nat.reduceAdd, Nat.reduceLeDiff, Nat.le_refl]; done) | (simp only [sz]; omega))) only [↓xa, xb, xl, Option.bind_some, Option.map_some, implies_true, imp_self, true_and, and_true, if_true, if_false, decide_true, decide_false, Int.cast_ofNat_Int, Int.reduceLT, Int.reduceLE, Int.reduceEq, Nat.reduceAdd, Nat.reduceMul, Nat.reduceLeDiff, setL, bfill, eqV, lookRes, rdC_blk hb4, lcells, b_blk k4, m_blk hL4.opn, kvFind_enc, hf4]
      rw [hdel]
      have key := hyes q hg he
      rw [hv] at key
      refine key _ (Upd.set (Upd.set (Upd.set (Upd.push (u3.trans x4.lift) _) _ _ (.inl (by omega))) _ _ (.inr rfl)) _ _ (.inl (by omega))) ?_
      refine Lead.set ⟨?_, ?_, g_set_eq (by simp; omega) rfl, hne⟩ (by omega) (by omega) (by omega)
      · rw [g_set_ne (by omega), g_set_ne (by omega), g_push_lt (by omega)]; exact hL4.blk
      · rw [g_set_ne (by omega), g_set_ne (by omega), g_push_lt (by omega)]; exact hL4.came
/-- Refuse: idle, if there is a greater ballot. -/
def refuseB (x : LS) (b : Int) : Bool := decide (x.state ≠ 0 ∧ x.ballot < b)
theorem sp_lRefuseNo {h : Hp} {p : Nat} {x : LS} {cm om : Option Nat} (hb : h[p]? = some (.cells (lcells x cm om))) (b : Int) (hr : refuseB x b = false) {K : Kont}
    (hK : K (.bool false) h) : C_q71 [pt p 0, .int .u64 b] h K := by
  refine ok_q71 ?_
  unfold G_q71
  have lp := lt_of_get hb
  simp only [refuseB, decide_eq_false_iff_not] at hr
  by_cases h1 : x.state = 0
  · simp (disch := (first | omega | (simp only [sz]; done) | (simp only [lz, Nat.reduceAdd, Nat.reduceLeDiff, Nat.le_refl]; done) | (simp only [sz]; omega))) only [↓xa, xb, xl, Option.bind_some, Option.map_some, implies_true, imp_self, true_and, and_true, if_true, if_false, decide_true, decide_false, Int.cast_ofNat_Int, Int.reduceLT, Int.reduceLE, Int.reduceEq, Nat.reduceAdd, Nat.reduceMul, Nat.reduceLeDiff, setL, bfill, eqV, lookRes, rdC_blk hb, lcells, decide_eq_true h1]
    exact hK
  · have h2 : b ≤ x.ballot := by omega
    simp (disch := (first | omega | (simp only [sz]; done) | (simp only [lz, Nat.reduceAdd, Nat.reduceLeDiff, Nat.le_refl]; done) | (simp only [sz]; omega))) only [↓xa, xb, xl, Option.bind_some, Option.map_some, implies_true, imp_self, true_and, and_true, if_true, if_false, decide_true, decide_false, Int.cast_ofNat_Int, Int.reduceLT, Int.reduceLE, Int.reduceEq, Nat.reduceAdd, Nat.reduceMul, Nat.reduceLeDiff, setL, bfill, eqV, lookRes, rdC_blk hb, lcells, decide_eq_false h1, decide_eq_true h2]
    exact hK
theorem sp_lRefuse {h : Hp} (hB : Base.b ≤ h.size) {p rc ro : Nat} {x : LS} {came : List (Int × LV)} {opn : List (Int × Prp)} (hL : Lead h p rc ro x came opn) (b : Int) {K : Kont}
    (hno : refuseB x b = false → K (.bool false) h)
    (hyes : refuseB x b = true → ∀ h', Upd (fun r => r = p ∨ r = rc ∨ r = ro) h h' → Lead h' p rc ro { x with state := 0 } [] [] → K (.bool true) h') : C_q71 [pt p 0, .int .u64 b] h K := by
  cases hr : refuseB x b with
  | false => exact sp_lRefuseNo hL.blk b hr (hno hr)
  | true =>
    refine ok_q71 ?_
    unfold G_q71
    have hb := hL.blk
    have lp := lt_of_get hb
    have lo := lt_of_get hL.opn
    have lc := lt_of_get hL.came
    have hpc : p ≠ rc := by intro e; have := hL.came; rw [← e, hL.blk] at this; cases this
    have hpo : p ≠ ro := by intro e; have := hL.opn; rw [← e, hL.blk] at this; cases this
    have hne := hL.ne
    have key := hyes hr
    simp only [refuseB, decide_eq_true_eq] at hr
    have h2 : ¬ b ≤ x.ballot := by omega
    simp (disch := (first | omega | (simp only [sz]; done) | (simp only [lz, Nat.reduceAdd, Nat.reduceLeDiff, Nat.le_refl]; done) | (simp only [sz]; omega))) only [↓xa, xb, xl, Option.bind_some, Option.map_some, implies_true, imp_self, true_and, and_true, if_true, if_false, decide_true, decide_false, Int.cast_ofNat_Int, Int.reduceLT, Int.reduceLE, Int.reduceEq, Nat.reduceAdd, Nat.reduceMul, Nat.reduceLeDiff, setL, bfill, eqV, lookRes, rdC_blk hb, lcells, decide_eq_false hr.1, decide_eq_false h2, b_blk hb, m_blk hL.opn, m_blk hL.came]
    refine key _ (Upd.set (Upd.set (Upd.set (Upd.refl _) _ _ (.inr (.inl rfl))) _ _ (.inr (.inr (.inr rfl)))) _ _ (.inr (.inr (.inl rfl)))) ⟨?_, ?_, ?_, hne⟩
    · rw [g_set_ne (by omega), g_set_ne (by omega), g_set_eq (by omega) rfl]; rfl
    · rw [g_set_eq (by simp; omega) rfl]; rfl
    · rw [g_set_ne (by omega), g_set_eq (by simp; omega) rfl]; rfl
end Go.Proofs.Ytdolepapmpcpiaa

namespace Go.Proofs.Ytdolepapmpcpiaa
open Go
set_option linter.unusedSectionVars false
/-- What is seen whole below the base has not turned. -/
theorem same_of_ext {W W' : World} (h0 : 0 < W.heap.size) (x : @Ext (@hv ⟨W.heap.size⟩ W) (@hv ⟨W.heap.size⟩ W')) :
    W'.os = W.os ∧ W'.output = W.output ∧ W.heap.size ≤ W'.heap.size ∧ ∀ r, r < W.heap.size → W'.heap[r]? = W.heap[r]? := by
  letI : Base := ⟨W.heap.size⟩
  have hs : W.heap.size ≤ W'.heap.size := by have := x.1; simpa [hv_size] using this
  have key : ∀ r, r < W.heap.size → W'.heap[r]? = W.heap[r]? ∧ W'.os = W.os ∧ W'.output = W.output := by
    intro r hr
    have := x.2 r (by simpa [hv_size] using hr) id
    rw [hv_get, hv_get] at this
    obtain ⟨o, ho⟩ : ∃ o, W.heap[r]? = some o := ⟨_, Array.getElem?_eq_getElem hr⟩
    obtain ⟨o', ho'⟩ : ∃ o, W'.heap[r]? = some o := ⟨_, Array.getElem?_eq_getElem (Nat.lt_of_lt_of_le hr hs)⟩
    rw [ho, ho'] at this
    simp only [Option.map_some, Option.some.injEq, see, if_pos hr, show r < Base.b from hr, if_true, AObj.old.injEq] at this
    rw [ho, ho', this.1]
    exact ⟨rfl, this.2.1, this.2.2⟩
  exact ⟨(key 0 h0).2.1, (key 0 h0).2.2, hs, fun r hr => (key r hr).1⟩
open Go.ChangeShapes Go.WideShapes Go.RowKit
/-- A law's function hands back true; what it was handed reads as it did. -/
theorem post_law {H : Type} {enc : TypeId × Value → H} {P : Program} {f : Func} {s : ChangeSpec} {apart fresh handsOn again : Bool} {W W' : World} {args : Array Value} {ds gs : List (DataW H)} {before : List MemPlace} {tb : TypeId}
    (hW : DataW.Whole enc P f.params.toList s.vars apart W args.toList ds gs before) (hv0 : s.vars = []) (hr : f.resultTypes = #[tb]) (hbool : P.underlying tb = some .bool)
    (hfn : s.fn H (ds ++ gs) = { results := [.lit (.bool true)], args := ds }) (hos : W'.os = W.os) (hout : W'.output = W.output) (hsz : W.heap.size ≤ W'.heap.size) (hbl : ∀ r, r < W.heap.size → W'.heap[r]? = W.heap[r]?)
    (hargs : ∀ sp : Nat → Bool, (∀ p ∈ before, sp p.block = true) → DataW.TrodAll enc P W' 0 sp true f.params.toList args.toList ds before) :
    s.post enc P f apart fresh handsOn again W args (.bool true) W' := by
  have hold : ∀ p ∈ before, (fun b => decide (b < W.heap.size)) p.block = true := fun p hp => by simpa using hW.lt p hp
  have hk : W.keptBut W' (· ∈ before) := World.keptBut.congr (World.keptBut_refl W _) hos hout hbl
  have hres : ∀ (b : Nat) (sp : Nat → Bool) (hd : Bool), DataW.TrodAll enc P W' b sp hd f.resultTypes.toList ((Value.bool true).resultList f.resultTypes.size) (s.fn H (ds ++ gs)).results [] := by
    intro b sp hd
    rw [hfn, hr]
    exact trodAll_mk1 (shut_bool hbool true)
  have hargs' : ∀ sp : Nat → Bool, (∀ p ∈ before, sp p.block = true) → DataW.TrodAll enc P W' 0 sp true f.params.toList args.toList (s.fn H (ds ++ gs)).args before := by
    rw [hfn]; exact hargs
  have hvars : ∀ sp : Nat → Bool, DataW.TrodVars enc P W' sp s.vars (s.fn H (ds ++ gs)).vars [] := by
    intro sp
    rw [hfn, hv0]
    exact rfl
  have hok : ∀ (j : Nat) (t : TypeId) (r : Value), f.resultTypes[j]? = some t → ((Value.bool true).resultList f.resultTypes.size)[j]? = some r → Value.okWide P W' .any 0 t r := by
    exact ok_one hr rfl (okWide_bool_mk hbool true)
  refine ⟨ds, gs, before, [], before, [], hW, hres _ _ _, hargs' _ hold, hvars _, World.keptBut_mono (fun p hp => ⟨hp, .inr (.inl hp)⟩) hk, fun _ => ?_⟩
  have hlt := hW.lt
  obtain ⟨_, _, _, _, _, hz, hn⟩ := hW
  refine ⟨hok, _, _, ([] ++ before) ++ [], ⟨[] ++ before, [], trodAll_append (hargs' _ (fun _ _ => rfl)) (hres _ _ _), hvars _, rfl, ?_, ?_⟩, ?_⟩
  · intro b off hp
    have hp' : MemPlace.cell b off ∈ before := by simpa using hp
    have : b < W.heap.size := hlt _ hp'
    rw [World.frozen?_of_block (w := W) (hbl b this)]
    exact hz b off hp'
  · intro ha
    simpa using hn ha
  · intro p hp _
    simpa using hp
end Go.Proofs.Ytdolepapmpcpiaa

namespace Go.Proofs.Ytdolepapmpcpiaa
open Go
set_option linter.unusedSectionVars false
set_option linter.unusedVariables false
def IntCells : List IntKind → List Value → Prop
  | [], [] => True
  | k :: ks, c :: cs => (∃ a, c = .int k a ∧ (Lit.int k a).wf = true) ∧ IntCells ks cs
  | _, _ => False
theorem IntCells.append : ∀ {a b : List IntKind} {x y : List Value}, IntCells a x → IntCells b y → IntCells (a ++ b) (x ++ y)
  | [], _, [], _, _, h => h
  | _ :: _, _, _ :: _, _, h, h' => ⟨h.1, IntCells.append h.2 h'⟩
  | [], _, _ :: _, _, h, _ => h.elim
  | _ :: _, _, [], _, h, _ => h.elim
theorem IntCells.length : ∀ {a : List IntKind} {x : List Value}, IntCells a x → a.length = x.length
  | [], [], _ => rfl
  | _ :: _, _ :: _, h => by simp [IntCells.length h.2]
  | [], _ :: _, h => h.elim
  | _ :: _, [], h => h.elim
end Go.Proofs.Ytdolepapmpcpiaa

namespace Go.Proofs.Ytdolepapmpcpiaa
open Go
open Go.ChangeShapes Go.WideShapes Go.RowKit
set_option linter.unusedVariables false
set_option linter.unusedSectionVars false
theorem trodAll_stays {H : Type} {enc : TypeId × Value → H} {P : Program} (hl : laidOutB P = true) {W W' : World} (hbl : ∀ r, r < W.heap.size → W'.heap[r]? = W.heap[r]?) {sp : Nat → Bool} : ∀ {ts : List TypeId} {vs : List Value} {ds : List (DataW H)} {ps : List MemPlace},
    (∀ t ∈ ts, P.readableRec t = true ∧ t < P.types.size) → DataW.TrodAll enc P W 0 (fun _ => true) true ts vs ds ps → (∀ p ∈ ps, p.block < W.heap.size) → (∀ p ∈ ps, sp p.block = true) → DataW.TrodAll enc P W' 0 sp true ts vs ds ps
  | [], [], [], _, _, h, _, _ => h
  | _ :: _, _ :: _, _ :: _, _, ht, ⟨p, q, h1, h2, e⟩, hlt, hs =>
    ⟨p, q, WideElems.Trod_stays hl (ht _ (List.mem_cons_self ..)).1 (ht _ (List.mem_cons_self ..)).2 h1 (fun x hx => by
        have hx' := hlt x (by rw [e]; exact List.mem_append_left _ hx)
        cases x with
        | cell b o => exact World.cell?_of_block (w := W) (hbl b hx')
        | map b => exact hbl b hx') (fun x hx => hs x (by rw [e]; exact List.mem_append_left _ hx)),
      trodAll_stays hl hbl (fun t h => ht t (List.mem_cons_of_mem _ h)) h2 (fun x hx => hlt x (by rw [e]; exact List.mem_append_right _ hx)) (fun x hx => hs x (by rw [e]; exact List.mem_append_right _ hx)), e⟩
/-- What a law's function does, called on whatever arguments: true, and nothing that lay has turned. -/
def LawDoes {H : Type} (enc : TypeId × Value → H) (P : Program) (f : FuncId) (fn : Func) : Prop :=
  ∀ (W : World) (base : Nat) (args : Array Value) (ds : List (DataW H)) (ps : List MemPlace), 0 < W.heap.size → (∀ p ∈ ps, p.block < W.heap.size) →
    (∀ (j : Nat) (t : TypeId) (v : Value), fn.params[j]? = some t → args[j]? = some v → Value.okWide P W .any base t v) →
    DataW.TrodAll enc P W 0 (fun _ => true) true fn.params.toList args.toList ds ps →
    @AC ⟨W.heap.size⟩ P f args (@hv ⟨W.heap.size⟩ W) (fun v h' => v = .bool true ∧ @Ext (@hv ⟨W.heap.size⟩ W) h')
theorem trodAll_len {H : Type} {enc : TypeId × Value → H} {P : Program} {W : World} {b : Nat} {sp : Nat → Bool} {hd : Bool} : ∀ {ts : List TypeId} {vs : List Value} {ds : List (DataW H)} {ps : List MemPlace}, DataW.TrodAll enc P W b sp hd ts vs ds ps → ds.length = ts.length
  | [], [], [], _, _ => rfl
  | _ :: _, _ :: _, _ :: _, _, ⟨_, _, _, h, _⟩ => by simp [trodAll_len h]
  | [], _ :: _, _, _, h => h.elim
  | [], [], _ :: _, _, h => h.elim
  | _ :: _, [], _, _, h => h.elim
  | _ :: _, _ :: _, [], _, h => h.elim
theorem lifted_law {C : Checked} {os : Os} {f : FuncId} {fn : Func} {s : ChangeSpec} {H : Type} {enc : TypeId × Value → H} {conds : List PathCond} {apart fresh handsOn again : Bool} {tb : TypeId} (own : ownKnob C.prog.godebug = none) (started : os.Started)
    (noInit : C.prog.inits.idxOf? f = none) (hfn : C.prog.funcs[f]? = some fn)
    (witness : ∃ (w : World) (tape : Tape) (i : Input), w.os = os ∧ (w.forCall tape i).Shaped C.prog ∧ i.vars = [] ∧ Input.okWide C.prog (w.forCall tape i) .any w.heap.size f i ∧
      s.pre6 enc C.prog fn conds apart (w.forCall tape i).memory i.args ∧ ({} : Assume).holds C.prog (lone (Frame.enter C.prog f i.args .normal) [] (w.forCall tape i)))
    (hv0 : s.vars = []) (hr : fn.resultTypes = #[tb]) (hbool : C.prog.underlying tb = some .bool)
    (hsfn : ∀ ds : List (DataW H), ds.length = fn.params.toList.length → s.fn H ds = { results := [.lit (.bool true)], args := ds })
    (hl : laidOutB C.prog = true) (hrd : (fn.params.toList.all fun t => C.prog.readableRec t && decide (t < C.prog.types.size)) = true)
    (hg : decide (C.prog.globals.size < (begin C.prog (fun _ _ => 0) default).world.heap.size) = true)
    (law : LawDoes enc C.prog f fn) :
    ReturnsInHanded {} C os f .any (s.pre6 enc C.prog fn conds apart) (s.post enc C.prog fn apart fresh handsOn again) := by
  refine returnsInHanded_of_change_shaped own started noInit hfn witness ?_
  intro W base args ds gs before hval hW _ _ hshape _
  have hW' := hW
  obtain ⟨p, q, hA, hV, rfl, _, _⟩ := hW
  rw [hv0] at hV
  obtain ⟨rfl, rfl⟩ := trodVars_none hV
  have h0 : 0 < W.heap.size := by
    obtain ⟨_, h2⟩ := hshape
    obtain ⟨o, _, ho, _⟩ := h2 C.prog.globals.size (Nat.le_refl _) (of_decide_eq_true hg)
    exact Nat.lt_of_le_of_lt (Nat.zero_le _) (Array.getElem?_eq_some_iff.1 ho).1
  have hlt : ∀ x ∈ p, x.block < W.heap.size := fun x hx => by simpa using hW'.lt x (by simpa using hx)
  refine Calls.mono (law W base args ds p h0 hlt hval hA W rfl) ?_
  rintro e W' ⟨v, rfl, rfl, hx⟩
  obtain ⟨h1, h2, h3, h4⟩ := same_of_ext h0 hx
  refine ⟨_, rfl, post_law hW' hv0 hr hbool (by rw [List.append_nil]; exact hsfn ds (trodAll_len hA)) h1 h2 h3 h4 ?_⟩
  intro sp hsp
  rw [List.append_nil]
  refine trodAll_stays hl h4 ?_ hA hlt (fun x hx => hsp x (by simpa using hx))
  intro t ht
  have := List.all_eq_true.1 hrd t ht
  simpa using this
end Go.Proofs.Ytdolepapmpcpiaa

namespace Go.Proofs.Ytdolepapmpcpiaa
open Go
open Go.ChangeShapes Go.WideShapes Go.RowKit
set_option linter.unusedVariables false
set_option linter.unusedSectionVars false
section
variable {H : Type} {enc : TypeId × Value → H} {P : Program} {W : World}
/-- Cells that read at type t are Q. -/
def Rd (enc : TypeId × Value → H) (P : Program) (W : World) (t : TypeId) (Q : List Value → Prop) : Prop :=
  ∀ (fuel : Nat) (cs : List Value) (x : DataW H × List MemPlace), DataW.trod enc P W 0 (fun _ => true) true fuel t cs = some x → Q cs
theorem Rd.mono {t : TypeId} {Q Q' : List Value → Prop} (r : Rd enc P W t Q) (h : ∀ cs, Q cs → Q' cs) : Rd enc P W t Q' := fun f cs x e => h cs (r f cs x e)
theorem Rd.int {t : TypeId} {k : IntKind} (hu : P.underlying t = some (.int k)) : Rd enc P W t (fun cs => ∃ a, cs = [.int k a] ∧ k.min ≤ a ∧ a ≤ k.max) := by
  intro f cs x e
  obtain ⟨a, rfl, _, hw⟩ := DataW.trod_int hu e
  simp only [Lit.wf, Bool.and_eq_true, decide_eq_true_eq] at hw
  exact ⟨a, rfl, hw.1, hw.2⟩
theorem Rd.bool {t : TypeId} (hu : P.underlying t = some .bool) : Rd enc P W t (fun cs => ∃ a, cs = [.bool a]) := by
  intro f cs x e
  obtain ⟨a, rfl, _⟩ := DataW.trod_bool hu e
  exact ⟨a, rfl⟩
theorem Rd.string {t : TypeId} (hu : P.underlying t = some .string) : Rd enc P W t (fun cs => ∃ a, cs = [.string a] ∧ a.size ≤ maxLen) := by
  intro f cs x e
  obtain ⟨a, rfl, _, h⟩ := DataW.trod_string hu e
  exact ⟨a, rfl, h⟩
def contig (P : Program) : Nat → List Field → Nat → Bool
  | off, [], all => off == all
  | off, f :: r, all => f.offset == off && contig P (off + P.cellsOf f.type) r all
/-- Cells in parts. -/
def Parts : List (List Value → Prop) → List Value → Prop
  | [], cs => cs = []
  | Q :: r, cs => ∃ a b, cs = a ++ b ∧ Q a ∧ Parts r b
inductive AllRd (enc : TypeId × Value → H) (P : Program) (W : World) : List TypeId → List (List Value → Prop) → Prop
  | nil : AllRd enc P W [] []
  | cons {f : TypeId} {fs : List TypeId} {Q : List Value → Prop} {Qs : List (List Value → Prop)} : Rd enc P W f Q → AllRd enc P W fs Qs → AllRd enc P W (f :: fs) (Q :: Qs)
theorem parts_of {n : Nat} : ∀ {fs : List Field} {Qs : List (List Value → Prop)} {off all : Nat} {cs : List Value}, AllRd enc P W (fs.map (·.type)) Qs → contig P off fs all = true → cs.length = all →
    (∀ f ∈ fs, ∃ y, DataW.trod enc P W 0 (fun _ => true) true n f.type ((cs.drop f.offset).take (P.cellsOf f.type)) = some y) → Parts Qs (cs.drop off)
  | [], _, off, all, cs, .nil, hc, hl, _ => by
    simp only [contig, beq_iff_eq] at hc
    exact List.drop_eq_nil_of_le (by omega)
  | f :: fs, _, off, all, cs, .cons h1 h2, hc, hl, he => by
    simp only [contig, Bool.and_eq_true, beq_iff_eq] at hc
    obtain ⟨y, hy⟩ := he f (List.mem_cons_self ..)
    refine ⟨_, _, ?_, h1 n _ y hy, parts_of (off := off + P.cellsOf f.type) h2 hc.2 hl (fun g hg => he g (List.mem_cons_of_mem _ hg))⟩
    rw [hc.1, ← List.drop_drop, List.take_append_drop]
theorem Rd.struct {t : TypeId} {fs : Array Field} {ts : List TypeId} {Qs : List (List Value → Prop)} (hu : P.underlying t = some (.struct fs)) (hts : fs.toList.map (·.type) = ts) (hc : contig P 0 fs.toList (P.cellsOf t) = true) (h : AllRd enc P W ts Qs) : Rd enc P W t (Parts Qs) := by
  subst hts
  intro fuel cs x e
  obtain ⟨xs, m, rfl, _, hl, hxl, hf⟩ := DataW.trod_struct hu e
  have := parts_of (n := m) h hc hl (fun f hm => by
    obtain ⟨i, hi, rfl⟩ := List.getElem_of_mem hm
    have h1 : fs[i]? = some fs.toList[i] := by simp at hi ⊢
    exact ⟨xs[i]'(by simp at hi; omega), by rw [hf i _ h1]; exact List.getElem?_eq_getElem _⟩)
  simpa using this
theorem cells_rd {W : World} {a : Addr} {n : Nat} {cs : List Value} (hb : a.block < W.heap.size ∨ True) (h : W.cells? 0 a n = some cs) : (0 < n → a.spot = none) ∧ @rdN (@hv ⟨W.heap.size⟩ W) a.block a.off n = some cs := by
  unfold World.cells? at h
  simp only [Nat.zero_le, if_true] at h
  have key : ∀ (n k : Nat) (cs : List Value), ((List.range' k n).mapM fun i => W.cell? (a.add i)) = some cs → (0 < n → k = 0 → a.spot = none) ∧ @rdN (@hv ⟨W.heap.size⟩ W) a.block (a.off + k) n = some cs := by
    intro n
    induction n with
    | zero => intro k cs h; simp at h; subst h; exact ⟨fun h => absurd h (by omega), rfl⟩
    | succ n ih =>
      intro k cs h
      rw [List.range'_succ, List.mapM_cons] at h
      simp only [Option.bind_eq_bind, Option.bind_eq_some_iff, Option.pure_def, Option.some.injEq] at h
      obtain ⟨v, hv', r, hr, rfl⟩ := h
      obtain ⟨_, h2⟩ := ih (k + 1) r hr
      have hspot : k = 0 → a.spot = none := by
        rintro rfl
        simp only [Addr.add, if_true] at hv'
        unfold World.cell? at hv'
        split at hv'
        · split at hv'
          · cases hv'
          · rename_i hs; simpa using hs
        · cases hv'
      refine ⟨fun _ => hspot, ?_⟩
      have he : a.add k = ⟨a.block, a.off + k, none⟩ := by
        by_cases hk : k = 0
        · have := hspot hk
          subst hk
          simp only [Addr.add, if_true, Nat.add_zero]
          cases a; simp_all
        · simp [Addr.add, hk]
      rw [he, ← @rdC_hv ⟨W.heap.size⟩] at hv'
      simp only [rdN, hv', Option.bind_some]
      rw [show a.off + k + 1 = a.off + (k + 1) by omega, h2]
      rfl
  rw [List.range_eq_range'] at h
  obtain ⟨h1, h2⟩ := key n 0 cs h
  exact ⟨fun hn => h1 hn rfl, by simpa using h2⟩
theorem rd_rows [Base] {h : Hp} {b : Nat} {sz : Nat} : ∀ (l : List (List Value)) (i : Nat), (∀ j, (hj : j < l.length) → rdN h b (i + j * sz) sz = some l[j]) → rdN h b i (l.length * sz) = some l.flatten
  | [], i, _ => by simp [rdN]
  | r :: l, i, hr => by
    have h0 := hr 0 (by simp)
    have ih := rd_rows (h := h) (b := b) (sz := sz) l (i + sz) (fun j hj => by
      have := hr (j + 1) (by simpa using hj)
      rw [Nat.add_mul, Nat.one_mul] at this
      rw [show i + sz + j * sz = i + (j * sz + sz) by omega]
      simpa using this)
    rw [List.length_cons, Nat.add_mul, Nat.one_mul, Nat.add_comm, rdN_add]
    simp only [Nat.zero_mul, Nat.add_zero, List.getElem_cons_zero] at h0
    rw [h0, Option.bind_some, ih]
    rfl
theorem list_pick {α : Type} {ok : α → Prop} {en : α → List Value} : ∀ {l : List (List Value)}, (∀ r ∈ l, ∃ a, r = en a ∧ ok a) → ∃ rs : List α, l = rs.map en ∧ ∀ a ∈ rs, ok a
  | [], _ => ⟨[], rfl, by simp⟩
  | r :: l, h => by
    obtain ⟨a, rfl, ha⟩ := h r (List.mem_cons_self ..)
    obtain ⟨rs, rfl, has⟩ := list_pick (fun r hr => h r (List.mem_cons_of_mem _ hr))
    exact ⟨a :: rs, rfl, by intro b hb; cases hb with | head => exact ha | tail _ hb => exact has b hb⟩
theorem Rd.slice {t e : TypeId} {sz : Nat} {α : Type} {en : α → List Value} {ok : α → Prop} (hu : P.underlying t = some (.slice e)) (he : P.cellsOf e = sz) (hsz : 0 < sz) (hen : ∀ a, (en a).length = sz)
    (hr : Rd enc P W e (fun cs => ∃ a, cs = en a ∧ ok a)) : Rd enc P W t (fun cs => ∃ v l, cs = [v] ∧ Sl (@hv ⟨W.heap.size⟩ W) sz en v l ∧ (∀ a ∈ l, ok a) ∧ l.length ≤ maxLen) := by
  letI : Base := ⟨W.heap.size⟩
  intro fuel cs x e'
  rcases DataW.trod_slice hu e' with ⟨rfl, _⟩ | ⟨a, len, cap, elems, rest, n, rfl, rfl, _, _, hlc, hcm, hel, hrd, _⟩
  · exact ⟨_, [], rfl, Sl.nil, by simp, by simp [maxLen]⟩
  · have hrow : ∀ i, i < len → ∃ cs : List Value, W.cells? 0 (a.add (i * sz)) sz = some cs ∧ ∃ b, cs = en b ∧ ok b := by
      intro i hi
      have := hrd i hi
      rw [he] at this
      rw [List.getElem?_eq_getElem (by omega)] at this
      simp only [Option.bind_eq_some_iff] at this
      obtain ⟨cs, hcs, ht⟩ := this
      exact ⟨cs, hcs, hr _ _ _ ht⟩
    let f : Nat → List Value := fun i => (W.cells? 0 (a.add (i * sz)) sz).getD []
    have hf : ∀ i, i < len → W.cells? 0 (a.add (i * sz)) sz = some (f i) := by
      intro i hi
      obtain ⟨cs, hcs, _⟩ := hrow i hi
      simp only [f, hcs, Option.getD_some]
    obtain ⟨rs, has, hok⟩ := list_pick (l := (List.range len).map f) (en := en) (ok := ok) (by
      intro r hr'
      obtain ⟨i, hi, rfl⟩ := List.mem_map.1 hr'
      obtain ⟨cs, hcs, b, hb, hb2⟩ := hrow i (List.mem_range.1 hi)
      rw [hf i (List.mem_range.1 hi)] at hcs
      cases hcs
      exact ⟨b, hb, hb2⟩)
    have hlen : rs.length = len := by have := congrArg List.length has; simpa using this.symm
    refine ⟨_, rs, rfl, ⟨some a, cap, by rw [hlen], by rw [hlen]; exact hlc, ?_⟩, hok, by omega⟩
    cases hl : len with
    | zero =>
      have : rs = [] := List.eq_nil_of_length_eq_zero (by omega)
      subst this
      obtain ⟨b, o, sp⟩ := a
      cases sp with
      | none => simp [srcCells, rdN]
      | some _ => simp [srcCells]
    | succ m =>
      have h0 := hf 0 (by omega)
      have hsp : a.spot = none := by
        have := (cells_rd (.inr trivial) h0).1 hsz
        simpa [Addr.add] using this
      obtain ⟨b, o, sp⟩ := a
      cases hsp
      have hrows := rd_rows (h := @hv ⟨W.heap.size⟩ W) (b := b) (sz := sz) (rs.map en) o (fun j hj => by
        rw [List.length_map, hlen] at hj
        have := (cells_rd (.inr trivial) (hf j hj)).2
        rw [add0] at this
        rw [this]
        congr 1
        have h2 : (rs.map en)[j]? = some (f j) := by
          rw [← has, List.getElem?_map, List.getElem?_range hj]; rfl
        exact (List.getElem_eq_iff _).2 h2 |>.symm)
      rw [List.length_map] at hrows
      rw [hlen, hl] at hrows ⊢
      simp only [srcCells, hrows, Option.map_some]
      rw [List.flatMap_def]
theorem arg_struct {t : TypeId} {fs : Array Field} {v : Value} {d : DataW H} {ps : List MemPlace} {b : Nat} {Q : List Value → Prop} (hu : P.underlying t = some (.struct fs)) (hv : Value.okWide P W .any b t v)
    (r : Rd enc P W t Q) (h : DataW.Trod enc P W 0 (fun _ => true) true t v d ps) : ∃ cs, v = .agg cs ∧ Q cs.toList := by
  unfold Value.okWide at hv
  rw [hu] at hv
  obtain ⟨cs, rfl, _⟩ := hv
  obtain ⟨f, hf⟩ := h
  exact ⟨cs, rfl, r f _ _ hf⟩
theorem arg_int {t : TypeId} {k : IntKind} {v : Value} {d : DataW H} {ps : List MemPlace} {b : Nat} (hu : P.underlying t = some (.int k)) (hv : Value.okWide P W .any b t v)
    (h : DataW.Trod enc P W 0 (fun _ => true) true t v d ps) : ∃ a, v = .int k a ∧ k.min ≤ a ∧ a ≤ k.max := by
  unfold Value.okWide at hv
  rw [hu] at hv
  obtain ⟨f, hf⟩ := h
  obtain ⟨a, ha, h1, h2⟩ := Rd.int hu f _ _ hf
  refine ⟨a, ?_, h1, h2⟩
  cases v <;> simp_all [Cell.okWide, Cell.ok, Value.cells]
theorem arg_slice {t e : TypeId} {v : Value} {d : DataW H} {ps : List MemPlace} {b : Nat} {Q : List Value → Prop} (hu : P.underlying t = some (.slice e)) (hv : Value.okWide P W .any b t v)
    (r : Rd enc P W t Q) (h : DataW.Trod enc P W 0 (fun _ => true) true t v d ps) : Q [v] := by
  unfold Value.okWide at hv
  rw [hu] at hv
  obtain ⟨f, hf⟩ := h
  have := r f _ _ hf
  cases v <;> first | exact this | (simp [Cell.okWide, Cell.ok, hu] at hv)
end
end Go.Proofs.Ytdolepapmpcpiaa

