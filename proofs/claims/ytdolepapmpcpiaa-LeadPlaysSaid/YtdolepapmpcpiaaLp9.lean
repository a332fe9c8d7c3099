/- Lemmas for the theorem of the last text; no condition. -/
import Derived.Test.YtdolepapmpcpiaaLp0
import Derived.Test.YtdolepapmpcpiaaLp1
import Derived.Test.YtdolepapmpcpiaaLp2
import Derived.Test.YtdolepapmpcpiaaLp3
import Derived.Test.YtdolepapmpcpiaaLp4
import Derived.Test.YtdolepapmpcpiaaLp5
import Derived.Test.YtdolepapmpcpiaaLp6
import Derived.Test.YtdolepapmpcpiaaLp7
import Derived.Test.YtdolepapmpcpiaaLp8
namespace Go.Proofs.Ytdolepapmpcpiaa
open Go
set_option linter.unusedSectionVars false
variable [Base]
set_option linter.unusedVariables false
set_option linter.unusedSimpArgs false
instance : Inhabited Vote := ⟨vote0⟩
/-- A slot's vote. -/
def atL (l : List Vote) (s : Int) : Option Vote := l.find? (fun v => decide (v.slot = s))
theorem sp_SameVotes {h : Hp} {a b : Value} {l k : List Vote} (ha : Sl h 6 vcells a l) (hb : Sl h 6 vcells b k) (hl : l.length ≤ 4611686018427387904) {K : Kont} (hK : K (.bool (decide (l = k))) h) : C_q115 [a, b] h K := by
  refine ok_q115 ?_
  unfold G_q115
  simp (disch := (first | omega | (simp only [sz]; done) | (simp only [lz, Nat.reduceAdd, Nat.reduceLeDiff, Nat.le_refl]; done) | (simp only [sz]; omega))) only [↓xa, xb, xl, Option.bind_some, Option.map_some, implies_true, imp_self, true_and, and_true, if_true, if_false, decide_true, decide_false, Int.cast_ofNat_Int, Int.reduceLT, Int.reduceLE, Int.reduceEq, Nat.reduceAdd, Nat.reduceMul, Nat.reduceLeDiff, setL, bfill, eqV, lookRes, ha.len', hb.len']
  refine e_if2 _ _ _ (fun hc => ?_) (fun hc => ?_)
  · have : ¬ l = k := by rintro rfl; simp at hc
    rwa [decide_eq_false this] at hK
  have hlen : l.length = k.length := by simp at hc; omega
  refine rule_q115_1 (fun v5 h' => ∃ i : Nat, v5 = .int .i64 i ∧ i ≤ l.length ∧ h' = h ∧ l.take i = k.take i) (fun v5 h' => l.length - ival v5) ?_ _ _ _ ⟨0, rfl, Nat.zero_le _, rfl, rfl⟩
  rintro self v5 d h' ⟨i, rfl, hi, rfl, ht⟩ hself
  unfold B_q115_1
  simp (disch := (first | omega | (simp only [sz]; done) | (simp only [lz, Nat.reduceAdd, Nat.reduceLeDiff, Nat.le_refl]; done) | (simp only [sz]; omega))) only [↓xa, xb, xl, Option.bind_some, Option.map_some, implies_true, imp_self, true_and, and_true, if_true, if_false, decide_true, decide_false, Int.cast_ofNat_Int, Int.reduceLT, Int.reduceLE, Int.reduceEq, Nat.reduceAdd, Nat.reduceMul, Nat.reduceLeDiff, setL, bfill, eqV, lookRes, ha.len']
  refine e_if2 _ _ _ (fun hc => ?_) (fun hc => ?_)
  · have hlt : i < l.length := by simp at hc; omega
    have hlt2 : i < k.length := by omega
    simp (disch := (first | omega | (simp only [sz]; done) | (simp only [lz, Nat.reduceAdd, Nat.reduceLeDiff, Nat.le_refl]; done) | (simp only [sz]; omega))) only [↓xa, xb, xl, Option.bind_some, Option.map_some, implies_true, imp_self, true_and, and_true, if_true, if_false, decide_true, decide_false, Int.cast_ofNat_Int, Int.reduceLT, Int.reduceLE, Int.reduceEq, Nat.reduceAdd, Nat.reduceMul, Nat.reduceLeDiff, setL, bfill, eqV, lookRes, ha.idx, hb.idx, ha.row vcells_len, hb.row vcells_len, vcells, eq_vote]
    refine e_if2 _ _ _ (fun hc => ?_) (fun hc => ?_)
    · have : ¬ l = k := by
        rintro rfl; simp at hc
      rwa [decide_eq_false this] at hK
    · have he : nth l i = nth k i := by
        revert hc
        generalize nth l i = x
        generalize nth k i = y
        obtain ⟨s, b, c1, c2, c3, c4⟩ := x
        obtain ⟨s', b', c1', c2', c3', c4'⟩ := y
        simp
      exact hself _ _ _ ⟨i + 1, rfl, hlt, rfl, by rw [take_nth hlt, take_nth hlt2, ht, he]⟩ (by simp only [ival_nat, show ((i : Int) + 1) = ((i + 1 : Nat) : Int) from rfl]; omega)
  · have hge : ¬ i < l.length := by simp at hc; omega
    have : l = k := by rw [List.take_of_length_le (by omega), List.take_of_length_le (by omega)] at ht; exact ht
    rwa [decide_eq_true this] at hK
theorem sp_At {h : Hp} (hB : Base.b ≤ h.size) {a : Value} {l : List Vote} (ha : Sl h 6 vcells a l) (hl : l.length ≤ 4611686018427387904) (s : Int) {K : Kont}
    (hK : ∀ h', Ext h h' → K (.tuple #[voteV ((atL l s).getD vote0), .bool (atL l s).isSome]) h') : C_q183 [a, .int .i64 s] h K := by
  refine ok_q183 ?_
  unfold G_q183
  simp (disch := (first | omega | (simp only [sz]; done) | (simp only [lz, Nat.reduceAdd, Nat.reduceLeDiff, Nat.le_refl]; done) | (simp only [sz]; omega))) only [↓xa, xb, xl, Option.bind_some, Option.map_some, implies_true, imp_self, true_and, and_true, if_true, if_false, decide_true, decide_false, Int.cast_ofNat_Int, Int.reduceLT, Int.reduceLE, Int.reduceEq, Nat.reduceAdd, Nat.reduceMul, Nat.reduceLeDiff, setL, bfill, eqV, lookRes]
  have ha1 := ha.push (.cells #[.int .i64 0, .int .u64 0, .int .i64 0, .int .i64 0, .int .u64 0, .int .i64 0])
  refine rule_q183_1 (fun v5 h' => ∃ i : Nat, v5 = .int .i64 i ∧ i ≤ l.length ∧ h' = h.push (.cells #[.int .i64 0, .int .u64 0, .int .i64 0, .int .i64 0, .int .u64 0, .int .i64 0]) ∧ atL l s = atL (l.drop i) s) (fun v5 h' => l.length - ival v5) ?_ _ _ _ ⟨0, rfl, Nat.zero_le _, rfl, rfl⟩
  rintro self v5 d h' ⟨i, rfl, hi, rfl, ht⟩ hself
  unfold B_q183_1
  simp (disch := (first | omega | (simp only [sz]; done) | (simp only [lz, Nat.reduceAdd, Nat.reduceLeDiff, Nat.le_refl]; done) | (simp only [sz]; omega))) only [↓xa, xb, xl, Option.bind_some, Option.map_some, implies_true, imp_self, true_and, and_true, if_true, if_false, decide_true, decide_false, Int.cast_ofNat_Int, Int.reduceLT, Int.reduceLE, Int.reduceEq, Nat.reduceAdd, Nat.reduceMul, Nat.reduceLeDiff, setL, bfill, eqV, lookRes, ha.len']
  refine e_if2 _ _ _ (fun hc => ?_) (fun hc => ?_)
  · have hlt : i < l.length := by simp at hc; omega
    simp (disch := (first | omega | (simp only [sz]; done) | (simp only [lz, Nat.reduceAdd, Nat.reduceLeDiff, Nat.le_refl]; done) | (simp only [sz]; omega))) only [↓xa, xb, xl, Option.bind_some, Option.map_some, implies_true, imp_self, true_and, and_true, if_true, if_false, decide_true, decide_false, Int.cast_ofNat_Int, Int.reduceLT, Int.reduceLE, Int.reduceEq, Nat.reduceAdd, Nat.reduceMul, Nat.reduceLeDiff, setL, bfill, eqV, lookRes, ha1.idx, ha1.cell0 vcells_len, vcells]
    rw [drop_nth hlt] at ht
    have hlt2 : sblk a < h.size := ha.lt vcells_len (by omega) (by decide)
    refine e_if2 _ _ _ (fun hc => ?_) (fun hc => ?_)
    · simp (disch := (first | omega | (simp only [sz]; done) | (simp only [lz, Nat.reduceAdd, Nat.reduceLeDiff, Nat.le_refl]; done) | (simp only [sz]; omega))) only [↓xa, xb, xl, Option.bind_some, Option.map_some, implies_true, imp_self, true_and, and_true, if_true, if_false, decide_true, decide_false, Int.cast_ofNat_Int, Int.reduceLT, Int.reduceLE, Int.reduceEq, Nat.reduceAdd, Nat.reduceMul, Nat.reduceLeDiff, setL, bfill, eqV, lookRes, ha1.idx, ha.row vcells_len, vcells]
      have e : atL l s = some (nth l i) := by rw [ht]; simp only [atL, List.find?_cons, hc]
      rw [e] at hK
      simp only [voteV, Option.getD_some, Option.isSome_some] at hK
      exact hK _ (by repeat' (first | with_reducible exact Upd.refl _ | with_reducible refine Upd.push ?_ _ | with_reducible refine Upd.set ?_ _ _ ?_ | exact .inl (by (first | omega | (simp only [sz]; done) | (simp only [lz, Nat.reduceAdd, Nat.reduceLeDiff, Nat.le_refl]; done) | (simp only [sz]; omega))) | exact .inr rfl | exact .inr (by simp; done)))
    · exact hself _ _ _ ⟨i + 1, rfl, hlt, rfl, by rw [ht]; simp only [atL, List.find?_cons, hc]⟩ (by simp only [ival_nat, show ((i : Int) + 1) = ((i + 1 : Nat) : Int) from rfl]; omega)
  · have hge : ¬ i < l.length := by simp at hc; omega
    have e : atL l s = none := by rw [ht, List.drop_eq_nil_of_le (by omega)]; rfl
    rw [e] at hK
    simp only [voteV, vote0, cmd0, Option.getD_none, Option.isSome_none] at hK
    exact hK _ (by repeat' (first | with_reducible exact Upd.refl _ | with_reducible refine Upd.push ?_ _ | with_reducible refine Upd.set ?_ _ _ ?_ | exact .inl (by (first | omega | (simp only [sz]; done) | (simp only [lz, Nat.reduceAdd, Nat.reduceLeDiff, Nat.le_refl]; done) | (simp only [sz]; omega))) | exact .inr rfl | exact .inr (by simp; done)))
end Go.Proofs.Ytdolepapmpcpiaa

namespace Go.Proofs.Ytdolepapmpcpiaa
open Go
set_option linter.unusedSectionVars false
variable [Base]
set_option linter.unusedVariables false
set_option linter.unusedSimpArgs false
theorem sp_rMaster {h : Hp} (n : Int) {K : Kont} (hK : K (.bool (decide (1 ≤ n ∧ n ≤ 5))) h) : C_q151 [.int .i64 n] h K := by
  refine ok_q151 ?_
  unfold G_q151
  (repeat' (first | (simp (disch := (first | omega | (simp only [sz]; done) | (simp only [lz, Nat.reduceAdd, Nat.reduceLeDiff, Nat.le_refl]; done) | (simp only [sz]; omega))) only [↓xa, xb, xl, Option.bind_some, Option.map_some, implies_true, imp_self, true_and, and_true, if_true, if_false, decide_true, decide_false, Int.cast_ofNat_Int, Int.reduceLT, Int.reduceLE, Int.reduceEq, Nat.reduceAdd, Nat.reduceMul, Nat.reduceLeDiff, setL, bfill, eqV, lookRes]) | ((refine e_ifd _ _ _ (fun hc => ?_) (fun hc => ?_)) <;> first | (exfalso; omega) | (simp (disch := (first | omega | (simp only [sz]; done) | (simp only [lz, Nat.reduceAdd, Nat.reduceLeDiff, Nat.le_refl]; done) | (simp only [sz]; omega))) only [↓xa, xb, xl, Option.bind_some, Option.map_some, implies_true, imp_self, true_and, and_true, if_true, if_false, decide_true, decide_false, Int.cast_ofNat_Int, Int.reduceLT, Int.reduceLE, Int.reduceEq, Nat.reduceAdd, Nat.reduceMul, Nat.reduceLeDiff, setL, bfill, eqV, lookRes, hc]) | skip) | ((refine e_ifn _ _ _ (fun hc => ?_) (fun hc => ?_)) <;> first | (exfalso; omega) | (simp (disch := (first | omega | (simp only [sz]; done) | (simp only [lz, Nat.reduceAdd, Nat.reduceLeDiff, Nat.le_refl]; done) | (simp only [sz]; omega))) only [↓xa, xb, xl, Option.bind_some, Option.map_some, implies_true, imp_self, true_and, and_true, if_true, if_false, decide_true, decide_false, Int.cast_ofNat_Int, Int.reduceLT, Int.reduceLE, Int.reduceEq, Nat.reduceAdd, Nat.reduceMul, Nat.reduceLeDiff, setL, bfill, eqV, lookRes, hc]) | skip) | ((refine e_gd _ _ _ _ _ (fun hc => ?_) (fun hc => ?_)) <;> first | (exfalso; omega) | (simp (disch := (first | omega | (simp only [sz]; done) | (simp only [lz, Nat.reduceAdd, Nat.reduceLeDiff, Nat.le_refl]; done) | (simp only [sz]; omega))) only [↓xa, xb, xl, Option.bind_some, Option.map_some, implies_true, imp_self, true_and, and_true, if_true, if_false, decide_true, decide_false, Int.cast_ofNat_Int, Int.reduceLT, Int.reduceLE, Int.reduceEq, Nat.reduceAdd, Nat.reduceMul, Nat.reduceLeDiff, setL, bfill, eqV, lookRes, hc]) | skip) | ((refine e_gn _ _ _ _ _ (fun hc => ?_) (fun hc => ?_)) <;> first | (exfalso; omega) | (simp (disch := (first | omega | (simp only [sz]; done) | (simp only [lz, Nat.reduceAdd, Nat.reduceLeDiff, Nat.le_refl]; done) | (simp only [sz]; omega))) only [↓xa, xb, xl, Option.bind_some, Option.map_some, implies_true, imp_self, true_and, and_true, if_true, if_false, decide_true, decide_false, Int.cast_ofNat_Int, Int.reduceLT, Int.reduceLE, Int.reduceEq, Nat.reduceAdd, Nat.reduceMul, Nat.reduceLeDiff, setL, bfill, eqV, lookRes, hc]) | skip) | ((refine e_pd _ _ _ _ _ (fun hc => ?_) (fun hc => ?_)) <;> first | (exfalso; omega) | (simp (disch := (first | omega | (simp only [sz]; done) | (simp only [lz, Nat.reduceAdd, Nat.reduceLeDiff, Nat.le_refl]; done) | (simp only [sz]; omega))) only [↓xa, xb, xl, Option.bind_some, Option.map_some, implies_true, imp_self, true_and, and_true, if_true, if_false, decide_true, decide_false, Int.cast_ofNat_Int, Int.reduceLT, Int.reduceLE, Int.reduceEq, Nat.reduceAdd, Nat.reduceMul, Nat.reduceLeDiff, setL, bfill, eqV, lookRes, hc]) | skip) | ((refine e_pn _ _ _ _ _ (fun hc => ?_) (fun hc => ?_)) <;> first | (exfalso; omega) | (simp (disch := (first | omega | (simp only [sz]; done) | (simp only [lz, Nat.reduceAdd, Nat.reduceLeDiff, Nat.le_refl]; done) | (simp only [sz]; omega))) only [↓xa, xb, xl, Option.bind_some, Option.map_some, implies_true, imp_self, true_and, and_true, if_true, if_false, decide_true, decide_false, Int.cast_ofNat_Int, Int.reduceLT, Int.reduceLE, Int.reduceEq, Nat.reduceAdd, Nat.reduceMul, Nat.reduceLeDiff, setL, bfill, eqV, lookRes, hc]) | skip) | ((refine e_if2 _ _ _ (fun hc => ?_) (fun hc => ?_)) <;> first | (exfalso; omega) | (simp (disch := (first | omega | (simp only [sz]; done) | (simp only [lz, Nat.reduceAdd, Nat.reduceLeDiff, Nat.le_refl]; done) | (simp only [sz]; omega))) only [↓xa, xb, xl, Option.bind_some, Option.map_some, implies_true, imp_self, true_and, and_true, if_true, if_false, decide_true, decide_false, Int.cast_ofNat_Int, Int.reduceLT, Int.reduceLE, Int.reduceEq, Nat.reduceAdd, Nat.reduceMul, Nat.reduceLeDiff, setL, bfill, eqV, lookRes, hc]) | skip) | ((refine e_g2 _ _ _ _ _ (fun hc => ?_) (fun hc => ?_)) <;> first | (exfalso; omega) | (simp (disch := (first | omega | (simp only [sz]; done) | (simp only [lz, Nat.reduceAdd, Nat.reduceLeDiff, Nat.le_refl]; done) | (simp only [sz]; omega))) only [↓xa, xb, xl, Option.bind_some, Option.map_some, implies_true, imp_self, true_and, and_true, if_true, if_false, decide_true, decide_false, Int.cast_ofNat_Int, Int.reduceLT, Int.reduceLE, Int.reduceEq, Nat.reduceAdd, Nat.reduceMul, Nat.reduceLeDiff, setL, bfill, eqV, lookRes, hc]) | skip)))
  all_goals exact k_cast hK (by congr 1; simp; omega)
theorem sp_rCheck {h : Hp} (hB : Base.b ≤ h.size) (c : Cmd) (he : 0 ≤ c.epoch) {K : Kont} (hK : ∀ h', Ext h h' → K (.int .i64 (checkC c)) h') : C_q165 [cmdV c] h K := by
  refine ok_q165 ?_
  unfold G_q165
  obtain ⟨k, ch, ep, nd⟩ := c
  change 0 ≤ ep at he
  unfold cmdV
  (repeat' (first | (simp (disch := (first | omega | (simp only [sz]; done) | (simp only [lz, Nat.reduceAdd, Nat.reduceLeDiff, Nat.le_refl]; done) | (simp only [sz]; omega))) only [↓xa, xb, xl, Option.bind_some, Option.map_some, implies_true, imp_self, true_and, and_true, if_true, if_false, decide_true, decide_false, Int.cast_ofNat_Int, Int.reduceLT, Int.reduceLE, Int.reduceEq, Nat.reduceAdd, Nat.reduceMul, Nat.reduceLeDiff, setL, bfill, eqV, lookRes]) | ((refine e_ifd _ _ _ (fun hc => ?_) (fun hc => ?_)) <;> first | (exfalso; omega) | (simp (disch := (first | omega | (simp only [sz]; done) | (simp only [lz, Nat.reduceAdd, Nat.reduceLeDiff, Nat.le_refl]; done) | (simp only [sz]; omega))) only [↓xa, xb, xl, Option.bind_some, Option.map_some, implies_true, imp_self, true_and, and_true, if_true, if_false, decide_true, decide_false, Int.cast_ofNat_Int, Int.reduceLT, Int.reduceLE, Int.reduceEq, Nat.reduceAdd, Nat.reduceMul, Nat.reduceLeDiff, setL, bfill, eqV, lookRes, hc]) | skip) | ((refine e_ifn _ _ _ (fun hc => ?_) (fun hc => ?_)) <;> first | (exfalso; omega) | (simp (disch := (first | omega | (simp only [sz]; done) | (simp only [lz, Nat.reduceAdd, Nat.reduceLeDiff, Nat.le_refl]; done) | (simp only [sz]; omega))) only [↓xa, xb, xl, Option.bind_some, Option.map_some, implies_true, imp_self, true_and, and_true, if_true, if_false, decide_true, decide_false, Int.cast_ofNat_Int, Int.reduceLT, Int.reduceLE, Int.reduceEq, Nat.reduceAdd, Nat.reduceMul, Nat.reduceLeDiff, setL, bfill, eqV, lookRes, hc]) | skip) | ((refine e_gd _ _ _ _ _ (fun hc => ?_) (fun hc => ?_)) <;> first | (exfalso; omega) | (simp (disch := (first | omega | (simp only [sz]; done) | (simp only [lz, Nat.reduceAdd, Nat.reduceLeDiff, Nat.le_refl]; done) | (simp only [sz]; omega))) only [↓xa, xb, xl, Option.bind_some, Option.map_some, implies_true, imp_self, true_and, and_true, if_true, if_false, decide_true, decide_false, Int.cast_ofNat_Int, Int.reduceLT, Int.reduceLE, Int.reduceEq, Nat.reduceAdd, Nat.reduceMul, Nat.reduceLeDiff, setL, bfill, eqV, lookRes, hc]) | skip) | ((refine e_gn _ _ _ _ _ (fun hc => ?_) (fun hc => ?_)) <;> first | (exfalso; omega) | (simp (disch := (first | omega | (simp only [sz]; done) | (simp only [lz, Nat.reduceAdd, Nat.reduceLeDiff, Nat.le_refl]; done) | (simp only [sz]; omega))) only [↓xa, xb, xl, Option.bind_some, Option.map_some, implies_true, imp_self, true_and, and_true, if_true, if_false, decide_true, decide_false, Int.cast_ofNat_Int, Int.reduceLT, Int.reduceLE, Int.reduceEq, Nat.reduceAdd, Nat.reduceMul, Nat.reduceLeDiff, setL, bfill, eqV, lookRes, hc]) | skip) | ((refine e_pd _ _ _ _ _ (fun hc => ?_) (fun hc => ?_)) <;> first | (exfalso; omega) | (simp (disch := (first | omega | (simp only [sz]; done) | (simp only [lz, Nat.reduceAdd, Nat.reduceLeDiff, Nat.le_refl]; done) | (simp only [sz]; omega))) only [↓xa, xb, xl, Option.bind_some, Option.map_some, implies_true, imp_self, true_and, and_true, if_true, if_false, decide_true, decide_false, Int.cast_ofNat_Int, Int.reduceLT, Int.reduceLE, Int.reduceEq, Nat.reduceAdd, Nat.reduceMul, Nat.reduceLeDiff, setL, bfill, eqV, lookRes, hc]) | skip) | ((refine e_pn _ _ _ _ _ (fun hc => ?_) (fun hc => ?_)) <;> first | (exfalso; omega) | (simp (disch := (first | omega | (simp only [sz]; done) | (simp only [lz, Nat.reduceAdd, Nat.reduceLeDiff, Nat.le_refl]; done) | (simp only [sz]; omega))) only [↓xa, xb, xl, Option.bind_some, Option.map_some, implies_true, imp_self, true_and, and_true, if_true, if_false, decide_true, decide_false, Int.cast_ofNat_Int, Int.reduceLT, Int.reduceLE, Int.reduceEq, Nat.reduceAdd, Nat.reduceMul, Nat.reduceLeDiff, setL, bfill, eqV, lookRes, hc]) | skip) | ((refine e_if2 _ _ _ (fun hc => ?_) (fun hc => ?_)) <;> first | (exfalso; omega) | (simp (disch := (first | omega | (simp only [sz]; done) | (simp only [lz, Nat.reduceAdd, Nat.reduceLeDiff, Nat.le_refl]; done) | (simp only [sz]; omega))) only [↓xa, xb, xl, Option.bind_some, Option.map_some, implies_true, imp_self, true_and, and_true, if_true, if_false, decide_true, decide_false, Int.cast_ofNat_Int, Int.reduceLT, Int.reduceLE, Int.reduceEq, Nat.reduceAdd, Nat.reduceMul, Nat.reduceLeDiff, setL, bfill, eqV, lookRes, hc]) | skip) | ((refine e_g2 _ _ _ _ _ (fun hc => ?_) (fun hc => ?_)) <;> first | (exfalso; omega) | (simp (disch := (first | omega | (simp only [sz]; done) | (simp only [lz, Nat.reduceAdd, Nat.reduceLeDiff, Nat.le_refl]; done) | (simp only [sz]; omega))) only [↓xa, xb, xl, Option.bind_some, Option.map_some, implies_true, imp_self, true_and, and_true, if_true, if_false, decide_true, decide_false, Int.cast_ofNat_Int, Int.reduceLT, Int.reduceLE, Int.reduceEq, Nat.reduceAdd, Nat.reduceMul, Nat.reduceLeDiff, setL, bfill, eqV, lookRes, hc]) | skip)))
  all_goals exact k_cast (hK _ (by repeat' (first | with_reducible exact Upd.refl _ | with_reducible refine Upd.push ?_ _ | with_reducible refine Upd.set ?_ _ _ ?_ | exact .inl (by (first | omega | (simp only [sz]; done) | (simp only [lz, Nat.reduceAdd, Nat.reduceLeDiff, Nat.le_refl]; done) | (simp only [sz]; omega))) | exact .inr rfl | exact .inr (by simp; done)))) (by congr 1; simp only [checkC, cmd0, Cmd.mk.injEq]; (repeat' split) <;> omega)
def fromL (l : List Vote) (f : Int) : List Vote := l.filter (fun v => decide (f ≤ v.slot))
def putL (v : Vote) : List Vote → List Vote
  | [] => [v]
  | a :: r => if a.slot < v.slot then a :: putL v r else if a.slot = v.slot then v :: r else v :: a :: r
theorem putL_at (v : Vote) : ∀ (l : List Vote) (i : Nat), i ≤ l.length → (∀ x ∈ l.take i, x.slot < v.slot) → putL v l = l.take i ++ putL v (l.drop i)
  | l, 0, _, _ => by simp
  | a :: l, i + 1, hi, h => by
    have ha : a.slot < v.slot := h a (by simp)
    have ih := putL_at v l i (by simpa using hi) (fun x hx => h x (by simp [hx]))
    simp only [putL, if_pos ha, List.take_succ_cons, List.drop_succ_cons, List.cons_append, ← ih]
  | [], i + 1, hi, _ => by simp at hi
set_option maxHeartbeats 1000000 in
set_option maxRecDepth 10000 in
theorem sp_Put {h : Hp} (hB : Base.b ≤ h.size) {a : Value} {l : List Vote} (ha : Sl h 6 vcells a l) (hl : l.length ≤ 1048576) (v : Vote) {K : Kont}
    (hK : ∀ v' h', Ext h h' → Own h' h.size 6 vcells v' (putL v l) → K v' h') : C_q180 [a, voteV v] h K := by
  refine ok_q180 ?_
  unfold G_q180
  obtain ⟨s, b, k, ch, ep, nd⟩ := v
  unfold voteV
  (try simp (disch := (first | omega | (simp only [sz]; done) | (simp only [lz, Nat.reduceAdd, Nat.reduceLeDiff, Nat.le_refl]; done) | (simp only [sz]; omega))) only [↓xa, xb, xl, Option.bind_some, Option.map_some, implies_true, imp_self, true_and, and_true, if_true, if_false, decide_true, decide_false, Int.cast_ofNat_Int, Int.reduceLT, Int.reduceLE, Int.reduceEq, Nat.reduceAdd, Nat.reduceMul, Nat.reduceLeDiff, setL, bfill, eqV, lookRes])
  have hb1 : (h.push (.cells #[.int .i64 s, .int .u64 b, .int .i64 k, .int .i64 ch, .int .u64 ep, .int .i64 nd]))[h.size]? = some (.cells #[.int .i64 s, .int .u64 b, .int .i64 k, .int .i64 ch, .int .u64 ep, .int .i64 nd]) := g_push_eq rfl
  have x1 : Ext h (h.push (.cells #[.int .i64 s, .int .u64 b, .int .i64 k, .int .i64 ch, .int .u64 ep, .int .i64 nd])) := Upd.push (Upd.refl _) _
  have l1 : (h.push (.cells #[.int .i64 s, .int .u64 b, .int .i64 k, .int .i64 ch, .int .u64 ep, .int .i64 nd])).size = h.size + 1 := by simp
  generalize h.push (.cells #[.int .i64 s, .int .u64 b, .int .i64 k, .int .i64 ch, .int .u64 ep, .int .i64 nd]) = h1 at *
  refine rule_q180_1 (fun v5 v6 h' => ∃ i : Nat, v6 = .int .i64 i ∧ i ≤ l.length ∧ Ext h1 h' ∧ Own h' h1.size 6 vcells v5 (l.take i) ∧ ∀ x ∈ l.take i, x.slot < s) (fun v5 v6 h' => l.length - ival v6) ?_ _ _ _ _ ⟨0, rfl, Nat.zero_le _, Upd.refl _, Own.nil, by simp⟩
  rintro self v5 v6 d h' ⟨i, rfl, hi, x, ho, hlt⟩ hself
  unfold B_q180_1
  have ha' := (ha.ext x1).ext x
  have hb' := x.get hb1 id
  have hB' := x.hB (x1.hB hB)
  have hx := x.1
  have hp := putL_at ⟨s, b, k, ch, ep, nd⟩ l i hi hlt
  have htl : (l.take i).length = i := by simp; omega
  have htail : ∀ (v5' : Value) (h2 : Hp) (j : Nat), i ≤ j → j ≤ l.length → Ext h1 h2 → Own h2 h1.size 6 vcells v5' (l.take i ++ [⟨s, b, k, ch, ep, nd⟩]) → putL ⟨s, b, k, ch, ep, nd⟩ (l.drop i) = ⟨s, b, k, ch, ep, nd⟩ :: l.drop j → ∀ d, G_q180_2 K a v5' (.int .i64 j) d h2 := by
    intro v5' h2 j hij hj x2 o2 hq d
    rw [req_q180_2]
    unfold R_q180_2
    have ha2 := (ha.ext x1).ext x2
    have hx2 := x2.1
    refine ha2.sub vcells_len (lo := some (.int .i64 j)) (hi := none) (a := j) (b := l.length) (fun m hm => bnd_int (by omega) (by omega)) (fun m hm => rfl) hj (Nat.le_refl _) ?_
    intro v' s' _
    rw [List.take_length] at s'
    refine Own.append o2 vcells_len vcells_one (x2.hB (x1.hB hB)) rfl s' hx2 ?_ ?_
    · simp; omega
    · intro v'' h3 o3 u3
      refine hK _ _ (x1.trans (x2.ext u3 (Nat.le_refl _))) ?_
      rw [hp, hq]
      rw [List.append_assoc] at o3
      exact o3.low (by omega)
  simp (disch := (first | omega | (simp only [sz]; done) | (simp only [lz, Nat.reduceAdd, Nat.reduceLeDiff, Nat.le_refl]; done) | (simp only [sz]; omega))) only [↓xa, xb, xl, Option.bind_some, Option.map_some, implies_true, imp_self, true_and, and_true, if_true, if_false, decide_true, decide_false, Int.cast_ofNat_Int, Int.reduceLT, Int.reduceLE, Int.reduceEq, Nat.reduceAdd, Nat.reduceMul, Nat.reduceLeDiff, setL, bfill, eqV, lookRes, ↓ha.len']
  by_cases h1 : i < l.length
  · have hd := drop_nth h1
    have htk := take_nth h1
    by_cases h2 : (nth l i).slot < s
    · simp (disch := (first | omega | (simp only [sz]; done) | (simp only [lz, Nat.reduceAdd, Nat.reduceLeDiff, Nat.le_refl]; done) | (simp only [sz]; omega))) only [↓xa, xb, xl, Option.bind_some, Option.map_some, implies_true, imp_self, true_and, and_true, if_true, if_false, decide_true, decide_false, Int.cast_ofNat_Int, Int.reduceLT, Int.reduceLE, Int.reduceEq, Nat.reduceAdd, Nat.reduceMul, Nat.reduceLeDiff, setL, bfill, eqV, lookRes, decide_eq_true (Int.ofNat_lt.2 h1), ↓ha'.idx, ha'.cell0 vcells_len, vcells, rdC_blk hb', decide_eq_true h2, ha'.row vcells_len]
      refine Own.push1 ho vcells_len vcells_one (nth l i) ?_ (by omega) ?_ (by omega) ?_ ?_
      · rfl
      · rfl
      · rw [htl]; omega
      intro v' h3 o3 u3
      refine hself _ _ _ _ ⟨i + 1, rfl, h1, x.ext u3 (Nat.le_refl _), by rw [htk]; exact o3, by rw [htk]; intro y hy; simp only [List.mem_append, List.mem_singleton] at hy; rcases hy with hy | rfl; exact hlt y hy; exact h2⟩ (by simp only [ival_nat, show ((i : Int) + 1) = ((i + 1 : Nat) : Int) from rfl]; omega)
    · simp (disch := (first | omega | (simp only [sz]; done) | (simp only [lz, Nat.reduceAdd, Nat.reduceLeDiff, Nat.le_refl]; done) | (simp only [sz]; omega))) only [↓xa, xb, xl, Option.bind_some, Option.map_some, implies_true, imp_self, true_and, and_true, if_true, if_false, decide_true, decide_false, Int.cast_ofNat_Int, Int.reduceLT, Int.reduceLE, Int.reduceEq, Nat.reduceAdd, Nat.reduceMul, Nat.reduceLeDiff, setL, bfill, eqV, lookRes, decide_eq_true (Int.ofNat_lt.2 h1), ↓ha'.idx, ha'.cell0 vcells_len, vcells, rdC_blk hb', decide_eq_false h2, rdN_all hb']
      refine Own.push1 ho vcells_len vcells_one ⟨s, b, k, ch, ep, nd⟩ ?_ (by omega) ?_ (by omega) ?_ ?_
      · rfl
      · rfl
      · rw [htl]; omega
      intro v' h3 o3 u3
      have x3 := x.ext u3 (Nat.le_refl _)
      have ha3 := (ha.ext x1).ext x3
      have hb3 := x3.get hb1 id
      by_cases h4 : (nth l i).slot = s
      · simp (disch := (first | omega | (simp only [sz]; done) | (simp only [lz, Nat.reduceAdd, Nat.reduceLeDiff, Nat.le_refl]; done) | (simp only [sz]; omega))) only [↓xa, xb, xl, Option.bind_some, Option.map_some, implies_true, imp_self, true_and, and_true, if_true, if_false, decide_true, decide_false, Int.cast_ofNat_Int, Int.reduceLT, Int.reduceLE, Int.reduceEq, Nat.reduceAdd, Nat.reduceMul, Nat.reduceLeDiff, setL, bfill, eqV, lookRes, ↓ha.len', decide_eq_true (Int.ofNat_lt.2 h1), ↓ha3.idx, ha3.cell0 vcells_len, vcells, rdC_blk hb3, decide_eq_true h4]
        rw [show ((i : Int) + 1) = ((i + 1 : Nat) : Int) from rfl]
        refine htail v' h3 (i + 1) (by omega) h1 x3 o3 ?_ _
        rw [hd]; simp only [putL, if_neg h2, if_pos h4]
      · simp (disch := (first | omega | (simp only [sz]; done) | (simp only [lz, Nat.reduceAdd, Nat.reduceLeDiff, Nat.le_refl]; done) | (simp only [sz]; omega))) only [↓xa, xb, xl, Option.bind_some, Option.map_some, implies_true, imp_self, true_and, and_true, if_true, if_false, decide_true, decide_false, Int.cast_ofNat_Int, Int.reduceLT, Int.reduceLE, Int.reduceEq, Nat.reduceAdd, Nat.reduceMul, Nat.reduceLeDiff, setL, bfill, eqV, lookRes, ↓ha.len', decide_eq_true (Int.ofNat_lt.2 h1), ↓ha3.idx, ha3.cell0 vcells_len, vcells, rdC_blk hb3, decide_eq_false h4]
        refine htail v' h3 i (by omega) hi x3 o3 ?_ _
        rw [hd]; simp only [putL, if_neg h2, if_neg h4]
  · have h1' : ¬ (i : Int) < (l.length : Int) := by omega
    simp (disch := (first | omega | (simp only [sz]; done) | (simp only [lz, Nat.reduceAdd, Nat.reduceLeDiff, Nat.le_refl]; done) | (simp only [sz]; omega))) only [↓xa, xb, xl, Option.bind_some, Option.map_some, implies_true, imp_self, true_and, and_true, if_true, if_false, decide_true, decide_false, Int.cast_ofNat_Int, Int.reduceLT, Int.reduceLE, Int.reduceEq, Nat.reduceAdd, Nat.reduceMul, Nat.reduceLeDiff, setL, bfill, eqV, lookRes, decide_eq_false h1', rdN_all hb']
    refine Own.push1 ho vcells_len vcells_one ⟨s, b, k, ch, ep, nd⟩ ?_ (by omega) ?_ (by omega) ?_ ?_
    · rfl
    · rfl
    · rw [htl]; omega
    intro v' h3 o3 u3
    have x3 := x.ext u3 (Nat.le_refl _)
    refine htail v' h3 i (by omega) hi x3 o3 ?_ _
    rw [List.drop_eq_nil_of_le (by omega)]; rfl
theorem putL_len (v : Vote) : ∀ l : List Vote, (putL v l).length ≤ l.length + 1
  | [] => by simp [putL]
  | a :: l => by
    have := putL_len v l
    unfold putL
    split
    · simp; omega
    · split <;> simp
end Go.Proofs.Ytdolepapmpcpiaa

namespace Go.Proofs.Ytdolepapmpcpiaa
open Go
set_option linter.unusedSectionVars false
variable [Base]
set_option linter.unusedVariables false
set_option linter.unusedSimpArgs false
set_option maxRecDepth 10000
end Go.Proofs.Ytdolepapmpcpiaa

namespace Go.Proofs.Ytdolepapmpcpiaa
open Go Go.RowKit Go.Maps Go.Shelf
set_option linter.unusedSectionVars false
variable [Base]
set_option linter.unusedVariables false
set_option linter.unusedSimpArgs false
set_option maxRecDepth 10000
abbrev LV := Value × List Vote
abbrev lvc (a : LV) : List Value := [a.1]
theorem lvc_len (a : LV) : (lvc a).length = 1 := rfl
instance : Inhabited LV := ⟨(undef, [])⟩
/-- A slice of slices of votes. -/
def Sll (h : Hp) (v : Value) (ls : List LV) : Prop := Sl h 1 lvc v ls ∧ ∀ a ∈ ls, Sl h 6 vcells a.1 a.2
theorem Sll.ext {h h' : Hp} {v : Value} {ls : List LV} (s : Sll h v ls) (x : Ext h h') : Sll h' v ls := ⟨s.1.ext x, fun a ha => (s.2 a ha).ext x⟩
def votesOf (ls : List LV) : List Vote := ls.flatMap (·.2)
theorem votesOf_snoc {ls : List LV} {i : Nat} (hi : i < ls.length) : votesOf (ls.take (i + 1)) = votesOf (ls.take i) ++ (nth ls i).2 := by
  rw [take_nth hi]; simp [votesOf]
theorem votesOf_take (ls : List LV) (i : Nat) : (votesOf (ls.take i)).length ≤ (votesOf ls).length := by
  have := congrArg (fun l => (votesOf l).length) (List.take_append_drop i ls)
  simp only [votesOf, List.flatMap_append, List.length_append] at this
  unfold votesOf
  omega
def bestR (out : List Vote) (v : Vote) : List Vote :=
  match atL out v.slot with
  | none => putL v out
  | some o => if o.ballot < v.ballot then putL v out else out
def rBestL (l : List Vote) : List Vote := l.foldl bestR []
theorem bestR_len (out : List Vote) (v : Vote) : (bestR out v).length ≤ out.length + 1 := by
  unfold bestR
  split
  · exact putL_len _ _
  · split
    · exact putL_len _ _
    · omega
theorem foldR_len : ∀ (l out : List Vote), (l.foldl bestR out).length ≤ out.length + l.length
  | [], out => by simp
  | v :: l, out => by
    have h1 := foldR_len l (bestR out v)
    have h2 := bestR_len out v
    simp only [List.foldl_cons, List.length_cons]
    omega
theorem rBestL_len (l : List Vote) : (rBestL l).length ≤ l.length := by have := foldR_len l []; simpa [rBestL] using this
theorem rBestL_snoc (l : List Vote) (v : Vote) : rBestL (l ++ [v]) = bestR (rBestL l) v := by simp [rBestL]
set_option maxHeartbeats 2000000 in
theorem sp_rBest {h : Hp} (hB : Base.b ≤ h.size) {a : Value} {ls : List LV} (hS : Sll h a ls) (hl : (votesOf ls).length ≤ 1048576) (hll : ls.length ≤ 1048576) {K : Kont}
    (hK : ∀ v' h', Ext h h' → Own h' h.size 6 vcells v' (rBestL (votesOf ls)) → K v' h') : C_q174 [a] h K := by
  refine ok_q174 ?_
  unfold G_q174
  refine rule_q174_1 (fun v3 v4 h' => ∃ i : Nat, v4 = .int .i64 i ∧ i ≤ ls.length ∧ Ext h h' ∧ Own h' h.size 6 vcells v3 (rBestL (votesOf (ls.take i)))) (fun v3 v4 h' => ls.length - ival v4) ?_ _ _ _ _ ⟨0, rfl, Nat.zero_le _, Upd.refl _, Own.nil⟩
  rintro self v3 v4 d h' ⟨i, rfl, hi, x, ho⟩ hself
  unfold B_q174_1
  simp (disch := (first | omega | (simp only [sz]; done) | (simp only [lz, Nat.reduceAdd, Nat.reduceLeDiff, Nat.le_refl]; done) | (simp only [sz]; omega))) only [↓xa, xb, xl, Option.bind_some, Option.map_some, implies_true, imp_self, true_and, and_true, if_true, if_false, decide_true, decide_false, Int.cast_ofNat_Int, Int.reduceLT, Int.reduceLE, Int.reduceEq, Nat.reduceAdd, Nat.reduceMul, Nat.reduceLeDiff, setL, bfill, eqV, lookRes, ↓hS.1.len']
  by_cases hlt : i < ls.length
  rotate_left
  · simp (disch := (first | omega | (simp only [sz]; done) | (simp only [lz, Nat.reduceAdd, Nat.reduceLeDiff, Nat.le_refl]; done) | (simp only [sz]; omega))) only [↓xa, xb, xl, Option.bind_some, Option.map_some, implies_true, imp_self, true_and, and_true, if_true, if_false, decide_true, decide_false, Int.cast_ofNat_Int, Int.reduceLT, Int.reduceLE, Int.reduceEq, Nat.reduceAdd, Nat.reduceMul, Nat.reduceLeDiff, setL, bfill, eqV, lookRes, decide_eq_false (show ¬ (i : Int) < (ls.length : Int) by omega)]
    rw [List.take_of_length_le (by omega)] at ho
    exact hK _ _ x ho
  simp (disch := (first | omega | (simp only [sz]; done) | (simp only [lz, Nat.reduceAdd, Nat.reduceLeDiff, Nat.le_refl]; done) | (simp only [sz]; omega))) only [↓xa, xb, xl, Option.bind_some, Option.map_some, implies_true, imp_self, true_and, and_true, if_true, if_false, decide_true, decide_false, Int.cast_ofNat_Int, Int.reduceLT, Int.reduceLE, Int.reduceEq, Nat.reduceAdd, Nat.reduceMul, Nat.reduceLeDiff, setL, bfill, eqV, lookRes, decide_eq_true (Int.ofNat_lt.2 hlt)]
  have hin := hS.2 _ (nth_mem hlt)
  have hsn := votesOf_snoc hlt
  have htl := votesOf_take ls (i + 1)
  rw [hsn, List.length_append] at htl
  generalize hlv : nth ls i = lv at hin hsn htl
  refine rule_q174_2 (fun v3 v5 h' => ∃ k : Nat, v5 = .int .i64 k ∧ k ≤ lv.2.length ∧ Ext h h' ∧ Own h' h.size 6 vcells v3 (rBestL (votesOf (ls.take i) ++ lv.2.take k))) (fun v3 v5 h' => lv.2.length - ival v5) ?_ _ _ _ _ ⟨0, rfl, Nat.zero_le _, x, by simpa using ho⟩
  clear ho x
  rintro self2 v3 v5 d h' ⟨k, rfl, hk, x, ho⟩ hself2
  unfold B_q174_2
  have hS1 := hS.1.ext x
  have hi1 := hin.ext x
  have hx := x.1
  have hlen := rBestL_len (votesOf (ls.take i) ++ lv.2.take k)
  rw [List.length_append, List.length_take] at hlen
  simp (disch := (first | omega | (simp only [sz]; done) | (simp only [lz, Nat.reduceAdd, Nat.reduceLeDiff, Nat.le_refl]; done) | (simp only [sz]; omega))) only [↓xa, xb, xl, Option.bind_some, Option.map_some, implies_true, imp_self, true_and, and_true, if_true, if_false, decide_true, decide_false, Int.cast_ofNat_Int, Int.reduceLT, Int.reduceLE, Int.reduceEq, Nat.reduceAdd, Nat.reduceMul, Nat.reduceLeDiff, setL, bfill, eqV, lookRes, ↓hS1.idx, hS1.cell0 lvc_len, hlv, ↓hi1.len']
  by_cases hlk : k < lv.2.length
  rotate_left
  · simp (disch := (first | omega | (simp only [sz]; done) | (simp only [lz, Nat.reduceAdd, Nat.reduceLeDiff, Nat.le_refl]; done) | (simp only [sz]; omega))) only [↓xa, xb, xl, Option.bind_some, Option.map_some, implies_true, imp_self, true_and, and_true, if_true, if_false, decide_true, decide_false, Int.cast_ofNat_Int, Int.reduceLT, Int.reduceLE, Int.reduceEq, Nat.reduceAdd, Nat.reduceMul, Nat.reduceLeDiff, setL, bfill, eqV, lookRes, decide_eq_false (show ¬ (k : Int) < (lv.2.length : Int) by omega)]
    rw [List.take_of_length_le (l := lv.2) (i := k) (by omega)] at ho
    exact hself _ _ _ _ ⟨i + 1, rfl, hlt, x, by rw [hsn]; exact ho⟩ (by simp only [ival_nat, show ((i : Int) + 1) = ((i + 1 : Nat) : Int) from rfl]; omega)
  simp (disch := (first | omega | (simp only [sz]; done) | (simp only [lz, Nat.reduceAdd, Nat.reduceLeDiff, Nat.le_refl]; done) | (simp only [sz]; omega))) only [↓xa, xb, xl, Option.bind_some, Option.map_some, implies_true, imp_self, true_and, and_true, if_true, if_false, decide_true, decide_false, Int.cast_ofNat_Int, Int.reduceLT, Int.reduceLE, Int.reduceEq, Nat.reduceAdd, Nat.reduceMul, Nat.reduceLeDiff, setL, bfill, eqV, lookRes, decide_eq_true (Int.ofNat_lt.2 hlk), ↓hS1.idx, hS1.cell0 lvc_len, hlv, ↓hi1.idx, hi1.cell0 vcells_len, vcells]
  refine sp_At (x.hB hB) ho.sl (by omega) _ ?_
  intro h2 x2
  have x02 := x.trans x2
  have hS2 := hS1.ext x2
  have hi2 := hi1.ext x2
  have ho2 := ho.ext x2
  have hB2 := x02.hB hB
  have htk := take_nth hlk
  have hr : rBestL (votesOf (ls.take i) ++ lv.2.take (k + 1)) = bestR (rBestL (votesOf (ls.take i) ++ lv.2.take k)) (nth lv.2 k) := by
    rw [htk, ← List.append_assoc, rBestL_snoc]
  have hsb : sblk a < h2.size := hS2.lt lvc_len (by omega) (by decide)
  have hsb2 : sblk lv.1 < h2.size := hi2.lt vcells_len (by omega) (by decide)
  have put : ∀ v3' h3 d, Ext h2 h3 → Own h3 h.size 6 vcells v3' (bestR (rBestL (votesOf (ls.take i) ++ lv.2.take k)) (nth lv.2 k)) → G_q174_3 K self self2 a v3' (.int .i64 i) (.int .i64 k) d h3 := by
    intro v3' h3 d x3 o3
    rw [req_q174_3]
    unfold R_q174_3
    have := x3.1
    (try simp (disch := (first | omega | (simp only [sz]; done) | (simp only [lz, Nat.reduceAdd, Nat.reduceLeDiff, Nat.le_refl]; done) | (simp only [sz]; omega))) only [↓xa, xb, xl, Option.bind_some, Option.map_some, implies_true, imp_self, true_and, and_true, if_true, if_false, decide_true, decide_false, Int.cast_ofNat_Int, Int.reduceLT, Int.reduceLE, Int.reduceEq, Nat.reduceAdd, Nat.reduceMul, Nat.reduceLeDiff, setL, bfill, eqV, lookRes])
    exact hself2 _ _ _ _ ⟨k + 1, rfl, hlk, x02.trans x3, by rw [hr]; exact o3⟩ (by simp only [ival_nat, show ((k : Int) + 1) = ((k + 1 : Nat) : Int) from rfl]; omega)
  unfold bestR at put
  revert put
  generalize atL (rBestL (votesOf (ls.take i) ++ lv.2.take k)) (nth lv.2 k).slot = at0
  intro put
  rcases at0 with _ | o
  · simp only at put
    have hrow := hi2.row vcells_len k hlk
    simp (disch := (first | omega | (simp only [sz]; done) | (simp only [lz, Nat.reduceAdd, Nat.reduceLeDiff, Nat.le_refl]; done) | (simp only [sz]; omega))) only [↓xa, xb, xl, Option.bind_some, Option.map_some, implies_true, imp_self, true_and, and_true, if_true, if_false, decide_true, decide_false, Int.cast_ofNat_Int, Int.reduceLT, Int.reduceLE, Int.reduceEq, Nat.reduceAdd, Nat.reduceMul, Nat.reduceLeDiff, setL, bfill, eqV, lookRes, Option.getD_none, Option.isSome_none, voteV, vote0, cmd0, ↓hS2.idx, hS2.cell0 lvc_len, hlv, ↓hi2.idx, List.getElem?_cons_zero]
    simp (disch := (first | omega | (simp only [sz]; done) | (simp only [lz, Nat.reduceAdd, Nat.reduceLeDiff, Nat.le_refl]; done) | (simp only [sz]; omega))) only [↓xa, xb, xl, Option.bind_some, Option.map_some, implies_true, imp_self, true_and, and_true, if_true, if_false, decide_true, decide_false, Int.cast_ofNat_Int, Int.reduceLT, Int.reduceLE, Int.reduceEq, Nat.reduceAdd, Nat.reduceMul, Nat.reduceLeDiff, setL, bfill, eqV, lookRes, hrow]
    have x3 : Ext h2 (Array.setIfInBounds (h2.push (.cells #[.int .i64 0, .int .u64 0, .int .i64 0, .int .i64 0, .int .u64 0, .int .i64 0])) h2.size (.cells #[.int .i64 0, .int .u64 0, .int .i64 0, .int .i64 0, .int .u64 0, .int .i64 0])) := (by repeat' (first | with_reducible exact Upd.refl _ | with_reducible refine Upd.push ?_ _ | with_reducible refine Upd.set ?_ _ _ ?_ | exact .inl (by (first | omega | (simp only [sz]; done) | (simp only [lz, Nat.reduceAdd, Nat.reduceLeDiff, Nat.le_refl]; done) | (simp only [sz]; omega))) | exact .inr rfl | exact .inr (by simp; done)))
    refine sp_Put (x3.hB hB2) (ho2.ext x3).sl (by omega) (nth lv.2 k) ?_
    intro v' h4 x4 o4
    exact put _ _ _ (x3.trans x4) (o4.low (by have := x02.1; have := x3.1; omega))
  · simp only at put
    have hc1 := hi2.cell vcells_len k 1 hlk (by decide)
    have hrow := hi2.row vcells_len k hlk
    by_cases hbb : o.ballot < (nth lv.2 k).ballot
    · simp only [if_pos hbb] at put
      simp (disch := (first | omega | (simp only [sz]; done) | (simp only [lz, Nat.reduceAdd, Nat.reduceLeDiff, Nat.le_refl]; done) | (simp only [sz]; omega))) only [↓xa, xb, xl, Option.bind_some, Option.map_some, implies_true, imp_self, true_and, and_true, if_true, if_false, decide_true, decide_false, Int.cast_ofNat_Int, Int.reduceLT, Int.reduceLE, Int.reduceEq, Nat.reduceAdd, Nat.reduceMul, Nat.reduceLeDiff, setL, bfill, eqV, lookRes, Option.getD_some, Option.isSome_some, voteV, ↓hS2.idx, hS2.cell0 lvc_len, hlv, ↓hi2.idx, hc1, vcells, decide_eq_true hbb]
      simp (disch := (first | omega | (simp only [sz]; done) | (simp only [lz, Nat.reduceAdd, Nat.reduceLeDiff, Nat.le_refl]; done) | (simp only [sz]; omega))) only [↓xa, xb, xl, Option.bind_some, Option.map_some, implies_true, imp_self, true_and, and_true, if_true, if_false, decide_true, decide_false, Int.cast_ofNat_Int, Int.reduceLT, Int.reduceLE, Int.reduceEq, Nat.reduceAdd, Nat.reduceMul, Nat.reduceLeDiff, setL, bfill, eqV, lookRes, hrow]
      have x3 : Ext h2 (Array.setIfInBounds (h2.push (.cells #[.int .i64 0, .int .u64 0, .int .i64 0, .int .i64 0, .int .u64 0, .int .i64 0])) h2.size (.cells #[.int .i64 o.slot, .int .u64 o.ballot, .int .i64 o.cmd.kind, .int .i64 o.cmd.chain, .int .u64 o.cmd.epoch, .int .i64 o.cmd.node])) := (by repeat' (first | with_reducible exact Upd.refl _ | with_reducible refine Upd.push ?_ _ | with_reducible refine Upd.set ?_ _ _ ?_ | exact .inl (by (first | omega | (simp only [sz]; done) | (simp only [lz, Nat.reduceAdd, Nat.reduceLeDiff, Nat.le_refl]; done) | (simp only [sz]; omega))) | exact .inr rfl | exact .inr (by simp; done)))
      refine sp_Put (x3.hB hB2) (ho2.ext x3).sl (by omega) (nth lv.2 k) ?_
      intro v' h4 x4 o4
      exact put _ _ _ (x3.trans x4) (o4.low (by have := x02.1; have := x3.1; omega))
    · simp only [if_neg hbb] at put
      simp (disch := (first | omega | (simp only [sz]; done) | (simp only [lz, Nat.reduceAdd, Nat.reduceLeDiff, Nat.le_refl]; done) | (simp only [sz]; omega))) only [↓xa, xb, xl, Option.bind_some, Option.map_some, implies_true, imp_self, true_and, and_true, if_true, if_false, decide_true, decide_false, Int.cast_ofNat_Int, Int.reduceLT, Int.reduceLE, Int.reduceEq, Nat.reduceAdd, Nat.reduceMul, Nat.reduceLeDiff, setL, bfill, eqV, lookRes, Option.getD_some, Option.isSome_some, voteV, ↓hS2.idx, hS2.cell0 lvc_len, hlv, ↓hi2.idx, hc1, vcells, decide_eq_false hbb]
      have x3 : Ext h2 (Array.setIfInBounds (h2.push (.cells #[.int .i64 0, .int .u64 0, .int .i64 0, .int .i64 0, .int .u64 0, .int .i64 0])) h2.size (.cells #[.int .i64 o.slot, .int .u64 o.ballot, .int .i64 o.cmd.kind, .int .i64 o.cmd.chain, .int .u64 o.cmd.epoch, .int .i64 o.cmd.node])) := (by repeat' (first | with_reducible exact Upd.refl _ | with_reducible refine Upd.push ?_ _ | with_reducible refine Upd.set ?_ _ _ ?_ | exact .inl (by (first | omega | (simp only [sz]; done) | (simp only [lz, Nat.reduceAdd, Nat.reduceLeDiff, Nat.le_refl]; done) | (simp only [sz]; omega))) | exact .inr rfl | exact .inr (by simp; done)))
      exact put _ _ _ x3 (ho2.ext x3)
end Go.Proofs.Ytdolepapmpcpiaa

namespace Go.Proofs.Ytdolepapmpcpiaa
open Go
set_option linter.unusedSectionVars false
variable [Base]
set_option linter.unusedVariables false
/-- Rising by slots. -/
def Rising (l : List Vote) : Prop := l.Pairwise (fun a b => a.slot < b.slot)
theorem atL_cons (a : Vote) (l : List Vote) (s : Int) : atL (a :: l) s = if a.slot = s then some a else atL l s := by
  unfold atL; rw [List.find?_cons]; split <;> simp_all
theorem atL_mem {l : List Vote} {s : Int} {v : Vote} (h : atL l s = some v) : v ∈ l ∧ v.slot = s := by
  unfold atL at h
  exact ⟨List.mem_of_find?_eq_some h, by simpa using List.find?_some h⟩
theorem atL_of_mem {l : List Vote} (hr : Rising l) {v : Vote} (h : v ∈ l) : atL l v.slot = some v := by
  induction l with
  | nil => cases h
  | cons a l ih =>
    unfold Rising at hr
    rw [List.pairwise_cons] at hr
    rw [atL_cons]
    cases h with
    | head => simp
    | tail _ h => rw [if_neg (by have := hr.1 v h; omega)]; exact ih hr.2 h
/-- Two rising lists of the same votes are one. -/
theorem rising_ext : ∀ {a b : List Vote}, Rising a → Rising b → (∀ s, atL a s = atL b s) → a = b
  | [], [], _, _, _ => rfl
  | [], y :: b, _, _, h => by have := h y.slot; rw [atL_cons, if_pos rfl] at this; cases this
  | x :: a, [], _, _, h => by have := h x.slot; rw [atL_cons, if_pos rfl] at this; cases this
  | x :: a, y :: b, ha, hb, h => by
    unfold Rising at ha hb
    rw [List.pairwise_cons] at ha hb
    have hx := h x.slot
    have hy := h y.slot
    rw [atL_cons, atL_cons, if_pos rfl] at hx hy
    have e : x.slot = y.slot := by
      split at hx
      · rename_i e; exact e.symm
      · split at hy
        · rename_i e; exact e
        · have h1 := hb.1 _ (atL_mem hx.symm).1
          have h2 := ha.1 _ (atL_mem hy).1
          omega
    rw [if_pos e.symm] at hx
    cases hx
    congr 1
    refine rising_ext ha.2 hb.2 fun s => ?_
    have hs := h s
    rw [atL_cons, atL_cons] at hs
    by_cases e : x.slot = s
    · have h1 : atL a s = none := by
        cases h3 : atL a s with
        | none => rfl
        | some v => have := ha.1 v (atL_mem h3).1; have := (atL_mem h3).2; omega
      have h2 : atL b s = none := by
        cases h3 : atL b s with
        | none => rfl
        | some v => have := hb.1 v (atL_mem h3).1; have := (atL_mem h3).2; omega
      rw [h1, h2]
    · rw [if_neg e, if_neg e] at hs; exact hs
theorem putL_mem (v : Vote) : ∀ {l : List Vote} {x : Vote}, x ∈ putL v l → x = v ∨ x ∈ l
  | [], x, h => by simp [putL] at h; exact .inl h
  | a :: l, x, h => by
    unfold putL at h
    split at h
    · cases h with
      | head => exact .inr (List.mem_cons_self ..)
      | tail _ h => rcases putL_mem v h with h | h; exact .inl h; exact .inr (List.mem_cons_of_mem _ h)
    · split at h
      · cases h with
        | head => exact .inl rfl
        | tail _ h => exact .inr (List.mem_cons_of_mem _ h)
      · cases h with
        | head => exact .inl rfl
        | tail _ h => exact .inr h
theorem putL_rising (v : Vote) : ∀ {l : List Vote}, Rising l → Rising (putL v l)
  | [], _ => by simp [putL, Rising]
  | a :: l, h => by
    unfold Rising at h ⊢
    rw [List.pairwise_cons] at h
    unfold putL
    split
    · rw [List.pairwise_cons]
      refine ⟨fun x hx => ?_, putL_rising v h.2⟩
      rcases putL_mem v hx with rfl | hx
      · assumption
      · exact h.1 x hx
    · split
      · rename_i e
        rw [List.pairwise_cons]
        exact ⟨fun x hx => by rw [← e]; exact h.1 x hx, h.2⟩
      · rw [List.pairwise_cons, List.pairwise_cons]
        refine ⟨fun x hx => ?_, h⟩
        cases hx with
        | head => omega
        | tail _ hx => have := h.1 x hx; omega
theorem atL_putL (v : Vote) : ∀ {l : List Vote} (hr : Rising l) (s : Int), atL (putL v l) s = if v.slot = s then some v else atL l s
  | [], _, s => by simp [putL, atL_cons]
  | a :: l, h, s => by
    unfold Rising at h
    rw [List.pairwise_cons] at h
    unfold putL
    split
    · rw [atL_cons, atL_putL v h.2 s, atL_cons]
      split
      · rw [if_neg (by omega)]
      · rfl
    · split
      · rw [atL_cons, atL_cons]
        split
        · rfl
        · rw [if_neg (by omega)]
      · rw [atL_cons]
theorem fromL_rising {l : List Vote} (h : Rising l) (f : Int) : Rising (fromL l f) := List.Pairwise.filter _ h
theorem atL_fromL {l : List Vote} (f s : Int) : atL (fromL l f) s = if f ≤ s then atL l s else none := by
  induction l with
  | nil => simp [fromL, atL]
  | cons a l ih =>
    unfold fromL at ih ⊢
    rw [List.filter_cons]
    by_cases h : f ≤ a.slot
    · rw [if_pos (by simpa using h), atL_cons, ih, atL_cons]
      split
      · rw [if_pos (by omega)]
      · rfl
    · rw [if_neg (by simpa using h), ih, atL_cons]
      by_cases e : a.slot = s
      · rw [if_neg (by omega), if_neg (by omega)]
      · rw [if_neg e]
/-- Each vote of a map is of its key. -/
def slotsOk (m : List (Int × Vote)) : Prop := ∀ s v, mget m s = some v → v.slot = s
theorem slotsOk_nil : slotsOk [] := fun s v h => by cases h
theorem slotsOk_mset {m : List (Int × Vote)} (h : slotsOk m) (v : Vote) : slotsOk (mset m v.slot v) := by
  intro s w hw
  rw [mget_mset] at hw
  split at hw
  · rename_i e; cases hw; exact e.symm
  · exact h s w hw
theorem mem_keys {m : List (Int × Vote)} (hk : keysOk m) {s : Int} : s ∈ m.map (·.1) ↔ ∃ v, mget m s = some v := by
  constructor
  · intro h
    obtain ⟨p, hp, rfl⟩ := List.mem_map.1 h
    exact ⟨p.2, mget_of_mem hk hp⟩
  · rintro ⟨v, hv⟩
    exact List.mem_map.2 ⟨_, mget_mem hv, rfl⟩
theorem sortI_sorted (l : List Int) : (sortI l).Pairwise (fun a b => a ≤ b) := by
  have := List.pairwise_mergeSort (le := fun x y => decide (x ≤ y)) (by intro a b c h1 h2; simp at *; omega) (by intro a b; simp; omega) l
  exact this.imp (by intro a b h; simpa using h)
theorem sortI_lt {l : List Int} (h : l.Nodup) : (sortI l).Pairwise (fun a b => a < b) := by
  have h1 := sortI_sorted l
  have h2 : (sortI l).Nodup := (List.mergeSort_perm l _).nodup_iff.2 h
  unfold List.Nodup at h2
  exact (h1.and h2).imp (by intro a b h; have := h.1; have := h.2; omega)
theorem sortI_mem {l : List Int} {x : Int} : x ∈ sortI l ↔ x ∈ l := List.mem_mergeSort
theorem pick_rising {m : List (Int × Vote)} (hs : slotsOk m) (f : Int) : ∀ {ks : List Int}, ks.Pairwise (fun a b => a < b) → Rising (pick m f ks)
  | [], _ => List.Pairwise.nil
  | k :: ks, h => by
    rw [List.pairwise_cons] at h
    have ih := pick_rising hs f h.2
    unfold pick at ih ⊢
    rw [List.filterMap_cons]
    split
    · exact ih
    · rename_i v hv
      unfold Rising
      rw [List.pairwise_cons]
      refine ⟨fun x hx => ?_, ih⟩
      obtain ⟨k', hk', hx'⟩ := List.mem_filterMap.1 hx
      have h1 : v.slot = k := by split at hv; exact hs _ _ hv; cases hv
      have h2 : x.slot = k' := by split at hx'; exact hs _ _ hx'; cases hx'
      have := h.1 k' hk'
      omega
theorem atL_pick {m : List (Int × Vote)} (hs : slotsOk m) (f s : Int) : ∀ (ks : List Int), atL (pick m f ks) s = if s ∈ ks ∧ f ≤ s then mget m s else none
  | [] => by simp [pick, atL]
  | k :: ks => by
    have ih := atL_pick hs f s ks
    unfold pick at ih ⊢
    rw [List.filterMap_cons]
    split
    · rename_i hn
      rw [ih]
      by_cases e : s = k
      · subst e
        by_cases hf : f ≤ s
        · rw [if_pos hf] at hn
          simp [hn]
        · simp [hf]
      · simp [e]
    · rename_i v hv
      rw [atL_cons, ih]
      have h1 : v.slot = k := by split at hv; exact hs _ _ hv; cases hv
      by_cases e : k = s
      · subst e
        by_cases hf : f ≤ k
        · rw [if_pos hf] at hv
          simp [h1, hf, hv]
        · rw [if_neg hf] at hv; cases hv
      · rw [if_neg (by omega)]
        have : ¬ s = k := fun h => e h.symm
        simp [this]
theorem risingL_rising {m : List (Int × Vote)} (hk : keysOk m) (hs : slotsOk m) (f : Int) : Rising (risingL m f) := pick_rising hs f (sortI_lt hk)
theorem atL_risingL {m : List (Int × Vote)} (hk : keysOk m) (hs : slotsOk m) (f s : Int) : atL (risingL m f) s = if f ≤ s then mget m s else none := by
  unfold risingL
  rw [atL_pick hs]
  have e : s ∈ sortI (m.map (·.1)) ↔ ∃ v, mget m s = some v := sortI_mem.trans (mem_keys hk)
  by_cases h : f ≤ s
  · rw [if_pos h]
    cases hg : mget m s with
    | none => split <;> rfl
    | some v => rw [if_pos ⟨e.2 ⟨v, hg⟩, h⟩]
  · rw [if_neg h, if_neg (fun x => h x.2)]
theorem filterMap_len {α β : Type} {f : α → Option β} : ∀ {l : List α}, (∀ x ∈ l, (f x).isSome) → (l.filterMap f).length = l.length
  | [], _ => rfl
  | x :: l, h => by
    have h1 := h x (List.mem_cons_self ..)
    rw [List.filterMap_cons]
    cases hx : f x with
    | none => rw [hx] at h1; cases h1
    | some y => simp only [List.length_cons, filterMap_len (fun z hz => h z (List.mem_cons_of_mem _ hz))]
theorem risingL_len {m : List (Int × Vote)} (hk : keysOk m) {f : Int} (hf : ∀ k ∈ m.map (·.1), f ≤ k) : (risingL m f).length = m.length := by
  unfold risingL pick
  rw [filterMap_len]
  · simp
  · intro x hx
    rw [sortI_mem] at hx
    rw [if_pos (hf x hx)]
    obtain ⟨v, hv⟩ := (mem_keys hk).1 hx
    simp [hv]
theorem risingL_le (m : List (Int × Vote)) (f : Int) : (risingL m f).length ≤ m.length := by
  unfold risingL pick
  have := List.length_filterMap_le (fun k => if f ≤ k then mget m k else none) (sortI (m.map (·.1)))
  simpa using this
/-- The document's list and the program's map hold the same votes. -/
structure Both (l : List Vote) (m : List (Int × Vote)) : Prop where
  rise : Rising l
  keys : keysOk m
  slots : slotsOk m
  same : ∀ s, atL l s = mget m s
theorem Both.nil : Both [] [] := ⟨List.Pairwise.nil, List.nodup_nil, slotsOk_nil, fun _ => rfl⟩
theorem Both.put {l : List Vote} {m : List (Int × Vote)} (b : Both l m) (v : Vote) : Both (putL v l) (mset m v.slot v) :=
  ⟨putL_rising v b.rise, keysOk_mset b.keys _ _, slotsOk_mset b.slots v, fun s => by
    rw [atL_putL v b.rise, mget_mset, b.same]
    by_cases e : v.slot = s
    · rw [if_pos e, if_pos e.symm]
    · rw [if_neg e, if_neg (fun h => e h.symm)]⟩
theorem Both.from {l : List Vote} {m : List (Int × Vote)} (b : Both l m) (f : Int) : risingL m f = fromL l f :=
  rising_ext (risingL_rising b.keys b.slots f) (fromL_rising b.rise f) fun s => by rw [atL_risingL b.keys b.slots, atL_fromL, b.same]
theorem Both.all {l : List Vote} {m : List (Int × Vote)} (b : Both l m) {f : Int} (hf : ∀ k ∈ m.map (·.1), f ≤ k) : risingL m f = l :=
  rising_ext (risingL_rising b.keys b.slots f) b.rise fun s => by
    rw [atL_risingL b.keys b.slots, b.same]
    split
    · rfl
    · cases hg : mget m s with
      | none => rfl
      | some v => exact absurd (hf s ((mem_keys b.keys).2 ⟨v, hg⟩)) (by assumption)
theorem Both.len {l : List Vote} {m : List (Int × Vote)} (b : Both l m) {f : Int} (hf : ∀ k ∈ m.map (·.1), f ≤ k) : m.length = l.length := by
  rw [← b.all hf, risingL_len b.keys hf]
end Go.Proofs.Ytdolepapmpcpiaa

namespace Go.Proofs.Ytdolepapmpcpiaa
open Go Go.RowKit Go.Maps Go.Shelf
set_option linter.unusedSectionVars false
variable [Base]
set_option linter.unusedVariables false
set_option linter.unusedSimpArgs false
set_option maxRecDepth 10000
theorem icell_len (a : Int) : (icell a).length = 1 := rfl
instance : Inhabited Int := ⟨0⟩
theorem Row.own {h : Hp} {base n : Nat} {v : Value} {xs : List Int} (r : Row h base 1 v n (xs.map encZ)) (hn : xs.length = n) : Own h base 1 icell v xs := by
  obtain ⟨h1, h2⟩ := r
  rcases h2 with ⟨rfl, hz⟩ | ⟨g, cap, c, rfl, hb, hg, hc, _, hs, ht⟩
  · exact .inl ⟨rfl, List.eq_nil_of_length_eq_zero (by omega)⟩
  · refine .inr ⟨g, cap, c, by rw [hn], hb, hg, by omega, hs, ?_⟩
    rw [hn, ht]
    clear ht h1 hn
    induction xs with
    | nil => rfl
    | cons a q ih => simp [ih]
def minI (x y : Int) : Int := if y < x then y else x
theorem foldmin (l : List Int) : ∀ x, (l.foldl minI x ∈ x :: l) ∧ ∀ y ∈ x :: l, l.foldl minI x ≤ y := by
  induction l with
  | nil => intro x; simp
  | cons a l ih =>
    intro x
    obtain ⟨h1, h2⟩ := ih (minI x a)
    rw [List.foldl_cons]
    refine ⟨?_, ?_⟩
    · simp only [List.mem_cons] at h1 ⊢
      rcases h1 with h1 | h1
      · rw [h1]; unfold minI; split <;> simp
      · exact .inr (.inr h1)
    · intro y hy
      have h3 := h2 (minI x a) (List.mem_cons_self ..)
      simp only [List.mem_cons] at hy
      rcases hy with rfl | rfl | hy
      · unfold minI at h3 ⊢; split at h3 <;> split <;> omega
      · unfold minI at h3 ⊢; split at h3 <;> split <;> omega
      · exact h2 y (List.mem_cons_of_mem _ hy)
theorem sp_Min {h : Hp} {a : Value} {l : List Int} (hS : Sl h 1 icell a l) (hl : l.length ≤ 1048576) (h0 : l ≠ []) {K : Kont} (hK : ∀ x, x ∈ l → (∀ y ∈ l, x ≤ y) → K (.int .i64 x) h) : C_q42 [a] h K := by
  refine ok_q42 ?_
  unfold G_q42
  have hp : 0 < l.length := List.length_pos_iff.2 h0
  have hn : ¬ (l.length : Int) < 1 := by omega
  simp (disch := (first | omega | (simp only [sz]; done) | (simp only [lz, Nat.reduceAdd, Nat.reduceLeDiff, Nat.le_refl]; done) | (simp only [sz]; omega))) only [↓xa, xb, xl, Option.bind_some, Option.map_some, implies_true, imp_self, true_and, and_true, if_true, if_false, decide_true, decide_false, Int.cast_ofNat_Int, Int.reduceLT, Int.reduceLE, Int.reduceEq, Nat.reduceAdd, Nat.reduceMul, Nat.reduceLeDiff, setL, bfill, eqV, lookRes, ↓hS.len', decide_eq_false hn]
  rw [req_q42_1]
  unfold R_q42_1
  have hi := hS.idx .i64 0 h
  have hc := hS.cell0 icell_len 0 hp (by decide)
  rw [Nat.zero_mul, Nat.add_zero] at hc
  simp (disch := (first | omega | (simp only [sz]; done) | (simp only [lz, Nat.reduceAdd, Nat.reduceLeDiff, Nat.le_refl]; done) | (simp only [sz]; omega))) only [↓xa, xb, xl, Option.bind_some, Option.map_some, implies_true, imp_self, true_and, and_true, if_true, if_false, decide_true, decide_false, Int.cast_ofNat_Int, Int.reduceLT, Int.reduceLE, Int.reduceEq, Nat.reduceAdd, Nat.reduceMul, Nat.reduceLeDiff, setL, bfill, eqV, lookRes, ↓hS.idx, Int.toNat_zero, hc, List.getElem?_cons_zero]
  refine rule_q42_2 (fun v3 v4 h' => ∃ i : Nat, v4 = .int .i64 i ∧ 1 ≤ i ∧ i ≤ l.length ∧ h' = h ∧ v3 = .int .i64 (((l.take i).drop 1).foldl minI (nth l 0))) (fun v3 v4 h' => l.length - ival v4) ?_ _ _ _ _ ⟨1, rfl, Nat.le_refl _, hp, rfl, by cases l with | nil => exact absurd rfl h0 | cons a l => rfl⟩
  rintro self v3 v4 d h' ⟨i, rfl, h1, hi, rfl, rfl⟩ hself
  unfold B_q42_2
  simp (disch := (first | omega | (simp only [sz]; done) | (simp only [lz, Nat.reduceAdd, Nat.reduceLeDiff, Nat.le_refl]; done) | (simp only [sz]; omega))) only [↓xa, xb, xl, Option.bind_some, Option.map_some, implies_true, imp_self, true_and, and_true, if_true, if_false, decide_true, decide_false, Int.cast_ofNat_Int, Int.reduceLT, Int.reduceLE, Int.reduceEq, Nat.reduceAdd, Nat.reduceMul, Nat.reduceLeDiff, setL, bfill, eqV, lookRes, ↓hS.len']
  by_cases hlt : i < l.length
  · simp (disch := (first | omega | (simp only [sz]; done) | (simp only [lz, Nat.reduceAdd, Nat.reduceLeDiff, Nat.le_refl]; done) | (simp only [sz]; omega))) only [↓xa, xb, xl, Option.bind_some, Option.map_some, implies_true, imp_self, true_and, and_true, if_true, if_false, decide_true, decide_false, Int.cast_ofNat_Int, Int.reduceLT, Int.reduceLE, Int.reduceEq, Nat.reduceAdd, Nat.reduceMul, Nat.reduceLeDiff, setL, bfill, eqV, lookRes, decide_eq_true (Int.ofNat_lt.2 hlt), ↓hS.idx, hS.cell0 icell_len, Go.encZ]
    refine hself _ _ _ _ ⟨i + 1, rfl, by omega, hlt, rfl, ?_⟩ (by simp only [ival_nat, show ((i : Int) + 1) = ((i + 1 : Nat) : Int) from rfl]; omega)
    rw [take_nth hlt, List.drop_append_of_le_length (by simp; omega), List.foldl_append]
    rfl
  · simp (disch := (first | omega | (simp only [sz]; done) | (simp only [lz, Nat.reduceAdd, Nat.reduceLeDiff, Nat.le_refl]; done) | (simp only [sz]; omega))) only [↓xa, xb, xl, Option.bind_some, Option.map_some, implies_true, imp_self, true_and, and_true, if_true, if_false, decide_true, decide_false, Int.cast_ofNat_Int, Int.reduceLT, Int.reduceLE, Int.reduceEq, Nat.reduceAdd, Nat.reduceMul, Nat.reduceLeDiff, setL, bfill, eqV, lookRes, decide_eq_false (show ¬ (i : Int) < (l.length : Int) by omega)]
    rw [List.take_of_length_le (by omega)]
    have e : l = nth l 0 :: l.drop 1 := by
      have := drop_nth hp
      simpa using this
    obtain ⟨m1, m2⟩ := foldmin (l.drop 1) (nth l 0)
    rw [← e] at m1 m2
    exact hK _ m1 m2
def bestM (m : List (Int × Vote)) (v : Vote) : List (Int × Vote) :=
  match mget m v.slot with
  | none => mset m v.slot v
  | some o => if o.ballot < v.ballot then mset m v.slot v else m
def mBestL (l : List Vote) : List (Int × Vote) := l.foldl bestM []
theorem mBestL_snoc (l : List Vote) (v : Vote) : mBestL (l ++ [v]) = bestM (mBestL l) v := by simp [mBestL]
theorem both_best (l : List Vote) : Both (rBestL l) (mBestL l) := by
  have gen : ∀ (l : List Vote) (a : List Vote) (m : List (Int × Vote)), Both a m → Both (l.foldl bestR a) (l.foldl bestM m) := by
    intro l
    induction l with
    | nil => intro a m b; exact b
    | cons v l ih =>
      intro a m b
      refine ih _ _ ?_
      unfold bestR bestM
      rw [b.same]
      cases mget m v.slot with
      | none => exact b.put v
      | some o =>
        simp only
        split
        · exact b.put v
        · exact b
  exact gen l [] [] Both.nil
theorem bestM_len (m : List (Int × Vote)) (v : Vote) : (bestM m v).length ≤ m.length + 1 := by
  unfold bestM
  split
  · exact mset_length _ _ _
  · split
    · exact mset_length _ _ _
    · omega
theorem mBestL_len (l : List Vote) : (mBestL l).length ≤ l.length := by
  have gen : ∀ (l : List Vote) (m : List (Int × Vote)), (l.foldl bestM m).length ≤ m.length + l.length := by
    intro l
    induction l with
    | nil => intro m; simp
    | cons v l ih => intro m; have := ih (bestM m v); have := bestM_len m v; simp only [List.foldl_cons, List.length_cons]; omega
  have := gen l []
  simpa [mBestL] using this
theorem mset_keys {α : Type} {m : List (Int × α)} {i : Int} {x : α} {k : Int} (h : k ∈ (mset m i x).map (·.1)) : k = i ∨ k ∈ m.map (·.1) := by
  unfold mset at h
  split at h
  · rename_i n y hf
    rw [List.map_set] at h
    rcases List.mem_or_eq_of_mem_set h with h | h
    · exact .inr h
    · exact .inl h
  · simp only [List.map_append, List.mem_append, List.map_cons, List.map_nil, List.mem_singleton] at h
    rcases h with h | h
    · exact .inr h
    · exact .inl h
theorem mBestL_keys {l : List Vote} (h : ∀ v ∈ l, i64ok v.slot) : ∀ k ∈ (mBestL l).map (·.1), i64ok k := by
  have gen : ∀ (l : List Vote) (m : List (Int × Vote)), (∀ v ∈ l, i64ok v.slot) → (∀ k ∈ m.map (·.1), i64ok k) → ∀ k ∈ (l.foldl bestM m).map (·.1), i64ok k := by
    intro l
    induction l with
    | nil => intro m _ hm; exact hm
    | cons v l ih =>
      intro m hl hm
      refine ih _ (fun w hw => hl w (List.mem_cons_of_mem _ hw)) ?_
      intro k hk
      have hv := hl v (List.mem_cons_self ..)
      have key : k ∈ (mset m v.slot v).map (·.1) → i64ok k := by
        intro hk
        rcases mset_keys hk with rfl | hk
        · exact hv
        · exact hm k hk
      unfold bestM at hk
      split at hk
      · exact key hk
      · split at hk
        · exact key hk
        · exact hm k hk
  exact gen l [] h (by simp)
set_option maxHeartbeats 2000000 in
theorem sp_Best {h : Hp} (hB : Base.b ≤ h.size) {a : Value} {ls : List LV} (hS : Sll h a ls) (hl : (votesOf ls).length ≤ 1048576) (hll : ls.length ≤ 1048576) (hok : ∀ v ∈ votesOf ls, i64ok v.slot) {K : Kont}
    (hK : ∀ v' h', Ext h h' → Own h' h.size 6 vcells v' (rBestL (votesOf ls)) → K v' h') : C_q131 [a] h K := by
  refine ok_q131 ?_
  unfold G_q131
  simp (disch := (first | omega | (simp only [sz]; done) | (simp only [lz, Nat.reduceAdd, Nat.reduceLeDiff, Nat.le_refl]; done) | (simp only [sz]; omega))) only [↓xa, xb, xl, Option.bind_some, Option.map_some, implies_true, imp_self, true_and, and_true, if_true, if_false, decide_true, decide_false, Int.cast_ofNat_Int, Int.reduceLT, Int.reduceLE, Int.reduceEq, Nat.reduceAdd, Nat.reduceMul, Nat.reduceLeDiff, setL, bfill, eqV, lookRes, ↓hS.1.len']
  have x0 : Ext h (h.push (.map [])) := (by repeat' (first | with_reducible exact Upd.refl _ | with_reducible refine Upd.push ?_ _ | with_reducible refine Upd.set ?_ _ _ ?_ | exact .inl (by (first | omega | (simp only [sz]; done) | (simp only [lz, Nat.reduceAdd, Nat.reduceLeDiff, Nat.le_refl]; done) | (simp only [sz]; omega))) | exact .inr rfl | exact .inr (by simp; done)))
  refine rule_q131_1 (fun v13 h' => ∃ i : Nat, v13 = .int .i64 i ∧ i ≤ ls.length ∧ Ext h h' ∧ h'[h.size]? = some (.map (encM voteV (mBestL (votesOf (ls.take i)))))) (fun v13 h' => ls.length - ival v13) ?_ _ _ _ ⟨0, rfl, Nat.zero_le _, x0, g_push_eq rfl⟩
  clear x0
  rintro self v13 d h' ⟨i, rfl, hi, x, hm⟩ hself
  unfold B_q131_1
  have lm := lt_of_get hm
  by_cases hlt : i < ls.length
  rotate_left
  · rw [List.take_of_length_le (by omega)] at hm
    simp (disch := (first | omega | (simp only [sz]; done) | (simp only [lz, Nat.reduceAdd, Nat.reduceLeDiff, Nat.le_refl]; done) | (simp only [sz]; omega))) only [↓xa, xb, xl, Option.bind_some, Option.map_some, implies_true, imp_self, true_and, and_true, if_true, if_false, decide_true, decide_false, Int.cast_ofNat_Int, Int.reduceLT, Int.reduceLE, Int.reduceEq, Nat.reduceAdd, Nat.reduceMul, Nat.reduceLeDiff, setL, bfill, eqV, lookRes, decide_eq_false (show ¬ (i : Int) < (ls.length : Int) by omega), m_blk hm, encM_length]
    have hbo := both_best (votesOf ls)
    by_cases h0 : (mBestL (votesOf ls)).length = 0
    · simp (disch := (first | omega | (simp only [sz]; done) | (simp only [lz, Nat.reduceAdd, Nat.reduceLeDiff, Nat.le_refl]; done) | (simp only [sz]; omega))) only [↓xa, xb, xl, Option.bind_some, Option.map_some, implies_true, imp_self, true_and, and_true, if_true, if_false, decide_true, decide_false, Int.cast_ofNat_Int, Int.reduceLT, Int.reduceLE, Int.reduceEq, Nat.reduceAdd, Nat.reduceMul, Nat.reduceLeDiff, setL, bfill, eqV, lookRes, h0]
      have e : rBestL (votesOf ls) = [] := by
        have : mBestL (votesOf ls) = [] := List.eq_nil_of_length_eq_zero h0
        rw [← hbo.all (f := 0) (by rw [this]; simp), this]
        exact List.eq_nil_of_length_eq_zero (by have := risingL_le [] 0; simpa using this)
      refine hK _ _ x ?_
      rw [e]
      exact Own.nil
    · simp (disch := (first | omega | (simp only [sz]; done) | (simp only [lz, Nat.reduceAdd, Nat.reduceLeDiff, Nat.le_refl]; done) | (simp only [sz]; omega))) only [↓xa, xb, xl, Option.bind_some, Option.map_some, implies_true, imp_self, true_and, and_true, if_true, if_false, decide_true, decide_false, Int.cast_ofNat_Int, Int.reduceLT, Int.reduceLE, Int.reduceEq, Nat.reduceAdd, Nat.reduceMul, Nat.reduceLeDiff, setL, bfill, eqV, lookRes, decide_eq_false (show ¬ ((mBestL (votesOf ls)).length : Int) = 0 by omega)]
      refine sp_keysA (x.hB hB) ?_
      have hk := mBestL_keys hok
      have hln := mBestL_len (votesOf ls)
      have hx := x.1
      refine collect_of (ks := (mBestL (votesOf ls)).map (·.1)) (by simp; omega) en76 (by simp; omega) (seqA (g_push_eq rfl) (by rw [g_push_lt lm]; exact hm) (encM_keys _ _) hk (by simp; omega)) ?_
      intro v2 h2 ss hp x2 hrow _
      have x02 : Ext h' h2 := Ext.trans (by repeat' (first | with_reducible exact Upd.refl _ | with_reducible refine Upd.push ?_ _ | with_reducible refine Upd.set ?_ _ _ ?_ | exact .inl (by (first | omega | (simp only [sz]; done) | (simp only [lz, Nat.reduceAdd, Nat.reduceLeDiff, Nat.le_refl]; done) | (simp only [sz]; omega))) | exact .inr rfl | exact .inr (by simp; done))) x2
      have hs2 := (hrow.own (by rw [hp.length_eq])).sl
      have hlen : ss.length ≤ 1048576 := by rw [hp.length_eq]; simp; omega
      refine sp_Min hs2 hlen (by rintro rfl; have := hp.length_eq; simp at this; omega) ?_
      intro f hf1 hf2
      have hle : ∀ k ∈ (mBestL (votesOf ls)).map (·.1), f ≤ k := fun k hk => hf2 k (hp.mem_iff.2 hk)
      refine sp_rising ((x.trans x02).hB hB) (x02.get hm id) hbo.keys hk (by omega) f ?_
      intro v3 h3 x3 o3
      rw [hbo.all hle] at o3
      exact hK _ _ (x.trans (x02.trans x3)) (o3.low (by have := x02.1; omega))
  have hS1 := hS.1.ext x
  have hin := hS.2 _ (nth_mem hlt)
  have hsn := votesOf_snoc hlt
  have htl := votesOf_take ls (i + 1)
  rw [hsn, List.length_append] at htl
  generalize hlv : nth ls i = lv at hin hsn htl
  have hi1 := hin.ext x
  simp (disch := (first | omega | (simp only [sz]; done) | (simp only [lz, Nat.reduceAdd, Nat.reduceLeDiff, Nat.le_refl]; done) | (simp only [sz]; omega))) only [↓xa, xb, xl, Option.bind_some, Option.map_some, implies_true, imp_self, true_and, and_true, if_true, if_false, decide_true, decide_false, Int.cast_ofNat_Int, Int.reduceLT, Int.reduceLE, Int.reduceEq, Nat.reduceAdd, Nat.reduceMul, Nat.reduceLeDiff, setL, bfill, eqV, lookRes, decide_eq_true (Int.ofNat_lt.2 hlt), ↓hS1.idx, hS1.cell0 lvc_len, hlv, ↓hi1.len']
  clear hi1 hS1
  refine rule_q131_2 (fun v19 h' => ∃ k : Nat, v19 = .int .i64 k ∧ k ≤ lv.2.length ∧ Ext h h' ∧ h'[h.size]? = some (.map (encM voteV (mBestL (votesOf (ls.take i) ++ lv.2.take k))))) (fun v19 h' => lv.2.length - ival v19) ?_ _ _ _ ⟨0, rfl, Nat.zero_le _, x, by simpa using hm⟩
  clear hm x lm
  rintro self2 v19 d h' ⟨k, rfl, hk, x, hm⟩ hself2
  unfold B_q131_2
  have lm := lt_of_get hm
  have hi1 := hin.ext x
  have hx := x.1
  by_cases hlk : k < lv.2.length
  rotate_left
  · simp (disch := (first | omega | (simp only [sz]; done) | (simp only [lz, Nat.reduceAdd, Nat.reduceLeDiff, Nat.le_refl]; done) | (simp only [sz]; omega))) only [↓xa, xb, xl, Option.bind_some, Option.map_some, implies_true, imp_self, true_and, and_true, if_true, if_false, decide_true, decide_false, Int.cast_ofNat_Int, Int.reduceLT, Int.reduceLE, Int.reduceEq, Nat.reduceAdd, Nat.reduceMul, Nat.reduceLeDiff, setL, bfill, eqV, lookRes, decide_eq_false (show ¬ (k : Int) < (lv.2.length : Int) by omega)]
    rw [List.take_of_length_le (l := lv.2) (i := k) (by omega)] at hm
    exact hself _ _ _ ⟨i + 1, rfl, hlt, x, by rw [hsn]; exact hm⟩ (by simp only [ival_nat, show ((i : Int) + 1) = ((i + 1 : Nat) : Int) from rfl]; omega)
  have hrow := hi1.row vcells_len k hlk
  have hr : mBestL (votesOf (ls.take i) ++ lv.2.take (k + 1)) = bestM (mBestL (votesOf (ls.take i) ++ lv.2.take k)) (nth lv.2 k) := by
    rw [take_nth hlk, ← List.append_assoc, mBestL_snoc]
  have next : ∀ d h3, Ext h h3 → h3[h.size]? = some (.map (encM voteV (bestM (mBestL (votesOf (ls.take i) ++ lv.2.take k)) (nth lv.2 k)))) → G_q131_3 K self self2 (.map (some h.size)) a (.int .i64 ls.length) (.int .i64 i) lv.1 (.int .i64 lv.2.length) (.int .i64 k) d h3 := by
    intro d h3 x3 hm3
    rw [req_q131_3]
    unfold R_q131_3
    (try simp (disch := (first | omega | (simp only [sz]; done) | (simp only [lz, Nat.reduceAdd, Nat.reduceLeDiff, Nat.le_refl]; done) | (simp only [sz]; omega))) only [↓xa, xb, xl, Option.bind_some, Option.map_some, implies_true, imp_self, true_and, and_true, if_true, if_false, decide_true, decide_false, Int.cast_ofNat_Int, Int.reduceLT, Int.reduceLE, Int.reduceEq, Nat.reduceAdd, Nat.reduceMul, Nat.reduceLeDiff, setL, bfill, eqV, lookRes])
    exact hself2 _ _ _ ⟨k + 1, rfl, hlk, x3, by rw [hr]; exact hm3⟩ (by simp only [ival_nat, show ((k : Int) + 1) = ((k + 1 : Nat) : Int) from rfl]; omega)
  unfold bestM mget at next
  generalize mBestL (votesOf (ls.take i) ++ lv.2.take k) = m at hm next
  generalize nth lv.2 k = v at hrow next
  obtain ⟨s, b, c1, c2, c3, c4⟩ := v
  simp (disch := (first | omega | (simp only [sz]; done) | (simp only [lz, Nat.reduceAdd, Nat.reduceLeDiff, Nat.le_refl]; done) | (simp only [sz]; omega))) only [↓xa, xb, xl, Option.bind_some, Option.map_some, implies_true, imp_self, true_and, and_true, if_true, if_false, decide_true, decide_false, Int.cast_ofNat_Int, Int.reduceLT, Int.reduceLE, Int.reduceEq, Nat.reduceAdd, Nat.reduceMul, Nat.reduceLeDiff, setL, bfill, eqV, lookRes, decide_eq_true (Int.ofNat_lt.2 hlk), ↓hi1.idx, hrow, vcells, m_blk hm, kvFind_enc]
  generalize hf : mfind m s 0 = f at next
  rcases f with _ | ⟨n, o⟩
  · simp (disch := (first | omega | (simp only [sz]; done) | (simp only [lz, Nat.reduceAdd, Nat.reduceLeDiff, Nat.le_refl]; done) | (simp only [sz]; omega))) only [↓xa, xb, xl, Option.bind_some, Option.map_some, implies_true, imp_self, true_and, and_true, if_true, if_false, decide_true, decide_false, Int.cast_ofNat_Int, Int.reduceLT, Int.reduceLE, Int.reduceEq, Nat.reduceAdd, Nat.reduceMul, Nat.reduceLeDiff, setL, bfill, eqV, lookRes, Option.map_none, m_blk hm, kvFind_enc, hf]
    simp only [Option.map_none] at next
    refine next _ _ (by repeat' (first | with_reducible exact Upd.refl _ | with_reducible exact x | with_reducible refine Upd.push ?_ _ | with_reducible refine Upd.set ?_ _ _ ?_ | exact .inl (by (first | omega | (simp only [sz]; done) | (simp only [lz, Nat.reduceAdd, Nat.reduceLeDiff, Nat.le_refl]; done) | (simp only [sz]; omega))) | exact .inr rfl | exact .inr (by simp; done))) ?_
    rw [g_set_eq (by simp; omega) rfl]
    congr 3
    exact kvPut_enc voteV m s ⟨s, b, c1, c2, c3, c4⟩ ▸ (by rw [hf]; rfl)
  · simp only [Option.map_some] at next
    by_cases hb : o.ballot < b
    · simp (disch := (first | omega | (simp only [sz]; done) | (simp only [lz, Nat.reduceAdd, Nat.reduceLeDiff, Nat.le_refl]; done) | (simp only [sz]; omega))) only [↓xa, xb, xl, Option.bind_some, Option.map_some, implies_true, imp_self, true_and, and_true, if_true, if_false, decide_true, decide_false, Int.cast_ofNat_Int, Int.reduceLT, Int.reduceLE, Int.reduceEq, Nat.reduceAdd, Nat.reduceMul, Nat.reduceLeDiff, setL, bfill, eqV, lookRes, Option.map_some, m_blk hm, kvFind_enc, hf, voteV, decide_eq_true hb]
      rw [if_pos hb] at next
      refine next _ _ (by repeat' (first | with_reducible exact Upd.refl _ | with_reducible exact x | with_reducible refine Upd.push ?_ _ | with_reducible refine Upd.set ?_ _ _ ?_ | exact .inl (by (first | omega | (simp only [sz]; done) | (simp only [lz, Nat.reduceAdd, Nat.reduceLeDiff, Nat.le_refl]; done) | (simp only [sz]; omega))) | exact .inr rfl | exact .inr (by simp; done))) ?_
      rw [g_set_eq (by simp; omega) rfl]
      congr 3
      exact kvPut_enc voteV m s ⟨s, b, c1, c2, c3, c4⟩ ▸ (by rw [hf]; rfl)
    · simp (disch := (first | omega | (simp only [sz]; done) | (simp only [lz, Nat.reduceAdd, Nat.reduceLeDiff, Nat.le_refl]; done) | (simp only [sz]; omega))) only [↓xa, xb, xl, Option.bind_some, Option.map_some, implies_true, imp_self, true_and, and_true, if_true, if_false, decide_true, decide_false, Int.cast_ofNat_Int, Int.reduceLT, Int.reduceLE, Int.reduceEq, Nat.reduceAdd, Nat.reduceMul, Nat.reduceLeDiff, setL, bfill, eqV, lookRes, Option.map_some, m_blk hm, kvFind_enc, hf, voteV, decide_eq_false hb]
      rw [if_neg hb] at next
      refine next _ _ (by repeat' (first | with_reducible exact Upd.refl _ | with_reducible exact x | with_reducible refine Upd.push ?_ _ | with_reducible refine Upd.set ?_ _ _ ?_ | exact .inl (by (first | omega | (simp only [sz]; done) | (simp only [lz, Nat.reduceAdd, Nat.reduceLeDiff, Nat.le_refl]; done) | (simp only [sz]; omega))) | exact .inr rfl | exact .inr (by simp; done))) ?_
      simp (disch := (first | omega | (simp only [sz]; done) | (simp only [lz, Nat.reduceAdd, Nat.reduceLeDiff, Nat.le_refl]; done) | (simp only [sz]; omega))) only [g_push_lt, g_set_ne]
      exact hm
end Go.Proofs.Ytdolepapmpcpiaa

namespace Go.Proofs.Ytdolepapmpcpiaa
open Go
set_option linter.unusedSectionVars false
variable [Base]
set_option linter.unusedVariables false
set_option linter.unusedSimpArgs false
set_option maxRecDepth 10000
theorem n_shr (k k' : IntKind) (a b : Int) (h : 0 ≤ b) : binV .shr (.int k a) (.int k' b) = some (.int k (a.fdiv (2 ^ (min b.toNat k.bits)))) := by
  simp only [binV]; rw [if_neg (by omega)]
theorem n_shl (k k' : IntKind) (a b : Int) (h : 0 ≤ b) : binV .shl (.int k a) (.int k' b) = some (.int k (k.wrap (a * 2 ^ (min b.toNat k.bits)))) := by
  simp only [binV]; rw [if_neg (by omega)]
def andI (k : IntKind) (a b : Int) : Int := k.wrap (BitVec.ofInt k.bits a &&& BitVec.ofInt k.bits b).toNat
def orI (k : IntKind) (a b : Int) : Int := k.wrap (BitVec.ofInt k.bits a ||| BitVec.ofInt k.bits b).toNat
def anI (k : IntKind) (a b : Int) : Int := k.wrap (BitVec.ofInt k.bits a &&& ~~~BitVec.ofInt k.bits b).toNat
def shrI (k : IntKind) (a : Int) (b : Nat) : Int := a.fdiv (2 ^ (min b k.bits))
def shlI (k : IntKind) (a : Int) (b : Nat) : Int := k.wrap (a * 2 ^ (min b k.bits))
theorem n_and (k : IntKind) (a b : Int) : binV .and (.int k a) (.int k b) = some (.int k (andI k a b)) := by simp [binV, intBin, andI]
theorem n_or (k : IntKind) (a b : Int) : binV .or (.int k a) (.int k b) = some (.int k (orI k a b)) := by simp [binV, intBin, orI]
theorem n_an (k : IntKind) (a b : Int) : binV .andNot (.int k a) (.int k b) = some (.int k (anI k a b)) := by simp [binV, intBin, anI]
theorem n_shr' (k k' : IntKind) (a b : Int) (h : 0 ≤ b) : binV .shr (.int k a) (.int k' b) = some (.int k (shrI k a b.toNat)) := n_shr k k' a b h
theorem n_shl' (k k' : IntKind) (a b : Int) (h : 0 ≤ b) : binV .shl (.int k a) (.int k' b) = some (.int k (shlI k a b.toNat)) := n_shl k k' a b h
/-- A set of masters as bits. -/
def bitsOf (q : Int → Bool) : Int := (cond (q 1) 2 0) + (cond (q 2) 4 0) + (cond (q 3) 8 0) + (cond (q 4) 16 0) + (cond (q 5) 32 0)
def addQ (q : Int → Bool) (x : Int) : Int → Bool := fun i => q i || decide (i = x)
def isM (x : Int) : Prop := x = 1 ∨ x = 2 ∨ x = 3 ∨ x = 4 ∨ x = 5
theorem isM_of {x : Int} (h1 : 1 ≤ x) (h2 : x ≤ 5) : isM x := by unfold isM; omega
theorem or_bits (q : Int → Bool) (x : Int) (h : isM x) : orI .u64 (bitsOf q) (shlI .u64 1 x.toNat) = bitsOf (addQ q x) := by
  unfold bitsOf addQ
  generalize q 1 = a, q 2 = b, q 3 = c, q 4 = d, q 5 = e
  rcases h with rfl | rfl | rfl | rfl | rfl <;> revert a b c d e <;> decide +kernel
/-- How many masters of the first n there are. -/
def cntQ (q : Int → Bool) (n : Int) : Int := (cond (q 1 && decide (1 ≤ n)) 1 0) + (cond (q 2 && decide (2 ≤ n)) 1 0) + (cond (q 3 && decide (3 ≤ n)) 1 0) + (cond (q 4 && decide (4 ≤ n)) 1 0) + (cond (q 5 && decide (5 ≤ n)) 1 0)
def enoughQ (q : Int → Bool) (n : Int) : Bool := decide (n / 2 + 1 ≤ cntQ q n)
def pop1 (x : Int) : Int := IntKind.u64.wrap (andI .u64 (shrI .u64 x 1) 6148914691236517205 + andI .u64 x 6148914691236517205)
def pop2 (y : Int) : Int := IntKind.u64.wrap (andI .u64 (shrI .u64 y 2) 3689348814741910323 + andI .u64 y 3689348814741910323)
def pop3 (z : Int) : Int := andI .u64 (IntKind.u64.wrap (shrI .u64 z 4 + z)) 1085102592571150095
def pop4 (z : Int) (n : Nat) : Int := IntKind.u64.wrap (z + shrI .u64 z n)
def pop (x : Int) : Int := andI .i64 (IntKind.i64.wrap (pop4 (pop4 (pop4 (pop3 (pop2 (pop1 x))) 8) 16) 32)) 127
theorem pop_bits (q : Int → Bool) (n : Int) (h : isM n) : pop (anI .u64 (andI .u64 (bitsOf q) (IntKind.u64.wrap (shlI .u64 1 (n + 1).toNat - 1))) 1) = cntQ q n := by
  unfold bitsOf cntQ
  generalize q 1 = a, q 2 = b, q 3 = c, q 4 = d, q 5 = e
  rcases h with rfl | rfl | rfl | rfl | rfl <;> revert a b c d e <;> decide +kernel
theorem sp_OnesCount {h : Hp} (x : Int) {K : Kont} (hK : K (.int .i64 (pop x)) h) : C_q31 [.int .u64 x] h K := by
  refine ok_q31 ?_
  unfold G_q31
  simp (disch := (first | omega | (simp only [sz]; done) | (simp only [lz, Nat.reduceAdd, Nat.reduceLeDiff, Nat.le_refl]; done) | (simp only [sz]; omega))) only [↓xa, xb, xl, Option.bind_some, Option.map_some, implies_true, imp_self, true_and, and_true, if_true, if_false, decide_true, decide_false, Int.cast_ofNat_Int, Int.reduceLT, Int.reduceLE, Int.reduceEq, Nat.reduceAdd, Nat.reduceMul, Nat.reduceLeDiff, setL, bfill, eqV, lookRes, n_shr', n_and, Int.reduceToNat]
  exact hK
theorem sp_member {h : Hp} (n : Int) {K : Kont} (hK : K (.bool (decide (1 ≤ n ∧ n ≤ 63))) h) : C_q105 [.int .i64 n] h K := by
  refine ok_q105 ?_
  unfold G_q105
  (repeat' (first | (simp (disch := (first | omega | (simp only [sz]; done) | (simp only [lz, Nat.reduceAdd, Nat.reduceLeDiff, Nat.le_refl]; done) | (simp only [sz]; omega))) only [↓xa, xb, xl, Option.bind_some, Option.map_some, implies_true, imp_self, true_and, and_true, if_true, if_false, decide_true, decide_false, Int.cast_ofNat_Int, Int.reduceLT, Int.reduceLE, Int.reduceEq, Nat.reduceAdd, Nat.reduceMul, Nat.reduceLeDiff, setL, bfill, eqV, lookRes]) | ((refine e_ifd _ _ _ (fun hc => ?_) (fun hc => ?_)) <;> first | (exfalso; omega) | (simp (disch := (first | omega | (simp only [sz]; done) | (simp only [lz, Nat.reduceAdd, Nat.reduceLeDiff, Nat.le_refl]; done) | (simp only [sz]; omega))) only [↓xa, xb, xl, Option.bind_some, Option.map_some, implies_true, imp_self, true_and, and_true, if_true, if_false, decide_true, decide_false, Int.cast_ofNat_Int, Int.reduceLT, Int.reduceLE, Int.reduceEq, Nat.reduceAdd, Nat.reduceMul, Nat.reduceLeDiff, setL, bfill, eqV, lookRes, hc]) | skip) | ((refine e_ifn _ _ _ (fun hc => ?_) (fun hc => ?_)) <;> first | (exfalso; omega) | (simp (disch := (first | omega | (simp only [sz]; done) | (simp only [lz, Nat.reduceAdd, Nat.reduceLeDiff, Nat.le_refl]; done) | (simp only [sz]; omega))) only [↓xa, xb, xl, Option.bind_some, Option.map_some, implies_true, imp_self, true_and, and_true, if_true, if_false, decide_true, decide_false, Int.cast_ofNat_Int, Int.reduceLT, Int.reduceLE, Int.reduceEq, Nat.reduceAdd, Nat.reduceMul, Nat.reduceLeDiff, setL, bfill, eqV, lookRes, hc]) | skip) | ((refine e_gd _ _ _ _ _ (fun hc => ?_) (fun hc => ?_)) <;> first | (exfalso; omega) | (simp (disch := (first | omega | (simp only [sz]; done) | (simp only [lz, Nat.reduceAdd, Nat.reduceLeDiff, Nat.le_refl]; done) | (simp only [sz]; omega))) only [↓xa, xb, xl, Option.bind_some, Option.map_some, implies_true, imp_self, true_and, and_true, if_true, if_false, decide_true, decide_false, Int.cast_ofNat_Int, Int.reduceLT, Int.reduceLE, Int.reduceEq, Nat.reduceAdd, Nat.reduceMul, Nat.reduceLeDiff, setL, bfill, eqV, lookRes, hc]) | skip) | ((refine e_gn _ _ _ _ _ (fun hc => ?_) (fun hc => ?_)) <;> first | (exfalso; omega) | (simp (disch := (first | omega | (simp only [sz]; done) | (simp only [lz, Nat.reduceAdd, Nat.reduceLeDiff, Nat.le_refl]; done) | (simp only [sz]; omega))) only [↓xa, xb, xl, Option.bind_some, Option.map_some, implies_true, imp_self, true_and, and_true, if_true, if_false, decide_true, decide_false, Int.cast_ofNat_Int, Int.reduceLT, Int.reduceLE, Int.reduceEq, Nat.reduceAdd, Nat.reduceMul, Nat.reduceLeDiff, setL, bfill, eqV, lookRes, hc]) | skip) | ((refine e_pd _ _ _ _ _ (fun hc => ?_) (fun hc => ?_)) <;> first | (exfalso; omega) | (simp (disch := (first | omega | (simp only [sz]; done) | (simp only [lz, Nat.reduceAdd, Nat.reduceLeDiff, Nat.le_refl]; done) | (simp only [sz]; omega))) only [↓xa, xb, xl, Option.bind_some, Option.map_some, implies_true, imp_self, true_and, and_true, if_true, if_false, decide_true, decide_false, Int.cast_ofNat_Int, Int.reduceLT, Int.reduceLE, Int.reduceEq, Nat.reduceAdd, Nat.reduceMul, Nat.reduceLeDiff, setL, bfill, eqV, lookRes, hc]) | skip) | ((refine e_pn _ _ _ _ _ (fun hc => ?_) (fun hc => ?_)) <;> first | (exfalso; omega) | (simp (disch := (first | omega | (simp only [sz]; done) | (simp only [lz, Nat.reduceAdd, Nat.reduceLeDiff, Nat.le_refl]; done) | (simp only [sz]; omega))) only [↓xa, xb, xl, Option.bind_some, Option.map_some, implies_true, imp_self, true_and, and_true, if_true, if_false, decide_true, decide_false, Int.cast_ofNat_Int, Int.reduceLT, Int.reduceLE, Int.reduceEq, Nat.reduceAdd, Nat.reduceMul, Nat.reduceLeDiff, setL, bfill, eqV, lookRes, hc]) | skip) | ((refine e_if2 _ _ _ (fun hc => ?_) (fun hc => ?_)) <;> first | (exfalso; omega) | (simp (disch := (first | omega | (simp only [sz]; done) | (simp only [lz, Nat.reduceAdd, Nat.reduceLeDiff, Nat.le_refl]; done) | (simp only [sz]; omega))) only [↓xa, xb, xl, Option.bind_some, Option.map_some, implies_true, imp_self, true_and, and_true, if_true, if_false, decide_true, decide_false, Int.cast_ofNat_Int, Int.reduceLT, Int.reduceLE, Int.reduceEq, Nat.reduceAdd, Nat.reduceMul, Nat.reduceLeDiff, setL, bfill, eqV, lookRes, hc]) | skip) | ((refine e_g2 _ _ _ _ _ (fun hc => ?_) (fun hc => ?_)) <;> first | (exfalso; omega) | (simp (disch := (first | omega | (simp only [sz]; done) | (simp only [lz, Nat.reduceAdd, Nat.reduceLeDiff, Nat.le_refl]; done) | (simp only [sz]; omega))) only [↓xa, xb, xl, Option.bind_some, Option.map_some, implies_true, imp_self, true_and, and_true, if_true, if_false, decide_true, decide_false, Int.cast_ofNat_Int, Int.reduceLT, Int.reduceLE, Int.reduceEq, Nat.reduceAdd, Nat.reduceMul, Nat.reduceLeDiff, setL, bfill, eqV, lookRes, hc]) | skip)))
  all_goals exact k_cast hK (by congr 1; simp; omega)
theorem sp_Quorum {h : Hp} (n : Int) (h0 : 1 ≤ n) (h1 : n ≤ 5) {K : Kont} (hK : K (.int .i64 (n / 2 + 1)) h) : C_q103 [.int .i64 n] h K := by
  refine ok_q103 ?_
  unfold G_q103
  have q : n.tdiv 2 = n / 2 := Int.tdiv_eq_ediv_of_nonneg (by omega)
  have e2 : (2 : Int) ≠ 0 := by decide
  simp (disch := (first | omega | (simp only [sz]; done) | (simp only [lz, Nat.reduceAdd, Nat.reduceLeDiff, Nat.le_refl]; done) | (simp only [sz]; omega))) only [↓xa, xb, xl, Option.bind_some, Option.map_some, implies_true, imp_self, true_and, and_true, if_true, if_false, decide_true, decide_false, Int.cast_ofNat_Int, Int.reduceLT, Int.reduceLE, Int.reduceEq, Nat.reduceAdd, Nat.reduceMul, Nat.reduceLeDiff, setL, bfill, eqV, lookRes, decide_eq_false (show ¬ n < 1 by omega), q]
  exact hK
theorem sp_Count {h : Hp} (x : Int) {K : Kont} (hK : K (.int .i64 (pop (anI .u64 x 1))) h) : C_q120 [.int .u64 x] h K := by
  refine ok_q120 ?_
  unfold G_q120
  simp (disch := (first | omega | (simp only [sz]; done) | (simp only [lz, Nat.reduceAdd, Nat.reduceLeDiff, Nat.le_refl]; done) | (simp only [sz]; omega))) only [↓xa, xb, xl, Option.bind_some, Option.map_some, implies_true, imp_self, true_and, and_true, if_true, if_false, decide_true, decide_false, Int.cast_ofNat_Int, Int.reduceLT, Int.reduceLE, Int.reduceEq, Nat.reduceAdd, Nat.reduceMul, Nat.reduceLeDiff, setL, bfill, eqV, lookRes, n_an]
  refine sp_OnesCount _ ?_
  exact hK
theorem sp_Enough {h : Hp} (q : Int → Bool) (n : Int) (h0 : 1 ≤ n) (h1 : n ≤ 5) {K : Kont} (hK : K (.bool (enoughQ q n)) h) : C_q102 [.int .u64 (bitsOf q), .int .i64 n] h K := by
  refine ok_q102 ?_
  unfold G_q102
  simp (disch := (first | omega | (simp only [sz]; done) | (simp only [lz, Nat.reduceAdd, Nat.reduceLeDiff, Nat.le_refl]; done) | (simp only [sz]; omega))) only [↓xa, xb, xl, Option.bind_some, Option.map_some, implies_true, imp_self, true_and, and_true, if_true, if_false, decide_true, decide_false, Int.cast_ofNat_Int, Int.reduceLT, Int.reduceLE, Int.reduceEq, Nat.reduceAdd, Nat.reduceMul, Nat.reduceLeDiff, setL, bfill, eqV, lookRes, decide_eq_false (show ¬ n < 1 by omega), decide_eq_true (show n < 63 by omega), n_shl', n_and]
  rw [req_q102_1]
  unfold R_q102_1
  refine sp_Count _ ?_
  refine sp_Quorum n h0 h1 ?_
  rw [pop_bits q n (isM_of h0 h1)]
  (try simp (disch := (first | omega | (simp only [sz]; done) | (simp only [lz, Nat.reduceAdd, Nat.reduceLeDiff, Nat.le_refl]; done) | (simp only [sz]; omega))) only [↓xa, xb, xl, Option.bind_some, Option.map_some, implies_true, imp_self, true_and, and_true, if_true, if_false, decide_true, decide_false, Int.cast_ofNat_Int, Int.reduceLT, Int.reduceLE, Int.reduceEq, Nat.reduceAdd, Nat.reduceMul, Nat.reduceLeDiff, setL, bfill, eqV, lookRes])
  exact hK
theorem sp_With {h : Hp} (q : Int → Bool) {a : Value} {l : List Int} (hS : Sl h 1 icell a l) (hl : l.length ≤ 1048576) (hm : ∀ x ∈ l, isM x) {K : Kont} (hK : K (.int .u64 (bitsOf (l.foldl addQ q))) h) : C_q133 [.int .u64 (bitsOf q), a] h K := by
  refine ok_q133 ?_
  unfold G_q133
  have e1 : anI .u64 (bitsOf q) 1 = bitsOf q := by
    unfold bitsOf
    generalize q 1 = a, q 2 = b, q 3 = c, q 4 = d, q 5 = e
    revert a b c d e
    decide +kernel
  simp (disch := (first | omega | (simp only [sz]; done) | (simp only [lz, Nat.reduceAdd, Nat.reduceLeDiff, Nat.le_refl]; done) | (simp only [sz]; omega))) only [↓xa, xb, xl, Option.bind_some, Option.map_some, implies_true, imp_self, true_and, and_true, if_true, if_false, decide_true, decide_false, Int.cast_ofNat_Int, Int.reduceLT, Int.reduceLE, Int.reduceEq, Nat.reduceAdd, Nat.reduceMul, Nat.reduceLeDiff, setL, bfill, eqV, lookRes, n_an, e1, ↓hS.len']
  refine rule_q133_1 (fun v0 v11 h' => ∃ i : Nat, v11 = .int .i64 i ∧ i ≤ l.length ∧ h' = h ∧ v0 = .int .u64 (bitsOf ((l.take i).foldl addQ q))) (fun v0 v11 h' => l.length - ival v11) ?_ _ _ _ _ ⟨0, rfl, Nat.zero_le _, rfl, rfl⟩
  rintro self v0 v11 d h' ⟨i, rfl, hi, rfl, rfl⟩ hself
  unfold B_q133_1
  by_cases hlt : i < l.length
  · have hx := hm _ (nth_mem hlt)
    simp (disch := (first | omega | (simp only [sz]; done) | (simp only [lz, Nat.reduceAdd, Nat.reduceLeDiff, Nat.le_refl]; done) | (simp only [sz]; omega))) only [↓xa, xb, xl, Option.bind_some, Option.map_some, implies_true, imp_self, true_and, and_true, if_true, if_false, decide_true, decide_false, Int.cast_ofNat_Int, Int.reduceLT, Int.reduceLE, Int.reduceEq, Nat.reduceAdd, Nat.reduceMul, Nat.reduceLeDiff, setL, bfill, eqV, lookRes, decide_eq_true (Int.ofNat_lt.2 hlt), ↓hS.idx, hS.cell0 icell_len, Go.encZ]
    have htk : (l.take (i + 1)).foldl addQ q = addQ ((l.take i).foldl addQ q) (nth l i) := by rw [take_nth hlt, List.foldl_append]; rfl
    generalize nth l i = x at hx htk
    refine sp_member _ ?_
    have hr : 1 ≤ x ∧ x ≤ 63 := by unfold isM at hx; omega
    simp (disch := (first | omega | (simp only [sz]; done) | (simp only [lz, Nat.reduceAdd, Nat.reduceLeDiff, Nat.le_refl]; done) | (simp only [sz]; omega))) only [↓xa, xb, xl, Option.bind_some, Option.map_some, implies_true, imp_self, true_and, and_true, if_true, if_false, decide_true, decide_false, Int.cast_ofNat_Int, Int.reduceLT, Int.reduceLE, Int.reduceEq, Nat.reduceAdd, Nat.reduceMul, Nat.reduceLeDiff, setL, bfill, eqV, lookRes, decide_eq_true hr, n_shl', n_or, or_bits _ _ hx]
    rw [req_q133_2]
    unfold R_q133_2
    (try simp (disch := (first | omega | (simp only [sz]; done) | (simp only [lz, Nat.reduceAdd, Nat.reduceLeDiff, Nat.le_refl]; done) | (simp only [sz]; omega))) only [↓xa, xb, xl, Option.bind_some, Option.map_some, implies_true, imp_self, true_and, and_true, if_true, if_false, decide_true, decide_false, Int.cast_ofNat_Int, Int.reduceLT, Int.reduceLE, Int.reduceEq, Nat.reduceAdd, Nat.reduceMul, Nat.reduceLeDiff, setL, bfill, eqV, lookRes])
    exact hself _ _ _ _ ⟨i + 1, rfl, hlt, rfl, by rw [htk]⟩ (by simp only [ival_nat, show ((i : Int) + 1) = ((i + 1 : Nat) : Int) from rfl]; omega)
  · simp (disch := (first | omega | (simp only [sz]; done) | (simp only [lz, Nat.reduceAdd, Nat.reduceLeDiff, Nat.le_refl]; done) | (simp only [sz]; omega))) only [↓xa, xb, xl, Option.bind_some, Option.map_some, implies_true, imp_self, true_and, and_true, if_true, if_false, decide_true, decide_false, Int.cast_ofNat_Int, Int.reduceLT, Int.reduceLE, Int.reduceEq, Nat.reduceAdd, Nat.reduceMul, Nat.reduceLeDiff, setL, bfill, eqV, lookRes, decide_eq_false (show ¬ (i : Int) < (l.length : Int) by omega)]
    rw [List.take_of_length_le (by omega)]
    exact hK
end Go.Proofs.Ytdolepapmpcpiaa

namespace Go.Proofs.Ytdolepapmpcpiaa
open Go
set_option linter.unusedSectionVars false
variable [Base]
set_option linter.unusedVariables false
set_option linter.unusedSimpArgs false
set_option maxRecDepth 10000
theorem sp_Of {h : Hp} {a b : Int} (ha : 0 ≤ a ∧ a < 2305843009213693952) (hb : 0 ≤ b ∧ b < 8) {K : Kont}
    (hK : K (.tuple #[.int .u64 (if 1 ≤ a ∧ a < 1152921504606846976 ∧ 1 ≤ b ∧ b ≤ 5 then 8 * a + b else 0), .int .i64 (if 1 ≤ a ∧ a < 1152921504606846976 ∧ 1 ≤ b ∧ b ≤ 5 then 0 else 1)]) h) : C_q160 [.int .u64 a, .int .i64 b] h K := by
  refine ok_q160 ?_
  unfold G_q160
  (repeat' (first | (simp (disch := (first | omega | (simp only [sz]; done) | (simp only [lz, Nat.reduceAdd, Nat.reduceLeDiff, Nat.le_refl]; done) | (simp only [sz]; omega))) only [↓xa, xb, xl, Option.bind_some, Option.map_some, implies_true, imp_self, true_and, and_true, if_true, if_false, decide_true, decide_false, Int.cast_ofNat_Int, Int.reduceLT, Int.reduceLE, Int.reduceEq, Nat.reduceAdd, Nat.reduceMul, Nat.reduceLeDiff, setL, bfill, eqV, lookRes]) | refine sp_master _ ?_ | ((refine e_ifd _ _ _ (fun hc => ?_) (fun hc => ?_)) <;> first | (exfalso; omega) | (simp (disch := (first | omega | (simp only [sz]; done) | (simp only [lz, Nat.reduceAdd, Nat.reduceLeDiff, Nat.le_refl]; done) | (simp only [sz]; omega))) only [↓xa, xb, xl, Option.bind_some, Option.map_some, implies_true, imp_self, true_and, and_true, if_true, if_false, decide_true, decide_false, Int.cast_ofNat_Int, Int.reduceLT, Int.reduceLE, Int.reduceEq, Nat.reduceAdd, Nat.reduceMul, Nat.reduceLeDiff, setL, bfill, eqV, lookRes, hc]) | skip) | ((refine e_ifn _ _ _ (fun hc => ?_) (fun hc => ?_)) <;> first | (exfalso; omega) | (simp (disch := (first | omega | (simp only [sz]; done) | (simp only [lz, Nat.reduceAdd, Nat.reduceLeDiff, Nat.le_refl]; done) | (simp only [sz]; omega))) only [↓xa, xb, xl, Option.bind_some, Option.map_some, implies_true, imp_self, true_and, and_true, if_true, if_false, decide_true, decide_false, Int.cast_ofNat_Int, Int.reduceLT, Int.reduceLE, Int.reduceEq, Nat.reduceAdd, Nat.reduceMul, Nat.reduceLeDiff, setL, bfill, eqV, lookRes, hc]) | skip) | ((refine e_gd _ _ _ _ _ (fun hc => ?_) (fun hc => ?_)) <;> first | (exfalso; omega) | (simp (disch := (first | omega | (simp only [sz]; done) | (simp only [lz, Nat.reduceAdd, Nat.reduceLeDiff, Nat.le_refl]; done) | (simp only [sz]; omega))) only [↓xa, xb, xl, Option.bind_some, Option.map_some, implies_true, imp_self, true_and, and_true, if_true, if_false, decide_true, decide_false, Int.cast_ofNat_Int, Int.reduceLT, Int.reduceLE, Int.reduceEq, Nat.reduceAdd, Nat.reduceMul, Nat.reduceLeDiff, setL, bfill, eqV, lookRes, hc]) | skip) | ((refine e_gn _ _ _ _ _ (fun hc => ?_) (fun hc => ?_)) <;> first | (exfalso; omega) | (simp (disch := (first | omega | (simp only [sz]; done) | (simp only [lz, Nat.reduceAdd, Nat.reduceLeDiff, Nat.le_refl]; done) | (simp only [sz]; omega))) only [↓xa, xb, xl, Option.bind_some, Option.map_some, implies_true, imp_self, true_and, and_true, if_true, if_false, decide_true, decide_false, Int.cast_ofNat_Int, Int.reduceLT, Int.reduceLE, Int.reduceEq, Nat.reduceAdd, Nat.reduceMul, Nat.reduceLeDiff, setL, bfill, eqV, lookRes, hc]) | skip) | ((refine e_pd _ _ _ _ _ (fun hc => ?_) (fun hc => ?_)) <;> first | (exfalso; omega) | (simp (disch := (first | omega | (simp only [sz]; done) | (simp only [lz, Nat.reduceAdd, Nat.reduceLeDiff, Nat.le_refl]; done) | (simp only [sz]; omega))) only [↓xa, xb, xl, Option.bind_some, Option.map_some, implies_true, imp_self, true_and, and_true, if_true, if_false, decide_true, decide_false, Int.cast_ofNat_Int, Int.reduceLT, Int.reduceLE, Int.reduceEq, Nat.reduceAdd, Nat.reduceMul, Nat.reduceLeDiff, setL, bfill, eqV, lookRes, hc]) | skip) | ((refine e_pn _ _ _ _ _ (fun hc => ?_) (fun hc => ?_)) <;> first | (exfalso; omega) | (simp (disch := (first | omega | (simp only [sz]; done) | (simp only [lz, Nat.reduceAdd, Nat.reduceLeDiff, Nat.le_refl]; done) | (simp only [sz]; omega))) only [↓xa, xb, xl, Option.bind_some, Option.map_some, implies_true, imp_self, true_and, and_true, if_true, if_false, decide_true, decide_false, Int.cast_ofNat_Int, Int.reduceLT, Int.reduceLE, Int.reduceEq, Nat.reduceAdd, Nat.reduceMul, Nat.reduceLeDiff, setL, bfill, eqV, lookRes, hc]) | skip) | ((refine e_if2 _ _ _ (fun hc => ?_) (fun hc => ?_)) <;> first | (exfalso; omega) | (simp (disch := (first | omega | (simp only [sz]; done) | (simp only [lz, Nat.reduceAdd, Nat.reduceLeDiff, Nat.le_refl]; done) | (simp only [sz]; omega))) only [↓xa, xb, xl, Option.bind_some, Option.map_some, implies_true, imp_self, true_and, and_true, if_true, if_false, decide_true, decide_false, Int.cast_ofNat_Int, Int.reduceLT, Int.reduceLE, Int.reduceEq, Nat.reduceAdd, Nat.reduceMul, Nat.reduceLeDiff, setL, bfill, eqV, lookRes, hc]) | skip) | ((refine e_g2 _ _ _ _ _ (fun hc => ?_) (fun hc => ?_)) <;> first | (exfalso; omega) | (simp (disch := (first | omega | (simp only [sz]; done) | (simp only [lz, Nat.reduceAdd, Nat.reduceLeDiff, Nat.le_refl]; done) | (simp only [sz]; omega))) only [↓xa, xb, xl, Option.bind_some, Option.map_some, implies_true, imp_self, true_and, and_true, if_true, if_false, decide_true, decide_false, Int.cast_ofNat_Int, Int.reduceLT, Int.reduceLE, Int.reduceEq, Nat.reduceAdd, Nat.reduceMul, Nat.reduceLeDiff, setL, bfill, eqV, lookRes, hc]) | skip)))
  all_goals first
    | (rw [if_neg (by omega), if_neg (by omega)] at hK; exact hK)
    | (rw [if_pos (by omega), if_pos (by omega)] at hK; exact hK)
    | skip
/-- The least ballot of a master above a number; 0: none. -/
def nextRound (b : Int) (me : Int) : Int :=
  let r := if 1 > b / 8 then 1 else b / 8
  if 8 * r + me ≤ b then r + 1 else r
def nextE (b me : Int) : Int := if ¬ (1 ≤ me ∧ me ≤ 5) then 1 else if 1152921504606846976 ≤ nextRound b me then 9 else 0
def nextB (b me : Int) : Int := if nextE b me = 0 then 8 * nextRound b me + me else 0
theorem nextB_gt {b me : Int} (hb : 0 ≤ b) (h : nextE b me = 0) : b < nextB b me ∧ nextB b me % 8 = me ∧ 1 ≤ me ∧ me ≤ 5 ∧ nextB b me < 9223372036854775808 := by
  unfold nextB
  rw [if_pos h]
  unfold nextE at h
  split at h
  · omega
  · rename_i hm
    split at h
    · omega
    · rename_i hr
      have hm' : 1 ≤ me ∧ me ≤ 5 := by omega
      unfold nextRound at hr ⊢
      simp only at hr ⊢
      split at hr <;> split at hr <;> simp_all <;> omega
theorem sp_Next {h : Hp} {b me : Int} (hb : u64ok b) (hm : i64ok me) {K : Kont} (hK : K (.tuple #[.int .u64 (nextB b me), .int .i64 (nextE b me)]) h) : C_q132 [.int .u64 b, .int .i64 me] h K := by
  refine ok_q132 ?_
  unfold G_q132
  obtain ⟨hb1, hb2⟩ := hb
  refine sp_master _ ?_
  by_cases hme : 1 ≤ me ∧ me ≤ 5
  rotate_left
  · simp (disch := (first | omega | (simp only [sz]; done) | (simp only [lz, Nat.reduceAdd, Nat.reduceLeDiff, Nat.le_refl]; done) | (simp only [sz]; omega))) only [↓xa, xb, xl, Option.bind_some, Option.map_some, implies_true, imp_self, true_and, and_true, if_true, if_false, decide_true, decide_false, Int.cast_ofNat_Int, Int.reduceLT, Int.reduceLE, Int.reduceEq, Nat.reduceAdd, Nat.reduceMul, Nat.reduceLeDiff, setL, bfill, eqV, lookRes, decide_eq_false hme]
    have e : nextE b me = 1 := by unfold nextE; rw [if_pos hme]
    simp only [nextB, e] at hK
    exact hK
  have q1 : b.tdiv 8 = b / 8 := Int.tdiv_eq_ediv_of_nonneg hb1
  have w1 : IntKind.u64.wrap (b / 8) = b / 8 := wrap_u _ (by omega) (by omega)
  have e8 : (8 : Int) ≠ 0 := by decide
  have hme' : ¬ ¬ (1 ≤ me ∧ me ≤ 5) := by omega
  unfold nextB nextE nextRound at hK
  simp only [if_neg hme'] at hK
  obtain ⟨r, hr⟩ : ∃ r, r = (if 1 > b / 8 then 1 else b / 8) := ⟨_, rfl⟩
  rw [← hr] at hK
  have hr1 : 1 ≤ r ∧ r < 2305843009213693952 ∧ (r = 1 ∨ r = b / 8) := by rw [hr]; split <;> omega
  have hr2 := hr.symm
  clear hr
  have hn : G_q132_1 = G_q132_1 := rfl
  have next : ∀ (x : Int) d, 1 ≤ x → x < 2305843009213693953 → (K (.tuple #[.int .u64 (if (if 1152921504606846976 ≤ x then (9 : Int) else 0) = 0 then 8 * x + me else 0), .int .i64 (if 1152921504606846976 ≤ x then 9 else 0)]) h) → G_q132_1 K (.int .i64 me) (.int .u64 x) d h := by
    intro x d h1 h2 hk
    rw [req_q132_1]
    unfold R_q132_1
    (try simp (disch := (first | omega | (simp only [sz]; done) | (simp only [lz, Nat.reduceAdd, Nat.reduceLeDiff, Nat.le_refl]; done) | (simp only [sz]; omega))) only [↓xa, xb, xl, Option.bind_some, Option.map_some, implies_true, imp_self, true_and, and_true, if_true, if_false, decide_true, decide_false, Int.cast_ofNat_Int, Int.reduceLT, Int.reduceLE, Int.reduceEq, Nat.reduceAdd, Nat.reduceMul, Nat.reduceLeDiff, setL, bfill, eqV, lookRes])
    refine e_ifd _ _ _ (fun hc => ?_) (fun hc => ?_)
    · rw [if_pos hc, if_neg (by decide)] at hk
      exact hk
    · rw [if_neg hc, if_pos rfl] at hk
      refine sp_Of (by omega) (by omega) ?_
      rw [if_pos (by omega), if_pos (by omega)]
      (try simp (disch := (first | omega | (simp only [sz]; done) | (simp only [lz, Nat.reduceAdd, Nat.reduceLeDiff, Nat.le_refl]; done) | (simp only [sz]; omega))) only [↓xa, xb, xl, Option.bind_some, Option.map_some, implies_true, imp_self, true_and, and_true, if_true, if_false, decide_true, decide_false, Int.cast_ofNat_Int, Int.reduceLT, Int.reduceLE, Int.reduceEq, Nat.reduceAdd, Nat.reduceMul, Nat.reduceLeDiff, setL, bfill, eqV, lookRes])
      exact hk
  simp (disch := (first | omega | (simp only [sz]; done) | (simp only [lz, Nat.reduceAdd, Nat.reduceLeDiff, Nat.le_refl]; done) | (simp only [sz]; omega))) only [↓xa, xb, xl, Option.bind_some, Option.map_some, implies_true, imp_self, true_and, and_true, if_true, if_false, decide_true, decide_false, Int.cast_ofNat_Int, Int.reduceLT, Int.reduceLE, Int.reduceEq, Nat.reduceAdd, Nat.reduceMul, Nat.reduceLeDiff, setL, bfill, eqV, lookRes, decide_eq_true hme, q1, w1, hr2]
  refine e_ifd _ _ _ (fun hc => ?_) (fun hc => ?_)
  · (try simp (disch := (first | omega | (simp only [sz]; done) | (simp only [lz, Nat.reduceAdd, Nat.reduceLeDiff, Nat.le_refl]; done) | (simp only [sz]; omega))) only [↓xa, xb, xl, Option.bind_some, Option.map_some, implies_true, imp_self, true_and, and_true, if_true, if_false, decide_true, decide_false, Int.cast_ofNat_Int, Int.reduceLT, Int.reduceLE, Int.reduceEq, Nat.reduceAdd, Nat.reduceMul, Nat.reduceLeDiff, setL, bfill, eqV, lookRes])
    simp only [hr2, if_pos hc] at hK
    exact next _ _ (by omega) (by omega) hK
  · simp only [hr2, if_neg hc] at hK
    exact next _ _ (by omega) (by omega) hK
end Go.Proofs.Ytdolepapmpcpiaa

