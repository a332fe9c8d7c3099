/- Lemmas for the theorem of the last text; no condition. -/
import Derived.Test.YtdolepapmpcpiaaLp0
import Derived.Test.YtdolepapmpcpiaaLp1
import Derived.Test.YtdolepapmpcpiaaLp2
import Derived.Test.YtdolepapmpcpiaaLp3
import Derived.Test.YtdolepapmpcpiaaLp4
import Derived.Test.YtdolepapmpcpiaaLp5
import Derived.Test.YtdolepapmpcpiaaLp6
import Derived.Test.YtdolepapmpcpiaaLp7
import Derived.Test.YtdolepapmpcpiaaLp8
import Derived.Test.YtdolepapmpcpiaaLp9
import Derived.Test.YtdolepapmpcpiaaLp10
import Derived.Test.YtdolepapmpcpiaaLp11
import Derived.Test.YtdolepapmpcpiaaLp12
import Derived.Test.YtdolepapmpcpiaaLp13
import Derived.Test.YtdolepapmpcpiaaLp14
namespace Go.Proofs.Ytdolepapmpcpiaa
open Go Go.RowKit Go.Maps Go.Shelf
set_option linter.unusedSectionVars false
variable [Base]
set_option linter.unusedVariables false
set_option linter.unusedSimpArgs false
set_option maxRecDepth 10000
theorem Two.set {h : Hp} {F : Nat → Prop} {N p n : Nat} {x : LS} {wv vv pv : Value} {ws : List Int} {vs : List LV} {ps : List RP} {came : List (Int × LV)} {opn : List (Int × Prp)} {r : Nat} {c c' : Array Value}
    (R : RefL h (fun b => b = p ∨ F b ∨ b = r) wv vv pv ws vs ps) (G : Prg h (fun b => b = p ∨ F b ∨ b = r) N p x came opn) (s : Same n x ws vs ps pv came opn) (hN : N ≤ p) (hr : h[r]? = some (.cells c)) (hp : r ≠ p) : Two (h.setIfInBounds r (.cells c')) F N p n x wv vv pv := by
  have u : Upd (fun b => b = r) h (h.setIfInBounds r (.cells c')) := (by repeat' (first | with_reducible exact Upd.refl _ | with_reducible refine Upd.push ?_ _ | with_reducible refine Upd.set ?_ _ _ ?_ | exact .inl (by (first | omega | (simp only [sz]; done) | (simp only [lz, Nat.reduceAdd, Nat.reduceLeDiff, Nat.le_refl]; done) | (simp only [sz]; omega))) | exact .inr rfl | exact .inr (by simp; done)))
  exact ⟨⟨ws, vs, ps, came, opn, (R.keep u (fun b hb => .inl (.inr (.inr hb)))).less (fun b hb => hb.imp id .inl), (G.set hr hp (.inr (.inr rfl))).less (fun b hb => .inr (.inl hb)), s⟩, hN⟩
theorem Ext.then {a b c : Hp} {S T : Nat → Prop} (x : Ext a b) (u : Upd S b c) (hT : ∀ r, r < a.size → S r → T r) : Upd T a c :=
  ⟨Nat.le_trans x.1 u.1, fun r hr hs => (u.2 r (Nat.lt_of_lt_of_le hr x.1) (fun h => hs (hT r hr h))).trans (x.2 r hr id)⟩
/-- The document's leader behind a promise. -/
theorem RefL.prom {h H H3 : Hp} {F : Nat → Prop} {wv vv pv wv' vv' pv' va : Value} {vl : List Vote} {ws : List Int} {vs : List LV} {ps ps' : List RP} {w : Int} (R : RefL h F wv vv pv ws vs ps) (xH : Ext h H) (x3 : Ext H H3) (hF : ∀ b, F b → b < H.size)
    (sw : Sl H3 1 icell wv' (refWs ws w)) (sv : Sl H3 1 lvc vv' (refVs ws vs w (va, vl))) (nw : Nw H H3 wv' wv) (nv : Nw H H3 vv' vv) (ho : Sl h 6 vcells va vl) (hoff : vl ≠ [] → ∀ b, F b → blk va ≠ some b)
    (sp : Sl H3 6 pcells pv' ps') (hps : ∀ q ∈ ps', q.who = (.slice none 0 0, [])) (lowp : Lo H3.size pv') (offp : ∀ b, F b → blk pv' ≠ some b) : RefL H3 F wv' vv' pv' (refWs ws w) (refVs ws vs w (va, vl)) ps' := by
  have x03 := xH.trans x3
  have z := xH.1
  have z3 := x3.1
  have hmem : ∀ a ∈ refVs ws vs w (va, vl), a ∈ vs ∨ a = (va, vl) := by
    intro a ha
    unfold refVs at ha
    split at ha
    · exact .inl ha
    · rcases List.mem_append.1 ha with ha | ha
      · exact .inl ha
      · exact .inr (List.mem_singleton.1 ha)
  refine ⟨sw, ⟨sv, fun a ha => ?_⟩, sp, fun q hq => (by rw [hps q hq]; exact Sl.nil), ⟨fun b hb => ?_, fun b hb => ?_, lowp, fun q hq b hb => (by rw [hps q hq] at hb; cases hb)⟩, fun b hb => ⟨fun e => ?_, fun e => ?_, offp b hb, fun q hq e => (by rw [hps q hq] at e; cases e), fun a ha h0 e => ?_⟩⟩
  · rcases hmem a ha with ha | rfl
    · exact (R.sv.2 a ha).ext x03
    · exact ho.ext x03
  · rcases nw b hb with h | h
    · exact h.2
    · have := R.low.1 b h; omega
  · rcases nv b hb with h | h
    · exact h.2
    · have := R.low.2.1 b h; omega
  · rcases nw b e with h | h
    · have := hF b hb; omega
    · exact (R.off b hb).1 h
  · rcases nv b e with h | h
    · have := hF b hb; omega
    · exact (R.off b hb).2.1 h
  · rcases hmem a ha with ha | rfl
    · exact (R.off b hb).2.2.2.2 a ha h0 e
    · exact hoff h0 b hb e
set_option maxHeartbeats 8000000 in
theorem sp_l13step {h : Hp} (hB : Base.b ≤ h.size) {F : Nat → Prop} {N p n0 : Nat} {x : LS} {wv vv pv : Value} (T : Two h F N p n0 x wv vv pv) (hFF : ∀ b, F b → b < h.size) (hN : N ≤ h.size) (hn0 : n0 ≤ 900) (o : Op13) (ho : Sl h 6 vcells o.votes.1 o.votes.2) (hol : o.votes.2.length ≤ 100000) (hoff : o.votes.2 ≠ [] → ∀ b, (b = p ∨ F b) → blk o.votes.1 ≠ some b) (hob : u64ok o.ballot) (hoe : 0 ≤ o.cmd.epoch) {K : Kont}
    (hK : ∀ h' x' wv' vv' pv', Two h' F N p (n0 + 1) x' wv' vv' pv' → x'.masters = x.masters → Upd (Wr N p h) h h' → K (.tuple #[rV x' wv' vv' pv', .bool true]) h') :
    C_q170 [pt p 0, rV x wv vv pv, .agg (o13cells o).toArray] h K := by
  refine ok_q170 ?_
  unfold G_q170
  obtain ⟨h1, h2, h3⟩ := T.ones
  have T' := T
  obtain ⟨⟨ws, vs, ps, came, opn, R, G, S⟩, hNp⟩ := T'
  obtain ⟨kd, ow, b0, n, w, ⟨va, vl⟩, ⟨c1, c2, c3, c4⟩⟩ := o
  simp only at ho hol hoff hob hoe
  have hva := sl_one ho
  unfold rV rcells o13cells ccells
  have lp : p < h.size := by obtain ⟨cm, om, hb⟩ := G.blk; exact lt_of_get hb
  simp (maxSteps := 1000000) (disch := (first | omega | (simp only [sz]; done) | (simp only [lz, Nat.reduceAdd, Nat.reduceLeDiff, Nat.le_refl]; done) | (simp only [sz]; omega))) only [↓xa, xb, xl, Option.bind_some, Option.map_some, implies_true, imp_self, true_and, and_true, if_true, if_false, decide_true, decide_false, Int.cast_ofNat_Int, Int.reduceLT, Int.reduceLE, Int.reduceEq, Nat.reduceAdd, Nat.reduceMul, Nat.reduceLeDiff, setL, bfill, eqV, lookRes, hva]
  have x2 : Ext h (((h.push (.cells #[.int .i64 x.me, .int .i64 x.masters, .int .i64 x.state, .int .u64 x.ballot, .int .i64 x.frm, .int .i64 x.next, wv, vv, pv])).push (.cells #[.int .i64 kd, .bool ow, .int .u64 b0, .int .i64 n, .int .i64 w, va, .int .i64 c1, .int .i64 c2, .int .u64 c3, .int .i64 c4])).push (.cells #[.int .i64 0, .int .i64 0, .int .i64 0, .int .u64 0, .int .i64 0, .int .i64 0, .slice none 0 0, .slice none 0 0, .slice none 0 0])) := (by repeat' (first | with_reducible exact Upd.refl _ | with_reducible refine Upd.push ?_ _ | with_reducible refine Upd.set ?_ _ _ ?_ | exact .inl (by (first | omega | (simp only [sz]; done) | (simp only [lz, Nat.reduceAdd, Nat.reduceLeDiff, Nat.le_refl]; done) | (simp only [sz]; omega))) | exact .inr rfl | exact .inr (by simp; done)))
  have hr2 : (((h.push (.cells #[.int .i64 x.me, .int .i64 x.masters, .int .i64 x.state, .int .u64 x.ballot, .int .i64 x.frm, .int .i64 x.next, wv, vv, pv])).push (.cells #[.int .i64 kd, .bool ow, .int .u64 b0, .int .i64 n, .int .i64 w, va, .int .i64 c1, .int .i64 c2, .int .u64 c3, .int .i64 c4])).push (.cells #[.int .i64 0, .int .i64 0, .int .i64 0, .int .u64 0, .int .i64 0, .int .i64 0, .slice none 0 0, .slice none 0 0, .slice none 0 0]))[h.size]? = some (.cells #[.int .i64 x.me, .int .i64 x.masters, .int .i64 x.state, .int .u64 x.ballot, .int .i64 x.frm, .int .i64 x.next, wv, vv, pv]) := (by simp (maxSteps := 1000000) (disch := (first | omega | (simp only [sz]; done) | (simp only [lz, Nat.reduceAdd, Nat.reduceLeDiff, Nat.le_refl]; done) | (simp only [sz]; omega))) only [g_push_lt, g_push_eq, g_set_eq, g_set_ne] <;> rfl)
  have ho2 : (((h.push (.cells #[.int .i64 x.me, .int .i64 x.masters, .int .i64 x.state, .int .u64 x.ballot, .int .i64 x.frm, .int .i64 x.next, wv, vv, pv])).push (.cells #[.int .i64 kd, .bool ow, .int .u64 b0, .int .i64 n, .int .i64 w, va, .int .i64 c1, .int .i64 c2, .int .u64 c3, .int .i64 c4])).push (.cells #[.int .i64 0, .int .i64 0, .int .i64 0, .int .u64 0, .int .i64 0, .int .i64 0, .slice none 0 0, .slice none 0 0, .slice none 0 0]))[h.size + 1]? = some (.cells #[.int .i64 kd, .bool ow, .int .u64 b0, .int .i64 n, .int .i64 w, va, .int .i64 c1, .int .i64 c2, .int .u64 c3, .int .i64 c4]) := (by simp (maxSteps := 1000000) (disch := (first | omega | (simp only [sz]; done) | (simp only [lz, Nat.reduceAdd, Nat.reduceLeDiff, Nat.le_refl]; done) | (simp only [sz]; omega))) only [g_push_lt, g_push_eq, g_set_eq, g_set_ne] <;> rfl)
  have hz2 : (((h.push (.cells #[.int .i64 x.me, .int .i64 x.masters, .int .i64 x.state, .int .u64 x.ballot, .int .i64 x.frm, .int .i64 x.next, wv, vv, pv])).push (.cells #[.int .i64 kd, .bool ow, .int .u64 b0, .int .i64 n, .int .i64 w, va, .int .i64 c1, .int .i64 c2, .int .u64 c3, .int .i64 c4])).push (.cells #[.int .i64 0, .int .i64 0, .int .i64 0, .int .u64 0, .int .i64 0, .int .i64 0, .slice none 0 0, .slice none 0 0, .slice none 0 0]))[h.size + 2]? = some (.cells #[.int .i64 0, .int .i64 0, .int .i64 0, .int .u64 0, .int .i64 0, .int .i64 0, .slice none 0 0, .slice none 0 0, .slice none 0 0]) := (by simp (maxSteps := 1000000) (disch := (first | omega | (simp only [sz]; done) | (simp only [lz, Nat.reduceAdd, Nat.reduceLeDiff, Nat.le_refl]; done) | (simp only [sz]; omega))) only [g_push_lt, g_push_eq, g_set_eq, g_set_ne] <;> rfl)
  generalize ((h.push (.cells #[.int .i64 x.me, .int .i64 x.masters, .int .i64 x.state, .int .u64 x.ballot, .int .i64 x.frm, .int .i64 x.next, wv, vv, pv])).push (.cells #[.int .i64 kd, .bool ow, .int .u64 b0, .int .i64 n, .int .i64 w, va, .int .i64 c1, .int .i64 c2, .int .u64 c3, .int .i64 c4])).push (.cells #[.int .i64 0, .int .i64 0, .int .i64 0, .int .u64 0, .int .i64 0, .int .i64 0, .slice none 0 0, .slice none 0 0, .slice none 0 0]) = H2 at *
  have lo2 := lt_of_get ho2
  -- behind the ballot
  have after : ∀ (H : Hp) (b : Int) d, u64ok b → Ext h H → H[h.size]? = some (.cells #[.int .i64 x.me, .int .i64 x.masters, .int .i64 x.state, .int .u64 x.ballot, .int .i64 x.frm, .int .i64 x.next, wv, vv, pv]) → H[h.size + 1]? = some (.cells #[.int .i64 kd, .bool ow, .int .u64 b, .int .i64 n, .int .i64 w, va, .int .i64 c1, .int .i64 c2, .int .u64 c3, .int .i64 c4]) → H[h.size + 2]? = some (.cells #[.int .i64 0, .int .i64 0, .int .i64 0, .int .u64 0, .int .i64 0, .int .i64 0, .slice none 0 0, .slice none 0 0, .slice none 0 0]) → G_q170_1 K (pt p 0) (pt h.size 0) (pt (h.size + 1) 0) (pt (h.size + 1 + 1) 0) d H := by
    intro H b d hb xH hrH hoH hzH
    rw [req_q170_1]
    unfold R_q170_1
    have hBH := xH.hB hB
    have lzH := lt_of_get hzH
    have same : ∀ H', Ext h H' → K (.tuple #[.agg #[.int .i64 x.me, .int .i64 x.masters, .int .i64 x.state, .int .u64 x.ballot, .int .i64 x.frm, .int .i64 x.next, wv, vv, pv], .bool true]) H' := by
      intro H' y
      obtain ⟨T1, T2⟩ := T.ext y
      obtain ⟨ws', vs', ps', came', opn', a1, a2, a3⟩ := T1
      exact hK H' x wv vv pv ⟨⟨ws', vs', ps', came', opn', a1, a2, a3.mono (Nat.le_succ _)⟩, T2⟩ rfl y.lift
    by_cases k0 : kd = 0
    · simp (maxSteps := 1000000) (disch := (first | omega | (simp only [sz]; done) | (simp only [lz, Nat.reduceAdd, Nat.reduceLeDiff, Nat.le_refl]; done) | (simp only [sz]; omega))) only [↓xa, xb, xl, Option.bind_some, Option.map_some, implies_true, imp_self, true_and, and_true, if_true, if_false, decide_true, decide_false, Int.cast_ofNat_Int, Int.reduceLT, Int.reduceLE, Int.reduceEq, Nat.reduceAdd, Nat.reduceMul, Nat.reduceLeDiff, setL, bfill, eqV, lookRes, rdC_blk hoH, decide_eq_true k0, rdN_all hrH]
      refine sp_r13Start hBH h1 h2 h3 S.me S.bal hb n ?_ ?_
      · intro he H3 x3
        have hr3 := x3.get hrH id
        have ho3 := x3.get hoH id
        have hz3 := x3.get hzH id
        have lz3 := lt_of_get hz3
        have lo3 := lt_of_get ho3
        have x03 := xH.trans x3
        have hB3 := x03.hB hB
        simp (maxSteps := 1000000) (disch := (first | omega | (simp only [sz]; done) | (simp only [lz, Nat.reduceAdd, Nat.reduceLeDiff, Nat.le_refl]; done) | (simp only [sz]; omega))) only [↓xa, xb, xl, Option.bind_some, Option.map_some, implies_true, imp_self, true_and, and_true, if_true, if_false, decide_true, decide_false, Int.cast_ofNat_Int, Int.reduceLT, Int.reduceLE, Int.reduceEq, Nat.reduceAdd, Nat.reduceMul, Nat.reduceLeDiff, setL, bfill, eqV, lookRes, rV, rcells, rdC_blk ho3, h1, h2, h3]
        have x4 : Ext H3 (Array.setIfInBounds (H3.push (.cells #[.int .i64 0, .int .i64 0, .int .i64 0, .int .u64 0, .int .i64 0, .int .i64 0, .slice none 0 0, .slice none 0 0, .slice none 0 0])) H3.size (.cells #[.int .i64 x.me, .int .i64 x.masters, .int .i64 x.state, .int .u64 x.ballot, .int .i64 x.frm, .int .i64 x.next, wv, vv, pv])) := (by repeat' (first | with_reducible exact Upd.refl _ | with_reducible refine Upd.push ?_ _ | with_reducible refine Upd.set ?_ _ _ ?_ | exact .inl (by (first | omega | (simp only [sz]; done) | (simp only [lz, Nat.reduceAdd, Nat.reduceLeDiff, Nat.le_refl]; done) | (simp only [sz]; omega))) | exact .inr rfl | exact .inr (by simp; done)))
        have hs4 : (Array.setIfInBounds (H3.push (.cells #[.int .i64 0, .int .i64 0, .int .i64 0, .int .u64 0, .int .i64 0, .int .i64 0, .slice none 0 0, .slice none 0 0, .slice none 0 0])) H3.size (.cells #[.int .i64 x.me, .int .i64 x.masters, .int .i64 x.state, .int .u64 x.ballot, .int .i64 x.frm, .int .i64 x.next, wv, vv, pv]))[H3.size]? = some (.cells #[.int .i64 x.me, .int .i64 x.masters, .int .i64 x.state, .int .u64 x.ballot, .int .i64 x.frm, .int .i64 x.next, wv, vv, pv]) := (by simp (maxSteps := 1000000) (disch := (first | omega | (simp only [sz]; done) | (simp only [lz, Nat.reduceAdd, Nat.reduceLeDiff, Nat.le_refl]; done) | (simp only [sz]; omega))) only [g_push_lt, g_push_eq, g_set_eq, g_set_ne] <;> rfl)
        generalize Array.setIfInBounds (H3.push (.cells #[.int .i64 0, .int .i64 0, .int .i64 0, .int .u64 0, .int .i64 0, .int .i64 0, .slice none 0 0, .slice none 0 0, .slice none 0 0])) H3.size (.cells #[.int .i64 x.me, .int .i64 x.masters, .int .i64 x.state, .int .u64 x.ballot, .int .i64 x.frm, .int .i64 x.next, wv, vv, pv]) = H4 at *
        have x04 := x03.trans x4
        obtain ⟨cm, om, hpb⟩ := (G.ext x04).blk
        have hz4 := x4.get hz3 id
        have lz4 := lt_of_get hz4
        refine sp_lStart (x04.hB hB) hpb S.me S.bal hb n (fun he' => ?_) (fun he' => absurd he' he)
        simp (maxSteps := 1000000) (disch := (first | omega | (simp only [sz]; done) | (simp only [lz, Nat.reduceAdd, Nat.reduceLeDiff, Nat.le_refl]; done) | (simp only [sz]; omega))) only [↓xa, xb, xl, Option.bind_some, Option.map_some, implies_true, imp_self, true_and, and_true, if_true, if_false, decide_true, decide_false, Int.cast_ofNat_Int, Int.reduceLT, Int.reduceLE, Int.reduceEq, Nat.reduceAdd, Nat.reduceMul, Nat.reduceLeDiff, setL, bfill, eqV, lookRes, eq_self, rdN_all hs4, b_blk hz4, h1, h2, h3]
        exact same _ (by repeat' (first | with_reducible exact Upd.refl _ | with_reducible exact x04 | with_reducible refine Upd.push ?_ _ | with_reducible refine Upd.set ?_ _ _ ?_ | exact .inl (by (first | omega | (simp only [sz]; done) | (simp only [lz, Nat.reduceAdd, Nat.reduceLeDiff, Nat.le_refl]; done) | (simp only [sz]; omega))) | exact .inr rfl | exact .inr (by simp; done)))
      · intro he H3 x3
        have hr3 := x3.get hrH id
        have ho3 := x3.get hoH id
        have hz3 := x3.get hzH id
        have lz3 := lt_of_get hz3
        have lo3 := lt_of_get ho3
        have x03 := xH.trans x3
        have hB3 := x03.hB hB
        obtain ⟨y, hy⟩ : ∃ y, startX x b n = y := ⟨_, rfl⟩
        have hyx : y = { x with state := 1, ballot := nextB (maxI b x.ballot) x.me, frm := n, next := n } := by rw [← hy]; unfold startX; rw [if_pos he]
        have hnr : 0 ≤ n ∧ n ≤ 512 := by
          unfold startE at he
          split at he
          · omega
          · omega
        have hbal : u64ok y.ballot := by
          have hmx : u64ok (maxI b x.ballot) := by unfold maxI; split; exact S.bal; exact hb
          have hne : nextE (maxI b x.ballot) x.me = 0 := by
            unfold startE at he
            split at he
            · omega
            · exact he
          have := nextB_gt hmx.1 hne
          rw [hyx]
          unfold u64ok at hmx ⊢
          simp only
          omega
        rw [hy]
        simp (maxSteps := 1000000) (disch := (first | omega | (simp only [sz]; done) | (simp only [lz, Nat.reduceAdd, Nat.reduceLeDiff, Nat.le_refl]; done) | (simp only [sz]; omega))) only [↓xa, xb, xl, Option.bind_some, Option.map_some, implies_true, imp_self, true_and, and_true, if_true, if_false, decide_true, decide_false, Int.cast_ofNat_Int, Int.reduceLT, Int.reduceLE, Int.reduceEq, Nat.reduceAdd, Nat.reduceMul, Nat.reduceLeDiff, setL, bfill, eqV, lookRes, rV, rcells, rdC_blk ho3]
        have x4 : Ext H3 (Array.setIfInBounds (H3.push (.cells #[.int .i64 0, .int .i64 0, .int .i64 0, .int .u64 0, .int .i64 0, .int .i64 0, .slice none 0 0, .slice none 0 0, .slice none 0 0])) H3.size (.cells #[.int .i64 y.me, .int .i64 y.masters, .int .i64 y.state, .int .u64 y.ballot, .int .i64 y.frm, .int .i64 y.next, .slice none 0 0, .slice none 0 0, .slice none 0 0])) := (by repeat' (first | with_reducible exact Upd.refl _ | with_reducible refine Upd.push ?_ _ | with_reducible refine Upd.set ?_ _ _ ?_ | exact .inl (by (first | omega | (simp only [sz]; done) | (simp only [lz, Nat.reduceAdd, Nat.reduceLeDiff, Nat.le_refl]; done) | (simp only [sz]; omega))) | exact .inr rfl | exact .inr (by simp; done)))
        have hs4 : (Array.setIfInBounds (H3.push (.cells #[.int .i64 0, .int .i64 0, .int .i64 0, .int .u64 0, .int .i64 0, .int .i64 0, .slice none 0 0, .slice none 0 0, .slice none 0 0])) H3.size (.cells #[.int .i64 y.me, .int .i64 y.masters, .int .i64 y.state, .int .u64 y.ballot, .int .i64 y.frm, .int .i64 y.next, .slice none 0 0, .slice none 0 0, .slice none 0 0]))[H3.size]? = some (.cells #[.int .i64 y.me, .int .i64 y.masters, .int .i64 y.state, .int .u64 y.ballot, .int .i64 y.frm, .int .i64 y.next, .slice none 0 0, .slice none 0 0, .slice none 0 0]) := (by simp (maxSteps := 1000000) (disch := (first | omega | (simp only [sz]; done) | (simp only [lz, Nat.reduceAdd, Nat.reduceLeDiff, Nat.le_refl]; done) | (simp only [sz]; omega))) only [g_push_lt, g_push_eq, g_set_eq, g_set_ne] <;> rfl)
        generalize Array.setIfInBounds (H3.push (.cells #[.int .i64 0, .int .i64 0, .int .i64 0, .int .u64 0, .int .i64 0, .int .i64 0, .slice none 0 0, .slice none 0 0, .slice none 0 0])) H3.size (.cells #[.int .i64 y.me, .int .i64 y.masters, .int .i64 y.state, .int .u64 y.ballot, .int .i64 y.frm, .int .i64 y.next, .slice none 0 0, .slice none 0 0, .slice none 0 0]) = H4 at *
        have x04 := x03.trans x4
        obtain ⟨cm, om, hpb⟩ := (G.ext x04).blk
        have hz4 := x4.get hz3 id
        have hB4 := x04.hB hB
        refine sp_lStart hB4 hpb S.me S.bal hb n (fun he' => absurd he he') (fun _ => ?_)
        intro H5 u5 hL5
        rw [hy] at hL5
        have z4 := x04.1
        have lz4 := lt_of_get hz4
        have ls4 := lt_of_get hs4
        have hs5 := u5.get hs4 (by have := x03.1; omega)
        have hz5 := u5.get hz4 (by omega)
        have lz5 := lt_of_get hz5
        simp (maxSteps := 1000000) (disch := (first | omega | (simp only [sz]; done) | (simp only [lz, Nat.reduceAdd, Nat.reduceLeDiff, Nat.le_refl]; done) | (simp only [sz]; omega))) only [↓xa, xb, xl, Option.bind_some, Option.map_some, implies_true, imp_self, true_and, and_true, if_true, if_false, decide_true, decide_false, Int.cast_ofNat_Int, Int.reduceLT, Int.reduceLE, Int.reduceEq, Nat.reduceAdd, Nat.reduceMul, Nat.reduceLeDiff, setL, bfill, eqV, lookRes, eq_self, rdN_all hs5, b_blk hz5]
        have U5 : Upd (Wr N p h) h H5 := x04.then u5 (fun r _ e => by subst e; exact ⟨hNp, .inl rfl⟩)
        refine hK _ y (.slice none 0 0) (.slice none 0 0) (.slice none 0 0) (Two.start (h := H4) ⟨hNp, by omega⟩ ?_ ?_ hbal ?_ ?_ ?_ (by simpa using u5.1) (hL5.set (by omega) (by omega) (by omega))) ?_ (Upd.set U5 _ _ (.inl (by omega)))
        · rw [hyx]; exact S.co.masters
        · rw [hyx]; exact S.me
        · rw [hyx]
        · rw [hyx]
        · rw [hyx]; exact hnr
        · rw [hyx]
    obtain ⟨F2, hF2⟩ : ∃ F2 : Nat → Prop, F2 = fun b => b = p ∨ F b ∨ b = h.size + 2 := ⟨_, rfl⟩
    have R2 : RefL h F2 wv vv pv ws vs ps := (R.wide).less (fun b hb => by rw [hF2] at hb; rcases hb with hb | hb | hb; exact .inl (.inl hb); exact .inl (.inr hb); exact .inr (by omega))
    have G2 : Prg h F2 N p x came opn := by
      rcases G with ⟨rc, ro, g1, g2, g3, g4, g5⟩ | g
      · exact .inl ⟨rc, ro, g1, g2, g3, g4, fun e he b hb => by have k := g5 e he b hb; exact ⟨k.1, k.2.1, k.2.2.1, k.2.2.2.1, by rw [hF2]; rintro (h | h | h); exact k.1 h; exact k.2.2.2.2 h; omega⟩⟩
      · exact .inr g
    have hFH : ∀ b, F2 b → b < H.size := by
      rw [hF2]
      rintro b (h | h | h)
      · omega
      · have := hFF b h; have := xH.1; omega
      · omega
    have hoffF : vl ≠ [] → ∀ b, F2 b → blk va ≠ some b := by
      intro h0 b hb
      rw [hF2] at hb
      rcases hb with hb | hb | hb
      · exact hoff h0 b (.inl hb)
      · exact hoff h0 b (.inr hb)
      · intro e
        have hl : 0 < vl.length := List.length_pos_iff.2 h0
        have := ho.lt vcells_len hl (by decide)
        rw [ho.blk_some hl] at e
        cases e
        omega
    by_cases k1 : kd = 1
    · simp (maxSteps := 1000000) (disch := (first | omega | (simp only [sz]; done) | (simp only [lz, Nat.reduceAdd, Nat.reduceLeDiff, Nat.le_refl]; done) | (simp only [sz]; omega))) only [↓xa, xb, xl, Option.bind_some, Option.map_some, implies_true, imp_self, true_and, and_true, if_true, if_false, decide_true, decide_false, Int.cast_ofNat_Int, Int.reduceLT, Int.reduceLE, Int.reduceEq, Nat.reduceAdd, Nat.reduceMul, Nat.reduceLeDiff, setL, bfill, eqV, lookRes, rdC_blk hoH, decide_eq_false k0, decide_eq_true k1, rdN_all hrH]
      by_cases hokc : (x.state = 1 ∧ x.ballot = b) ∧ 1 ≤ w ∧ w ≤ x.masters
      rotate_left
      · refine sp_r13PromiseBad hBH h1 h2 h3 b w va hokc ?_
        intro H3 x3
        have hr3 := x3.get hrH id
        have ho3 := x3.get hoH id
        have hz3 := x3.get hzH id
        have lz3 := lt_of_get hz3
        have lo3 := lt_of_get ho3
        have x03 := xH.trans x3
        have hB3 := x03.hB hB
        simp (maxSteps := 1000000) (disch := (first | omega | (simp only [sz]; done) | (simp only [lz, Nat.reduceAdd, Nat.reduceLeDiff, Nat.le_refl]; done) | (simp only [sz]; omega))) only [↓xa, xb, xl, Option.bind_some, Option.map_some, implies_true, imp_self, true_and, and_true, if_true, if_false, decide_true, decide_false, Int.cast_ofNat_Int, Int.reduceLT, Int.reduceLE, Int.reduceEq, Nat.reduceAdd, Nat.reduceMul, Nat.reduceLeDiff, setL, bfill, eqV, lookRes, rV, rcells, rdC_blk ho3, h1, h2, h3]
        have x4 : Ext H3 (Array.setIfInBounds (H3.push (.cells #[.int .i64 0, .int .i64 0, .int .i64 0, .int .u64 0, .int .i64 0, .int .i64 0, .slice none 0 0, .slice none 0 0, .slice none 0 0])) H3.size (.cells #[.int .i64 x.me, .int .i64 x.masters, .int .i64 x.state, .int .u64 x.ballot, .int .i64 x.frm, .int .i64 x.next, wv, vv, pv])) := (by repeat' (first | with_reducible exact Upd.refl _ | with_reducible refine Upd.push ?_ _ | with_reducible refine Upd.set ?_ _ _ ?_ | exact .inl (by (first | omega | (simp only [sz]; done) | (simp only [lz, Nat.reduceAdd, Nat.reduceLeDiff, Nat.le_refl]; done) | (simp only [sz]; omega))) | exact .inr rfl | exact .inr (by simp; done)))
        have hs4 : (Array.setIfInBounds (H3.push (.cells #[.int .i64 0, .int .i64 0, .int .i64 0, .int .u64 0, .int .i64 0, .int .i64 0, .slice none 0 0, .slice none 0 0, .slice none 0 0])) H3.size (.cells #[.int .i64 x.me, .int .i64 x.masters, .int .i64 x.state, .int .u64 x.ballot, .int .i64 x.frm, .int .i64 x.next, wv, vv, pv]))[H3.size]? = some (.cells #[.int .i64 x.me, .int .i64 x.masters, .int .i64 x.state, .int .u64 x.ballot, .int .i64 x.frm, .int .i64 x.next, wv, vv, pv]) := (by simp (maxSteps := 1000000) (disch := (first | omega | (simp only [sz]; done) | (simp only [lz, Nat.reduceAdd, Nat.reduceLeDiff, Nat.le_refl]; done) | (simp only [sz]; omega))) only [g_push_lt, g_push_eq, g_set_eq, g_set_ne] <;> rfl)
        generalize Array.setIfInBounds (H3.push (.cells #[.int .i64 0, .int .i64 0, .int .i64 0, .int .u64 0, .int .i64 0, .int .i64 0, .slice none 0 0, .slice none 0 0, .slice none 0 0])) H3.size (.cells #[.int .i64 x.me, .int .i64 x.masters, .int .i64 x.state, .int .u64 x.ballot, .int .i64 x.frm, .int .i64 x.next, wv, vv, pv]) = H4 at *
        have x04 := x03.trans x4
        obtain ⟨cm, om, hpb⟩ := (G.ext x04).blk
        refine sp_lPromiseBad (x04.hB hB) hpb b w va hokc ?_
        intro H5 x5
        have hs5 := x5.get hs4 id
        have hz5 := (x4.trans x5).get hz3 id
        have lz5 := lt_of_get hz5
        simp (maxSteps := 1000000) (disch := (first | omega | (simp only [sz]; done) | (simp only [lz, Nat.reduceAdd, Nat.reduceLeDiff, Nat.le_refl]; done) | (simp only [sz]; omega))) only [↓xa, xb, xl, Option.bind_some, Option.map_some, implies_true, imp_self, true_and, and_true, if_true, if_false, decide_true, decide_false, Int.cast_ofNat_Int, Int.reduceLT, Int.reduceLE, Int.reduceEq, Nat.reduceAdd, Nat.reduceMul, Nat.reduceLeDiff, setL, bfill, eqV, lookRes, rdN_all hs5]
        refine sp_SameVotes Sl.nil Sl.nil (by simp) ?_
        rw [decide_eq_true rfl]
        simp (maxSteps := 1000000) (disch := (first | omega | (simp only [sz]; done) | (simp only [lz, Nat.reduceAdd, Nat.reduceLeDiff, Nat.le_refl]; done) | (simp only [sz]; omega))) only [↓xa, xb, xl, Option.bind_some, Option.map_some, implies_true, imp_self, true_and, and_true, if_true, if_false, decide_true, decide_false, Int.cast_ofNat_Int, Int.reduceLT, Int.reduceLE, Int.reduceEq, Nat.reduceAdd, Nat.reduceMul, Nat.reduceLeDiff, setL, bfill, eqV, lookRes, eq_self, rdN_all hs5, b_blk hz5, h1, h2, h3]
        exact same _ (by repeat' (first | with_reducible exact Upd.refl _ | with_reducible exact (x04.trans x5) | with_reducible refine Upd.push ?_ _ | with_reducible refine Upd.set ?_ _ _ ?_ | exact .inl (by (first | omega | (simp only [sz]; done) | (simp only [lz, Nat.reduceAdd, Nat.reduceLeDiff, Nat.le_refl]; done) | (simp only [sz]; omega))) | exact .inr rfl | exact .inr (by simp; done)))
      obtain ⟨i1, i2, i3⟩ := S.idle hokc.1.1
      subst i1
      subst i3
      rcases G2 with ⟨rc, ro, g1, g2, g3, g4, g5⟩ | ⟨_, _, _, g4⟩
      rotate_left
      · rw [hokc.1.1] at g4; cases g4
      have hopn : opn = [] := S.opn
      subst hopn
      have hnd : ws.Nodup := by have := S.co.keys; unfold keysOk at this; rw [S.keys] at this; exact this
      have hwho : ∀ k ∈ ws, 1 ≤ k ∧ k ≤ x.masters := fun k hk => S.co.who k (by rw [S.keys]; exact hk)
      have hkeys := fun a => cameP_keys S.co.keys S.keys w a
      have hcut := fun v' => cameP_cut (f := x.frm) S.co.keys S.keys S.cut w v' va vl
      have hvl' : ∀ a ∈ refVs ws vs w (va, vl), a.2.length ≤ 100000 := by
        intro a ha
        unfold refVs at ha
        split at ha
        · exact S.vl a ha
        · rcases List.mem_append.1 ha with ha | ha
          · exact S.vl a ha
          · rw [List.mem_singleton] at ha; subst ha; exact hol
      have hco' : ∀ v', CameOk x (cameP came w (v', cutV x.frm vl)) := fun v' => S.co.put hokc.2 (a := (v', cutV x.frm vl)) (fun v hv => by
        have := (List.mem_filter.1 hv).2
        simp [badSlot] at this
        omega) (Nat.le_trans (List.length_filter_le ..) hol)
      refine sp_r13Promise hBH (R.sw.ext xH) (R.sv.ext xH) (R.low.1.mono xH.1) (R.low.2.1.mono xH.1) S.len hnd hwho S.vl S.co.masters i2 S.co.frm hokc (ho.ext xH) hol ?_ ?_
      · intro hen H3 wv' vv' x3 sw' sv' nw nv
        have k1 := sl_one sw'
        have k2 := sl_one sv'
        have hr3 := x3.get hrH id
        have ho3 := x3.get hoH id
        have hz3 := x3.get hzH id
        have lz3 := lt_of_get hz3
        have lo3 := lt_of_get ho3
        have x03 := xH.trans x3
        have hB3 := x03.hB hB
        have R3 := R2.prom xH x3 hFH sw' sv' nw nv ho hoffF Sl.nil (ps' := []) (fun q hq => by cases hq) (fun b hb => by cases hb) (fun b _ e => by cases e)
        simp (maxSteps := 1000000) (disch := (first | omega | (simp only [sz]; done) | (simp only [lz, Nat.reduceAdd, Nat.reduceLeDiff, Nat.le_refl]; done) | (simp only [sz]; omega))) only [↓xa, xb, xl, Option.bind_some, Option.map_some, implies_true, imp_self, true_and, and_true, if_true, if_false, decide_true, decide_false, Int.cast_ofNat_Int, Int.reduceLT, Int.reduceLE, Int.reduceEq, Nat.reduceAdd, Nat.reduceMul, Nat.reduceLeDiff, setL, bfill, eqV, lookRes, rV, rcells, rdC_blk ho3, k1, k2]
        have x4 : Ext H3 (Array.setIfInBounds (H3.push (.cells #[.int .i64 0, .int .i64 0, .int .i64 0, .int .u64 0, .int .i64 0, .int .i64 0, .slice none 0 0, .slice none 0 0, .slice none 0 0])) H3.size (.cells #[.int .i64 x.me, .int .i64 x.masters, .int .i64 x.state, .int .u64 x.ballot, .int .i64 x.frm, .int .i64 x.next, wv', vv', .slice none 0 0])) := (by repeat' (first | with_reducible exact Upd.refl _ | with_reducible refine Upd.push ?_ _ | with_reducible refine Upd.set ?_ _ _ ?_ | exact .inl (by (first | omega | (simp only [sz]; done) | (simp only [lz, Nat.reduceAdd, Nat.reduceLeDiff, Nat.le_refl]; done) | (simp only [sz]; omega))) | exact .inr rfl | exact .inr (by simp; done)))
        have hs4 : (Array.setIfInBounds (H3.push (.cells #[.int .i64 0, .int .i64 0, .int .i64 0, .int .u64 0, .int .i64 0, .int .i64 0, .slice none 0 0, .slice none 0 0, .slice none 0 0])) H3.size (.cells #[.int .i64 x.me, .int .i64 x.masters, .int .i64 x.state, .int .u64 x.ballot, .int .i64 x.frm, .int .i64 x.next, wv', vv', .slice none 0 0]))[H3.size]? = some (.cells #[.int .i64 x.me, .int .i64 x.masters, .int .i64 x.state, .int .u64 x.ballot, .int .i64 x.frm, .int .i64 x.next, wv', vv', .slice none 0 0]) := (by simp (maxSteps := 1000000) (disch := (first | omega | (simp only [sz]; done) | (simp only [lz, Nat.reduceAdd, Nat.reduceLeDiff, Nat.le_refl]; done) | (simp only [sz]; omega))) only [g_push_lt, g_push_eq, g_set_eq, g_set_ne] <;> rfl)
        generalize Array.setIfInBounds (H3.push (.cells #[.int .i64 0, .int .i64 0, .int .i64 0, .int .u64 0, .int .i64 0, .int .i64 0, .slice none 0 0, .slice none 0 0, .slice none 0 0])) H3.size (.cells #[.int .i64 x.me, .int .i64 x.masters, .int .i64 x.state, .int .u64 x.ballot, .int .i64 x.frm, .int .i64 x.next, wv', vv', .slice none 0 0]) = H4 at *
        have x04 := x03.trans x4
        have hB4 := x04.hB hB
        have lrc := lt_of_get g3.came
        have lro := lt_of_get g3.opn
        have z4 := x04.1
        have hz4 := x4.get hz3 id
        have lz4 := lt_of_get hz4
        refine sp_lPromise hB4 (g3.ext x04) i2 ((g4 hokc.1.1).ext x04) S.co (fun e he b hb => by have k := g5 e he b hb; exact ⟨k.1, k.2.1, k.2.2.1⟩) hokc (ho.ext x04) hol ?_ ?_
        rotate_left
        · intro H5 v' w' came' he
          rw [hkeys, hen] at he
          cases he
        intro H5 v' came' he u5 hL5 hc5 hv5
        have ls4 := lt_of_get hs4
        have hs5 := u5.get hs4 (by have := x03.1; omega)
        have hz5 := u5.get hz4 (by omega)
        have lz5 := lt_of_get hz5
        simp (maxSteps := 1000000) (disch := (first | omega | (simp only [sz]; done) | (simp only [lz, Nat.reduceAdd, Nat.reduceLeDiff, Nat.le_refl]; done) | (simp only [sz]; omega))) only [↓xa, xb, xl, Option.bind_some, Option.map_some, implies_true, imp_self, true_and, and_true, if_true, if_false, decide_true, decide_false, Int.cast_ofNat_Int, Int.reduceLT, Int.reduceLE, Int.reduceEq, Nat.reduceAdd, Nat.reduceMul, Nat.reduceLeDiff, setL, bfill, eqV, lookRes, rdN_all hs5]
        refine sp_SameVotes Sl.nil Sl.nil (by simp) ?_
        rw [decide_eq_true rfl]
        simp (maxSteps := 1000000) (disch := (first | omega | (simp only [sz]; done) | (simp only [lz, Nat.reduceAdd, Nat.reduceLeDiff, Nat.le_refl]; done) | (simp only [sz]; omega))) only [↓xa, xb, xl, Option.bind_some, Option.map_some, implies_true, imp_self, true_and, and_true, if_true, if_false, decide_true, decide_false, Int.cast_ofNat_Int, Int.reduceLT, Int.reduceLE, Int.reduceEq, Nat.reduceAdd, Nat.reduceMul, Nat.reduceLeDiff, setL, bfill, eqV, lookRes, eq_self, rdN_all hs5, b_blk hz5, k1, k2]
        have U5 : Upd (Wr N p h) h H5 := x04.then u5 (fun r _ e => by change r = rc at e; subst e; exact ⟨g1, .inr ⟨_, g3.came⟩⟩)
        have R5 : RefL H5 F2 wv' vv' (.slice none 0 0) (refWs ws w) (refVs ws vs w (va, vl)) [] := (R3.ext x4).keep u5 (fun b hb => .inr (by change b = rc at hb; subst hb; exact ⟨_, (g3.ext x04).came⟩))
        have G5 : Prg H5 F2 N p x came' [] := .inl ⟨rc, ro, g1, g2, hL5, fun _ => hc5, fun e he b hb => by
          rcases mem_cameP he with he | rfl
          · have k := g5 e he b hb
            have := u5.1
            exact ⟨k.1, k.2.1, k.2.2.1, by omega, k.2.2.2.2⟩
          · have k := hv5 b hb
            refine ⟨by omega, by omega, by omega, k.2, fun hf => ?_⟩
            have := hFH b hf
            have := x3.1
            have := x4.1
            omega⟩
        rw [hF2] at R5 G5
        refine hK _ x wv' vv' (.slice none 0 0) (Two.set R5 G5 ?_ hNp hz5 (by omega)) rfl (Upd.set U5 _ _ (.inl (by omega)))
        exact ⟨hkeys _, hcut _, rfl, hco' _, hvl', fun q hq => (by cases hq), fun _ => ⟨rfl, i2, rfl⟩, List.Pairwise.nil, fun q hq => (by cases hq), by simp, S.next, S.bal, S.me⟩
      · intro best hen n' hm1 hm2 h512 H3 wv' vv' pv' wr x3 sw' sv' nw nv op or
        have hbest : best = rBestL (votesOf (risM ((refWs ws w).zip (refVs ws vs w (va, vl))) x.masters)) := rfl
        clear_value best
        have k1 := sl_one sw'
        have k2 := sl_one sv'
        have k3 := own_one op
        have hr3 := x3.get hrH id
        have ho3 := x3.get hoH id
        have hz3 := x3.get hzH id
        have lz3 := lt_of_get hz3
        have lo3 := lt_of_get ho3
        have x03 := xH.trans x3
        have hB3 := x03.hB hB
        have hbr : ∀ b, blk pv' = some b → H.size ≤ b ∧ b < H3.size := fun b hb => ⟨op.blk_ge hb, op.blk_lt hb⟩
        have R3 := R2.prom xH x3 hFH sw' sv' nw nv ho hoffF op.sl (fun q hq => fillR_who hq) (fun b hb => (hbr b hb).2) (fun b hb e => by have := hFH b hb; have := (hbr b e).1; omega)
        simp (maxSteps := 1000000) (disch := (first | omega | (simp only [sz]; done) | (simp only [lz, Nat.reduceAdd, Nat.reduceLeDiff, Nat.le_refl]; done) | (simp only [sz]; omega))) only [↓xa, xb, xl, Option.bind_some, Option.map_some, implies_true, imp_self, true_and, and_true, if_true, if_false, decide_true, decide_false, Int.cast_ofNat_Int, Int.reduceLT, Int.reduceLE, Int.reduceEq, Nat.reduceAdd, Nat.reduceMul, Nat.reduceLeDiff, setL, bfill, eqV, lookRes, rV, rcells, rdC_blk ho3, k1, k2, k3]
        have x4 : Ext H3 (Array.setIfInBounds (H3.push (.cells #[.int .i64 0, .int .i64 0, .int .i64 0, .int .u64 0, .int .i64 0, .int .i64 0, .slice none 0 0, .slice none 0 0, .slice none 0 0])) H3.size (.cells #[.int .i64 x.me, .int .i64 x.masters, .int .i64 2, .int .u64 x.ballot, .int .i64 x.frm, .int .i64 (x.frm + n'), wv', vv', pv'])) := (by repeat' (first | with_reducible exact Upd.refl _ | with_reducible refine Upd.push ?_ _ | with_reducible refine Upd.set ?_ _ _ ?_ | exact .inl (by (first | omega | (simp only [sz]; done) | (simp only [lz, Nat.reduceAdd, Nat.reduceLeDiff, Nat.le_refl]; done) | (simp only [sz]; omega))) | exact .inr rfl | exact .inr (by simp; done)))
        have hs4 : (Array.setIfInBounds (H3.push (.cells #[.int .i64 0, .int .i64 0, .int .i64 0, .int .u64 0, .int .i64 0, .int .i64 0, .slice none 0 0, .slice none 0 0, .slice none 0 0])) H3.size (.cells #[.int .i64 x.me, .int .i64 x.masters, .int .i64 2, .int .u64 x.ballot, .int .i64 x.frm, .int .i64 (x.frm + n'), wv', vv', pv']))[H3.size]? = some (.cells #[.int .i64 x.me, .int .i64 x.masters, .int .i64 2, .int .u64 x.ballot, .int .i64 x.frm, .int .i64 (x.frm + n'), wv', vv', pv']) := (by simp (maxSteps := 1000000) (disch := (first | omega | (simp only [sz]; done) | (simp only [lz, Nat.reduceAdd, Nat.reduceLeDiff, Nat.le_refl]; done) | (simp only [sz]; omega))) only [g_push_lt, g_push_eq, g_set_eq, g_set_ne] <;> rfl)
        generalize Array.setIfInBounds (H3.push (.cells #[.int .i64 0, .int .i64 0, .int .i64 0, .int .u64 0, .int .i64 0, .int .i64 0, .slice none 0 0, .slice none 0 0, .slice none 0 0])) H3.size (.cells #[.int .i64 x.me, .int .i64 x.masters, .int .i64 2, .int .u64 x.ballot, .int .i64 x.frm, .int .i64 (x.frm + n'), wv', vv', pv']) = H4 at *
        have x04 := x03.trans x4
        have hB4 := x04.hB hB
        have lrc := lt_of_get g3.came
        have lro := lt_of_get g3.opn
        have z4 := x04.1
        have hz4 := x4.get hz3 id
        have lz4 := lt_of_get hz4
        have hvc := fun v' => votes_cut (f := x.frm) (m := x.masters) (hkeys (v', cutV x.frm vl)) (hcut v') (hco' v').keys (fun k hk => (hco' v').who k hk)
        have hfn := fillN_eq (f := x.frm) (l := votesOf (risM ((refWs ws w).zip (refVs ws vs w (va, vl))) x.masters)) (n := n') (by rw [← hbest]; exact hm1) (by rw [← hbest]; exact hm2)
        have hfe := fill_eq (f := x.frm) (l := votesOf (risM ((refWs ws w).zip (refVs ws vs w (va, vl))) x.masters)) (n := n') h512
        rw [← hbest] at hfe
        have hpx : ∀ v', promX x (cameP came w (v', cutV x.frm vl)) = { x with state := 2, next := x.frm + n' } := fun v' => by unfold promX; rw [hvc v', hfn]
        have hpo : ∀ v', promO x (cameP came w (v', cutV x.frm vl)) = opnOf (fillR x.frm best n') := fun v' => by unfold promO; rw [hvc v', hfn, hfe]
        refine sp_lPromise hB4 (g3.ext x04) i2 ((g4 hokc.1.1).ext x04) S.co (fun e he b hb => by have k := g5 e he b hb; exact ⟨k.1, k.2.1, k.2.2.1⟩) hokc (ho.ext x04) hol ?_ ?_
        · intro H5 v' came' he
          rw [hkeys, hen] at he
          cases he
        intro H5 v' wq came' he u5 hL5 hv5 o5
        rw [hpx, hpo] at hL5 o5
        rw [openL_eq (fillR_up ..)] at o5
        have ls4 := lt_of_get hs4
        have hs5 := u5.get hs4 (by have := x03.1; omega)
        have hz5 := u5.get hz4 (by omega)
        have lz5 := lt_of_get hz5
        have or5 : Sl H5 6 vcells wr (openR { x with state := 2, next := x.frm + n' } (fillR x.frm best n')) := (or.ext x4).sl.upd u5 (fun b hb e => by have := or.blk_ge hb; have := xH.1; omega)
        simp (maxSteps := 1000000) (disch := (first | omega | (simp only [sz]; done) | (simp only [lz, Nat.reduceAdd, Nat.reduceLeDiff, Nat.le_refl]; done) | (simp only [sz]; omega))) only [↓xa, xb, xl, Option.bind_some, Option.map_some, implies_true, imp_self, true_and, and_true, if_true, if_false, decide_true, decide_false, Int.cast_ofNat_Int, Int.reduceLT, Int.reduceLE, Int.reduceEq, Nat.reduceAdd, Nat.reduceMul, Nat.reduceLeDiff, setL, bfill, eqV, lookRes, rdN_all hs5]
        refine sp_SameVotes o5.sl or5 (by have := S.co.frm; simp [openR, fillR]; omega) ?_
        rw [decide_eq_true rfl]
        simp (maxSteps := 1000000) (disch := (first | omega | (simp only [sz]; done) | (simp only [lz, Nat.reduceAdd, Nat.reduceLeDiff, Nat.le_refl]; done) | (simp only [sz]; omega))) only [↓xa, xb, xl, Option.bind_some, Option.map_some, implies_true, imp_self, true_and, and_true, if_true, if_false, decide_true, decide_false, Int.cast_ofNat_Int, Int.reduceLT, Int.reduceLE, Int.reduceEq, Nat.reduceAdd, Nat.reduceMul, Nat.reduceLeDiff, setL, bfill, eqV, lookRes, eq_self, rdN_all hs5, b_blk hz5, k1, k2, k3]
        have U5 : Upd (Wr N p h) h H5 := x04.then u5 (fun r _ e => by
          change r = p ∨ r = rc ∨ r = ro at e
          rcases e with e | e | e
          · subst e; exact ⟨hNp, .inl rfl⟩
          · subst e; exact ⟨g1, .inr ⟨_, g3.came⟩⟩
          · subst e; exact ⟨g2, .inr ⟨_, g3.opn⟩⟩)
        have R5 : RefL H5 F2 wv' vv' pv' (refWs ws w) (refVs ws vs w (va, vl)) (fillR x.frm best n') := (R3.ext x4).keep u5 (fun b hb => by
          change b = p ∨ b = rc ∨ b = ro at hb
          rcases hb with hb | hb | hb
          · subst hb; left; rw [hF2]; exact .inl rfl
          · subst hb; exact .inr ⟨_, (g3.ext x04).came⟩
          · subst hb; exact .inr ⟨_, (g3.ext x04).opn⟩)
        have G5 : Prg H5 F2 N p { x with state := 2, next := x.frm + n' } came' (opnOf (fillR x.frm best n')) := .inl ⟨rc, ro, g1, g2, hL5, fun h => absurd h (by show ¬ (2 : Int) = 1; decide), fun e he b hb => by
          rcases mem_cameP he with he | rfl
          · have k := g5 e he b hb
            have := u5.1
            exact ⟨k.1, k.2.1, k.2.2.1, by omega, k.2.2.2.2⟩
          · have k := hv5 b hb
            refine ⟨by omega, by omega, by omega, k.2, fun hf => ?_⟩
            have := hFH b hf
            have := x3.1
            have := x4.1
            omega⟩
        rw [hF2] at R5 G5
        refine hK _ { x with state := 2, next := x.frm + n' } wv' vv' pv' (Two.set R5 G5 ?_ hNp hz5 (by omega)) rfl (Upd.set U5 _ _ (.inl (by omega)))
        have hc' := hco' v'
        have hf0 := S.co.frm
        refine ⟨hkeys _, hcut _, rfl, ⟨hc'.keys, hc'.who, hc'.slots, hc'.len, hc'.masters, hc'.frm⟩, hvl', fun q hq => ?_, fun h => absurd h (by show ¬ (2 : Int) = 1; decide), fillR_up .., fun q hq => ?_, ?_, ?_, S.bal, S.me⟩
        · rw [fillR_who hq]; exact ⟨by simp, by simp⟩
        · unfold fillR at hq
          obtain ⟨j, hj, rfl⟩ := List.mem_map.1 hq
          rw [List.mem_range] at hj
          show 0 ≤ x.frm + (j : Int) ∧ x.frm + (j : Int) < x.frm + (n' : Int)
          omega
        · rw [fillR_len]; omega
        · show 0 ≤ x.frm + (n' : Int) ∧ x.frm + (n' : Int) ≤ 512
          omega
    have hqs : ∀ q ∈ ps, one q.who.1 = true := fun q hq => sl_one (R.sq q hq)
    by_cases k2 : kd = 2
    · simp (maxSteps := 1000000) (disch := (first | omega | (simp only [sz]; done) | (simp only [lz, Nat.reduceAdd, Nat.reduceLeDiff, Nat.le_refl]; done) | (simp only [sz]; omega))) only [↓xa, xb, xl, Option.bind_some, Option.map_some, implies_true, imp_self, true_and, and_true, if_true, if_false, decide_true, decide_false, Int.cast_ofNat_Int, Int.reduceLT, Int.reduceLE, Int.reduceEq, Nat.reduceAdd, Nat.reduceMul, Nat.reduceLeDiff, setL, bfill, eqV, lookRes, rdC_blk hoH, decide_eq_false k0, decide_eq_false k1, decide_eq_true k2, rdN_all hrH, rdN_of hoH, List.drop_succ_cons, List.drop_zero, List.take_succ_cons, List.take_zero]
      have hpl := S.plen
      refine sp_r13Propose hBH h1 h2 (R.sp.ext xH) hqs (by omega) S.next ⟨c1, c2, c3, c4⟩ hoe ?_ ?_
      · intro he H3 x3
        have hr3 := x3.get hrH id
        have ho3 := x3.get hoH id
        have hz3 := x3.get hzH id
        have lz3 := lt_of_get hz3
        have lo3 := lt_of_get ho3
        have x03 := xH.trans x3
        have hB3 := x03.hB hB
        have z3 := x3.1
        obtain ⟨e, hee⟩ : ∃ e, propR x ps ⟨c1, c2, c3, c4⟩ = e := ⟨_, rfl⟩
        rw [hee] at he ⊢
        simp (maxSteps := 1000000) (disch := (first | omega | (simp only [sz]; done) | (simp only [lz, Nat.reduceAdd, Nat.reduceLeDiff, Nat.le_refl]; done) | (simp only [sz]; omega))) only [↓xa, xb, xl, Option.bind_some, Option.map_some, implies_true, imp_self, true_and, and_true, if_true, if_false, decide_true, decide_false, Int.cast_ofNat_Int, Int.reduceLT, Int.reduceLE, Int.reduceEq, Nat.reduceAdd, Nat.reduceMul, Nat.reduceLeDiff, setL, bfill, eqV, lookRes, rV, rcells, voteV, vote0, cmd0, rdN_of ho3, h1, h2, h3, List.drop_succ_cons, List.drop_zero, List.take_succ_cons, List.take_zero]
        have x4 : Ext H3 ((((H3.push (.cells #[.int .i64 0, .int .i64 0, .int .i64 0, .int .u64 0, .int .i64 0, .int .i64 0, .slice none 0 0, .slice none 0 0, .slice none 0 0])).push (.cells #[.int .i64 0, .int .u64 0, .int .i64 0, .int .i64 0, .int .u64 0, .int .i64 0])).setIfInBounds H3.size (.cells #[.int .i64 x.me, .int .i64 x.masters, .int .i64 x.state, .int .u64 x.ballot, .int .i64 x.frm, .int .i64 x.next, wv, vv, pv])).setIfInBounds (H3.size + 1) (.cells #[.int .i64 0, .int .u64 0, .int .i64 0, .int .i64 0, .int .u64 0, .int .i64 0])) := (by repeat' (first | with_reducible exact Upd.refl _ | with_reducible refine Upd.push ?_ _ | with_reducible refine Upd.set ?_ _ _ ?_ | exact .inl (by (first | omega | (simp only [sz]; done) | (simp only [lz, Nat.reduceAdd, Nat.reduceLeDiff, Nat.le_refl]; done) | (simp only [sz]; omega))) | exact .inr rfl | exact .inr (by simp; done)))
        have hs4 : ((((H3.push (.cells #[.int .i64 0, .int .i64 0, .int .i64 0, .int .u64 0, .int .i64 0, .int .i64 0, .slice none 0 0, .slice none 0 0, .slice none 0 0])).push (.cells #[.int .i64 0, .int .u64 0, .int .i64 0, .int .i64 0, .int .u64 0, .int .i64 0])).setIfInBounds H3.size (.cells #[.int .i64 x.me, .int .i64 x.masters, .int .i64 x.state, .int .u64 x.ballot, .int .i64 x.frm, .int .i64 x.next, wv, vv, pv])).setIfInBounds (H3.size + 1) (.cells #[.int .i64 0, .int .u64 0, .int .i64 0, .int .i64 0, .int .u64 0, .int .i64 0]))[H3.size]? = some (.cells #[.int .i64 x.me, .int .i64 x.masters, .int .i64 x.state, .int .u64 x.ballot, .int .i64 x.frm, .int .i64 x.next, wv, vv, pv]) := (by simp (maxSteps := 1000000) (disch := (first | omega | (simp only [sz]; done) | (simp only [lz, Nat.reduceAdd, Nat.reduceLeDiff, Nat.le_refl]; done) | (simp only [sz]; omega))) only [g_push_lt, g_push_eq, g_set_eq, g_set_ne] <;> rfl)
        have hw4 : ((((H3.push (.cells #[.int .i64 0, .int .i64 0, .int .i64 0, .int .u64 0, .int .i64 0, .int .i64 0, .slice none 0 0, .slice none 0 0, .slice none 0 0])).push (.cells #[.int .i64 0, .int .u64 0, .int .i64 0, .int .i64 0, .int .u64 0, .int .i64 0])).setIfInBounds H3.size (.cells #[.int .i64 x.me, .int .i64 x.masters, .int .i64 x.state, .int .u64 x.ballot, .int .i64 x.frm, .int .i64 x.next, wv, vv, pv])).setIfInBounds (H3.size + 1) (.cells #[.int .i64 0, .int .u64 0, .int .i64 0, .int .i64 0, .int .u64 0, .int .i64 0]))[H3.size + 1]? = some (.cells #[.int .i64 0, .int .u64 0, .int .i64 0, .int .i64 0, .int .u64 0, .int .i64 0]) := (by simp (maxSteps := 1000000) (disch := (first | omega | (simp only [sz]; done) | (simp only [lz, Nat.reduceAdd, Nat.reduceLeDiff, Nat.le_refl]; done) | (simp only [sz]; omega))) only [g_push_lt, g_push_eq, g_set_eq, g_set_ne] <;> rfl)
        generalize (((H3.push (.cells #[.int .i64 0, .int .i64 0, .int .i64 0, .int .u64 0, .int .i64 0, .int .i64 0, .slice none 0 0, .slice none 0 0, .slice none 0 0])).push (.cells #[.int .i64 0, .int .u64 0, .int .i64 0, .int .i64 0, .int .u64 0, .int .i64 0])).setIfInBounds H3.size (.cells #[.int .i64 x.me, .int .i64 x.masters, .int .i64 x.state, .int .u64 x.ballot, .int .i64 x.frm, .int .i64 x.next, wv, vv, pv])).setIfInBounds (H3.size + 1) (.cells #[.int .i64 0, .int .u64 0, .int .i64 0, .int .i64 0, .int .u64 0, .int .i64 0]) = H4 at *
        have x04 := x03.trans x4
        have hB4 := x04.hB hB
        have prog : ∀ K', (∀ H5, Ext H4 H5 → K' (.tuple #[.agg #[.int .i64 0, .int .u64 0, .int .i64 0, .int .i64 0, .int .u64 0, .int .i64 0], .int .i64 e]) H5) → C_q58 [pt p 0, .agg #[.int .i64 c1, .int .i64 c2, .int .u64 c3, .int .i64 c4]] H4 K' := by
          intro K' hk
          by_cases hst : x.state = 2
          · rcases G2 with ⟨rc, ro, g1, g2, g3, g4, g5⟩ | ⟨_, _, _, g4⟩
            rotate_left
            · rw [hst] at g4; cases g4
            have hpe := prop_eq S.up S.next.2 ⟨c1, c2, c3, c4⟩
            rw [← S.opn, hee] at hpe
            refine sp_lPropose hB4 (g3.ext x04) S.fine S.next ⟨c1, c2, c3, c4⟩ (fun _ H5 x5 => ?_) (fun h0 => absurd (hpe.symm.trans h0) he)
            rw [hpe]
            exact hk H5 x5
          · obtain ⟨cm, om, hpb⟩ := (G.ext x04).blk
            have e12 : e = 12 := by rw [← hee]; unfold propR; rw [if_pos hst]
            subst e12
            exact sp_lProposeBad hB4 hpb ⟨c1, c2, c3, c4⟩ hst hk
        refine prog _ ?_
        intro H5 x5
        have hs5 := x5.get hs4 id
        have hw5 := x5.get hw4 id
        have hz5 := (x4.trans x5).get hz3 id
        have lz5 := lt_of_get hz5
        have ls5 := lt_of_get hs5
        have lw5 := lt_of_get hw5
        have hB5 := x5.hB hB4
        simp (maxSteps := 1000000) (disch := (first | omega | (simp only [sz]; done) | (simp only [lz, Nat.reduceAdd, Nat.reduceLeDiff, Nat.le_refl]; done) | (simp only [sz]; omega))) only [↓xa, xb, xl, Option.bind_some, Option.map_some, implies_true, imp_self, true_and, and_true, if_true, if_false, decide_true, decide_false, Int.cast_ofNat_Int, Int.reduceLT, Int.reduceLE, Int.reduceEq, Nat.reduceAdd, Nat.reduceMul, Nat.reduceLeDiff, setL, bfill, eqV, lookRes, rdN_all hs5, rdN_all hw5, eq_vote, eq_self, b_blk hz5, h1, h2, h3]
        exact same _ (by repeat' (first | with_reducible exact Upd.refl _ | with_reducible exact (x04.trans x5) | with_reducible refine Upd.push ?_ _ | with_reducible refine Upd.set ?_ _ _ ?_ | exact .inl (by (first | omega | (simp only [sz]; done) | (simp only [lz, Nat.reduceAdd, Nat.reduceLeDiff, Nat.le_refl]; done) | (simp only [sz]; omega))) | exact .inr rfl | exact .inr (by simp; done)))
      · intro he H3 pv' x3 op
        have hst : x.state = 2 := by
          unfold propR at he
          split at he
          · cases he
          · rename_i h; exact Decidable.not_not.1 h
        rcases G2 with ⟨rc, ro, g1, g2, g3, g4, g5⟩ | ⟨_, _, _, g4⟩
        rotate_left
        · rw [hst] at g4; cases g4
        have hr3 := x3.get hrH id
        have ho3 := x3.get hoH id
        have hz3 := x3.get hzH id
        have lz3 := lt_of_get hz3
        have lo3 := lt_of_get ho3
        have x03 := xH.trans x3
        have hB3 := x03.hB hB
        have z3 := x3.1
        have k3 := own_one op
        unfold voteV voteP
        simp (maxSteps := 1000000) (disch := (first | omega | (simp only [sz]; done) | (simp only [lz, Nat.reduceAdd, Nat.reduceLeDiff, Nat.le_refl]; done) | (simp only [sz]; omega))) only [↓xa, xb, xl, Option.bind_some, Option.map_some, implies_true, imp_self, true_and, and_true, if_true, if_false, decide_true, decide_false, Int.cast_ofNat_Int, Int.reduceLT, Int.reduceLE, Int.reduceEq, Nat.reduceAdd, Nat.reduceMul, Nat.reduceLeDiff, setL, bfill, eqV, lookRes, rV, rcells, layX, rdN_of ho3, h1, h2, k3, List.drop_succ_cons, List.drop_zero, List.take_succ_cons, List.take_zero]
        have x4 : Ext H3 ((((H3.push (.cells #[.int .i64 0, .int .i64 0, .int .i64 0, .int .u64 0, .int .i64 0, .int .i64 0, .slice none 0 0, .slice none 0 0, .slice none 0 0])).push (.cells #[.int .i64 0, .int .u64 0, .int .i64 0, .int .i64 0, .int .u64 0, .int .i64 0])).setIfInBounds H3.size (.cells #[.int .i64 x.me, .int .i64 x.masters, .int .i64 x.state, .int .u64 x.ballot, .int .i64 x.frm, .int .i64 (x.next + 1), wv, vv, pv'])).setIfInBounds (H3.size + 1) (.cells #[.int .i64 x.next, .int .u64 x.ballot, .int .i64 c1, .int .i64 c2, .int .u64 c3, .int .i64 c4])) := (by repeat' (first | with_reducible exact Upd.refl _ | with_reducible refine Upd.push ?_ _ | with_reducible refine Upd.set ?_ _ _ ?_ | exact .inl (by (first | omega | (simp only [sz]; done) | (simp only [lz, Nat.reduceAdd, Nat.reduceLeDiff, Nat.le_refl]; done) | (simp only [sz]; omega))) | exact .inr rfl | exact .inr (by simp; done)))
        have hs4 : ((((H3.push (.cells #[.int .i64 0, .int .i64 0, .int .i64 0, .int .u64 0, .int .i64 0, .int .i64 0, .slice none 0 0, .slice none 0 0, .slice none 0 0])).push (.cells #[.int .i64 0, .int .u64 0, .int .i64 0, .int .i64 0, .int .u64 0, .int .i64 0])).setIfInBounds H3.size (.cells #[.int .i64 x.me, .int .i64 x.masters, .int .i64 x.state, .int .u64 x.ballot, .int .i64 x.frm, .int .i64 (x.next + 1), wv, vv, pv'])).setIfInBounds (H3.size + 1) (.cells #[.int .i64 x.next, .int .u64 x.ballot, .int .i64 c1, .int .i64 c2, .int .u64 c3, .int .i64 c4]))[H3.size]? = some (.cells #[.int .i64 x.me, .int .i64 x.masters, .int .i64 x.state, .int .u64 x.ballot, .int .i64 x.frm, .int .i64 (x.next + 1), wv, vv, pv']) := (by simp (maxSteps := 1000000) (disch := (first | omega | (simp only [sz]; done) | (simp only [lz, Nat.reduceAdd, Nat.reduceLeDiff, Nat.le_refl]; done) | (simp only [sz]; omega))) only [g_push_lt, g_push_eq, g_set_eq, g_set_ne] <;> rfl)
        have hw4 : ((((H3.push (.cells #[.int .i64 0, .int .i64 0, .int .i64 0, .int .u64 0, .int .i64 0, .int .i64 0, .slice none 0 0, .slice none 0 0, .slice none 0 0])).push (.cells #[.int .i64 0, .int .u64 0, .int .i64 0, .int .i64 0, .int .u64 0, .int .i64 0])).setIfInBounds H3.size (.cells #[.int .i64 x.me, .int .i64 x.masters, .int .i64 x.state, .int .u64 x.ballot, .int .i64 x.frm, .int .i64 (x.next + 1), wv, vv, pv'])).setIfInBounds (H3.size + 1) (.cells #[.int .i64 x.next, .int .u64 x.ballot, .int .i64 c1, .int .i64 c2, .int .u64 c3, .int .i64 c4]))[H3.size + 1]? = some (.cells #[.int .i64 x.next, .int .u64 x.ballot, .int .i64 c1, .int .i64 c2, .int .u64 c3, .int .i64 c4]) := (by simp (maxSteps := 1000000) (disch := (first | omega | (simp only [sz]; done) | (simp only [lz, Nat.reduceAdd, Nat.reduceLeDiff, Nat.le_refl]; done) | (simp only [sz]; omega))) only [g_push_lt, g_push_eq, g_set_eq, g_set_ne] <;> rfl)
        generalize (((H3.push (.cells #[.int .i64 0, .int .i64 0, .int .i64 0, .int .u64 0, .int .i64 0, .int .i64 0, .slice none 0 0, .slice none 0 0, .slice none 0 0])).push (.cells #[.int .i64 0, .int .u64 0, .int .i64 0, .int .i64 0, .int .u64 0, .int .i64 0])).setIfInBounds H3.size (.cells #[.int .i64 x.me, .int .i64 x.masters, .int .i64 x.state, .int .u64 x.ballot, .int .i64 x.frm, .int .i64 (x.next + 1), wv, vv, pv'])).setIfInBounds (H3.size + 1) (.cells #[.int .i64 x.next, .int .u64 x.ballot, .int .i64 c1, .int .i64 c2, .int .u64 c3, .int .i64 c4]) = H4 at *
        have x04 := x03.trans x4
        have hB4 := x04.hB hB
        have hpe := prop_eq S.up S.next.2 ⟨c1, c2, c3, c4⟩
        rw [← S.opn, he] at hpe
        have lrc := lt_of_get g3.came
        have lro := lt_of_get g3.opn
        have z4 := x04.1
        refine sp_lPropose hB4 (g3.ext x04) S.fine S.next ⟨c1, c2, c3, c4⟩ (fun h => absurd hpe h) (fun _ => ?_)
        intro H5 u5 hL5
        have hz4 := x4.get hz3 id
        have lz4 := lt_of_get hz4
        have ls4 := lt_of_get hs4
        have lw4 := lt_of_get hw4
        have zz := x03.1
        have hs5 := u5.get hs4 (by omega)
        have hw5 := u5.get hw4 (by omega)
        have hz5 := u5.get hz4 (by omega)
        have lz5 := lt_of_get hz5
        have ls5 := lt_of_get hs5
        have lw5 := lt_of_get hw5
        have hB5 := u5.hB hB4
        unfold voteV voteP
        simp (maxSteps := 1000000) (disch := (first | omega | (simp only [sz]; done) | (simp only [lz, Nat.reduceAdd, Nat.reduceLeDiff, Nat.le_refl]; done) | (simp only [sz]; omega))) only [↓xa, xb, xl, Option.bind_some, Option.map_some, implies_true, imp_self, true_and, and_true, if_true, if_false, decide_true, decide_false, Int.cast_ofNat_Int, Int.reduceLT, Int.reduceLE, Int.reduceEq, Nat.reduceAdd, Nat.reduceMul, Nat.reduceLeDiff, setL, bfill, eqV, lookRes, rdN_all hs5, rdN_all hw5, eq_vote, eq_self, b_blk hz5, h1, h2, k3]
        have R3 : RefL H3 F2 wv vv pv' ws vs (ps ++ [newP x ⟨c1, c2, c3, c4⟩]) := by
          have r := R2.ext x03
          have hm : ∀ q ∈ ps ++ [newP x ⟨c1, c2, c3, c4⟩], q ∈ ps ∨ q.who = (.slice none 0 0, []) := fun q hq => by
            rcases List.mem_append.1 hq with hq | hq
            · exact .inl hq
            · rw [List.mem_singleton] at hq; subst hq; exact .inr rfl
          refine ⟨r.sw, r.sv, op.sl, fun q hq => ?_, ⟨r.low.1, r.low.2.1, fun b hb => op.blk_lt hb, fun q hq => ?_⟩, fun b hb => ⟨(r.off b hb).1, (r.off b hb).2.1, fun e => ?_, fun q hq => ?_, (r.off b hb).2.2.2.2⟩⟩
          · rcases hm q hq with hq | hq
            · exact r.sq q hq
            · rw [hq]; exact Sl.nil
          · rcases hm q hq with hq | hq
            · exact r.low.2.2.2 q hq
            · rw [hq]; intro b hb; cases hb
          · have := hFH b hb; have := op.blk_ge e; omega
          · rcases hm q hq with hq | hq
            · exact (r.off b hb).2.2.2.1 q hq
            · rw [hq]; intro e; cases e
        have U5 : Upd (Wr N p h) h H5 := x04.then u5 (fun r _ e => by
          change r = p ∨ r = ro at e
          rcases e with e | e
          · subst e; exact ⟨hNp, .inl rfl⟩
          · subst e; exact ⟨g2, .inr ⟨_, g3.opn⟩⟩)
        have R5 := (R3.ext x4).keep u5 (fun b hb => by
          change b = p ∨ b = ro at hb
          rcases hb with hb | hb
          · subst hb; left; rw [hF2]; exact .inl rfl
          · subst hb; exact .inr ⟨_, (g3.ext x04).opn⟩)
        have hos : mset opn x.next ⟨⟨c1, c2, c3, c4⟩, noneQ⟩ = opnOf (ps ++ [newP x ⟨c1, c2, c3, c4⟩]) := by
          rw [S.opn]
          exact opn_snoc (q := newP x ⟨c1, c2, c3, c4⟩) (fun q hq => (S.slots q hq).2)
        rw [hos] at hL5
        have G5 : Prg H5 F2 N p (layX x) came (opnOf (ps ++ [newP x ⟨c1, c2, c3, c4⟩])) := .inl ⟨rc, ro, g1, g2, hL5, fun h => absurd (h.symm.trans hst) (by decide), fun e he b hb => by
          have k := g5 e he b hb
          have := u5.1
          exact ⟨k.1, k.2.1, k.2.2.1, by omega, k.2.2.2.2⟩⟩
        rw [hF2] at R5 G5
        have u6 : Upd (fun b => H5.size ≤ b) H5 (Array.setIfInBounds (H5.push (.cells #[.int .i64 0, .int .u64 0, .int .i64 0, .int .i64 0, .int .u64 0, .int .i64 0])) H5.size (.cells #[.int .i64 x.next, .int .u64 x.ballot, .int .i64 c1, .int .i64 c2, .int .u64 c3, .int .i64 c4])) := Upd.set (Upd.push (Upd.refl _) _) _ _ (.inl (Nat.le_refl _))
        have x6 : Ext H5 (Array.setIfInBounds (H5.push (.cells #[.int .i64 0, .int .u64 0, .int .i64 0, .int .i64 0, .int .u64 0, .int .i64 0])) H5.size (.cells #[.int .i64 x.next, .int .u64 x.ballot, .int .i64 c1, .int .i64 c2, .int .u64 c3, .int .i64 c4])) := (by repeat' (first | with_reducible exact Upd.refl _ | with_reducible refine Upd.push ?_ _ | with_reducible refine Upd.set ?_ _ _ ?_ | exact .inl (by (first | omega | (simp only [sz]; done) | (simp only [lz, Nat.reduceAdd, Nat.reduceLeDiff, Nat.le_refl]; done) | (simp only [sz]; omega))) | exact .inr rfl | exact .inr (by simp; done)))
        have hfull : propR x ps ⟨c1, c2, c3, c4⟩ = 0 → ps.length < 8 ∧ x.next ≠ 512 := by
          intro h0
          unfold propR at h0
          rw [if_neg (by simpa using hst)] at h0
          split at h0
          · rename_i h; exact absurd h0 h
          · split at h0
            · cases h0
            · split at h0
              · cases h0
              · omega
        have hfull := hfull he
        refine hK _ (layX x) wv vv pv' (Two.set (R5.ext x6) (G5.ext x6) ?_ hNp (x6.get hz5 id) (by omega)) rfl (Upd.set (U5.trans x6.lift) _ _ (.inl (by omega)))
        have hc := S.co
        refine ⟨S.keys, S.cut, rfl, ⟨hc.keys, hc.who, hc.slots, hc.len, hc.masters, hc.frm⟩, S.vl, fun q hq => ?_, fun h => absurd (h.symm.trans hst) (by decide), S.up.snoc (fun q hq => (S.slots q hq).2), fun q hq => ?_, ?_, ?_, S.bal, S.me⟩
        · rcases List.mem_append.1 hq with hq | hq
          · have := S.who q hq; exact ⟨by omega, this.2⟩
          · rw [List.mem_singleton] at hq; subst hq; exact ⟨Nat.zero_le _, fun k hk => by cases hk⟩
        · show 0 ≤ q.slot ∧ q.slot < x.next + 1
          rcases List.mem_append.1 hq with hq | hq
          · have := S.slots q hq; omega
          · rw [List.mem_singleton] at hq; subst hq
            show 0 ≤ x.next ∧ x.next < x.next + 1
            have := S.next; omega
        · simp; omega
        · show 0 ≤ x.next + 1 ∧ x.next + 1 ≤ 512
          have := S.next; omega
    by_cases k3 : kd = 3
    · simp (maxSteps := 1000000) (disch := (first | omega | (simp only [sz]; done) | (simp only [lz, Nat.reduceAdd, Nat.reduceLeDiff, Nat.le_refl]; done) | (simp only [sz]; omega))) only [↓xa, xb, xl, Option.bind_some, Option.map_some, implies_true, imp_self, true_and, and_true, if_true, if_false, decide_true, decide_false, Int.cast_ofNat_Int, Int.reduceLT, Int.reduceLE, Int.reduceEq, Nat.reduceAdd, Nat.reduceMul, Nat.reduceLeDiff, setL, bfill, eqV, lookRes, rdC_blk hoH, decide_eq_false k0, decide_eq_false k1, decide_eq_false k2, decide_eq_true k3, rdN_all hrH]
      have hpl := S.plen
      by_cases hokc : (x.state = 2 ∧ x.ballot = b) ∧ 1 ≤ w ∧ w ≤ x.masters
      rotate_left
      · refine sp_r13AcceptedBad hBH h1 h2 h3 b n w hokc ?_
        intro H3 x3
        have hr3 := x3.get hrH id
        have ho3 := x3.get hoH id
        have hz3 := x3.get hzH id
        have lz3 := lt_of_get hz3
        have lo3 := lt_of_get ho3
        have x03 := xH.trans x3
        have hB3 := x03.hB hB
        have z3 := x3.1
        unfold voteV vote0 cmd0
        simp (maxSteps := 1000000) (disch := (first | omega | (simp only [sz]; done) | (simp only [lz, Nat.reduceAdd, Nat.reduceLeDiff, Nat.le_refl]; done) | (simp only [sz]; omega))) only [↓xa, xb, xl, Option.bind_some, Option.map_some, implies_true, imp_self, true_and, and_true, if_true, if_false, decide_true, decide_false, Int.cast_ofNat_Int, Int.reduceLT, Int.reduceLE, Int.reduceEq, Nat.reduceAdd, Nat.reduceMul, Nat.reduceLeDiff, setL, bfill, eqV, lookRes, rV, rcells, rdC_blk ho3, h1, h2, h3]
        have x4 : Ext H3 ((((H3.push (.cells #[.int .i64 0, .int .i64 0, .int .i64 0, .int .u64 0, .int .i64 0, .int .i64 0, .slice none 0 0, .slice none 0 0, .slice none 0 0])).push (.cells #[.int .i64 0, .int .u64 0, .int .i64 0, .int .i64 0, .int .u64 0, .int .i64 0])).setIfInBounds H3.size (.cells #[.int .i64 x.me, .int .i64 x.masters, .int .i64 x.state, .int .u64 x.ballot, .int .i64 x.frm, .int .i64 x.next, wv, vv, pv])).setIfInBounds (H3.size + 1) (.cells #[.int .i64 0, .int .u64 0, .int .i64 0, .int .i64 0, .int .u64 0, .int .i64 0])) := (by repeat' (first | with_reducible exact Upd.refl _ | with_reducible refine Upd.push ?_ _ | with_reducible refine Upd.set ?_ _ _ ?_ | exact .inl (by (first | omega | (simp only [sz]; done) | (simp only [lz, Nat.reduceAdd, Nat.reduceLeDiff, Nat.le_refl]; done) | (simp only [sz]; omega))) | exact .inr rfl | exact .inr (by simp; done)))
        have hs4 : ((((H3.push (.cells #[.int .i64 0, .int .i64 0, .int .i64 0, .int .u64 0, .int .i64 0, .int .i64 0, .slice none 0 0, .slice none 0 0, .slice none 0 0])).push (.cells #[.int .i64 0, .int .u64 0, .int .i64 0, .int .i64 0, .int .u64 0, .int .i64 0])).setIfInBounds H3.size (.cells #[.int .i64 x.me, .int .i64 x.masters, .int .i64 x.state, .int .u64 x.ballot, .int .i64 x.frm, .int .i64 x.next, wv, vv, pv])).setIfInBounds (H3.size + 1) (.cells #[.int .i64 0, .int .u64 0, .int .i64 0, .int .i64 0, .int .u64 0, .int .i64 0]))[H3.size]? = some (.cells #[.int .i64 x.me, .int .i64 x.masters, .int .i64 x.state, .int .u64 x.ballot, .int .i64 x.frm, .int .i64 x.next, wv, vv, pv]) := (by simp (maxSteps := 1000000) (disch := (first | omega | (simp only [sz]; done) | (simp only [lz, Nat.reduceAdd, Nat.reduceLeDiff, Nat.le_refl]; done) | (simp only [sz]; omega))) only [g_push_lt, g_push_eq, g_set_eq, g_set_ne] <;> rfl)
        have hw4 : ((((H3.push (.cells #[.int .i64 0, .int .i64 0, .int .i64 0, .int .u64 0, .int .i64 0, .int .i64 0, .slice none 0 0, .slice none 0 0, .slice none 0 0])).push (.cells #[.int .i64 0, .int .u64 0, .int .i64 0, .int .i64 0, .int .u64 0, .int .i64 0])).setIfInBounds H3.size (.cells #[.int .i64 x.me, .int .i64 x.masters, .int .i64 x.state, .int .u64 x.ballot, .int .i64 x.frm, .int .i64 x.next, wv, vv, pv])).setIfInBounds (H3.size + 1) (.cells #[.int .i64 0, .int .u64 0, .int .i64 0, .int .i64 0, .int .u64 0, .int .i64 0]))[H3.size + 1]? = some (.cells #[.int .i64 0, .int .u64 0, .int .i64 0, .int .i64 0, .int .u64 0, .int .i64 0]) := (by simp (maxSteps := 1000000) (disch := (first | omega | (simp only [sz]; done) | (simp only [lz, Nat.reduceAdd, Nat.reduceLeDiff, Nat.le_refl]; done) | (simp only [sz]; omega))) only [g_push_lt, g_push_eq, g_set_eq, g_set_ne] <;> rfl)
        generalize (((H3.push (.cells #[.int .i64 0, .int .i64 0, .int .i64 0, .int .u64 0, .int .i64 0, .int .i64 0, .slice none 0 0, .slice none 0 0, .slice none 0 0])).push (.cells #[.int .i64 0, .int .u64 0, .int .i64 0, .int .i64 0, .int .u64 0, .int .i64 0])).setIfInBounds H3.size (.cells #[.int .i64 x.me, .int .i64 x.masters, .int .i64 x.state, .int .u64 x.ballot, .int .i64 x.frm, .int .i64 x.next, wv, vv, pv])).setIfInBounds (H3.size + 1) (.cells #[.int .i64 0, .int .u64 0, .int .i64 0, .int .i64 0, .int .u64 0, .int .i64 0]) = H4 at *
        have x04 := x03.trans x4
        have hB4 := x04.hB hB
        have z4 := x04.1
        have hz4 := x4.get hz3 id
        have lz4 := lt_of_get hz4
        have ls4 := lt_of_get hs4
        have lw4 := lt_of_get hw4
        have zz := x03.1
        obtain ⟨cm, om, hpb⟩ := (G.ext x04).blk
        refine sp_lAcceptedBad hB4 hpb b n w hokc ?_
        intro H5 x5
        have hs5 := x5.get hs4 id
        have hw5 := x5.get hw4 id
        have hz5 := x5.get hz4 id
        have lz5 := lt_of_get hz5
        have ls5 := lt_of_get hs5
        have lw5 := lt_of_get hw5
        have hB5 := x5.hB hB4
        unfold voteV vote0 cmd0
        simp (maxSteps := 1000000) (disch := (first | omega | (simp only [sz]; done) | (simp only [lz, Nat.reduceAdd, Nat.reduceLeDiff, Nat.le_refl]; done) | (simp only [sz]; omega))) only [↓xa, xb, xl, Option.bind_some, Option.map_some, implies_true, imp_self, true_and, and_true, if_true, if_false, decide_true, decide_false, Int.cast_ofNat_Int, Int.reduceLT, Int.reduceLE, Int.reduceEq, Nat.reduceAdd, Nat.reduceMul, Nat.reduceLeDiff, setL, bfill, eqV, lookRes, rdN_all hs5, rdN_all hw5, eq_vote, eq_self, b_blk hz5, h1, h2, h3]
        exact same _ (by repeat' (first | with_reducible exact Upd.refl _ | with_reducible exact (x04.trans x5) | with_reducible refine Upd.push ?_ _ | with_reducible refine Upd.set ?_ _ _ ?_ | exact .inl (by (first | omega | (simp only [sz]; done) | (simp only [lz, Nat.reduceAdd, Nat.reduceLeDiff, Nat.le_refl]; done) | (simp only [sz]; omega))) | exact .inr rfl | exact .inr (by simp; done)))
      rcases G2 with ⟨rc, ro, g1, g2, g3, g4, g5⟩ | ⟨_, _, _, g4⟩
      rotate_left
      · rw [hokc.1.1] at g4; cases g4
      have hst := hokc.1.1
      have lrc := lt_of_get g3.came
      have lro := lt_of_get g3.opn
      have hopn := S.opn
      subst hopn
      refine sp_r13Accepted hBH h1 h2 (R.sp.ext xH) (fun q hq => ⟨(R.sq q hq).ext xH, by have := (S.who q hq).1; omega, (S.who q hq).2, (R.low.2.2.2 q hq).mono xH.1⟩) (by omega) S.co.masters hokc ?_ ?_ ?_
      · intro hnone H3 x3
        have hr3 := x3.get hrH id
        have ho3 := x3.get hoH id
        have hz3 := x3.get hzH id
        have lz3 := lt_of_get hz3
        have lo3 := lt_of_get ho3
        have x03 := xH.trans x3
        have hB3 := x03.hB hB
        have z3 := x3.1
        unfold voteV vote0 cmd0
        simp (maxSteps := 1000000) (disch := (first | omega | (simp only [sz]; done) | (simp only [lz, Nat.reduceAdd, Nat.reduceLeDiff, Nat.le_refl]; done) | (simp only [sz]; omega))) only [↓xa, xb, xl, Option.bind_some, Option.map_some, implies_true, imp_self, true_and, and_true, if_true, if_false, decide_true, decide_false, Int.cast_ofNat_Int, Int.reduceLT, Int.reduceLE, Int.reduceEq, Nat.reduceAdd, Nat.reduceMul, Nat.reduceLeDiff, setL, bfill, eqV, lookRes, rV, rcells, rdC_blk ho3, h1, h2, h3]
        have x4 : Ext H3 ((((H3.push (.cells #[.int .i64 0, .int .i64 0, .int .i64 0, .int .u64 0, .int .i64 0, .int .i64 0, .slice none 0 0, .slice none 0 0, .slice none 0 0])).push (.cells #[.int .i64 0, .int .u64 0, .int .i64 0, .int .i64 0, .int .u64 0, .int .i64 0])).setIfInBounds H3.size (.cells #[.int .i64 x.me, .int .i64 x.masters, .int .i64 x.state, .int .u64 x.ballot, .int .i64 x.frm, .int .i64 x.next, wv, vv, pv])).setIfInBounds (H3.size + 1) (.cells #[.int .i64 0, .int .u64 0, .int .i64 0, .int .i64 0, .int .u64 0, .int .i64 0])) := (by repeat' (first | with_reducible exact Upd.refl _ | with_reducible refine Upd.push ?_ _ | with_reducible refine Upd.set ?_ _ _ ?_ | exact .inl (by (first | omega | (simp only [sz]; done) | (simp only [lz, Nat.reduceAdd, Nat.reduceLeDiff, Nat.le_refl]; done) | (simp only [sz]; omega))) | exact .inr rfl | exact .inr (by simp; done)))
        have hs4 : ((((H3.push (.cells #[.int .i64 0, .int .i64 0, .int .i64 0, .int .u64 0, .int .i64 0, .int .i64 0, .slice none 0 0, .slice none 0 0, .slice none 0 0])).push (.cells #[.int .i64 0, .int .u64 0, .int .i64 0, .int .i64 0, .int .u64 0, .int .i64 0])).setIfInBounds H3.size (.cells #[.int .i64 x.me, .int .i64 x.masters, .int .i64 x.state, .int .u64 x.ballot, .int .i64 x.frm, .int .i64 x.next, wv, vv, pv])).setIfInBounds (H3.size + 1) (.cells #[.int .i64 0, .int .u64 0, .int .i64 0, .int .i64 0, .int .u64 0, .int .i64 0]))[H3.size]? = some (.cells #[.int .i64 x.me, .int .i64 x.masters, .int .i64 x.state, .int .u64 x.ballot, .int .i64 x.frm, .int .i64 x.next, wv, vv, pv]) := (by simp (maxSteps := 1000000) (disch := (first | omega | (simp only [sz]; done) | (simp only [lz, Nat.reduceAdd, Nat.reduceLeDiff, Nat.le_refl]; done) | (simp only [sz]; omega))) only [g_push_lt, g_push_eq, g_set_eq, g_set_ne] <;> rfl)
        have hw4 : ((((H3.push (.cells #[.int .i64 0, .int .i64 0, .int .i64 0, .int .u64 0, .int .i64 0, .int .i64 0, .slice none 0 0, .slice none 0 0, .slice none 0 0])).push (.cells #[.int .i64 0, .int .u64 0, .int .i64 0, .int .i64 0, .int .u64 0, .int .i64 0])).setIfInBounds H3.size (.cells #[.int .i64 x.me, .int .i64 x.masters, .int .i64 x.state, .int .u64 x.ballot, .int .i64 x.frm, .int .i64 x.next, wv, vv, pv])).setIfInBounds (H3.size + 1) (.cells #[.int .i64 0, .int .u64 0, .int .i64 0, .int .i64 0, .int .u64 0, .int .i64 0]))[H3.size + 1]? = some (.cells #[.int .i64 0, .int .u64 0, .int .i64 0, .int .i64 0, .int .u64 0, .int .i64 0]) := (by simp (maxSteps := 1000000) (disch := (first | omega | (simp only [sz]; done) | (simp only [lz, Nat.reduceAdd, Nat.reduceLeDiff, Nat.le_refl]; done) | (simp only [sz]; omega))) only [g_push_lt, g_push_eq, g_set_eq, g_set_ne] <;> rfl)
        generalize (((H3.push (.cells #[.int .i64 0, .int .i64 0, .int .i64 0, .int .u64 0, .int .i64 0, .int .i64 0, .slice none 0 0, .slice none 0 0, .slice none 0 0])).push (.cells #[.int .i64 0, .int .u64 0, .int .i64 0, .int .i64 0, .int .u64 0, .int .i64 0])).setIfInBounds H3.size (.cells #[.int .i64 x.me, .int .i64 x.masters, .int .i64 x.state, .int .u64 x.ballot, .int .i64 x.frm, .int .i64 x.next, wv, vv, pv])).setIfInBounds (H3.size + 1) (.cells #[.int .i64 0, .int .u64 0, .int .i64 0, .int .i64 0, .int .u64 0, .int .i64 0]) = H4 at *
        have x04 := x03.trans x4
        have hB4 := x04.hB hB
        have z4 := x04.1
        have hz4 := x4.get hz3 id
        have lz4 := lt_of_get hz4
        have ls4 := lt_of_get hs4
        have lw4 := lt_of_get hw4
        have zz := x03.1
        have hmg := opn_none hnone
        refine sp_lAccepted hB4 (g3.ext x04) S.co.masters b n w hokc (fun _ => ?_) (fun q hq => by rw [hmg] at hq; cases hq) (fun q hq => by rw [hmg] at hq; cases hq)
        intro H5 x5
        have hs5 := x5.get hs4 id
        have hw5 := x5.get hw4 id
        have hz5 := x5.get hz4 id
        have lz5 := lt_of_get hz5
        have ls5 := lt_of_get hs5
        have lw5 := lt_of_get hw5
        have hB5 := x5.hB hB4
        unfold voteV vote0 cmd0
        simp (maxSteps := 1000000) (disch := (first | omega | (simp only [sz]; done) | (simp only [lz, Nat.reduceAdd, Nat.reduceLeDiff, Nat.le_refl]; done) | (simp only [sz]; omega))) only [↓xa, xb, xl, Option.bind_some, Option.map_some, implies_true, imp_self, true_and, and_true, if_true, if_false, decide_true, decide_false, Int.cast_ofNat_Int, Int.reduceLT, Int.reduceLE, Int.reduceEq, Nat.reduceAdd, Nat.reduceMul, Nat.reduceLeDiff, setL, bfill, eqV, lookRes, rdN_all hs5, rdN_all hw5, eq_vote, eq_self, b_blk hz5, h1, h2, h3]
        exact same _ (by repeat' (first | with_reducible exact Upd.refl _ | with_reducible exact (x04.trans x5) | with_reducible refine Upd.push ?_ _ | with_reducible refine Upd.set ?_ _ _ ?_ | exact .inl (by (first | omega | (simp only [sz]; done) | (simp only [lz, Nat.reduceAdd, Nat.reduceLeDiff, Nat.le_refl]; done) | (simp only [sz]; omega))) | exact .inr rfl | exact .inr (by simp; done)))
      · intro i hi hs hpre r hr hrl hen H3 pv' rv x3 op sr hrv
        have k3 := own_one op
        have hr3 := x3.get hrH id
        have ho3 := x3.get hoH id
        have hz3 := x3.get hzH id
        have lz3 := lt_of_get hz3
        have lo3 := lt_of_get ho3
        have x03 := xH.trans x3
        have hB3 := x03.hB hB
        have z3 := x3.1
        unfold voteV vote0 cmd0
        simp (maxSteps := 1000000) (disch := (first | omega | (simp only [sz]; done) | (simp only [lz, Nat.reduceAdd, Nat.reduceLeDiff, Nat.le_refl]; done) | (simp only [sz]; omega))) only [↓xa, xb, xl, Option.bind_some, Option.map_some, implies_true, imp_self, true_and, and_true, if_true, if_false, decide_true, decide_false, Int.cast_ofNat_Int, Int.reduceLT, Int.reduceLE, Int.reduceEq, Nat.reduceAdd, Nat.reduceMul, Nat.reduceLeDiff, setL, bfill, eqV, lookRes, rV, rcells, rdC_blk ho3, h1, h2, k3]
        have x4 : Ext H3 ((((H3.push (.cells #[.int .i64 0, .int .i64 0, .int .i64 0, .int .u64 0, .int .i64 0, .int .i64 0, .slice none 0 0, .slice none 0 0, .slice none 0 0])).push (.cells #[.int .i64 0, .int .u64 0, .int .i64 0, .int .i64 0, .int .u64 0, .int .i64 0])).setIfInBounds H3.size (.cells #[.int .i64 x.me, .int .i64 x.masters, .int .i64 x.state, .int .u64 x.ballot, .int .i64 x.frm, .int .i64 x.next, wv, vv, pv'])).setIfInBounds (H3.size + 1) (.cells #[.int .i64 0, .int .u64 0, .int .i64 0, .int .i64 0, .int .u64 0, .int .i64 0])) := (by repeat' (first | with_reducible exact Upd.refl _ | with_reducible refine Upd.push ?_ _ | with_reducible refine Upd.set ?_ _ _ ?_ | exact .inl (by (first | omega | (simp only [sz]; done) | (simp only [lz, Nat.reduceAdd, Nat.reduceLeDiff, Nat.le_refl]; done) | (simp only [sz]; omega))) | exact .inr rfl | exact .inr (by simp; done)))
        have hs4 : ((((H3.push (.cells #[.int .i64 0, .int .i64 0, .int .i64 0, .int .u64 0, .int .i64 0, .int .i64 0, .slice none 0 0, .slice none 0 0, .slice none 0 0])).push (.cells #[.int .i64 0, .int .u64 0, .int .i64 0, .int .i64 0, .int .u64 0, .int .i64 0])).setIfInBounds H3.size (.cells #[.int .i64 x.me, .int .i64 x.masters, .int .i64 x.state, .int .u64 x.ballot, .int .i64 x.frm, .int .i64 x.next, wv, vv, pv'])).setIfInBounds (H3.size + 1) (.cells #[.int .i64 0, .int .u64 0, .int .i64 0, .int .i64 0, .int .u64 0, .int .i64 0]))[H3.size]? = some (.cells #[.int .i64 x.me, .int .i64 x.masters, .int .i64 x.state, .int .u64 x.ballot, .int .i64 x.frm, .int .i64 x.next, wv, vv, pv']) := (by simp (maxSteps := 1000000) (disch := (first | omega | (simp only [sz]; done) | (simp only [lz, Nat.reduceAdd, Nat.reduceLeDiff, Nat.le_refl]; done) | (simp only [sz]; omega))) only [g_push_lt, g_push_eq, g_set_eq, g_set_ne] <;> rfl)
        have hw4 : ((((H3.push (.cells #[.int .i64 0, .int .i64 0, .int .i64 0, .int .u64 0, .int .i64 0, .int .i64 0, .slice none 0 0, .slice none 0 0, .slice none 0 0])).push (.cells #[.int .i64 0, .int .u64 0, .int .i64 0, .int .i64 0, .int .u64 0, .int .i64 0])).setIfInBounds H3.size (.cells #[.int .i64 x.me, .int .i64 x.masters, .int .i64 x.state, .int .u64 x.ballot, .int .i64 x.frm, .int .i64 x.next, wv, vv, pv'])).setIfInBounds (H3.size + 1) (.cells #[.int .i64 0, .int .u64 0, .int .i64 0, .int .i64 0, .int .u64 0, .int .i64 0]))[H3.size + 1]? = some (.cells #[.int .i64 0, .int .u64 0, .int .i64 0, .int .i64 0, .int .u64 0, .int .i64 0]) := (by simp (maxSteps := 1000000) (disch := (first | omega | (simp only [sz]; done) | (simp only [lz, Nat.reduceAdd, Nat.reduceLeDiff, Nat.le_refl]; done) | (simp only [sz]; omega))) only [g_push_lt, g_push_eq, g_set_eq, g_set_ne] <;> rfl)
        generalize (((H3.push (.cells #[.int .i64 0, .int .i64 0, .int .i64 0, .int .u64 0, .int .i64 0, .int .i64 0, .slice none 0 0, .slice none 0 0, .slice none 0 0])).push (.cells #[.int .i64 0, .int .u64 0, .int .i64 0, .int .i64 0, .int .u64 0, .int .i64 0])).setIfInBounds H3.size (.cells #[.int .i64 x.me, .int .i64 x.masters, .int .i64 x.state, .int .u64 x.ballot, .int .i64 x.frm, .int .i64 x.next, wv, vv, pv'])).setIfInBounds (H3.size + 1) (.cells #[.int .i64 0, .int .u64 0, .int .i64 0, .int .i64 0, .int .u64 0, .int .i64 0]) = H4 at *
        have x04 := x03.trans x4
        have hB4 := x04.hB hB
        have z4 := x04.1
        have hz4 := x4.get hz3 id
        have lz4 := lt_of_get hz4
        have ls4 := lt_of_get hs4
        have lw4 := lt_of_get hw4
        have zz := x03.1
        have hmg : mget (opnOf ps) n = some ⟨(nth ps i).cmd, memQ (nth ps i).who.2⟩ := by unfold mget; rw [opn_find hi hs hpre]; rfl
        have hmq := memQ_with hr
        refine sp_lAccepted hB4 (g3.ext x04) S.co.masters b n w hokc (fun h => by rw [hmg] at h; cases h) ?_ ?_
        rotate_left
        · intro q hq he
          rw [hmg] at hq
          cases hq
          rw [← hmq, hen] at he
          cases he
        intro q hq he H5 u5 hL5
        rw [hmg] at hq
        cases hq
        have hos : mset (opnOf ps) n (accW ⟨(nth ps i).cmd, memQ (nth ps i).who.2⟩ w) = opnOf (ps.set i (whoP (nth ps i) rv r)) := by
          rw [← opn_set hi hs hpre (rv := rv) (r := r), hmq]
          rfl
        rw [hos] at hL5
        have hs5 := u5.get hs4 (by omega)
        have hw5 := u5.get hw4 (by omega)
        have hz5 := u5.get hz4 (by omega)
        have lz5 := lt_of_get hz5
        have ls5 := lt_of_get hs5
        have lw5 := lt_of_get hw5
        have hB5 := u5.hB hB4
        unfold voteV vote0 cmd0
        simp (maxSteps := 1000000) (disch := (first | omega | (simp only [sz]; done) | (simp only [lz, Nat.reduceAdd, Nat.reduceLeDiff, Nat.le_refl]; done) | (simp only [sz]; omega))) only [↓xa, xb, xl, Option.bind_some, Option.map_some, implies_true, imp_self, true_and, and_true, if_true, if_false, decide_true, decide_false, Int.cast_ofNat_Int, Int.reduceLT, Int.reduceLE, Int.reduceEq, Nat.reduceAdd, Nat.reduceMul, Nat.reduceLeDiff, setL, bfill, eqV, lookRes, rdN_all hs5, rdN_all hw5, eq_vote, eq_self, b_blk hz5, h1, h2, k3]
        have hmem := nth_mem hi
        have R3 : RefL H3 F2 wv vv pv' ws vs (ps.set i (whoP (nth ps i) rv r)) := by
          have r3 := R2.ext x03
          refine ⟨r3.sw, r3.sv, op.sl, fun q hq => ?_, ⟨r3.low.1, r3.low.2.1, fun b hb => op.blk_lt hb, fun q hq => ?_⟩, fun b hb => ⟨(r3.off b hb).1, (r3.off b hb).2.1, fun e => ?_, fun q hq => ?_, (r3.off b hb).2.2.2.2⟩⟩
          · rcases List.mem_or_eq_of_mem_set hq with hq | hq
            · exact r3.sq q hq
            · rw [hq]; exact sr
          · rcases List.mem_or_eq_of_mem_set hq with hq | hq
            · exact r3.low.2.2.2 q hq
            · rw [hq]; intro b hb
              rcases hrv b hb with h | h
              · exact h.2
              · exact r3.low.2.2.2 _ hmem b h
          · have := hFH b hb; have := op.blk_ge e; omega
          · rcases List.mem_or_eq_of_mem_set hq with hq | hq
            · exact (r3.off b hb).2.2.2.1 q hq
            · rw [hq]; intro e
              rcases hrv b e with h | h
              · have := hFH b hb; omega
              · exact (r3.off b hb).2.2.2.1 _ hmem h
        have U5 : Upd (Wr N p h) h H5 := x04.then u5 (fun r _ e => by change r = ro at e; subst e; exact ⟨g2, .inr ⟨_, g3.opn⟩⟩)
        have R5 := (R3.ext x4).keep u5 (fun b hb => by change b = ro at hb; subst hb; exact .inr ⟨_, (g3.ext x04).opn⟩)
        have G5 : Prg H5 F2 N p x came (opnOf (ps.set i (whoP (nth ps i) rv r))) := .inl ⟨rc, ro, g1, g2, hL5, fun h => absurd (h.symm.trans hst) (by decide), fun e he b hb => by
          have k := g5 e he b hb
          have := u5.1
          exact ⟨k.1, k.2.1, k.2.2.1, by omega, k.2.2.2.2⟩⟩
        rw [hF2] at R5 G5
        have x6 : Ext H5 (Array.setIfInBounds (H5.push (.cells #[.int .i64 0, .int .u64 0, .int .i64 0, .int .i64 0, .int .u64 0, .int .i64 0])) H5.size (.cells #[.int .i64 0, .int .u64 0, .int .i64 0, .int .i64 0, .int .u64 0, .int .i64 0])) := (by repeat' (first | with_reducible exact Upd.refl _ | with_reducible refine Upd.push ?_ _ | with_reducible refine Upd.set ?_ _ _ ?_ | exact .inl (by (first | omega | (simp only [sz]; done) | (simp only [lz, Nat.reduceAdd, Nat.reduceLeDiff, Nat.le_refl]; done) | (simp only [sz]; omega))) | exact .inr rfl | exact .inr (by simp; done)))
        refine hK _ x wv vv pv' (Two.set (R5.ext x6) (G5.ext x6) ?_ hNp (x6.get hz5 id) (by omega)) rfl (Upd.set (U5.trans x6.lift) _ _ (.inl (by omega)))
        refine ⟨S.keys, S.cut, rfl, S.co, S.vl, fun q hq => ?_, fun h => absurd (h.symm.trans hst) (by decide), S.up.set hi, fun q hq => ?_, by simpa using hpl, S.next, S.bal, S.me⟩
        · rcases List.mem_or_eq_of_mem_set hq with hq | hq
          · have := S.who q hq; exact ⟨by omega, this.2⟩
          · rw [hq]
            have := S.who _ hmem
            refine ⟨by show r.length ≤ n0 + 1; omega, fun k hk => ?_⟩
            rcases (hr k).1 hk with hk | hk
            · exact this.2 k hk
            · rw [hk]; have := S.co.masters; exact isM_of hokc.2.1 (by omega)
        · rcases List.mem_or_eq_of_mem_set hq with hq | hq
          · exact S.slots q hq
          · rw [hq]; exact S.slots (nth ps i) hmem
      · intro i hi hs hpre r hr hen H3 pv' x3 op
        have k3 := own_one op
        obtain ⟨⟨c1', c2', c3', c4'⟩, hcc⟩ : ∃ c, (nth ps i).cmd = c := ⟨_, rfl⟩
        rw [hcc]
        have hr3 := x3.get hrH id
        have ho3 := x3.get hoH id
        have hz3 := x3.get hzH id
        have lz3 := lt_of_get hz3
        have lo3 := lt_of_get ho3
        have x03 := xH.trans x3
        have hB3 := x03.hB hB
        have z3 := x3.1
        unfold voteV voteP
        simp (maxSteps := 1000000) (disch := (first | omega | (simp only [sz]; done) | (simp only [lz, Nat.reduceAdd, Nat.reduceLeDiff, Nat.le_refl]; done) | (simp only [sz]; omega))) only [↓xa, xb, xl, Option.bind_some, Option.map_some, implies_true, imp_self, true_and, and_true, if_true, if_false, decide_true, decide_false, Int.cast_ofNat_Int, Int.reduceLT, Int.reduceLE, Int.reduceEq, Nat.reduceAdd, Nat.reduceMul, Nat.reduceLeDiff, setL, bfill, eqV, lookRes, rV, rcells, rdC_blk ho3, h1, h2, k3]
        have x4 : Ext H3 ((((H3.push (.cells #[.int .i64 0, .int .i64 0, .int .i64 0, .int .u64 0, .int .i64 0, .int .i64 0, .slice none 0 0, .slice none 0 0, .slice none 0 0])).push (.cells #[.int .i64 0, .int .u64 0, .int .i64 0, .int .i64 0, .int .u64 0, .int .i64 0])).setIfInBounds H3.size (.cells #[.int .i64 x.me, .int .i64 x.masters, .int .i64 x.state, .int .u64 x.ballot, .int .i64 x.frm, .int .i64 x.next, wv, vv, pv'])).setIfInBounds (H3.size + 1) (.cells #[.int .i64 n, .int .u64 x.ballot, .int .i64 c1', .int .i64 c2', .int .u64 c3', .int .i64 c4'])) := (by repeat' (first | with_reducible exact Upd.refl _ | with_reducible refine Upd.push ?_ _ | with_reducible refine Upd.set ?_ _ _ ?_ | exact .inl (by (first | omega | (simp only [sz]; done) | (simp only [lz, Nat.reduceAdd, Nat.reduceLeDiff, Nat.le_refl]; done) | (simp only [sz]; omega))) | exact .inr rfl | exact .inr (by simp; done)))
        have hs4 : ((((H3.push (.cells #[.int .i64 0, .int .i64 0, .int .i64 0, .int .u64 0, .int .i64 0, .int .i64 0, .slice none 0 0, .slice none 0 0, .slice none 0 0])).push (.cells #[.int .i64 0, .int .u64 0, .int .i64 0, .int .i64 0, .int .u64 0, .int .i64 0])).setIfInBounds H3.size (.cells #[.int .i64 x.me, .int .i64 x.masters, .int .i64 x.state, .int .u64 x.ballot, .int .i64 x.frm, .int .i64 x.next, wv, vv, pv'])).setIfInBounds (H3.size + 1) (.cells #[.int .i64 n, .int .u64 x.ballot, .int .i64 c1', .int .i64 c2', .int .u64 c3', .int .i64 c4']))[H3.size]? = some (.cells #[.int .i64 x.me, .int .i64 x.masters, .int .i64 x.state, .int .u64 x.ballot, .int .i64 x.frm, .int .i64 x.next, wv, vv, pv']) := (by simp (maxSteps := 1000000) (disch := (first | omega | (simp only [sz]; done) | (simp only [lz, Nat.reduceAdd, Nat.reduceLeDiff, Nat.le_refl]; done) | (simp only [sz]; omega))) only [g_push_lt, g_push_eq, g_set_eq, g_set_ne] <;> rfl)
        have hw4 : ((((H3.push (.cells #[.int .i64 0, .int .i64 0, .int .i64 0, .int .u64 0, .int .i64 0, .int .i64 0, .slice none 0 0, .slice none 0 0, .slice none 0 0])).push (.cells #[.int .i64 0, .int .u64 0, .int .i64 0, .int .i64 0, .int .u64 0, .int .i64 0])).setIfInBounds H3.size (.cells #[.int .i64 x.me, .int .i64 x.masters, .int .i64 x.state, .int .u64 x.ballot, .int .i64 x.frm, .int .i64 x.next, wv, vv, pv'])).setIfInBounds (H3.size + 1) (.cells #[.int .i64 n, .int .u64 x.ballot, .int .i64 c1', .int .i64 c2', .int .u64 c3', .int .i64 c4']))[H3.size + 1]? = some (.cells #[.int .i64 n, .int .u64 x.ballot, .int .i64 c1', .int .i64 c2', .int .u64 c3', .int .i64 c4']) := (by simp (maxSteps := 1000000) (disch := (first | omega | (simp only [sz]; done) | (simp only [lz, Nat.reduceAdd, Nat.reduceLeDiff, Nat.le_refl]; done) | (simp only [sz]; omega))) only [g_push_lt, g_push_eq, g_set_eq, g_set_ne] <;> rfl)
        generalize (((H3.push (.cells #[.int .i64 0, .int .i64 0, .int .i64 0, .int .u64 0, .int .i64 0, .int .i64 0, .slice none 0 0, .slice none 0 0, .slice none 0 0])).push (.cells #[.int .i64 0, .int .u64 0, .int .i64 0, .int .i64 0, .int .u64 0, .int .i64 0])).setIfInBounds H3.size (.cells #[.int .i64 x.me, .int .i64 x.masters, .int .i64 x.state, .int .u64 x.ballot, .int .i64 x.frm, .int .i64 x.next, wv, vv, pv'])).setIfInBounds (H3.size + 1) (.cells #[.int .i64 n, .int .u64 x.ballot, .int .i64 c1', .int .i64 c2', .int .u64 c3', .int .i64 c4']) = H4 at *
        have x04 := x03.trans x4
        have hB4 := x04.hB hB
        have z4 := x04.1
        have hz4 := x4.get hz3 id
        have lz4 := lt_of_get hz4
        have ls4 := lt_of_get hs4
        have lw4 := lt_of_get hw4
        have zz := x03.1
        have hmg : mget (opnOf ps) n = some ⟨(nth ps i).cmd, memQ (nth ps i).who.2⟩ := by unfold mget; rw [opn_find hi hs hpre]; rfl
        have hmq := memQ_with hr
        refine sp_lAccepted hB4 (g3.ext x04) S.co.masters b n w hokc (fun h => by rw [hmg] at h; cases h) ?_ ?_
        · intro q hq he
          rw [hmg] at hq
          cases hq
          rw [← hmq, hen] at he
          cases he
        intro q hq he H5 u5 hL5
        rw [hmg] at hq
        cases hq
        have hos : mdel (mset (opnOf ps) n (accW ⟨(nth ps i).cmd, memQ (nth ps i).who.2⟩ w)) n = opnOf (ps.eraseIdx i) := by
          rw [← opn_del hi hs hpre (r := r), hmq]
          rfl
        rw [hos] at hL5
        rw [hcc]
        have hs5 := u5.get hs4 (by omega)
        have hw5 := u5.get hw4 (by omega)
        have hz5 := u5.get hz4 (by omega)
        have lz5 := lt_of_get hz5
        have ls5 := lt_of_get hs5
        have lw5 := lt_of_get hw5
        have hB5 := u5.hB hB4
        unfold voteV voteP
        simp (maxSteps := 1000000) (disch := (first | omega | (simp only [sz]; done) | (simp only [lz, Nat.reduceAdd, Nat.reduceLeDiff, Nat.le_refl]; done) | (simp only [sz]; omega))) only [↓xa, xb, xl, Option.bind_some, Option.map_some, implies_true, imp_self, true_and, and_true, if_true, if_false, decide_true, decide_false, Int.cast_ofNat_Int, Int.reduceLT, Int.reduceLE, Int.reduceEq, Nat.reduceAdd, Nat.reduceMul, Nat.reduceLeDiff, setL, bfill, eqV, lookRes, rdN_all hs5, rdN_all hw5, eq_vote, eq_self, b_blk hz5, h1, h2, k3]
        have hsub : ∀ q ∈ ps.eraseIdx i, q ∈ ps := fun q hq => List.mem_of_mem_eraseIdx hq
        have R3 : RefL H3 F2 wv vv pv' ws vs (ps.eraseIdx i) := by
          have r3 := R2.ext x03
          exact ⟨r3.sw, r3.sv, op.sl, fun q hq => r3.sq q (hsub q hq), ⟨r3.low.1, r3.low.2.1, fun b hb => op.blk_lt hb, fun q hq => r3.low.2.2.2 q (hsub q hq)⟩, fun b hb => ⟨(r3.off b hb).1, (r3.off b hb).2.1, fun e => by have := hFH b hb; have := op.blk_ge e; omega, fun q hq => (r3.off b hb).2.2.2.1 q (hsub q hq), (r3.off b hb).2.2.2.2⟩⟩
        have U5 : Upd (Wr N p h) h H5 := x04.then u5 (fun r _ e => by change r = ro at e; subst e; exact ⟨g2, .inr ⟨_, g3.opn⟩⟩)
        have R5 := (R3.ext x4).keep u5 (fun b hb => by change b = ro at hb; subst hb; exact .inr ⟨_, (g3.ext x04).opn⟩)
        have G5 : Prg H5 F2 N p x came (opnOf (ps.eraseIdx i)) := .inl ⟨rc, ro, g1, g2, hL5, fun h => absurd (h.symm.trans hst) (by decide), fun e he b hb => by
          have k := g5 e he b hb
          have := u5.1
          exact ⟨k.1, k.2.1, k.2.2.1, by omega, k.2.2.2.2⟩⟩
        rw [hF2] at R5 G5
        have x6 : Ext H5 (Array.setIfInBounds (H5.push (.cells #[.int .i64 0, .int .u64 0, .int .i64 0, .int .i64 0, .int .u64 0, .int .i64 0])) H5.size (.cells #[.int .i64 n, .int .u64 x.ballot, .int .i64 c1', .int .i64 c2', .int .u64 c3', .int .i64 c4'])) := (by repeat' (first | with_reducible exact Upd.refl _ | with_reducible refine Upd.push ?_ _ | with_reducible refine Upd.set ?_ _ _ ?_ | exact .inl (by (first | omega | (simp only [sz]; done) | (simp only [lz, Nat.reduceAdd, Nat.reduceLeDiff, Nat.le_refl]; done) | (simp only [sz]; omega))) | exact .inr rfl | exact .inr (by simp; done)))
        refine hK _ x wv vv pv' (Two.set (R5.ext x6) (G5.ext x6) ?_ hNp (x6.get hz5 id) (by omega)) rfl (Upd.set (U5.trans x6.lift) _ _ (.inl (by omega)))
        refine ⟨S.keys, S.cut, rfl, S.co, S.vl, fun q hq => ?_, fun h => absurd (h.symm.trans hst) (by decide), S.up.erase i, fun q hq => S.slots q (hsub q hq), ?_, S.next, S.bal, S.me⟩
        · have := S.who q (hsub q hq); exact ⟨by omega, this.2⟩
        · have := List.length_eraseIdx_le ps i; omega
    simp (maxSteps := 1000000) (disch := (first | omega | (simp only [sz]; done) | (simp only [lz, Nat.reduceAdd, Nat.reduceLeDiff, Nat.le_refl]; done) | (simp only [sz]; omega))) only [↓xa, xb, xl, Option.bind_some, Option.map_some, implies_true, imp_self, true_and, and_true, if_true, if_false, decide_true, decide_false, Int.cast_ofNat_Int, Int.reduceLT, Int.reduceLE, Int.reduceEq, Nat.reduceAdd, Nat.reduceMul, Nat.reduceLeDiff, setL, bfill, eqV, lookRes, rdC_blk hoH, decide_eq_false k0, decide_eq_false k1, decide_eq_false k2, decide_eq_false k3, rdN_all hrH]
    refine sp_r13Refuse hBH h1 h2 h3 b ?_ ?_
    · intro he H3 x3
      have hr3 := x3.get hrH id
      have ho3 := x3.get hoH id
      have hz3 := x3.get hzH id
      have lz3 := lt_of_get hz3
      have lo3 := lt_of_get ho3
      have x03 := xH.trans x3
      have hB3 := x03.hB hB
      simp (maxSteps := 1000000) (disch := (first | omega | (simp only [sz]; done) | (simp only [lz, Nat.reduceAdd, Nat.reduceLeDiff, Nat.le_refl]; done) | (simp only [sz]; omega))) only [↓xa, xb, xl, Option.bind_some, Option.map_some, implies_true, imp_self, true_and, and_true, if_true, if_false, decide_true, decide_false, Int.cast_ofNat_Int, Int.reduceLT, Int.reduceLE, Int.reduceEq, Nat.reduceAdd, Nat.reduceMul, Nat.reduceLeDiff, setL, bfill, eqV, lookRes, rV, rcells, rdC_blk ho3, h1, h2, h3]
      have x4 : Ext H3 (Array.setIfInBounds (H3.push (.cells #[.int .i64 0, .int .i64 0, .int .i64 0, .int .u64 0, .int .i64 0, .int .i64 0, .slice none 0 0, .slice none 0 0, .slice none 0 0])) H3.size (.cells #[.int .i64 x.me, .int .i64 x.masters, .int .i64 x.state, .int .u64 x.ballot, .int .i64 x.frm, .int .i64 x.next, wv, vv, pv])) := (by repeat' (first | with_reducible exact Upd.refl _ | with_reducible refine Upd.push ?_ _ | with_reducible refine Upd.set ?_ _ _ ?_ | exact .inl (by (first | omega | (simp only [sz]; done) | (simp only [lz, Nat.reduceAdd, Nat.reduceLeDiff, Nat.le_refl]; done) | (simp only [sz]; omega))) | exact .inr rfl | exact .inr (by simp; done)))
      have hs4 : (Array.setIfInBounds (H3.push (.cells #[.int .i64 0, .int .i64 0, .int .i64 0, .int .u64 0, .int .i64 0, .int .i64 0, .slice none 0 0, .slice none 0 0, .slice none 0 0])) H3.size (.cells #[.int .i64 x.me, .int .i64 x.masters, .int .i64 x.state, .int .u64 x.ballot, .int .i64 x.frm, .int .i64 x.next, wv, vv, pv]))[H3.size]? = some (.cells #[.int .i64 x.me, .int .i64 x.masters, .int .i64 x.state, .int .u64 x.ballot, .int .i64 x.frm, .int .i64 x.next, wv, vv, pv]) := (by simp (maxSteps := 1000000) (disch := (first | omega | (simp only [sz]; done) | (simp only [lz, Nat.reduceAdd, Nat.reduceLeDiff, Nat.le_refl]; done) | (simp only [sz]; omega))) only [g_push_lt, g_push_eq, g_set_eq, g_set_ne] <;> rfl)
      generalize Array.setIfInBounds (H3.push (.cells #[.int .i64 0, .int .i64 0, .int .i64 0, .int .u64 0, .int .i64 0, .int .i64 0, .slice none 0 0, .slice none 0 0, .slice none 0 0])) H3.size (.cells #[.int .i64 x.me, .int .i64 x.masters, .int .i64 x.state, .int .u64 x.ballot, .int .i64 x.frm, .int .i64 x.next, wv, vv, pv]) = H4 at *
      have x04 := x03.trans x4
      obtain ⟨cm, om, hpb⟩ := (G.ext x04).blk
      have hz4 := x4.get hz3 id
      have lz4 := lt_of_get hz4
      have ho4 := x4.get ho3 id
      refine sp_lRefuseNo hpb b he ?_
      simp (maxSteps := 1000000) (disch := (first | omega | (simp only [sz]; done) | (simp only [lz, Nat.reduceAdd, Nat.reduceLeDiff, Nat.le_refl]; done) | (simp only [sz]; omega))) only [↓xa, xb, xl, Option.bind_some, Option.map_some, implies_true, imp_self, true_and, and_true, if_true, if_false, decide_true, decide_false, Int.cast_ofNat_Int, Int.reduceLT, Int.reduceLE, Int.reduceEq, Nat.reduceAdd, Nat.reduceMul, Nat.reduceLeDiff, setL, bfill, eqV, lookRes, eq_self, rdN_all hs4, b_blk hz4, rdC_blk ho4, h1, h2, h3]
      exact same _ (by repeat' (first | with_reducible exact Upd.refl _ | with_reducible exact x04 | with_reducible refine Upd.push ?_ _ | with_reducible refine Upd.set ?_ _ _ ?_ | exact .inl (by (first | omega | (simp only [sz]; done) | (simp only [lz, Nat.reduceAdd, Nat.reduceLeDiff, Nat.le_refl]; done) | (simp only [sz]; omega))) | exact .inr rfl | exact .inr (by simp; done)))
    · intro he H3 x3
      rcases G2 with ⟨rc, ro, g1, g2, g3, g4, g5⟩ | ⟨_, _, _, g4⟩
      rotate_left
      · unfold refuseB at he; rw [decide_eq_true_eq] at he; exact absurd g4 he.1
      have hr3 := x3.get hrH id
      have ho3 := x3.get hoH id
      have hz3 := x3.get hzH id
      have lz3 := lt_of_get hz3
      have lo3 := lt_of_get ho3
      have x03 := xH.trans x3
      have hB3 := x03.hB hB
      simp (maxSteps := 1000000) (disch := (first | omega | (simp only [sz]; done) | (simp only [lz, Nat.reduceAdd, Nat.reduceLeDiff, Nat.le_refl]; done) | (simp only [sz]; omega))) only [↓xa, xb, xl, Option.bind_some, Option.map_some, implies_true, imp_self, true_and, and_true, if_true, if_false, decide_true, decide_false, Int.cast_ofNat_Int, Int.reduceLT, Int.reduceLE, Int.reduceEq, Nat.reduceAdd, Nat.reduceMul, Nat.reduceLeDiff, setL, bfill, eqV, lookRes, rV, rcells, rdC_blk ho3]
      have x4 : Ext H3 (Array.setIfInBounds (H3.push (.cells #[.int .i64 0, .int .i64 0, .int .i64 0, .int .u64 0, .int .i64 0, .int .i64 0, .slice none 0 0, .slice none 0 0, .slice none 0 0])) H3.size (.cells #[.int .i64 x.me, .int .i64 x.masters, .int .i64 0, .int .u64 x.ballot, .int .i64 x.frm, .int .i64 x.next, .slice none 0 0, .slice none 0 0, .slice none 0 0])) := (by repeat' (first | with_reducible exact Upd.refl _ | with_reducible refine Upd.push ?_ _ | with_reducible refine Upd.set ?_ _ _ ?_ | exact .inl (by (first | omega | (simp only [sz]; done) | (simp only [lz, Nat.reduceAdd, Nat.reduceLeDiff, Nat.le_refl]; done) | (simp only [sz]; omega))) | exact .inr rfl | exact .inr (by simp; done)))
      have hs4 : (Array.setIfInBounds (H3.push (.cells #[.int .i64 0, .int .i64 0, .int .i64 0, .int .u64 0, .int .i64 0, .int .i64 0, .slice none 0 0, .slice none 0 0, .slice none 0 0])) H3.size (.cells #[.int .i64 x.me, .int .i64 x.masters, .int .i64 0, .int .u64 x.ballot, .int .i64 x.frm, .int .i64 x.next, .slice none 0 0, .slice none 0 0, .slice none 0 0]))[H3.size]? = some (.cells #[.int .i64 x.me, .int .i64 x.masters, .int .i64 0, .int .u64 x.ballot, .int .i64 x.frm, .int .i64 x.next, .slice none 0 0, .slice none 0 0, .slice none 0 0]) := (by simp (maxSteps := 1000000) (disch := (first | omega | (simp only [sz]; done) | (simp only [lz, Nat.reduceAdd, Nat.reduceLeDiff, Nat.le_refl]; done) | (simp only [sz]; omega))) only [g_push_lt, g_push_eq, g_set_eq, g_set_ne] <;> rfl)
      generalize Array.setIfInBounds (H3.push (.cells #[.int .i64 0, .int .i64 0, .int .i64 0, .int .u64 0, .int .i64 0, .int .i64 0, .slice none 0 0, .slice none 0 0, .slice none 0 0])) H3.size (.cells #[.int .i64 x.me, .int .i64 x.masters, .int .i64 0, .int .u64 x.ballot, .int .i64 x.frm, .int .i64 x.next, .slice none 0 0, .slice none 0 0, .slice none 0 0]) = H4 at *
      have x04 := x03.trans x4
      have hB4 := x04.hB hB
      have z4 := x04.1
      have zz := x03.1
      have hz4 := x4.get hz3 id
      have lz4 := lt_of_get hz4
      have ls4 := lt_of_get hs4
      have ho4 := x4.get ho3 id
      have lrc := lt_of_get g3.came
      have lro := lt_of_get g3.opn
      refine sp_lRefuse hB4 (g3.ext x04) b (fun h => by rw [he] at h; cases h) (fun _ => ?_)
      intro H5 u5 hL5
      have hs5 := u5.get hs4 (by omega)
      have hz5 := u5.get hz4 (by omega)
      have ho5 := u5.get ho4 (by omega)
      have lz5 := lt_of_get hz5
      simp (maxSteps := 1000000) (disch := (first | omega | (simp only [sz]; done) | (simp only [lz, Nat.reduceAdd, Nat.reduceLeDiff, Nat.le_refl]; done) | (simp only [sz]; omega))) only [↓xa, xb, xl, Option.bind_some, Option.map_some, implies_true, imp_self, true_and, and_true, if_true, if_false, decide_true, decide_false, Int.cast_ofNat_Int, Int.reduceLT, Int.reduceLE, Int.reduceEq, Nat.reduceAdd, Nat.reduceMul, Nat.reduceLeDiff, setL, bfill, eqV, lookRes, eq_self, rdN_all hs5, b_blk hz5, rdC_blk ho5]
      have U5 : Upd (Wr N p h) h H5 := x04.then u5 (fun r _ e => by
        change r = p ∨ r = rc ∨ r = ro at e
        rcases e with e | e | e
        · subst e; exact ⟨hNp, .inl rfl⟩
        · subst e; exact ⟨g1, .inr ⟨_, g3.came⟩⟩
        · subst e; exact ⟨g2, .inr ⟨_, g3.opn⟩⟩)
      have R5 : RefL H5 F2 (.slice none 0 0) (.slice none 0 0) (.slice none 0 0) [] [] [] := ⟨Sl.nil, ⟨Sl.nil, fun a ha => (by cases ha)⟩, Sl.nil, fun q hq => (by cases hq), ⟨fun b hb => (by cases hb), fun b hb => (by cases hb), fun b hb => (by cases hb), fun q hq => (by cases hq)⟩, fun b _ => ⟨by simp [blk], by simp [blk], by simp [blk], fun q hq => (by cases hq), fun a ha => (by cases ha)⟩⟩
      have G5 : Prg H5 F2 N p { x with state := 0 } [] [] := .inl ⟨rc, ro, g1, g2, hL5, fun _ e he => (by cases he), fun e he => (by cases he)⟩
      rw [hF2] at R5 G5
      refine hK _ { x with state := 0 } _ _ _ (Two.set R5 G5 ?_ hNp hz5 (by omega)) rfl (Upd.set U5 _ _ (.inl (by omega)))
      exact ⟨rfl, rfl, rfl, CameOk.nil S.co.masters S.co.frm, fun a ha => (by cases ha), fun q hq => (by cases hq), fun h => absurd h (by show ¬ (0 : Int) = 1; decide), List.Pairwise.nil, fun q hq => (by cases hq), by simp, S.next, S.bal, S.me⟩
  cases ow with
  | true =>
    simp (maxSteps := 1000000) (disch := (first | omega | (simp only [sz]; done) | (simp only [lz, Nat.reduceAdd, Nat.reduceLeDiff, Nat.le_refl]; done) | (simp only [sz]; omega))) only [↓xa, xb, xl, Option.bind_some, Option.map_some, implies_true, imp_self, true_and, and_true, if_true, if_false, decide_true, decide_false, Int.cast_ofNat_Int, Int.reduceLT, Int.reduceLE, Int.reduceEq, Nat.reduceAdd, Nat.reduceMul, Nat.reduceLeDiff, setL, bfill, eqV, lookRes, rdC_blk ho2, rdC_blk hr2, b_blk ho2, hva]
    refine after _ x.ballot _ S.bal (by repeat' (first | with_reducible exact Upd.refl _ | with_reducible exact x2 | with_reducible refine Upd.push ?_ _ | with_reducible refine Upd.set ?_ _ _ ?_ | exact .inl (by (first | omega | (simp only [sz]; done) | (simp only [lz, Nat.reduceAdd, Nat.reduceLeDiff, Nat.le_refl]; done) | (simp only [sz]; omega))) | exact .inr rfl | exact .inr (by simp; done))) ?_ (g_set_eq lo2 rfl) ?_
    · rw [g_set_ne (by omega)]; exact hr2
    · rw [g_set_ne (by omega)]; exact hz2
  | false =>
    simp (maxSteps := 1000000) (disch := (first | omega | (simp only [sz]; done) | (simp only [lz, Nat.reduceAdd, Nat.reduceLeDiff, Nat.le_refl]; done) | (simp only [sz]; omega))) only [↓xa, xb, xl, Option.bind_some, Option.map_some, implies_true, imp_self, true_and, and_true, if_true, if_false, decide_true, decide_false, Int.cast_ofNat_Int, Int.reduceLT, Int.reduceLE, Int.reduceEq, Nat.reduceAdd, Nat.reduceMul, Nat.reduceLeDiff, setL, bfill, eqV, lookRes, rdC_blk ho2]
    exact after H2 b0 _ hob x2 hr2 ho2 hz2
end Go.Proofs.Ytdolepapmpcpiaa

