/- A leader is what the chapter says: LeadPlays returns true for every master, every number of masters and every list of calls, without any condition. -/
import Derived.Test.YtdolepapmpcpiaaLp0
import Derived.Test.YtdolepapmpcpiaaLp1
import Derived.Test.YtdolepapmpcpiaaLp2
import Derived.Test.YtdolepapmpcpiaaLp3
import Derived.Test.YtdolepapmpcpiaaLp4
import Derived.Test.YtdolepapmpcpiaaLp5
import Derived.Test.YtdolepapmpcpiaaLp6
import Derived.Test.YtdolepapmpcpiaaLp7
import Derived.Test.YtdolepapmpcpiaaLp8
import Derived.Test.YtdolepapmpcpiaaLp9
import Derived.Test.YtdolepapmpcpiaaLp10
import Derived.Test.YtdolepapmpcpiaaLp11
import Derived.Test.YtdolepapmpcpiaaLp12
import Derived.Test.YtdolepapmpcpiaaLp13
import Derived.Test.YtdolepapmpcpiaaLp14
import Derived.Test.YtdolepapmpcpiaaLp15
import Derived.Test.YtdolepapmpcpiaaRows
namespace Go.Proofs.Ytdolepapmpcpiaa
open Go Go.RowKit Go.Maps Go.Shelf
open Go.ChangeShapes Go.WideShapes
set_option linter.unusedSectionVars false
set_option linter.unusedVariables false
set_option linter.unusedSimpArgs false
set_option maxRecDepth 10000
section
variable [Base]
theorem o13cells_len (o : Op13) : (o13cells o).length = 10 := rfl
instance : Inhabited Op13 := ⟨⟨0, false, 0, 0, 0, (undef, []), cmd0⟩⟩
theorem Two.wide {h : Hp} {F : Nat → Prop} {N p n : Nat} {x : LS} {wv vv pv : Value} (a : Two h F N p n x wv vv pv) : Two h (fun b => F b ∨ b = h.size) N p n x wv vv pv := by
  obtain ⟨⟨ws, vs, ps, came, opn, r, g, s⟩, np⟩ := a
  refine ⟨⟨ws, vs, ps, came, opn, r.wide.less ?_, g.wide.less ?_, s⟩, np⟩
  · rintro b (hb | hb | hb)
    · exact .inl (.inl hb)
    · exact .inl (.inr hb)
    · exact .inr (by omega)
  · rintro b (hb | hb)
    · exact .inl hb
    · exact .inr (by omega)
theorem Two.less {h : Hp} {F G : Nat → Prop} {N p n : Nat} {x : LS} {wv vv pv : Value} (a : Two h F N p n x wv vv pv) (hG : ∀ b, G b → F b) : Two h G N p n x wv vv pv := by
  obtain ⟨⟨ws, vs, ps, came, opn, r, g, s⟩, np⟩ := a
  exact ⟨⟨ws, vs, ps, came, opn, r.less (fun b hb => hb.imp id (hG b)), g.less hG, s⟩, np⟩
theorem Two.write {h : Hp} {F : Nat → Prop} {N p n : Nat} {x : LS} {wv vv pv : Value} (a : Two h F N p n x wv vv pv) {r : Nat} {c c' : Array Value} (hr : h[r]? = some (.cells c)) (hp : r ≠ p) (hF : F r) : Two (h.setIfInBounds r (.cells c')) F N p n x wv vv pv := by
  obtain ⟨⟨ws, vs, ps, came, opn, R, G, s⟩, np⟩ := a
  have u : Upd (fun b => b = r) h (h.setIfInBounds r (.cells c')) := (by repeat' (first | with_reducible exact Upd.refl _ | with_reducible refine Upd.push ?_ _ | with_reducible refine Upd.set ?_ _ _ ?_ | exact .inl (by (first | omega | (simp only [sz]; done) | (simp only [lz, Nat.reduceAdd, Nat.reduceLeDiff, Nat.le_refl]; done) | (simp only [sz]; omega))) | exact .inr rfl | exact .inr (by simp; done)))
  exact ⟨⟨ws, vs, ps, came, opn, R.keep u (fun b hb => .inl (.inr (by change b = r at hb; rw [hb]; exact hF))), G.set hr hp hF, s⟩, np⟩
/-- A block of cells that is not the leader's stays. -/
theorem Upd.cells {N p : Nat} {h h' : Hp} (u : Upd (Wr N p h) h h') {r : Nat} {c : Array Value} (e : h[r]? = some (.cells c)) (hp : r ≠ p) : h'[r]? = some (.cells c) :=
  u.get e (by rintro ⟨_, h1 | ⟨m, h1⟩⟩; exact hp h1; rw [e] at h1; cases h1)
theorem sp_openTwo {h : Hp} (hB : Base.b ≤ h.size) {F : Nat → Prop} {N p n : Nat} {x : LS} {ws : List Int} {vs : List LV} {ps : List RP} {pv : Value} {came : List (Int × LV)} {opn : List (Int × Prp)} (G : Prg h F N p x came opn) (S : Same n x ws vs ps pv came opn) {K : Kont}
    (hK : ∀ v h', Ext h h' → Own h' h.size 6 vcells v (openR x ps) → K v h') : C_q94 [pt p 0] h K := by
  have e := openL_eq (x := x) S.up
  rcases G with ⟨rc, ro, g1, g2, g3, g4, g5⟩ | ⟨g1, g2, g3, g4⟩
  · refine sp_lOpen hB g3 S.fine ?_
    rw [S.opn, e]
    exact hK
  · refine sp_lOpen0 hB g1 ?_
    have : ps = [] := by
      have h1 := S.opn
      rw [g3] at h1
      exact List.map_eq_nil_iff.1 h1.symm
    rw [this] at hK
    exact hK
set_option maxHeartbeats 8000000 in
theorem sp_LeadPlays {h : Hp} (hB : Base.b ≤ h.size) (me m : Int) {a : Value} {l : List Op13} (hS : Sl h 10 o13cells a l) (hok : ∀ o ∈ l, Sl h 6 vcells o.votes.1 o.votes.2 ∧ u64ok o.ballot ∧ 0 ≤ o.cmd.epoch) (hme : i64ok me) {K : Kont} (hK : ∀ h', Ext h h' → K (.bool true) h') :
    C_q108 [.int .i64 me, .int .i64 m, a] h K := by
  refine ok_q108 ?_
  unfold G_q108
  by_cases hr : 1 ≤ m ∧ m ≤ 5 ∧ 1 ≤ me ∧ me ≤ m
  rotate_left
  · refine sp_lNew hB me m (fun _ => ?_) (fun hb => absurd hb hr)
    (try simp (maxSteps := 1000000) (disch := (first | omega | (simp only [sz]; done) | (simp only [lz, Nat.reduceAdd, Nat.reduceLeDiff, Nat.le_refl]; done) | (simp only [sz]; omega))) only [↓xa, xb, xl, Option.bind_some, Option.map_some, implies_true, imp_self, true_and, and_true, if_true, if_false, decide_true, decide_false, Int.cast_ofNat_Int, Int.reduceLT, Int.reduceLE, Int.reduceEq, Nat.reduceAdd, Nat.reduceMul, Nat.reduceLeDiff, setL, bfill, eqV, lookRes])
    refine sp_rRight me m ?_
    simp (maxSteps := 1000000) (disch := (first | omega | (simp only [sz]; done) | (simp only [lz, Nat.reduceAdd, Nat.reduceLeDiff, Nat.le_refl]; done) | (simp only [sz]; omega))) only [↓xa, xb, xl, Option.bind_some, Option.map_some, implies_true, imp_self, true_and, and_true, if_true, if_false, decide_true, decide_false, Int.cast_ofNat_Int, Int.reduceLT, Int.reduceLE, Int.reduceEq, Nat.reduceAdd, Nat.reduceMul, Nat.reduceLeDiff, setL, bfill, eqV, lookRes, decide_eq_false hr]
    refine sp_lawake hB ?_
    intro h2 x2
    (try simp (maxSteps := 1000000) (disch := (first | omega | (simp only [sz]; done) | (simp only [lz, Nat.reduceAdd, Nat.reduceLeDiff, Nat.le_refl]; done) | (simp only [sz]; omega))) only [↓xa, xb, xl, Option.bind_some, Option.map_some, implies_true, imp_self, true_and, and_true, if_true, if_false, decide_true, decide_false, Int.cast_ofNat_Int, Int.reduceLT, Int.reduceLE, Int.reduceEq, Nat.reduceAdd, Nat.reduceMul, Nat.reduceLeDiff, setL, bfill, eqV, lookRes])
    exact hK _ x2
  refine sp_lNew hB me m (fun hb => absurd hr hb) (fun _ => ?_)
  have x1 : Ext h (h.push (.cells (lcells ⟨me, m, 0, 0, 0, 0⟩ none none))) := (by repeat' (first | with_reducible exact Upd.refl _ | with_reducible refine Upd.push ?_ _ | with_reducible refine Upd.set ?_ _ _ ?_ | exact .inl (by (first | omega | (simp only [sz]; done) | (simp only [lz, Nat.reduceAdd, Nat.reduceLeDiff, Nat.le_refl]; done) | (simp only [sz]; omega))) | exact .inr rfl | exact .inr (by simp; done)))
  have hb1 : (h.push (.cells (lcells ⟨me, m, 0, 0, 0, 0⟩ none none)))[h.size]? = some (.cells (lcells ⟨me, m, 0, 0, 0, 0⟩ none none)) := g_push_eq rfl
  have l1 : (h.push (.cells (lcells ⟨me, m, 0, 0, 0, 0⟩ none none))).size = h.size + 1 := by simp
  generalize h.push (.cells (lcells ⟨me, m, 0, 0, 0, 0⟩ none none)) = h1 at *
  have hB1 := x1.hB hB
  (try simp (maxSteps := 1000000) (disch := (first | omega | (simp only [sz]; done) | (simp only [lz, Nat.reduceAdd, Nat.reduceLeDiff, Nat.le_refl]; done) | (simp only [sz]; omega))) only [↓xa, xb, xl, Option.bind_some, Option.map_some, implies_true, imp_self, true_and, and_true, if_true, if_false, decide_true, decide_false, Int.cast_ofNat_Int, Int.reduceLT, Int.reduceLE, Int.reduceEq, Nat.reduceAdd, Nat.reduceMul, Nat.reduceLeDiff, setL, bfill, eqV, lookRes])
  refine sp_rRight me m ?_
  simp (maxSteps := 1000000) (disch := (first | omega | (simp only [sz]; done) | (simp only [lz, Nat.reduceAdd, Nat.reduceLeDiff, Nat.le_refl]; done) | (simp only [sz]; omega))) only [↓xa, xb, xl, Option.bind_some, Option.map_some, implies_true, imp_self, true_and, and_true, if_true, if_false, decide_true, decide_false, Int.cast_ofNat_Int, Int.reduceLT, Int.reduceLE, Int.reduceEq, Nat.reduceAdd, Nat.reduceMul, Nat.reduceLeDiff, setL, bfill, eqV, lookRes, decide_eq_true hr, l1]
  have x2 : Ext h1 (Array.setIfInBounds (h1.push (.cells #[.int .i64 0, .int .i64 0, .int .i64 0, .int .u64 0, .int .i64 0, .int .i64 0, .slice none 0 0, .slice none 0 0, .slice none 0 0])) (h.size + 1) (.cells #[.int .i64 (⟨me, m, 0, 0, 0, 0⟩ : LS).me, .int .i64 (⟨me, m, 0, 0, 0, 0⟩ : LS).masters, .int .i64 (⟨me, m, 0, 0, 0, 0⟩ : LS).state, .int .u64 (⟨me, m, 0, 0, 0, 0⟩ : LS).ballot, .int .i64 (⟨me, m, 0, 0, 0, 0⟩ : LS).frm, .int .i64 (⟨me, m, 0, 0, 0, 0⟩ : LS).next, .slice none 0 0, .slice none 0 0, .slice none 0 0])) := (by repeat' (first | with_reducible exact Upd.refl _ | with_reducible refine Upd.push ?_ _ | with_reducible refine Upd.set ?_ _ _ ?_ | exact .inl (by (first | omega | (simp only [sz]; done) | (simp only [lz, Nat.reduceAdd, Nat.reduceLeDiff, Nat.le_refl]; done) | (simp only [sz]; omega))) | exact .inr rfl | exact .inr (by simp; done)))
  have hq2 : (Array.setIfInBounds (h1.push (.cells #[.int .i64 0, .int .i64 0, .int .i64 0, .int .u64 0, .int .i64 0, .int .i64 0, .slice none 0 0, .slice none 0 0, .slice none 0 0])) (h.size + 1) (.cells #[.int .i64 (⟨me, m, 0, 0, 0, 0⟩ : LS).me, .int .i64 (⟨me, m, 0, 0, 0, 0⟩ : LS).masters, .int .i64 (⟨me, m, 0, 0, 0, 0⟩ : LS).state, .int .u64 (⟨me, m, 0, 0, 0, 0⟩ : LS).ballot, .int .i64 (⟨me, m, 0, 0, 0, 0⟩ : LS).frm, .int .i64 (⟨me, m, 0, 0, 0, 0⟩ : LS).next, .slice none 0 0, .slice none 0 0, .slice none 0 0]))[h.size + 1]? = some (.cells #[.int .i64 (⟨me, m, 0, 0, 0, 0⟩ : LS).me, .int .i64 (⟨me, m, 0, 0, 0, 0⟩ : LS).masters, .int .i64 (⟨me, m, 0, 0, 0, 0⟩ : LS).state, .int .u64 (⟨me, m, 0, 0, 0, 0⟩ : LS).ballot, .int .i64 (⟨me, m, 0, 0, 0, 0⟩ : LS).frm, .int .i64 (⟨me, m, 0, 0, 0, 0⟩ : LS).next, .slice none 0 0, .slice none 0 0, .slice none 0 0]) := g_set_eq (by simp; omega) rfl
  have T2 : Two (Array.setIfInBounds (h1.push (.cells #[.int .i64 0, .int .i64 0, .int .i64 0, .int .u64 0, .int .i64 0, .int .i64 0, .slice none 0 0, .slice none 0 0, .slice none 0 0])) (h.size + 1) (.cells #[.int .i64 (⟨me, m, 0, 0, 0, 0⟩ : LS).me, .int .i64 (⟨me, m, 0, 0, 0, 0⟩ : LS).masters, .int .i64 (⟨me, m, 0, 0, 0, 0⟩ : LS).state, .int .u64 (⟨me, m, 0, 0, 0, 0⟩ : LS).ballot, .int .i64 (⟨me, m, 0, 0, 0, 0⟩ : LS).frm, .int .i64 (⟨me, m, 0, 0, 0, 0⟩ : LS).next, .slice none 0 0, .slice none 0 0, .slice none 0 0])) (fun b => b = h.size + 1) h.size h.size 0 ⟨me, m, 0, 0, 0, 0⟩ (.slice none 0 0) (.slice none 0 0) (.slice none 0 0) := by
    refine ⟨⟨[], [], [], [], [], ⟨Sl.nil, ⟨Sl.nil, fun a ha => (by cases ha)⟩, Sl.nil, fun q hq => (by cases hq), ⟨fun b hb => (by cases hb), fun b hb => (by cases hb), fun b hb => (by cases hb), fun q hq => (by cases hq)⟩, fun b _ => ⟨by simp [blk], by simp [blk], by simp [blk], fun q hq => (by cases hq), fun a ha => (by cases ha)⟩⟩,
      .inr ⟨x2.get hb1 id, rfl, rfl, rfl⟩, ?_⟩, Nat.le_refl _⟩
    exact ⟨rfl, rfl, rfl, CameOk.nil ⟨hr.1, hr.2.1⟩ ⟨Int.le_refl _, show (0 : Int) ≤ 512 by decide⟩, fun a ha => (by cases ha), fun q hq => (by cases hq), fun h => absurd h (by show ¬ (0 : Int) = 1; decide), List.Pairwise.nil, fun q hq => (by cases hq), by simp, ⟨Int.le_refl _, show (0 : Int) ≤ 512 by decide⟩, show u64ok 0 by decide, hme⟩
  refine rule_q108_1 (fun v10 h' => ∃ (i : Nat) (x : LS) (wv vv pv : Value), v10 = .int .i64 i ∧ i ≤ 60 ∧ i ≤ l.length ∧ Ext h h' ∧ h.size + 2 ≤ h'.size ∧ Two h' (fun b => b = h.size + 1) h.size h.size i x wv vv pv ∧ h'[h.size + 1]? = some (.cells #[.int .i64 x.me, .int .i64 x.masters, .int .i64 x.state, .int .u64 x.ballot, .int .i64 x.frm, .int .i64 x.next, wv, vv, pv])) (fun v10 h' => 60 - ival v10) ?_ _ _ _
    ⟨0, ⟨me, m, 0, 0, 0, 0⟩, _, _, _, rfl, by omega, by omega, x1.trans x2, by simp only [Array.size_setIfInBounds, Array.size_push]; omega, T2, hq2⟩
  clear T2 hq2 x2 hb1 x1
  rintro self v10 d H ⟨i, x, wv, vv, pv, rfl, hi, hil, y, zH, T, hq⟩ hself
  unfold B_q108_1
  have hSH := hS.ext y
  have hBH := y.hB hB
  have stop : K (.bool true) = K (.bool true) := rfl
  by_cases hlt : i < l.length
  rotate_left
  · simp (maxSteps := 1000000) (disch := (first | omega | (simp only [sz]; done) | (simp only [lz, Nat.reduceAdd, Nat.reduceLeDiff, Nat.le_refl]; done) | (simp only [sz]; omega))) only [↓xa, xb, xl, Option.bind_some, Option.map_some, implies_true, imp_self, true_and, and_true, if_true, if_false, decide_true, decide_false, Int.cast_ofNat_Int, Int.reduceLT, Int.reduceLE, Int.reduceEq, Nat.reduceAdd, Nat.reduceMul, Nat.reduceLeDiff, setL, bfill, eqV, lookRes, ↓hSH.len', decide_eq_false (show ¬ (i : Int) < (l.length : Int) by omega)]
    refine sp_lawake hBH ?_
    intro h2 x2
    (try simp (maxSteps := 1000000) (disch := (first | omega | (simp only [sz]; done) | (simp only [lz, Nat.reduceAdd, Nat.reduceLeDiff, Nat.le_refl]; done) | (simp only [sz]; omega))) only [↓xa, xb, xl, Option.bind_some, Option.map_some, implies_true, imp_self, true_and, and_true, if_true, if_false, decide_true, decide_false, Int.cast_ofNat_Int, Int.reduceLT, Int.reduceLE, Int.reduceEq, Nat.reduceAdd, Nat.reduceMul, Nat.reduceLeDiff, setL, bfill, eqV, lookRes])
    exact hK _ (y.trans x2)
  by_cases h60 : i < 60
  rotate_left
  · simp (maxSteps := 1000000) (disch := (first | omega | (simp only [sz]; done) | (simp only [lz, Nat.reduceAdd, Nat.reduceLeDiff, Nat.le_refl]; done) | (simp only [sz]; omega))) only [↓xa, xb, xl, Option.bind_some, Option.map_some, implies_true, imp_self, true_and, and_true, if_true, if_false, decide_true, decide_false, Int.cast_ofNat_Int, Int.reduceLT, Int.reduceLE, Int.reduceEq, Nat.reduceAdd, Nat.reduceMul, Nat.reduceLeDiff, setL, bfill, eqV, lookRes, ↓hSH.len', decide_eq_true (Int.ofNat_lt.2 hlt), decide_eq_false (show ¬ (i : Int) < 60 by omega)]
    refine sp_lawake hBH ?_
    intro h2 x2
    (try simp (maxSteps := 1000000) (disch := (first | omega | (simp only [sz]; done) | (simp only [lz, Nat.reduceAdd, Nat.reduceLeDiff, Nat.le_refl]; done) | (simp only [sz]; omega))) only [↓xa, xb, xl, Option.bind_some, Option.map_some, implies_true, imp_self, true_and, and_true, if_true, if_false, decide_true, decide_false, Int.cast_ofNat_Int, Int.reduceLT, Int.reduceLE, Int.reduceEq, Nat.reduceAdd, Nat.reduceMul, Nat.reduceLeDiff, setL, bfill, eqV, lookRes])
    exact hK _ (y.trans x2)
  have hrow := hSH.row o13cells_len i hlt
  have hcell := hSH.cell o13cells_len i 5 hlt (by decide)
  obtain ⟨o1, o2, o3⟩ := hok _ (nth_mem hlt)
  have lS := hSH.lt o13cells_len (by omega) (by decide)
  generalize hno : nth l i = o at hrow hcell o1 o2 o3
  simp only [o13cells, List.getElem?_cons_zero, List.getElem?_cons_succ] at hcell
  have hvl := o1.len'
  by_cases h40 : (40 : Int) < (o.votes.2.length : Int)
  · simp (maxSteps := 1000000) (disch := (first | omega | (simp only [sz]; done) | (simp only [lz, Nat.reduceAdd, Nat.reduceLeDiff, Nat.le_refl]; done) | (simp only [sz]; omega))) only [↓xa, xb, xl, Option.bind_some, Option.map_some, implies_true, imp_self, true_and, and_true, if_true, if_false, decide_true, decide_false, Int.cast_ofNat_Int, Int.reduceLT, Int.reduceLE, Int.reduceEq, Nat.reduceAdd, Nat.reduceMul, Nat.reduceLeDiff, setL, bfill, eqV, lookRes, ↓hSH.len', decide_eq_true (Int.ofNat_lt.2 hlt), decide_eq_true (show (i : Int) < 60 by omega), ↓hSH.idx, hcell, hvl, decide_eq_true h40]
    refine sp_lawake hBH ?_
    intro h2 x2
    (try simp (maxSteps := 1000000) (disch := (first | omega | (simp only [sz]; done) | (simp only [lz, Nat.reduceAdd, Nat.reduceLeDiff, Nat.le_refl]; done) | (simp only [sz]; omega))) only [↓xa, xb, xl, Option.bind_some, Option.map_some, implies_true, imp_self, true_and, and_true, if_true, if_false, decide_true, decide_false, Int.cast_ofNat_Int, Int.reduceLT, Int.reduceLE, Int.reduceEq, Nat.reduceAdd, Nat.reduceMul, Nat.reduceLeDiff, setL, bfill, eqV, lookRes])
    exact hK _ (y.trans x2)
  simp (maxSteps := 1000000) (disch := (first | omega | (simp only [sz]; done) | (simp only [lz, Nat.reduceAdd, Nat.reduceLeDiff, Nat.le_refl]; done) | (simp only [sz]; omega))) only [↓xa, xb, xl, Option.bind_some, Option.map_some, implies_true, imp_self, true_and, and_true, if_true, if_false, decide_true, decide_false, Int.cast_ofNat_Int, Int.reduceLT, Int.reduceLE, Int.reduceEq, Nat.reduceAdd, Nat.reduceMul, Nat.reduceLeDiff, setL, bfill, eqV, lookRes, ↓hSH.len', decide_eq_true (Int.ofNat_lt.2 hlt), decide_eq_true (show (i : Int) < 60 by omega), ↓hSH.idx, hcell, hvl, decide_eq_false h40]
  -- what is looked at behind a call
  have fin : ∀ (H2 : Hp) (x' : LS) (wv' vv' pv' : Value) (r : Nat) d, Ext h H2 → h.size + 2 ≤ H2.size → Two H2 (fun b => b = h.size + 1) h.size h.size (i + 1) x' wv' vv' pv' → H2[h.size + 1]? = some (.cells #[.int .i64 x.me, .int .i64 x.masters, .int .i64 x.state, .int .u64 x.ballot, .int .i64 x.frm, .int .i64 x.next, wv, vv, pv]) → H2[r]? = some (.cells #[.int .i64 x'.me, .int .i64 x'.masters, .int .i64 x'.state, .int .u64 x'.ballot, .int .i64 x'.frm, .int .i64 x'.next, wv', vv', pv']) →
      G_q108_3 K self a (pt h.size 0) (.int .i64 0) (pt (h.size + 1) 0) (.int .i64 i) (pt r 0) (.bool true) d H2 := by
    intro H2 x' wv' vv' pv' r d y2 z2 T2 hq2 hr2
    rw [req_q108_3]
    unfold R_q108_3
    obtain ⟨k1, k2, k3⟩ := T2.ones
    have lq2 := lt_of_get hq2
    simp (maxSteps := 1000000) (disch := (first | omega | (simp only [sz]; done) | (simp only [lz, Nat.reduceAdd, Nat.reduceLeDiff, Nat.le_refl]; done) | (simp only [sz]; omega))) only [↓xa, xb, xl, Option.bind_some, Option.map_some, implies_true, imp_self, true_and, and_true, if_true, if_false, decide_true, decide_false, Int.cast_ofNat_Int, Int.reduceLT, Int.reduceLE, Int.reduceEq, Nat.reduceAdd, Nat.reduceMul, Nat.reduceLeDiff, setL, bfill, eqV, lookRes, rdN_all hr2, b_blk hq2, k1, k2, k3]
    have T3 := T2.write (c' := #[.int .i64 x'.me, .int .i64 x'.masters, .int .i64 x'.state, .int .u64 x'.ballot, .int .i64 x'.frm, .int .i64 x'.next, wv', vv', pv']) hq2 (by omega) rfl
    have hq3 : (H2.setIfInBounds (h.size + 1) (.cells #[.int .i64 x'.me, .int .i64 x'.masters, .int .i64 x'.state, .int .u64 x'.ballot, .int .i64 x'.frm, .int .i64 x'.next, wv', vv', pv']))[h.size + 1]? = some (.cells #[.int .i64 x'.me, .int .i64 x'.masters, .int .i64 x'.state, .int .u64 x'.ballot, .int .i64 x'.frm, .int .i64 x'.next, wv', vv', pv']) := g_set_eq lq2 rfl
    have y3 : Ext h (H2.setIfInBounds (h.size + 1) (.cells #[.int .i64 x'.me, .int .i64 x'.masters, .int .i64 x'.state, .int .u64 x'.ballot, .int .i64 x'.frm, .int .i64 x'.next, wv', vv', pv'])) := (by repeat' (first | with_reducible exact Upd.refl _ | with_reducible exact y2 | with_reducible refine Upd.push ?_ _ | with_reducible refine Upd.set ?_ _ _ ?_ | exact .inl (by (first | omega | (simp only [sz]; done) | (simp only [lz, Nat.reduceAdd, Nat.reduceLeDiff, Nat.le_refl]; done) | (simp only [sz]; omega))) | exact .inr rfl | exact .inr (by simp; done)))
    have z3 : (H2.setIfInBounds (h.size + 1) (.cells #[.int .i64 x'.me, .int .i64 x'.masters, .int .i64 x'.state, .int .u64 x'.ballot, .int .i64 x'.frm, .int .i64 x'.next, wv', vv', pv'])).size = H2.size := by simp
    generalize H2.setIfInBounds (h.size + 1) (.cells #[.int .i64 x'.me, .int .i64 x'.masters, .int .i64 x'.state, .int .u64 x'.ballot, .int .i64 x'.frm, .int .i64 x'.next, wv', vv', pv']) = H3 at *
    have hB3 := y3.hB hB
    obtain ⟨⟨ws, vs, ps, came, opn, R, G, S⟩, hNp⟩ := T3
    obtain ⟨cm, om, hpb⟩ := G.blk
    refine sp_lState hpb ?_
    simp (maxSteps := 1000000) (disch := (first | omega | (simp only [sz]; done) | (simp only [lz, Nat.reduceAdd, Nat.reduceLeDiff, Nat.le_refl]; done) | (simp only [sz]; omega))) only [↓xa, xb, xl, Option.bind_some, Option.map_some, implies_true, imp_self, true_and, and_true, if_true, if_false, decide_true, decide_false, Int.cast_ofNat_Int, Int.reduceLT, Int.reduceLE, Int.reduceEq, Nat.reduceAdd, Nat.reduceMul, Nat.reduceLeDiff, setL, bfill, eqV, lookRes, eq_self, rdC_blk hq3]
    refine sp_lBallot hpb ?_
    simp (maxSteps := 1000000) (disch := (first | omega | (simp only [sz]; done) | (simp only [lz, Nat.reduceAdd, Nat.reduceLeDiff, Nat.le_refl]; done) | (simp only [sz]; omega))) only [↓xa, xb, xl, Option.bind_some, Option.map_some, implies_true, imp_self, true_and, and_true, if_true, if_false, decide_true, decide_false, Int.cast_ofNat_Int, Int.reduceLT, Int.reduceLE, Int.reduceEq, Nat.reduceAdd, Nat.reduceMul, Nat.reduceLeDiff, setL, bfill, eqV, lookRes, eq_self, rdC_blk hq3]
    refine sp_lFrom hpb ?_
    simp (maxSteps := 1000000) (disch := (first | omega | (simp only [sz]; done) | (simp only [lz, Nat.reduceAdd, Nat.reduceLeDiff, Nat.le_refl]; done) | (simp only [sz]; omega))) only [↓xa, xb, xl, Option.bind_some, Option.map_some, implies_true, imp_self, true_and, and_true, if_true, if_false, decide_true, decide_false, Int.cast_ofNat_Int, Int.reduceLT, Int.reduceLE, Int.reduceEq, Nat.reduceAdd, Nat.reduceMul, Nat.reduceLeDiff, setL, bfill, eqV, lookRes, eq_self, rdC_blk hq3]
    refine sp_lNext hpb ?_
    simp (maxSteps := 1000000) (disch := (first | omega | (simp only [sz]; done) | (simp only [lz, Nat.reduceAdd, Nat.reduceLeDiff, Nat.le_refl]; done) | (simp only [sz]; omega))) only [↓xa, xb, xl, Option.bind_some, Option.map_some, implies_true, imp_self, true_and, and_true, if_true, if_false, decide_true, decide_false, Int.cast_ofNat_Int, Int.reduceLT, Int.reduceLE, Int.reduceEq, Nat.reduceAdd, Nat.reduceMul, Nat.reduceLeDiff, setL, bfill, eqV, lookRes, eq_self, rdC_blk hq3, rdN_all hq3]
    refine sp_openTwo hB3 G S ?_
    intro v4 H4 x4 o4
    have hq4 := x4.get hq3 id
    simp (maxSteps := 1000000) (disch := (first | omega | (simp only [sz]; done) | (simp only [lz, Nat.reduceAdd, Nat.reduceLeDiff, Nat.le_refl]; done) | (simp only [sz]; omega))) only [↓xa, xb, xl, Option.bind_some, Option.map_some, implies_true, imp_self, true_and, and_true, if_true, if_false, decide_true, decide_false, Int.cast_ofNat_Int, Int.reduceLT, Int.reduceLE, Int.reduceEq, Nat.reduceAdd, Nat.reduceMul, Nat.reduceLeDiff, setL, bfill, eqV, lookRes, eq_self, rdC_blk hq4, rdN_all hq4]
    refine sp_r13Open (x4.hB hB3) (R.sp.ext x4) (by have := S.plen; omega) ?_
    intro v5 H5 x5 o5
    have hq5 := x5.get hq4 id
    simp (maxSteps := 1000000) (disch := (first | omega | (simp only [sz]; done) | (simp only [lz, Nat.reduceAdd, Nat.reduceLeDiff, Nat.le_refl]; done) | (simp only [sz]; omega))) only [↓xa, xb, xl, Option.bind_some, Option.map_some, implies_true, imp_self, true_and, and_true, if_true, if_false, decide_true, decide_false, Int.cast_ofNat_Int, Int.reduceLT, Int.reduceLE, Int.reduceEq, Nat.reduceAdd, Nat.reduceMul, Nat.reduceLeDiff, setL, bfill, eqV, lookRes, eq_self, rdC_blk hq5, rdN_all hq5]
    refine sp_SameVotes (o4.sl.ext x5) o5.sl (by have := S.plen; simp [openR]; omega) ?_
    rw [decide_eq_true rfl]
    simp (maxSteps := 1000000) (disch := (first | omega | (simp only [sz]; done) | (simp only [lz, Nat.reduceAdd, Nat.reduceLeDiff, Nat.le_refl]; done) | (simp only [sz]; omega))) only [↓xa, xb, xl, Option.bind_some, Option.map_some, implies_true, imp_self, true_and, and_true, if_true, if_false, decide_true, decide_false, Int.cast_ofNat_Int, Int.reduceLT, Int.reduceLE, Int.reduceEq, Nat.reduceAdd, Nat.reduceMul, Nat.reduceLeDiff, setL, bfill, eqV, lookRes, eq_self, rdC_blk hq5, rdN_all hq5]
    have x35 := x4.trans x5
    exact hself _ _ _ ⟨i + 1, x', wv', vv', pv', rfl, h60, hlt, y3.trans x35, by have := x35.1; omega, Two.ext ⟨⟨ws, vs, ps, came, opn, R, G, S⟩, hNp⟩ x35, x35.get hq3 id⟩ (by simp only [ival_nat, isucc]; omega)
  rw [req_q108_2]
  unfold R_q108_2
  have hofs : ∀ n : Nat, o.votes.2 ≠ [] → ∀ b, (b = h.size ∨ b = h.size + 1 ∨ b = n) → h.size ≤ n → blk o.votes.1 ≠ some b := by
    intro n h0 b hb hn e
    have hl : 0 < o.votes.2.length := List.length_pos_iff.2 h0
    have h1 := o1.lt vcells_len hl (by decide)
    rw [o1.blk_some hl] at e
    cases e
    omega
  have o1H := o1.ext y
  simp (maxSteps := 1000000) (disch := (first | omega | (simp only [sz]; done) | (simp only [lz, Nat.reduceAdd, Nat.reduceLeDiff, Nat.le_refl]; done) | (simp only [sz]; omega))) only [↓xa, xb, xl, Option.bind_some, Option.map_some, implies_true, imp_self, true_and, and_true, if_true, if_false, decide_true, decide_false, Int.cast_ofNat_Int, Int.reduceLT, Int.reduceLE, Int.reduceEq, Nat.reduceAdd, Nat.reduceMul, Nat.reduceLeDiff, setL, bfill, eqV, lookRes, rdN_all hq, ↓hSH.idx, hrow]
  refine ⟨?_, ?_⟩
  · refine sp_l13step hBH T (fun b hb => by omega) (by omega) (by omega) o o1H (by omega) (fun h0 b hb => hofs h.size h0 b (by omega) (Nat.le_refl _)) o2 o3 ?_
    intro H2 x' wv' vv' pv' T2 _ u2
    obtain ⟨k1, k2, k3⟩ := T2.ones
    have y2 : Ext h H2 := y.fresh u2 (fun r hr => .inl hr.1)
    have hq2 := u2.cells hq (by omega)
    have z2 := u2.1
    have hS2 := hS.ext y2
    have hB2 := y2.hB hB
    have hrow2 := hS2.row o13cells_len i hlt
    rw [hno] at hrow2
    have lS2 := hS2.lt o13cells_len (by omega) (by decide)
    have lq2 := lt_of_get hq2
    simp (maxSteps := 1000000) (disch := (first | omega | (simp only [sz]; done) | (simp only [lz, Nat.reduceAdd, Nat.reduceLeDiff, Nat.le_refl]; done) | (simp only [sz]; omega))) only [↓xa, xb, xl, Option.bind_some, Option.map_some, implies_true, imp_self, true_and, and_true, if_true, if_false, decide_true, decide_false, Int.cast_ofNat_Int, Int.reduceLT, Int.reduceLE, Int.reduceEq, Nat.reduceAdd, Nat.reduceMul, Nat.reduceLeDiff, setL, bfill, eqV, lookRes, rV, rcells, hrow2, rdN_all hq2, k1, k2, k3]
    have x3 : Ext H2 (Array.setIfInBounds (H2.push (.cells #[.int .i64 0, .int .i64 0, .int .i64 0, .int .u64 0, .int .i64 0, .int .i64 0, .slice none 0 0, .slice none 0 0, .slice none 0 0])) H2.size (.cells #[.int .i64 x'.me, .int .i64 x'.masters, .int .i64 x'.state, .int .u64 x'.ballot, .int .i64 x'.frm, .int .i64 x'.next, wv', vv', pv'])) := (by repeat' (first | with_reducible exact Upd.refl _ | with_reducible refine Upd.push ?_ _ | with_reducible refine Upd.set ?_ _ _ ?_ | exact .inl (by (first | omega | (simp only [sz]; done) | (simp only [lz, Nat.reduceAdd, Nat.reduceLeDiff, Nat.le_refl]; done) | (simp only [sz]; omega))) | exact .inr rfl | exact .inr (by simp; done)))
    exact fin _ x' wv' vv' pv' _ _ (y2.trans x3) (by have := x3.1; omega) (T2.ext x3) (x3.get hq2 id) (g_set_eq (by simp) rfl)
  · have x2 : Ext H (H.push (.cells #[.int .i64 0, .int .i64 0, .int .i64 0, .int .u64 0, .int .i64 0, .int .i64 0, .slice none 0 0, .slice none 0 0, .slice none 0 0])) := (by repeat' (first | with_reducible exact Upd.refl _ | with_reducible refine Upd.push ?_ _ | with_reducible refine Upd.set ?_ _ _ ?_ | exact .inl (by (first | omega | (simp only [sz]; done) | (simp only [lz, Nat.reduceAdd, Nat.reduceLeDiff, Nat.le_refl]; done) | (simp only [sz]; omega))) | exact .inr rfl | exact .inr (by simp; done)))
    have T1 := T.wide.ext x2
    have hw : (H.push (.cells #[.int .i64 0, .int .i64 0, .int .i64 0, .int .u64 0, .int .i64 0, .int .i64 0, .slice none 0 0, .slice none 0 0, .slice none 0 0]))[H.size]? = some (.cells #[.int .i64 0, .int .i64 0, .int .i64 0, .int .u64 0, .int .i64 0, .int .i64 0, .slice none 0 0, .slice none 0 0, .slice none 0 0]) := g_push_eq rfl
    have hq1 := x2.get hq id
    have y1 := y.trans x2
    have hB1 := y1.hB hB
    have z1 : (H.push (.cells #[.int .i64 0, .int .i64 0, .int .i64 0, .int .u64 0, .int .i64 0, .int .i64 0, .slice none 0 0, .slice none 0 0, .slice none 0 0])).size = H.size + 1 := by simp
    have hrow1 := (hS.ext y1).row o13cells_len i hlt
    rw [hno] at hrow1
    have o1H1 := o1.ext y1
    generalize hH1 : H.push (.cells #[.int .i64 0, .int .i64 0, .int .i64 0, .int .u64 0, .int .i64 0, .int .i64 0, .slice none 0 0, .slice none 0 0, .slice none 0 0]) = H1 at *
    (try simp (maxSteps := 1000000) (disch := (first | omega | (simp only [sz]; done) | (simp only [lz, Nat.reduceAdd, Nat.reduceLeDiff, Nat.le_refl]; done) | (simp only [sz]; omega))) only [↓xa, xb, xl, Option.bind_some, Option.map_some, implies_true, imp_self, true_and, and_true, if_true, if_false, decide_true, decide_false, Int.cast_ofNat_Int, Int.reduceLT, Int.reduceLE, Int.reduceEq, Nat.reduceAdd, Nat.reduceMul, Nat.reduceLeDiff, setL, bfill, eqV, lookRes, hrow1, rdN_all hq1])
    refine sp_l13step hB1 T1 (fun b hb => by omega) (by omega) (by omega) o o1H1 (by omega) (fun h0 b hb => hofs H.size h0 b (by omega) (by omega)) o2 o3 ?_
    intro H2 x' wv' vv' pv' T2 _ u2
    obtain ⟨k1, k2, k3⟩ := T2.ones
    have y2 : Ext h H2 := y1.fresh u2 (fun r hr => .inl hr.1)
    have hq2 := u2.cells hq1 (by omega)
    have hw2 := u2.cells hw (by omega)
    have z2 := u2.1
    have lq2 := lt_of_get hq2
    have lw2 := lt_of_get hw2
    simp (maxSteps := 1000000) (disch := (first | omega | (simp only [sz]; done) | (simp only [lz, Nat.reduceAdd, Nat.reduceLeDiff, Nat.le_refl]; done) | (simp only [sz]; omega))) only [↓xa, xb, xl, Option.bind_some, Option.map_some, implies_true, imp_self, true_and, and_true, if_true, if_false, decide_true, decide_false, Int.cast_ofNat_Int, Int.reduceLT, Int.reduceLE, Int.reduceEq, Nat.reduceAdd, Nat.reduceMul, Nat.reduceLeDiff, setL, bfill, eqV, lookRes, rV, rcells, b_blk hw2, k1, k2, k3]
    have T3 := T2.write (c' := #[.int .i64 x'.me, .int .i64 x'.masters, .int .i64 x'.state, .int .u64 x'.ballot, .int .i64 x'.frm, .int .i64 x'.next, wv', vv', pv']) hw2 (by omega) (.inr rfl)
    refine fin _ x' wv' vv' pv' H.size _ (by repeat' (first | with_reducible exact Upd.refl _ | with_reducible exact y2 | with_reducible refine Upd.push ?_ _ | with_reducible refine Upd.set ?_ _ _ ?_ | exact .inl (by (first | omega | (simp only [sz]; done) | (simp only [lz, Nat.reduceAdd, Nat.reduceLeDiff, Nat.le_refl]; done) | (simp only [sz]; omega))) | exact .inr rfl | exact .inr (by simp; done))) (by simp; omega) (T3.less (fun b hb => .inl hb)) ?_ (g_set_eq lw2 rfl)
    rw [g_set_ne (by omega)]
    exact hq2
end
section
variable {H : Type} {enc : TypeId × Value → H} {W : World}
theorem u_op13s : Try.prog.underlying 71 = some (.slice 77) := by kernel_rfl
theorem rd_op13s : Rd enc Try.prog W 71 (fun cs => ∃ v l, cs = [v] ∧ Sl (@hv ⟨W.heap.size⟩ W) 10 o13cells v l ∧ (∀ a ∈ l, op13Ok W a) ∧ l.length ≤ maxLen) :=
  Rd.slice u_op13s (by kernel_rfl) (by decide) (@o13cells_len ⟨0⟩) rd_op13
end
set_option maxRecDepth 100000 in
theorem law_LeadPlays {H : Type} {enc : TypeId × Value → H} : LawDoes enc Try.prog 8 Try.f8 := by
  intro W base args ds ps h0 hlt hval hA
  letI : Base := ⟨W.heap.size⟩
  have hp : Try.f8.params = #[3, 3, 71] := by kernel_rfl
  rw [hp] at hA hval
  obtain ⟨v0, vs, d0, ds, p0, p1, hargs, rfl, rfl, t0, hA⟩ := trodAll_cons hA
  obtain ⟨v1, vs, d1, ds, p1, p2, rfl, rfl, rfl, t1, hA⟩ := trodAll_cons hA
  obtain ⟨v2, vs, d2, ds, p2, p3, rfl, rfl, rfl, t2, hA⟩ := trodAll_cons hA
  obtain ⟨rfl, rfl, rfl⟩ := trodAll_nil hA
  obtain ⟨args⟩ := args
  cases hargs
  obtain ⟨f, rfl, hf, hf2⟩ := arg_int u_int (hval 0 3 v0 rfl rfl) t0
  obtain ⟨g, rfl, _, _⟩ := arg_int u_int (hval 1 3 v1 rfl rfl) t1
  obtain ⟨v, l, hv, s, hl, hm⟩ := arg_slice u_op13s (hval 2 71 v2 rfl rfl) rd_op13s t2
  cases hv
  exact sp_LeadPlays (by rw [hv_size]; exact Nat.le_refl _) f g s (fun o ho => by have k := hl o ho; exact ⟨k.2.2.2.2.1.1, k.2.1, k.2.2.2.2.2.2.2.1.1⟩) ⟨by rw [show IntKind.i64.min = -9223372036854775808 by decide] at hf; exact hf, by rw [show IntKind.i64.max = 9223372036854775807 by decide] at hf2; exact hf2⟩ (fun h' x => ⟨rfl, x⟩)
set_option maxRecDepth 100000 in
theorem lifted_LeadPlays (os : Os) (started : os.Started) (H : Type) (enc : TypeId × Value → H) :
    ReturnsInHanded {} Try.checked os 8 .any (Rows.leadPlaysSpec.pre6 enc Try.prog Try.f8 Rows.leadPlaysRow.domain false) (Rows.leadPlaysSpec.post enc Try.prog Try.f8 false true false false) :=
  lifted_law (C := Try.checked) (s := Rows.leadPlaysSpec) (tb := 4) own_try started (by kernel_rfl) Try.func8
      (ChangeSpec.witness6 (enc := enc) (C := Try.checked) false ⟨#[], #[.int .i64 0, .int .i64 0, .slice none 0 0], []⟩ 8 (by kernel_rfl) (by kernel_rfl) (by kernel_rfl) (by kernel_rfl))
      rfl (by kernel_rfl) u_bool (fun ds h => by
        have hp : Try.f8.params = #[3, 3, 71] := by kernel_rfl
        rw [hp] at h
        match ds, h with | [d0, d1, d2], _ => rfl) laid_try (by kernel_rfl) glob_try law_LeadPlays
theorem LeadPlays_holds : Rows.LeadPlaysSaid :=
  OpenClaim.holds_of_wide 8 Try.f8 rfl rfl rfl rfl rfl rfl rfl ⟨rfl, rfl, rfl, rfl, rfl⟩ rfl rfl rfl rfl rfl (by kernel_rfl) Try.func8 (by kernel_rfl)
    (of_decide_eq_true (by kernel_rfl)) (by unfold Func.isWrapper; rw [if_neg (of_decide_eq_false (by kernel_rfl))]; exact ⟨rfl, rfl⟩)
    (fun os started H enc _ => lifted_LeadPlays os started H enc)
#print axioms LeadPlays_holds
end Go.Proofs.Ytdolepapmpcpiaa

