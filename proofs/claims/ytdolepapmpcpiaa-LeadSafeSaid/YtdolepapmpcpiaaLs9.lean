/- Lemmas for the theorem of the last text; no condition. -/
import Derived.Test.YtdolepapmpcpiaaLs0
import Derived.Test.YtdolepapmpcpiaaLs1
import Derived.Test.YtdolepapmpcpiaaLs2
import Derived.Test.YtdolepapmpcpiaaLs3
import Derived.Test.YtdolepapmpcpiaaLs4
import Derived.Test.YtdolepapmpcpiaaLs5
import Derived.Test.YtdolepapmpcpiaaLs6
import Derived.Test.YtdolepapmpcpiaaLs7
import Derived.Test.YtdolepapmpcpiaaLs8
namespace Go.Proofs.Ytdolepapmpcpiaa
open Go Go.RowKit Go.Maps Go.Shelf
set_option linter.unusedSectionVars false
variable [Base]
set_option linter.unusedVariables false
set_option linter.unusedSimpArgs false
set_option maxRecDepth 10000
structure Prp where
  cmd : Cmd
  who : Int → Bool
def prpV (p : Prp) : Value := .agg #[.int .i64 p.cmd.kind, .int .i64 p.cmd.chain, .int .u64 p.cmd.epoch, .int .i64 p.cmd.node, .int .u64 (bitsOf p.who)]
def lvV (a : LV) : Value := a.1
/-- A leader's numbers. -/
structure LS where
  me : Int
  masters : Int
  state : Int
  ballot : Int
  frm : Int
  next : Int
def lcells (x : LS) (cm om : Option Nat) : Array Value := #[.int .i64 x.me, .int .i64 x.masters, .int .i64 x.state, .int .u64 x.ballot, .int .i64 x.frm, .int .i64 x.next, .map cm, .map om]
/-- A leader that has started, at block p, its maps at rc and ro. -/
structure Lead (h : Hp) (p rc ro : Nat) (x : LS) (came : List (Int × LV)) (opn : List (Int × Prp)) : Prop where
  blk : h[p]? = some (.cells (lcells x (some rc) (some ro)))
  came : h[rc]? = some (.map (encM lvV came))
  opn : h[ro]? = some (.map (encM prpV opn))
  ne : rc ≠ ro
theorem Lead.ext {h h' : Hp} {p rc ro : Nat} {x : LS} {came : List (Int × LV)} {opn : List (Int × Prp)} (a : Lead h p rc ro x came opn) (y : Ext h h') : Lead h' p rc ro x came opn :=
  ⟨y.get a.blk id, y.get a.came id, y.get a.opn id, a.ne⟩
theorem sp_lNew {h : Hp} (hB : Base.b ≤ h.size) (me masters : Int) {K : Kont} (hbad : ¬ (1 ≤ masters ∧ masters ≤ 5 ∧ 1 ≤ me ∧ me ≤ masters) → K (.tuple #[.pointer none, .int .i64 1]) h)
    (hok : 1 ≤ masters ∧ masters ≤ 5 ∧ 1 ≤ me ∧ me ≤ masters → K (.tuple #[pt h.size 0, .int .i64 0]) (h.push (.cells (lcells ⟨me, masters, 0, 0, 0, 0⟩ none none)))) : C_q171 [.int .i64 me, .int .i64 masters] h K := by
  refine ok_q171 ?_
  unfold G_q171
  (repeat' (first|(simp (maxSteps:=999999) (disch:=(first|omega|(simp only [zz,Nat.reduceAdd,Nat.reduceLeDiff];done)|(simp only [zz];omega))) only [↓xa,xb,xl,xy,Int.reduceLT,Int.reduceLE,Int.reduceEq,Nat.reduceAdd,Nat.reduceMul,Nat.reduceLeDiff,setL,bfill,eqV,lookRes])|((first|refine e_ifd _ _ _ (fun hc=>?_) (fun hc=>?_)|refine e_ifn _ _ _ (fun hc=>?_) (fun hc=>?_)|refine e_gd _ _ _ _ _ (fun hc=>?_) (fun hc=>?_)|refine e_gn _ _ _ _ _ (fun hc=>?_) (fun hc=>?_)|refine e_pd _ _ _ _ _ (fun hc=>?_) (fun hc=>?_)|refine e_pn _ _ _ _ _ (fun hc=>?_) (fun hc=>?_)|refine e_if2 _ _ _ (fun hc=>?_) (fun hc=>?_)|refine e_g2 _ _ _ _ _ (fun hc=>?_) (fun hc=>?_)) <;> first|(exfalso;omega)|(simp (maxSteps:=999999) (disch:=(first|omega|(simp only [zz,Nat.reduceAdd,Nat.reduceLeDiff];done)|(simp only [zz];omega))) only [↓xa,xb,xl,xy,Int.reduceLT,Int.reduceLE,Int.reduceEq,Nat.reduceAdd,Nat.reduceMul,Nat.reduceLeDiff,setL,bfill,eqV,lookRes, hc])|skip)))
  all_goals first
    | exact hbad (by omega)
    | exact hok (by omega)
/-- Any of a leader's numbers, started or not. -/
theorem sp_lmaster {h : Hp} {p : Nat} {x : LS} {cm om : Option Nat} (hb : h[p]? = some (.cells (lcells x cm om))) (w : Int) {K : Kont} (hK : K (.bool (decide (1 ≤ w ∧ w ≤ x.masters))) h) : C_q74 [pt p 0, .int .i64 w] h K := by
  refine ok_q74 ?_
  unfold G_q74
  (repeat' (first|(simp (maxSteps:=999999) (disch:=(first|omega|(simp only [zz,Nat.reduceAdd,Nat.reduceLeDiff];done)|(simp only [zz];omega))) only [↓xa,xb,xl,xy,Int.reduceLT,Int.reduceLE,Int.reduceEq,Nat.reduceAdd,Nat.reduceMul,Nat.reduceLeDiff,setL,bfill,eqV,lookRes, rdC_blk hb, lcells])|((first|refine e_ifd _ _ _ (fun hc=>?_) (fun hc=>?_)|refine e_ifn _ _ _ (fun hc=>?_) (fun hc=>?_)|refine e_gd _ _ _ _ _ (fun hc=>?_) (fun hc=>?_)|refine e_gn _ _ _ _ _ (fun hc=>?_) (fun hc=>?_)|refine e_pd _ _ _ _ _ (fun hc=>?_) (fun hc=>?_)|refine e_pn _ _ _ _ _ (fun hc=>?_) (fun hc=>?_)|refine e_if2 _ _ _ (fun hc=>?_) (fun hc=>?_)|refine e_g2 _ _ _ _ _ (fun hc=>?_) (fun hc=>?_)) <;> first|(exfalso;omega)|(simp (maxSteps:=999999) (disch:=(first|omega|(simp only [zz,Nat.reduceAdd,Nat.reduceLeDiff];done)|(simp only [zz];omega))) only [↓xa,xb,xl,xy,Int.reduceLT,Int.reduceLE,Int.reduceEq,Nat.reduceAdd,Nat.reduceMul,Nat.reduceLeDiff,setL,bfill,eqV,lookRes, rdC_blk hb, lcells, hc])|skip)))
  all_goals exact k_cast hK (by congr 1; simp; omega)
theorem sp_lis {h : Hp} {p : Nat} {x : LS} {cm om : Option Nat} (hb : h[p]? = some (.cells (lcells x cm om))) (s b : Int) {K : Kont} (hK : K (.bool (decide (x.state = s ∧ x.ballot = b))) h) : C_q126 [pt p 0, .int .i64 s, .int .u64 b] h K := by
  refine ok_q126 ?_
  unfold G_q126
  (repeat' (first|(simp (maxSteps:=999999) (disch:=(first|omega|(simp only [zz,Nat.reduceAdd,Nat.reduceLeDiff];done)|(simp only [zz];omega))) only [↓xa,xb,xl,xy,Int.reduceLT,Int.reduceLE,Int.reduceEq,Nat.reduceAdd,Nat.reduceMul,Nat.reduceLeDiff,setL,bfill,eqV,lookRes, rdC_blk hb, lcells])|((first|refine e_ifd _ _ _ (fun hc=>?_) (fun hc=>?_)|refine e_ifn _ _ _ (fun hc=>?_) (fun hc=>?_)|refine e_gd _ _ _ _ _ (fun hc=>?_) (fun hc=>?_)|refine e_gn _ _ _ _ _ (fun hc=>?_) (fun hc=>?_)|refine e_pd _ _ _ _ _ (fun hc=>?_) (fun hc=>?_)|refine e_pn _ _ _ _ _ (fun hc=>?_) (fun hc=>?_)|refine e_if2 _ _ _ (fun hc=>?_) (fun hc=>?_)|refine e_g2 _ _ _ _ _ (fun hc=>?_) (fun hc=>?_)) <;> first|(exfalso;omega)|(simp (maxSteps:=999999) (disch:=(first|omega|(simp only [zz,Nat.reduceAdd,Nat.reduceLeDiff];done)|(simp only [zz];omega))) only [↓xa,xb,xl,xy,Int.reduceLT,Int.reduceLE,Int.reduceEq,Nat.reduceAdd,Nat.reduceMul,Nat.reduceLeDiff,setL,bfill,eqV,lookRes, rdC_blk hb, lcells, hc])|skip)))
  all_goals exact k_cast hK (by congr 1; simp; omega)
theorem sp_lState {h : Hp} {p : Nat} {x : LS} {cm om : Option Nat} (hb : h[p]? = some (.cells (lcells x cm om))) {K : Kont} (hK : K (.int .i64 x.state) h) : C_q83 [pt p 0] h K := by
  refine ok_q83 ?_
  unfold G_q83
  simp (maxSteps:=999999) (disch:=(first|omega|(simp only [zz,Nat.reduceAdd,Nat.reduceLeDiff];done)|(simp only [zz];omega))) only [↓xa,xb,xl,xy,Int.reduceLT,Int.reduceLE,Int.reduceEq,Nat.reduceAdd,Nat.reduceMul,Nat.reduceLeDiff,setL,bfill,eqV,lookRes, rdC_blk hb, lcells]
  exact hK
def maxI (a b : Int) : Int := if b > a then b else a
def startE (x : LS) (above f : Int) : Int := if f < 0 ∨ 512 < f then 1 else nextE (maxI above x.ballot) x.me
def startB (x : LS) (above f : Int) : Int := if startE x above f = 0 then nextB (maxI above x.ballot) x.me else 0
def startX (x : LS) (above f : Int) : LS := if startE x above f = 0 then { x with state := 1, ballot := nextB (maxI above x.ballot) x.me, frm := f, next := f } else x
set_option maxHeartbeats 2000000 in
theorem sp_lStart {h : Hp} (hB : Base.b ≤ h.size) {p : Nat} {x : LS} {cm om : Option Nat} (hb : h[p]? = some (.cells (lcells x cm om))) (hm : i64ok x.me) (hxb : u64ok x.ballot) {above : Int} (ha : u64ok above) (f : Int) {K : Kont}
    (hbad : startE x above f ≠ 0 → K (.tuple #[.int .u64 0, .int .i64 (startE x above f)]) h)
    (hok : startE x above f = 0 → ∀ h', Upd (fun r => r = p) h h' → Lead h' p h.size (h.size + 1) (startX x above f) [] [] → K (.tuple #[.int .u64 (startB x above f), .int .i64 0]) h') : C_q82 [pt p 0, .int .u64 above, .int .i64 f] h K := by
  refine ok_q82 ?_
  unfold G_q82
  have lp := lt_of_get hb
  have hmax : u64ok (maxI above x.ballot) := by unfold maxI; split <;> assumption
  unfold startB startX startE at *
  (repeat' (first|(simp (maxSteps:=999999) (disch:=(first|omega|(simp only [zz,Nat.reduceAdd,Nat.reduceLeDiff];done)|(simp only [zz];omega))) only [↓xa,xb,xl,xy,Int.reduceLT,Int.reduceLE,Int.reduceEq,Nat.reduceAdd,Nat.reduceMul,Nat.reduceLeDiff,setL,bfill,eqV,lookRes, rdC_blk hb, lcells])|((first|refine e_ifd _ _ _ (fun hc=>?_) (fun hc=>?_)|refine e_ifn _ _ _ (fun hc=>?_) (fun hc=>?_)|refine e_gd _ _ _ _ _ (fun hc=>?_) (fun hc=>?_)|refine e_gn _ _ _ _ _ (fun hc=>?_) (fun hc=>?_)|refine e_pd _ _ _ _ _ (fun hc=>?_) (fun hc=>?_)|refine e_pn _ _ _ _ _ (fun hc=>?_) (fun hc=>?_)|refine e_if2 _ _ _ (fun hc=>?_) (fun hc=>?_)|refine e_g2 _ _ _ _ _ (fun hc=>?_) (fun hc=>?_)) <;> first|(exfalso;omega)|(simp (maxSteps:=999999) (disch:=(first|omega|(simp only [zz,Nat.reduceAdd,Nat.reduceLeDiff];done)|(simp only [zz];omega))) only [↓xa,xb,xl,xy,Int.reduceLT,Int.reduceLE,Int.reduceEq,Nat.reduceAdd,Nat.reduceMul,Nat.reduceLeDiff,setL,bfill,eqV,lookRes, rdC_blk hb, lcells, hc])|skip)))
  · rw [if_pos (by omega)] at hbad
    exact hbad (by decide)
  · rw [if_pos (by omega)] at hbad
    exact hbad (by decide)
  · rw [if_neg (by omega)] at hbad hok
    refine sp_Next hmax hm ?_
    by_cases he : nextE (maxI above x.ballot) x.me = 0
    · simp only [he, if_true, true_implies] at hok
      simp (maxSteps:=999999) (disch:=(first|omega|(simp only [zz,Nat.reduceAdd,Nat.reduceLeDiff];done)|(simp only [zz];omega))) only [↓xa,xb,xl,xy,Int.reduceLT,Int.reduceLE,Int.reduceEq,Nat.reduceAdd,Nat.reduceMul,Nat.reduceLeDiff,setL,bfill,eqV,lookRes, he, b_blk hb, rdC_blk hb, lcells]
      refine hok _ ?_ ⟨?_, ?_, ?_, by omega⟩
      · exact (by repeat' (first|with_reducible (first|exact u0 _|refine u1 ?_ _|refine u2 ?_ _ _ ?_)|exact .inl (by (first|omega|(simp only [zz,Nat.reduceAdd,Nat.reduceLeDiff];done)|(simp only [zz];omega)))|exact .inr rfl|exact .inr (by simp;done)))
      · simp (disch := (first|omega|(simp only [zz,Nat.reduceAdd,Nat.reduceLeDiff];done)|(simp only [zz];omega))) only [g_push_lt, g_push_eq, g_set_eq, g_set_ne]
        rfl
      · simp (disch := (first|omega|(simp only [zz,Nat.reduceAdd,Nat.reduceLeDiff];done)|(simp only [zz];omega))) only [g_push_lt, g_push_eq, g_set_eq, g_set_ne]
        rfl
      · simp (disch := (first|omega|(simp only [zz,Nat.reduceAdd,Nat.reduceLeDiff];done)|(simp only [zz];omega))) only [g_push_lt, g_push_eq, g_set_eq, g_set_ne]
        rfl
    · simp (maxSteps:=999999) (disch:=(first|omega|(simp only [zz,Nat.reduceAdd,Nat.reduceLeDiff];done)|(simp only [zz];omega))) only [↓xa,xb,xl,xy,Int.reduceLT,Int.reduceLE,Int.reduceEq,Nat.reduceAdd,Nat.reduceMul,Nat.reduceLeDiff,setL,bfill,eqV,lookRes, decide_eq_false he, rdC_blk hb, lcells]
      have e0 : nextB (maxI above x.ballot) x.me = 0 := by unfold nextB; rw [if_neg he]
      exact hbad he
theorem sp_keysB {h : Hp} (hB : Base.b ≤ h.size) {r : Nat} {K : Kont} (hK : K (.func (.func 80) #[] #[pt h.size 0]) (h.push (.cells #[.map (some r)]))) : C_q4 [.map (some r)] h K := by
  refine ok_q4 ?_
  unfold G_q4
  (try simp (maxSteps:=999999) (disch:=(first|omega|(simp only [zz,Nat.reduceAdd,Nat.reduceLeDiff];done)|(simp only [zz];omega))) only [↓xa,xb,xl,xy,Int.reduceLT,Int.reduceLE,Int.reduceEq,Nat.reduceAdd,Nat.reduceMul,Nat.reduceLeDiff,setL,bfill,eqV,lookRes])
  exact hK
theorem sp_keysC {h : Hp} (hB : Base.b ≤ h.size) {r : Nat} {K : Kont} (hK : K (.func (.func 87) #[] #[pt h.size 0]) (h.push (.cells #[.map (some r)]))) : C_q1 [.map (some r)] h K := by
  refine ok_q1 ?_
  unfold G_q1
  (try simp (maxSteps:=999999) (disch:=(first|omega|(simp only [zz,Nat.reduceAdd,Nat.reduceLeDiff];done)|(simp only [zz];omega))) only [↓xa,xb,xl,xy,Int.reduceLT,Int.reduceLE,Int.reduceEq,Nat.reduceAdd,Nat.reduceMul,Nat.reduceLeDiff,setL,bfill,eqV,lookRes])
  exact hK
/-- Keys that may be, not too many. -/
def KeysFine {α : Type} (m : List (Int × α)) : Prop := keysOk m ∧ (∀ k ∈ m.map (·.1), i64ok k) ∧ m.length ≤ 100000
/-- slices.Sorted(maps.Keys(m)) of the votes by masters. -/
theorem sp_sortedB {h : Hp} (hB : Base.b ≤ h.size) {r : Nat} {m : List (Int × LV)} (hm : h[r]? = some (.map (encM lvV m))) (hk : KeysFine m) {K : Value → Kont}
    (hK : ∀ t v h', Ext h h' → Own h' h.size 1 icell v (sortI (m.map (·.1))) → K t v h') : C_q4 [.map (some r)] h (fun t h1 => C_q61 [t] h1 (K t)) := by
  have lr := lt_of_get hm
  refine sp_keysB hB ?_
  refine sorted_of (ks := m.map (·.1)) (by simp; omega) en80 (by have := hk.2.2; simp; omega) (seqB (g_push_eq rfl) (by rw [g_push_lt lr]; exact hm) (encM_keys _ _) hk.2.1 (by have := hk.2.2; simp; omega)) ?_
  intro v h2 x hrow _
  have x0 : Ext h h2 := Ext.trans (by repeat' (first|with_reducible (first|exact u0 _|refine u1 ?_ _|refine u2 ?_ _ _ ?_)|exact .inl (by (first|omega|(simp only [zz,Nat.reduceAdd,Nat.reduceLeDiff];done)|(simp only [zz];omega)))|exact .inr rfl|exact .inr (by simp;done))) x
  have o := Row.own (xs := sortI (m.map (·.1))) hrow (by simp)
  exact hK _ v h2 x0 (o.low (by simp))
theorem sp_sortedC {h : Hp} (hB : Base.b ≤ h.size) {r : Nat} {m : List (Int × Prp)} (hm : h[r]? = some (.map (encM prpV m))) (hk : KeysFine m) {K : Value → Kont}
    (hK : ∀ t v h', Ext h h' → Own h' h.size 1 icell v (sortI (m.map (·.1))) → K t v h') : C_q1 [.map (some r)] h (fun t h1 => C_q61 [t] h1 (K t)) := by
  have lr := lt_of_get hm
  refine sp_keysC hB ?_
  refine sorted_of (ks := m.map (·.1)) (by simp; omega) en87 (by have := hk.2.2; simp; omega) (seqC (g_push_eq rfl) (by rw [g_push_lt lr]; exact hm) (encM_keys _ _) hk.2.1 (by have := hk.2.2; simp; omega)) ?_
  intro v h2 x hrow _
  have x0 : Ext h h2 := Ext.trans (by repeat' (first|with_reducible (first|exact u0 _|refine u1 ?_ _|refine u2 ?_ _ _ ?_)|exact .inl (by (first|omega|(simp only [zz,Nat.reduceAdd,Nat.reduceLeDiff];done)|(simp only [zz];omega)))|exact .inr rfl|exact .inr (by simp;done))) x
  have o := Row.own (xs := sortI (m.map (·.1))) hrow (by simp)
  exact hK _ v h2 x0 (o.low (by simp))
theorem sp_collectB {h : Hp} (hB : Base.b ≤ h.size) {r : Nat} {m : List (Int × LV)} (hm : h[r]? = some (.map (encM lvV m))) (hk : KeysFine m) {K : Value → Kont}
    (hK : ∀ t v h' ks, ks.Perm (m.map (·.1)) → Ext h h' → Own h' h.size 1 icell v ks → K t v h') : C_q4 [.map (some r)] h (fun t h1 => C_q51 [t] h1 (K t)) := by
  have lr := lt_of_get hm
  refine sp_keysB hB ?_
  refine collect_of (ks := m.map (·.1)) (by simp; omega) en80 (by have := hk.2.2; simp; omega) (seqB (g_push_eq rfl) (by rw [g_push_lt lr]; exact hm) (encM_keys _ _) hk.2.1 (by have := hk.2.2; simp; omega)) ?_
  intro v h2 ss hp x hrow _
  have x0 : Ext h h2 := Ext.trans (by repeat' (first|with_reducible (first|exact u0 _|refine u1 ?_ _|refine u2 ?_ _ _ ?_)|exact .inl (by (first|omega|(simp only [zz,Nat.reduceAdd,Nat.reduceLeDiff];done)|(simp only [zz];omega)))|exact .inr rfl|exact .inr (by simp;done))) x
  have o := Row.own (xs := ss) hrow (by rw [hp.length_eq])
  exact hK _ v h2 ss hp x0 (o.low (by simp))
theorem n_field (o n : Nat) (cs : Array Value) (h : Hp) (K : Kont) : oField o (some n) (.agg cs) h K = K (.agg ((cs.toList.drop o).take n).toArray) h := by
  unfold oField partV
  simp only [Option.some.injEq, exists_eq_left']
  have e : cs.extract o (o + n) = ((cs.toList.drop o).take n).toArray := by
    apply Array.ext'
    simp only [Array.toList_extract, List.extract_eq_take_drop, List.toList_toArray, Nat.add_sub_cancel_left]
  rw [e]
def voteP (x : LS) (s : Int) (c : Cmd) : Vote := ⟨s, x.ballot, c⟩
theorem sp_lvote {h : Hp} (hB : Base.b ≤ h.size) {p rc ro : Nat} {x : LS} {came : List (Int × LV)} {opn : List (Int × Prp)} (hL : Lead h p rc ro x came opn) (s : Int) {q : Prp} (hq : mget opn s = some q) {K : Kont}
    (hK : ∀ h', Ext h h' → K (voteV (voteP x s q.cmd)) h') : C_q96 [pt p 0, .int .i64 s] h K := by
  refine ok_q96 ?_
  unfold G_q96
  have hb := hL.blk
  have lp := lt_of_get hL.blk
  have lo := lt_of_get hL.opn
  obtain ⟨⟨n, q'⟩, hf, rfl⟩ : ∃ z, mfind opn s 0 = some z ∧ z.2 = q := by simpa [mget] using hq
  obtain ⟨⟨c1, c2, c3, c4⟩, w⟩ := q'
  simp (maxSteps:=999999) (disch:=(first|omega|(simp only [zz,Nat.reduceAdd,Nat.reduceLeDiff];done)|(simp only [zz];omega))) only [↓xa,xb,xl,xy,Int.reduceLT,Int.reduceLE,Int.reduceEq,Nat.reduceAdd,Nat.reduceMul,Nat.reduceLeDiff,setL,bfill,eqV,lookRes, rdC_blk hb, lcells, m_blk hL.opn, kvFind_enc, hf, prpV, ↓n_field]
  exact hK _ (by repeat' (first|with_reducible (first|exact u0 _|refine u1 ?_ _|refine u2 ?_ _ _ ?_)|exact .inl (by (first|omega|(simp only [zz,Nat.reduceAdd,Nat.reduceLeDiff];done)|(simp only [zz];omega)))|exact .inr rfl|exact .inr (by simp;done)))
/-- lay: a proposal in the next slot. -/
def layX (x : LS) : LS := { x with next := x.next + 1 }
def noneQ : Int → Bool := fun _ => false
theorem bits_none : bitsOf noneQ = 0 := rfl
theorem sp_llay {h : Hp} (hB : Base.b ≤ h.size) {p rc ro : Nat} {x : LS} {came : List (Int × LV)} {opn : List (Int × Prp)} (hL : Lead h p rc ro x came opn) (hn : -9223372036854775808 ≤ x.next ∧ x.next < 9223372036854775807) (c : Cmd) {K : Kont}
    (hK : ∀ h', Upd (fun r => r = p ∨ r = ro) h h' → Lead h' p rc ro (layX x) came (mset opn x.next ⟨c, noneQ⟩) → K (.int .i64 x.next) h') : C_q111 [pt p 0, cmdV c] h K := by
  refine ok_q111 ?_
  unfold G_q111
  have hb := hL.blk
  have lp := lt_of_get hL.blk
  have lo := lt_of_get hL.opn
  have lc := lt_of_get hL.came
  have hpo : p ≠ ro := by intro e; have := hL.opn; rw [← e, hL.blk] at this; cases this
  have hpc : p ≠ rc := by intro e; have := hL.came; rw [← e, hL.blk] at this; cases this
  obtain ⟨c1, c2, c3, c4⟩ := c
  unfold cmdV
  obtain ⟨f, hf⟩ : ∃ f, mfind opn x.next 0 = f := ⟨_, rfl⟩
  simp (maxSteps:=999999) (disch:=(first|omega|(simp only [zz,Nat.reduceAdd,Nat.reduceLeDiff];done)|(simp only [zz];omega))) only [↓xa,xb,xl,xy,Int.reduceLT,Int.reduceLE,Int.reduceEq,Nat.reduceAdd,Nat.reduceMul,Nat.reduceLeDiff,setL,bfill,eqV,lookRes, rdC_blk hb, b_blk hb, lcells, m_blk hL.opn, kvFind_enc]
  have hput : kvPut (encM prpV opn) (Option.map (fun p => (p.fst, prpV p.snd)) (mfind opn x.next 0)) (.int .i64 x.next) (.agg #[.int .i64 c1, .int .i64 c2, .int .u64 c3, .int .i64 c4, .int .u64 0]) = encM prpV (mset opn x.next ⟨⟨c1, c2, c3, c4⟩, noneQ⟩) := kvPut_enc prpV opn x.next ⟨⟨c1, c2, c3, c4⟩, noneQ⟩
  rw [hput]
  refine hK _ (by repeat' (first|with_reducible (first|exact u0 _|refine u1 ?_ _|refine u2 ?_ _ _ ?_)|exact .inl (by (first|omega|(simp only [zz,Nat.reduceAdd,Nat.reduceLeDiff];done)|(simp only [zz];omega)))|exact .inr rfl|exact .inr (by simp;done))) ⟨?_, ?_, ?_, hL.ne⟩
  · rw [g_set_eq (by simp; omega) rfl]; rfl
  · rw [g_set_ne hpc, g_set_ne (Ne.symm hL.ne), g_push_lt lc]; exact hL.came
  · rw [g_set_ne hpo, g_set_eq (by simp; omega) rfl]
end Go.Proofs.Ytdolepapmpcpiaa

namespace Go.Proofs.Ytdolepapmpcpiaa
open Go Go.RowKit Go.Maps Go.Shelf
set_option linter.unusedSectionVars false
variable [Base]
set_option linter.unusedVariables false
set_option linter.unusedSimpArgs false
set_option maxRecDepth 10000
def openKs (x : LS) (opn : List (Int × Prp)) (ks : List Int) : List Vote := ks.filterMap fun k => (mget opn k).map fun q => voteP x k q.cmd
def openL (x : LS) (opn : List (Int × Prp)) : List Vote := openKs x opn (sortI (opn.map (·.1)))
theorem openKs_snoc (x : LS) (opn : List (Int × Prp)) (a : List Int) (k : Int) : openKs x opn (a ++ [k]) = openKs x opn a ++ ((mget opn k).map fun q => voteP x k q.cmd).toList := by
  unfold openKs
  rw [List.filterMap_append]
  cases h : mget opn k <;> simp [h]
theorem mget_key {α : Type} {m : List (Int × α)} (hk : keysOk m) {k : Int} (h : k ∈ m.map (·.1)) : ∃ q, mget m k = some q := by
  obtain ⟨p, hp, rfl⟩ := List.mem_map.1 h
  exact ⟨p.2, mget_of_mem hk hp⟩
theorem openKs_len (x : LS) (opn : List (Int × Prp)) (ks : List Int) : (openKs x opn ks).length ≤ ks.length := List.length_filterMap_le ..
set_option maxHeartbeats 1000000 in
theorem sp_lOpen {h : Hp} (hB : Base.b ≤ h.size) {p rc ro : Nat} {x : LS} {came : List (Int × LV)} {opn : List (Int × Prp)} (hL : Lead h p rc ro x came opn) (hk : KeysFine opn) {K : Kont}
    (hK : ∀ v h', Ext h h' → Own h' h.size 6 vcells v (openL x opn) → K v h') : C_q94 [pt p 0] h K := by
  refine ok_q94 ?_
  unfold G_q94
  have hb := hL.blk
  simp (maxSteps:=999999) (disch:=(first|omega|(simp only [zz,Nat.reduceAdd,Nat.reduceLeDiff];done)|(simp only [zz];omega))) only [↓xa,xb,xl,xy,Int.reduceLT,Int.reduceLE,Int.reduceEq,Nat.reduceAdd,Nat.reduceMul,Nat.reduceLeDiff,setL,bfill,eqV,lookRes, rdC_blk hb, lcells]
  refine sp_sortedC hB hL.opn hk ?_
  intro _ v1 h1 x1 o1
  have sl1 := o1.sl
  generalize hks : sortI (opn.map (·.1)) = ks at o1 sl1
  have hlen : ks.length ≤ 100000 := by rw [← hks]; have := hk.2.2; simpa using this
  simp (maxSteps:=999999) (disch:=(first|omega|(simp only [zz,Nat.reduceAdd,Nat.reduceLeDiff];done)|(simp only [zz];omega))) only [↓xa,xb,xl,xy,Int.reduceLT,Int.reduceLE,Int.reduceEq,Nat.reduceAdd,Nat.reduceMul,Nat.reduceLeDiff,setL,bfill,eqV,lookRes, ↓sl1.len']
  refine rule_q94_1 (fun v3 v11 h' => ∃ i : Nat, v11 = .int .i64 i ∧ i ≤ ks.length ∧ Ext h1 h' ∧ Own h' h1.size 6 vcells v3 (openKs x opn (ks.take i))) (fun v3 v11 h' => ks.length - ival v11) ?_ _ _ _ _ ⟨0, rfl, Nat.zero_le _, Upd.refl _, Own.nil⟩
  rintro self v3 v11 d h' ⟨i, rfl, hi, y, ho⟩ hself
  unfold B_q94_1
  have sl2 := sl1.ext y
  have hB' := (x1.trans y).hB hB
  by_cases hlt : i < ks.length
  · have hmem := nth_mem hlt
    rw [← hks, sortI_mem] at hmem
    obtain ⟨q, hq⟩ := mget_key hk.1 hmem
    rw [hks] at hq
    simp (maxSteps:=999999) (disch:=(first|omega|(simp only [zz,Nat.reduceAdd,Nat.reduceLeDiff];done)|(simp only [zz];omega))) only [↓xa,xb,xl,xy,Int.reduceLT,Int.reduceLE,Int.reduceEq,Nat.reduceAdd,Nat.reduceMul,Nat.reduceLeDiff,setL,bfill,eqV,lookRes, decide_eq_true (Int.ofNat_lt.2 hlt), ↓sl2.idx, sl2.cell0 icell_len, Go.encZ]
    have htk : openKs x opn (ks.take (i + 1)) = openKs x opn (ks.take i) ++ [voteP x (nth ks i) q.cmd] := by
      rw [take_nth hlt, openKs_snoc, hq]; rfl
    have hle := Nat.le_trans (openKs_len x opn (ks.take i)) (List.length_take_le ..)
    refine sp_lvote hB' (hL.ext (x1.trans y)) _ hq ?_
    intro h2 y2
    have hy2 := y2.1
    have hy := y.1
    generalize voteP x (nth ks i) q.cmd = w at htk
    simp (maxSteps:=999999) (disch:=(first|omega|(simp only [zz,Nat.reduceAdd,Nat.reduceLeDiff];done)|(simp only [zz];omega))) only [↓xa,xb,xl,xy,Int.reduceLT,Int.reduceLE,Int.reduceEq,Nat.reduceAdd,Nat.reduceMul,Nat.reduceLeDiff,setL,bfill,eqV,lookRes, voteV_eq, List.toList_toArray, vcells_len, vcells_one]
    refine Own.push1 (ho.ext y2) vcells_len vcells_one w ?_ (y2.hB hB') ?_ (by omega) ?_ ?_
    · rfl
    · rfl
    · omega
    intro v' h3 o3 u3
    (try simp (maxSteps:=999999) (disch:=(first|omega|(simp only [zz,Nat.reduceAdd,Nat.reduceLeDiff];done)|(simp only [zz];omega))) only [↓xa,xb,xl,xy,Int.reduceLT,Int.reduceLE,Int.reduceEq,Nat.reduceAdd,Nat.reduceMul,Nat.reduceLeDiff,setL,bfill,eqV,lookRes])
    exact hself _ _ _ _ ⟨i + 1, rfl, hlt, (y.trans y2).ext u3 (Nat.le_refl _), by rw [htk]; exact o3⟩ (by simp only [ival_nat, show ((i : Int) + 1) = ((i + 1 : Nat) : Int) from rfl]; omega)
  · simp (maxSteps:=999999) (disch:=(first|omega|(simp only [zz,Nat.reduceAdd,Nat.reduceLeDiff];done)|(simp only [zz];omega))) only [↓xa,xb,xl,xy,Int.reduceLT,Int.reduceLE,Int.reduceEq,Nat.reduceAdd,Nat.reduceMul,Nat.reduceLeDiff,setL,bfill,eqV,lookRes, decide_eq_false (show ¬ (i : Int) < (ks.length : Int) by omega)]
    rw [List.take_of_length_le (by omega)] at ho
    refine hK _ _ (x1.trans y) ?_
    unfold openL
    rw [hks]
    exact ho.low x1.1
end Go.Proofs.Ytdolepapmpcpiaa

namespace Go.Proofs.Ytdolepapmpcpiaa
open Go Go.RowKit Go.Maps Go.Shelf
set_option linter.unusedSectionVars false
variable [Base]
set_option linter.unusedVariables false
set_option linter.unusedSimpArgs false
set_option maxRecDepth 10000
def allKs (came : List (Int × LV)) (ks : List Int) : List LV := ks.filterMap (mget came)
def allL (came : List (Int × LV)) : List LV := allKs came (sortI (came.map (·.1)))
theorem allKs_snoc (came : List (Int × LV)) (a : List Int) (k : Int) : allKs came (a ++ [k]) = allKs came a ++ (mget came k).toList := by
  unfold allKs
  rw [List.filterMap_append]
  cases h : mget came k <;> simp [h]
/-- Whatever came is read in this heap. -/
def CameIn (h : Hp) (came : List (Int × LV)) : Prop := ∀ e ∈ came, Sl h 6 vcells e.2.1 e.2.2
theorem CameIn.ext {h h' : Hp} {came : List (Int × LV)} (c : CameIn h came) (x : Ext h h') : CameIn h' came := fun e he => (c e he).ext x
theorem allKs_mem {came : List (Int × LV)} {ks : List Int} {a : LV} (h : a ∈ allKs came ks) : ∃ k, (k, a) ∈ came := by
  obtain ⟨k, _, hk⟩ := List.mem_filterMap.1 h
  exact ⟨k, mget_mem hk⟩
/-- append of one cell, whatever value of one cell it is. -/
theorem Own.pushV {α : Type} {h : Hp} {base sz : Nat} {enc : α → List Value} {v : Value} {l : List α} (o : Own h base sz enc v l) (he : ∀ a, (enc a).length = sz) (a : α) (ho : ∀ b ∈ l ++ [a], (enc b).all one = true) {z c : Array Value} {bytes : Nat}
    (hc : c.toList = enc a) (hB : Base.b ≤ h.size) (hz : z.size = sz) (hb : base ≤ h.size) (hbytes : (l.length + 1) * bytes ≤ 140737488355328) {K : Kont}
    (hK : ∀ v' h', Own h' base sz enc v' (l ++ [a]) → Upd (fun b => base ≤ b) h h' → K v' h') :
    oAppend sz bytes z v (.slice (some ⟨h.size, 0, none⟩) 1 1) (h.push (.cells c)) K := by
  have hcs : c.size = sz := by rw [← Array.length_toList, hc, he]
  have hl := flat_len he l
  have hsrc : srcCells sz (.slice (some ⟨h.size, 0, none⟩) 1 1) (h.push (.cells c)) = some (1, enc a) := by
    simp only [srcCells, Nat.one_mul]
    rw [rdN_blk (g_push_eq rfl) (by omega), List.drop_zero, hc, List.take_of_length_le (by rw [he]; exact Nat.le_refl _)]
    rfl
  have hoa : (enc a).all one = true := ho a (by simp)
  have x1 : Ext h (h.push (.cells c)) := (by repeat' (first|with_reducible (first|exact u0 _|refine u1 ?_ _|refine u2 ?_ _ _ ?_)|exact .inl (by (first|omega|(simp only [zz,Nat.reduceAdd,Nat.reduceLeDiff];done)|(simp only [zz];omega)))|exact .inr rfl|exact .inr (by simp;done)))
  rcases o with ⟨rfl, rfl⟩ | ⟨g, cap, c', rfl, hbase, hg, hn, hsz, ht⟩
  · refine ⟨1, enc a, hsrc, fun h => by omega, fun _ => ⟨[], rfl, by simpa using hbytes, x1.hB hB, fun nc hnc => hK _ _ (.inr ⟨(h.push (.cells c)).size, nc, _, by simp, by simp; omega, g_push_eq rfl, by simpa using hnc, ?_, ?_⟩) (Upd.push (Upd.push (Upd.refl _) _) _)⟩⟩
    · simp only [Array.size_append, List.size_toArray, List.length_nil, Nat.zero_add, he, zeroCells_size, hz]
      simp at hnc
      rw [show nc - (0 + 1) = nc - 1 by omega, Nat.sub_mul, Nat.one_mul]
      have : sz ≤ nc * sz := Nat.le_mul_of_pos_left _ hnc
      omega
    · simp only [List.nil_append, Array.toList_append, List.length_singleton, Nat.one_mul, List.flatMap_singleton]
      simp [he]
  · have hg1 := x1.get hg id
    have lg := lt_of_get hg
    refine ⟨1, enc a, hsrc, fun hc2 => .inr ⟨g, 0, c', rfl, hg1, ?_, hoa, ?_⟩, fun hc2 => ?_⟩
    · rw [he, hsz, Nat.zero_add]
      have := Nat.mul_le_mul_right sz hc2
      rw [Nat.add_mul, Nat.one_mul] at this
      exact this
    · refine hK _ _ (.inr ⟨g, cap, _, by simp, hbase, g_set_eq (x1.lt lg) rfl, by simpa using hc2, by rw [setL_size]; exact hsz, ?_⟩) (Upd.set (Upd.push (Upd.refl _) _) _ _ (.inr hbase))
      have := Nat.mul_le_mul_right sz hc2
      rw [Nat.add_mul, Nat.one_mul] at this
      rw [List.length_append, List.length_singleton, Nat.add_mul, Nat.one_mul, Nat.zero_add, show l.length * sz + sz = l.length * sz + (enc a).length by rw [he], setL_take _ _ _ (by rw [he, hsz]; exact this), ht, List.flatMap_append]
      simp
    · have hself : srcCells sz (.slice (some ⟨g, 0, none⟩) l.length cap) (h.push (.cells c)) = some (l.length, l.flatMap enc) := by
        have : Sl h sz enc (.slice (some ⟨g, 0, none⟩) l.length cap) l := Own.sl (base := base) (.inr ⟨g, cap, c', rfl, hbase, hg, hn, hsz, ht⟩)
        obtain ⟨_, _, hh, _, e⟩ := this.ext x1
        cases hh; exact e
      refine ⟨_, hself, hbytes, x1.hB hB, fun nc hnc => hK _ _ (.inr ⟨(h.push (.cells c)).size, nc, _, by simp, by simp; omega, g_push_eq rfl, by simpa using hnc, ?_, ?_⟩) (Upd.push (Upd.push (Upd.refl _) _) _)⟩
      · simp only [Array.size_append, List.size_toArray, hl, he, zeroCells_size, hz]
        rw [Nat.sub_mul, Nat.add_mul, Nat.one_mul]
        have := Nat.mul_le_mul_right sz hnc
        rw [Nat.add_mul, Nat.one_mul] at this
        omega
      · simp only [Array.toList_append, List.length_append, List.length_singleton, Nat.add_mul, Nat.one_mul, List.flatMap_append, List.flatMap_singleton]
        rw [List.take_append_of_le_length (by simp [hl, he]), List.take_of_length_le (by simp [hl, he])]
set_option maxHeartbeats 1000000 in
theorem sp_lall {h : Hp} (hB : Base.b ≤ h.size) {p rc ro : Nat} {x : LS} {came : List (Int × LV)} {opn : List (Int × Prp)} (hL : Lead h p rc ro x came opn) (hk : KeysFine came) (hc : CameIn h came) {K : Kont}
    (hK : ∀ v h', Ext h h' → Own h' h.size 1 lvc v (allL came) → K v h') : C_q110 [pt p 0] h K := by
  refine ok_q110 ?_
  unfold G_q110
  have hb := hL.blk
  simp (maxSteps:=999999) (disch:=(first|omega|(simp only [zz,Nat.reduceAdd,Nat.reduceLeDiff];done)|(simp only [zz];omega))) only [↓xa,xb,xl,xy,Int.reduceLT,Int.reduceLE,Int.reduceEq,Nat.reduceAdd,Nat.reduceMul,Nat.reduceLeDiff,setL,bfill,eqV,lookRes, rdC_blk hb, lcells]
  refine sp_sortedB hB hL.came hk ?_
  intro _ v1 h1 x1 o1
  have sl1 := o1.sl
  generalize hks : sortI (came.map (·.1)) = ks at o1 sl1
  have hlen : ks.length ≤ 100000 := by rw [← hks]; have := hk.2.2; simpa using this
  simp (maxSteps:=999999) (disch:=(first|omega|(simp only [zz,Nat.reduceAdd,Nat.reduceLeDiff];done)|(simp only [zz];omega))) only [↓xa,xb,xl,xy,Int.reduceLT,Int.reduceLE,Int.reduceEq,Nat.reduceAdd,Nat.reduceMul,Nat.reduceLeDiff,setL,bfill,eqV,lookRes, ↓sl1.len']
  refine rule_q110_1 (fun v3 v11 h' => ∃ i : Nat, v11 = .int .i64 i ∧ i ≤ ks.length ∧ Ext h1 h' ∧ Own h' h1.size 1 lvc v3 (allKs came (ks.take i))) (fun v3 v11 h' => ks.length - ival v11) ?_ _ _ _ _ ⟨0, rfl, Nat.zero_le _, Upd.refl _, Own.nil⟩
  rintro self v3 v11 d h' ⟨i, rfl, hi, y, ho⟩ hself
  unfold B_q110_1
  have sl2 := sl1.ext y
  have hB' := (x1.trans y).hB hB
  have hL2 := hL.ext (x1.trans y)
  have hb2 := hL2.blk
  by_cases hlt : i < ks.length
  · have hmem := nth_mem hlt
    rw [← hks, sortI_mem] at hmem
    obtain ⟨q, hq⟩ := mget_key hk.1 hmem
    rw [hks] at hq
    have htk : allKs came (ks.take (i + 1)) = allKs came (ks.take i) ++ [q] := by
      rw [take_nth hlt, allKs_snoc, hq]; rfl
    have hle := Nat.le_trans (List.length_filterMap_le (mget came) (ks.take i)) (List.length_take_le ..)
    have hle' : (allKs came (ks.take i)).length ≤ i := hle
    obtain ⟨⟨n, q'⟩, hf, rfl⟩ : ∃ z, mfind came (nth ks i) 0 = some z ∧ z.2 = q := by simpa [mget] using hq
    have h1v : ∀ b ∈ allKs came (ks.take i) ++ [q'], (lvc b).all one = true := by
      intro b hb
      rw [← htk] at hb
      obtain ⟨k, hk'⟩ := allKs_mem hb
      have := sl_one (hc _ hk')
      simpa using this
    have hq1 : one q'.1 = true := by have := h1v q' (by simp); simpa using this
    have hqc := one_cells hq1
    have hy := y.1
    simp (maxSteps:=999999) (disch:=(first|omega|(simp only [zz,Nat.reduceAdd,Nat.reduceLeDiff];done)|(simp only [zz];omega))) only [↓xa,xb,xl,xy,Int.reduceLT,Int.reduceLE,Int.reduceEq,Nat.reduceAdd,Nat.reduceMul,Nat.reduceLeDiff,setL,bfill,eqV,lookRes, decide_eq_true (Int.ofNat_lt.2 hlt), ↓sl2.idx, sl2.cell0 icell_len, Go.encZ, rdC_blk hb2, lcells, m_blk hL2.came, kvFind_enc, hf, lvV, hqc]
    refine Own.pushV ho lvc_len q' h1v ?_ hB' ?_ (by omega) ?_ ?_
    · rfl
    · rfl
    · omega
    intro v' h3 o3 u3
    (try simp (maxSteps:=999999) (disch:=(first|omega|(simp only [zz,Nat.reduceAdd,Nat.reduceLeDiff];done)|(simp only [zz];omega))) only [↓xa,xb,xl,xy,Int.reduceLT,Int.reduceLE,Int.reduceEq,Nat.reduceAdd,Nat.reduceMul,Nat.reduceLeDiff,setL,bfill,eqV,lookRes])
    exact hself _ _ _ _ ⟨i + 1, rfl, hlt, y.ext u3 (Nat.le_refl _), by rw [htk]; exact o3⟩ (by simp only [ival_nat, show ((i : Int) + 1) = ((i + 1 : Nat) : Int) from rfl]; omega)
  · simp (maxSteps:=999999) (disch:=(first|omega|(simp only [zz,Nat.reduceAdd,Nat.reduceLeDiff];done)|(simp only [zz];omega))) only [↓xa,xb,xl,xy,Int.reduceLT,Int.reduceLE,Int.reduceEq,Nat.reduceAdd,Nat.reduceMul,Nat.reduceLeDiff,setL,bfill,eqV,lookRes, decide_eq_false (show ¬ (i : Int) < (ks.length : Int) by omega)]
    rw [List.take_of_length_le (by omega)] at ho
    refine hK _ _ (x1.trans y) ?_
    unfold allL
    rw [hks]
    exact ho.low x1.1
end Go.Proofs.Ytdolepapmpcpiaa

namespace Go.Proofs.Ytdolepapmpcpiaa
open Go Go.RowKit Go.Maps Go.Shelf
set_option linter.unusedSectionVars false
variable [Base]
set_option linter.unusedVariables false
set_option linter.unusedSimpArgs false
set_option maxRecDepth 10000
/-- What is proposed in the first n slots from f on. -/
def fillM (f : Int) (best : List Vote) (n : Nat) : List (Int × Prp) := (List.range n).map fun (j : Nat) => (f + (j : Int), ⟨((atL best (f + (j : Int))).getD vote0).cmd, noneQ⟩)
theorem fillM_keys (f : Int) (best : List Vote) (n : Nat) : (fillM f best n).map (·.1) = (List.range n).map fun (j : Nat) => f + (j : Int) := by simp [fillM]
theorem fillM_len (f : Int) (best : List Vote) (n : Nat) : (fillM f best n).length = n := by simp [fillM]
theorem fillM_succ (f : Int) (best : List Vote) (n : Nat) : fillM f best (n + 1) = fillM f best n ++ [(f + n, ⟨((atL best (f + n)).getD vote0).cmd, noneQ⟩)] := by
  unfold fillM
  rw [List.range_succ, List.map_append]
  rfl
theorem mset_new {α : Type} {m : List (Int × α)} {k : Int} (h : k ∉ m.map (·.1)) (x : α) : mset m k x = m ++ [(k, x)] := by
  unfold mset
  cases hf : mfind m k 0 with
  | none => rfl
  | some p =>
    obtain ⟨n, y⟩ := p
    exact absurd (List.mem_map.2 ⟨_, List.mem_of_getElem? (mfind_get hf).2, rfl⟩) h
theorem fillM_lay (f : Int) (best : List Vote) (n : Nat) {c : Cmd} (hc : ((atL best (f + n)).getD vote0).cmd = c) : mset (fillM f best n) (f + n) ⟨c, noneQ⟩ = fillM f best (n + 1) := by
  rw [mset_new, fillM_succ, hc]
  rw [fillM_keys]
  intro h
  obtain ⟨j, hj, e⟩ := List.mem_map.1 h
  rw [List.mem_range] at hj
  omega
theorem fillM_fine (f : Int) (best : List Vote) (n : Nat) (h0 : 0 ≤ f) (hn : f + n ≤ 512) : KeysFine (fillM f best n) := by
  refine ⟨?_, ?_, by rw [fillM_len]; omega⟩
  · unfold keysOk
    rw [fillM_keys]
    refine List.Pairwise.map _ ?_ List.nodup_range
    intro a b hab e
    omega
  · rw [fillM_keys]
    intro k hk
    obtain ⟨j, hj, rfl⟩ := List.mem_map.1 hk
    rw [List.mem_range] at hj
    unfold i64ok
    omega
/-- How many slots are filled. -/
def fillN (f : Int) (best : List Vote) : Nat := match best.getLast? with | none => 0 | some v => (v.slot + 1 - f).toNat
theorem rising_take {l : List Vote} (h : Rising l) {i : Nat} (hi : i < l.length) : ∀ v ∈ l.take i, v.slot < (nth l i).slot := by
  intro v hv
  have : l = l.take i ++ nth l i :: l.drop (i + 1) := by rw [← drop_nth hi, List.take_append_drop]
  unfold Rising at h
  rw [this, List.pairwise_append] at h
  exact h.2.2 v hv _ (List.mem_cons_self ..)
theorem rising_drop {l : List Vote} (h : Rising l) {i : Nat} (hi : i < l.length) : ∀ v ∈ l.drop (i + 1), (nth l i).slot < v.slot := by
  intro v hv
  have : l = l.take i ++ nth l i :: l.drop (i + 1) := by rw [← drop_nth hi, List.take_append_drop]
  unfold Rising at h
  rw [this, List.pairwise_append] at h
  exact (List.pairwise_cons.1 h.2.1).1 v hv
/-- Between the votes ahead of i and i's there is none. -/
theorem atL_between {l : List Vote} (h : Rising l) {i : Nat} (hi : i < l.length) {s : Int} (h1 : ∀ v ∈ l.take i, v.slot < s) (h2 : s < (nth l i).slot) : atL l s = none := by
  cases he : atL l s with
  | none => rfl
  | some v =>
    obtain ⟨hm, hs⟩ := atL_mem he
    have : l = l.take i ++ nth l i :: l.drop (i + 1) := by rw [← drop_nth hi, List.take_append_drop]
    rw [this] at hm
    rcases List.mem_append.1 hm with hm | hm
    · have := h1 v hm; omega
    · cases hm with
      | head => omega
      | tail _ hm => have := rising_drop h hi v hm; omega
set_option maxHeartbeats 2000000 in
theorem sp_lfill {h : Hp} (hB : Base.b ≤ h.size) {p rc ro : Nat} {x : LS} {came : List (Int × LV)} (hL : Lead h p rc ro x came []) (hk : KeysFine came) (hc : CameIn h came) (hn : x.next = x.frm) (hf0 : 0 ≤ x.frm ∧ x.frm ≤ 512)
    (hv : ∀ v ∈ votesOf (allL came), x.frm ≤ v.slot ∧ v.slot < 512) (hlen : (votesOf (allL came)).length ≤ 1048576) {K : Kont}
    (hK : ∀ h', Upd (fun r => r = p ∨ r = ro) h h' → Lead h' p rc ro { x with next := x.frm + fillN x.frm (rBestL (votesOf (allL came))) } came (fillM x.frm (rBestL (votesOf (allL came))) (fillN x.frm (rBestL (votesOf (allL came))))) → K (.tuple #[]) h') : C_q95 [pt p 0] h K := by
  refine ok_q95 ?_
  unfold G_q95
  refine sp_lall hB hL hk hc ?_
  intro v1 h1 x1 o1
  have hall : (allL came).length ≤ 100000 := by
    have h1 := List.length_filterMap_le (mget came) (sortI (came.map (·.1)))
    have h2 := hk.2.2
    unfold allL allKs
    simp at h1
    omega
  refine sp_Best (x1.hB hB) ⟨o1.sl, fun a ha => by obtain ⟨k, hk'⟩ := allKs_mem ha; exact (hc _ hk').ext x1⟩ hlen (by omega) (fun v hv' => by have := hv v hv'; unfold i64ok; omega) ?_
  intro v2 h2 x2 o2
  have hbo := (both_best (votesOf (allL came))).rise
  have hbm : ∀ v ∈ rBestL (votesOf (allL came)), x.frm ≤ v.slot ∧ v.slot < 512 := by
    intro v hv'
    have gen : ∀ (l out : List Vote), (∀ v ∈ l, x.frm ≤ v.slot ∧ v.slot < 512) → (∀ v ∈ out, x.frm ≤ v.slot ∧ v.slot < 512) → ∀ v ∈ l.foldl bestR out, x.frm ≤ v.slot ∧ v.slot < 512 := by
      intro l
      induction l with
      | nil => intro out _ h; exact h
      | cons w l ih =>
        intro out hl ho
        refine ih _ (fun v hv => hl v (List.mem_cons_of_mem _ hv)) ?_
        intro v hv
        have hw := hl w (List.mem_cons_self ..)
        unfold bestR at hv
        split at hv
        · rcases putL_mem w hv with rfl | hv
          · exact hw
          · exact ho v hv
        · split at hv
          · rcases putL_mem w hv with rfl | hv
            · exact hw
            · exact ho v hv
          · exact ho v hv
    exact gen _ [] hv (by simp) v hv'
  have hbl := rBestL_len (votesOf (allL came))
  have x02 := x1.trans x2
  have hL2 := hL.ext x02
  have lp := lt_of_get hL.blk
  have lo := lt_of_get hL.opn
  generalize rBestL (votesOf (allL came)) = best at hbo hbm hbl o2 hK
  have sl2 := o2.sl
  have hv2 : ∀ b, blk v2 = some b → ¬ (b = p ∨ b = ro) := fun b hb => by have := o2.blk_ge hb; have := x1.1; omega
  simp (maxSteps:=999999) (disch:=(first|omega|(simp only [zz,Nat.reduceAdd,Nat.reduceLeDiff];done)|(simp only [zz];omega))) only [↓xa,xb,xl,xy,Int.reduceLT,Int.reduceLE,Int.reduceEq,Nat.reduceAdd,Nat.reduceMul,Nat.reduceLeDiff,setL,bfill,eqV,lookRes, ↓sl2.len']
  refine rule_q95_1 (fun v8 h' => ∃ (i n : Nat), v8 = .int .i64 i ∧ i ≤ best.length ∧ Upd (fun r => r = p ∨ r = ro) h h' ∧ Sl h' 6 vcells v2 best ∧ Lead h' p rc ro { x with next := x.frm + n } came (fillM x.frm best n) ∧ x.frm + n ≤ 512 ∧ (∀ v ∈ best.take i, v.slot < x.frm + n) ∧ n = fillN x.frm (best.take i)) (fun v8 h' => best.length - ival v8) ?_ _ _ _
    ⟨0, 0, rfl, Nat.zero_le _, x02.lift, sl2, ?_, ?_, by simp, rfl⟩
  rotate_left
  · have := hL2
    rw [show fillM x.frm best 0 = [] from rfl]
    have e : ({ x with next := x.frm + ((0 : Nat) : Int) } : LS) = x := by cases x; simp_all
    rw [e]
    exact this
  · simpa using hf0.2
  rintro self v8 d h3 ⟨i, n, rfl, hi, u, sl3, hL3, hn3, hlow, hfn⟩ hself
  unfold B_q95_1
  by_cases hlt : i < best.length
  rotate_left
  · simp (maxSteps:=999999) (disch:=(first|omega|(simp only [zz,Nat.reduceAdd,Nat.reduceLeDiff];done)|(simp only [zz];omega))) only [↓xa,xb,xl,xy,Int.reduceLT,Int.reduceLE,Int.reduceEq,Nat.reduceAdd,Nat.reduceMul,Nat.reduceLeDiff,setL,bfill,eqV,lookRes, decide_eq_false (show ¬ (i : Int) < (best.length : Int) by omega)]
    rw [List.take_of_length_le (by omega)] at hfn
    subst hfn
    exact hK _ u hL3
  have hrow := sl3.row vcells_len i hlt
  have hB3 := u.hB hB
  have hu1 := u.1
  have hsb := sl3.lt vcells_len (by omega) (by decide)
  have hvm := hbm _ (nth_mem hlt)
  have hrl := rising_take hbo hlt
  have hat : atL best (nth best i).slot = some (nth best i) := atL_of_mem hbo (nth_mem hlt)
  have hbt := fun s h1 h2 => atL_between hbo hlt (s := s) h1 h2
  have htk := take_nth hlt
  have hle : x.frm + (n : Int) ≤ (nth best i).slot := by
    rw [hfn]
    unfold fillN
    cases hg : (best.take i).getLast? with
    | none => simp; exact hvm.1
    | some w =>
      have hw := hrl w (List.mem_of_getLast? hg)
      have hw2 := (hbm w (List.mem_of_mem_take (List.mem_of_getLast? hg))).1
      simp only
      omega
  have hfn' : fillN x.frm (best.take (i + 1)) = ((nth best i).slot + 1 - x.frm).toNat := by
    rw [htk]; unfold fillN; simp
  generalize nth best i = v at hrow hvm hrl hat hbt htk hle hfn'
  obtain ⟨vs, vb, vc⟩ := v
  obtain ⟨c1, c2, c3, c4⟩ := vc
  simp only at hvm hrl hat hbt hle hfn'
  simp (maxSteps:=999999) (disch:=(first|omega|(simp only [zz,Nat.reduceAdd,Nat.reduceLeDiff];done)|(simp only [zz];omega))) only [↓xa,xb,xl,xy,Int.reduceLT,Int.reduceLE,Int.reduceEq,Nat.reduceAdd,Nat.reduceMul,Nat.reduceLeDiff,setL,bfill,eqV,lookRes, decide_eq_true (Int.ofNat_lt.2 hlt), ↓sl3.idx, hrow, vcells]
  refine rule_q95_2 (fun h' => ∃ n' : Nat, Upd (fun r => r = p ∨ r = ro) h h' ∧ Sl h' 6 vcells v2 best ∧ Lead h' p rc ro { x with next := x.frm + n' } came (fillM x.frm best n') ∧ x.frm + n' ≤ vs ∧ (∀ v ∈ best.take i, v.slot < x.frm + n') ∧ h'[h3.size]? = some (.cells #[.int .i64 vs, .int .u64 vb, .int .i64 c1, .int .i64 c2, .int .u64 c3, .int .i64 c4]))
    (fun h' => match rdC h' p 5 with | some (.int _ m) => (vs - m).toNat | _ => 0) ?_ _ _ ⟨n, ?_, ?_, ?_, hle, hlow, g_set_eq (by simp) rfl⟩
  rotate_left
  · exact (by repeat' (first|with_reducible (first|exact u0 _|exact u|refine u1 ?_ _|refine u2 ?_ _ _ ?_)|exact .inl (by (first|omega|(simp only [zz,Nat.reduceAdd,Nat.reduceLeDiff];done)|(simp only [zz];omega)))|exact .inr rfl|exact .inr (by simp;done)))
  · refine sl3.ext ?_
    exact (by repeat' (first|with_reducible (first|exact u0 _|refine u1 ?_ _|refine u2 ?_ _ _ ?_)|exact .inl (by (first|omega|(simp only [zz,Nat.reduceAdd,Nat.reduceLeDiff];done)|(simp only [zz];omega)))|exact .inr rfl|exact .inr (by simp;done)))
  · refine hL3.ext ?_
    exact (by repeat' (first|with_reducible (first|exact u0 _|refine u1 ?_ _|refine u2 ?_ _ _ ?_)|exact .inl (by (first|omega|(simp only [zz,Nat.reduceAdd,Nat.reduceLeDiff];done)|(simp only [zz];omega)))|exact .inr rfl|exact .inr (by simp;done)))
  clear hL3 hrow hsb hlow sl3 hfn hle
  rintro self2 d h4 ⟨n', u4, sl4, hL4, hn4, hlow4, hw⟩ hself2
  unfold B_q95_2
  have hb4 := hL4.blk
  have lp4 := lt_of_get hL4.blk
  have lo4 := lt_of_get hL4.opn
  have lw := lt_of_get hw
  have hB4 := u4.hB hB
  have hr5 : rdC h4 p 5 = some (.int .i64 (x.frm + n')) := by rw [rdC_blk hb4]; rfl
  by_cases hl4 : x.frm + (n' : Int) < vs
  · simp (maxSteps:=999999) (disch:=(first|omega|(simp only [zz,Nat.reduceAdd,Nat.reduceLeDiff];done)|(simp only [zz];omega))) only [↓xa,xb,xl,xy,Int.reduceLT,Int.reduceLE,Int.reduceEq,Nat.reduceAdd,Nat.reduceMul,Nat.reduceLeDiff,setL,bfill,eqV,lookRes, rdC_blk hb4, lcells, rdC_blk hw, decide_eq_true hl4]
    refine sp_llay hB4 hL4 (by simp only; omega) cmd0 ?_
    intro h5 u5 hL5
    rw [fillM_lay x.frm best n' (by rw [hbt _ hlow4 hl4]; rfl)] at hL5
    have e : layX ({ x with next := x.frm + n' } : LS) = { x with next := x.frm + ((n' + 1 : Nat) : Int) } := by
      unfold layX; simp only; congr 1; omega
    rw [e] at hL5
    have hb5 : rdC h5 p 5 = some (.int .i64 (x.frm + ((n' + 1 : Nat) : Int))) := by rw [rdC_blk hL5.blk]; rfl
    refine hself2 _ _ ⟨n' + 1, u4.trans u5, ?_, hL5, by omega, fun v hv => by have := hlow4 v hv; omega, u5.get hw ?_⟩ (by simp only [hb5, hr5]; omega)
    · exact sl4.upd u5 hv2
    · have := u.1; omega
  · have e4 : vs = x.frm + n' := by omega
    simp (maxSteps:=999999) (disch:=(first|omega|(simp only [zz,Nat.reduceAdd,Nat.reduceLeDiff];done)|(simp only [zz];omega))) only [↓xa,xb,xl,xy,Int.reduceLT,Int.reduceLE,Int.reduceEq,Nat.reduceAdd,Nat.reduceMul,Nat.reduceLeDiff,setL,bfill,eqV,lookRes, rdC_blk hb4, lcells, rdC_blk hw, decide_eq_false hl4, rdN_of hw]
    refine sp_llay hB4 hL4 (by simp only; omega) ⟨c1, c2, c3, c4⟩ ?_
    intro h5 u5 hL5
    rw [fillM_lay x.frm best n' (by rw [← e4, hat]; rfl)] at hL5
    have e : layX ({ x with next := x.frm + n' } : LS) = { x with next := x.frm + ((n' + 1 : Nat) : Int) } := by
      unfold layX; simp only; congr 1; omega
    rw [e] at hL5
    (try simp (maxSteps:=999999) (disch:=(first|omega|(simp only [zz,Nat.reduceAdd,Nat.reduceLeDiff];done)|(simp only [zz];omega))) only [↓xa,xb,xl,xy,Int.reduceLT,Int.reduceLE,Int.reduceEq,Nat.reduceAdd,Nat.reduceMul,Nat.reduceLeDiff,setL,bfill,eqV,lookRes])
    refine hself _ _ _ ⟨i + 1, n' + 1, rfl, hlt, u4.trans u5, ?_, hL5, by omega, ?_, ?_⟩ (by simp only [ival_nat, show ((i : Int) + 1) = ((i + 1 : Nat) : Int) from rfl]; omega)
    · exact sl4.upd u5 hv2
    · intro v hv
      rw [htk] at hv
      rcases List.mem_append.1 hv with hv | hv
      · have := hlow4 v hv; omega
      · rw [List.mem_singleton] at hv; subst hv; simp only; omega
    · rw [hfn', e4]; omega
end Go.Proofs.Ytdolepapmpcpiaa

namespace Go.Proofs.Ytdolepapmpcpiaa
open Go Go.RowKit Go.Maps Go.Shelf
set_option linter.unusedSectionVars false
variable [Base]
set_option linter.unusedVariables false
set_option linter.unusedSimpArgs false
set_option maxRecDepth 10000
def memQ (l : List Int) : Int → Bool := fun i => decide (i ∈ l)
theorem foldl_addQ : ∀ (l : List Int) (q : Int → Bool), l.foldl addQ q = fun i => q i || decide (i ∈ l)
  | [], q => by funext i; simp
  | a :: l, q => by
    rw [List.foldl_cons, foldl_addQ l]
    funext i
    simp only [addQ, List.mem_cons]
    by_cases h1 : i = a <;> by_cases h2 : i ∈ l <;> simp [h1, h2]
theorem foldl_noneQ (l : List Int) : l.foldl addQ noneQ = memQ l := by rw [foldl_addQ]; funext i; simp [noneQ, memQ]
theorem memQ_perm {a b : List Int} (h : a.Perm b) : memQ a = memQ b := by funext i; simp [memQ, h.mem_iff]
def badSlot (f : Int) (v : Vote) : Bool := decide (v.slot < f ∨ 512 ≤ v.slot)
def cutV (f : Int) (l : List Vote) : List Vote := l.filter fun v => !badSlot f v
theorem sp_c1 {h : Hp} (hB : Base.b ≤ h.size) {p w : Nat} {x : LS} {cm om : Option Nat} (hb : h[p]? = some (.cells (lcells x cm om))) (hw : h[w]? = some (.cells #[pt p 0])) (v : Vote) {K : Kont} (hK : ∀ h', Ext h h' → K (.bool (badSlot x.frm v)) h') : C_q34 [voteV v, pt w 0] h K := by
  refine ok_q34 ?_
  unfold G_q34
  have lp := lt_of_get hb
  have lw := lt_of_get hw
  obtain ⟨s, b, c1, c2, c3, c4⟩ := v
  unfold voteV
  (repeat' (first|(simp (maxSteps:=999999) (disch:=(first|omega|(simp only [zz,Nat.reduceAdd,Nat.reduceLeDiff];done)|(simp only [zz];omega))) only [↓xa,xb,xl,xy,Int.reduceLT,Int.reduceLE,Int.reduceEq,Nat.reduceAdd,Nat.reduceMul,Nat.reduceLeDiff,setL,bfill,eqV,lookRes, rdC_blk hb, rdC_blk hw, lcells])|((first|refine e_ifd _ _ _ (fun hc=>?_) (fun hc=>?_)|refine e_ifn _ _ _ (fun hc=>?_) (fun hc=>?_)|refine e_gd _ _ _ _ _ (fun hc=>?_) (fun hc=>?_)|refine e_gn _ _ _ _ _ (fun hc=>?_) (fun hc=>?_)|refine e_pd _ _ _ _ _ (fun hc=>?_) (fun hc=>?_)|refine e_pn _ _ _ _ _ (fun hc=>?_) (fun hc=>?_)|refine e_if2 _ _ _ (fun hc=>?_) (fun hc=>?_)|refine e_g2 _ _ _ _ _ (fun hc=>?_) (fun hc=>?_)) <;> first|(exfalso;omega)|(simp (maxSteps:=999999) (disch:=(first|omega|(simp only [zz,Nat.reduceAdd,Nat.reduceLeDiff];done)|(simp only [zz];omega))) only [↓xa,xb,xl,xy,Int.reduceLT,Int.reduceLE,Int.reduceEq,Nat.reduceAdd,Nat.reduceMul,Nat.reduceLeDiff,setL,bfill,eqV,lookRes, rdC_blk hb, rdC_blk hw, lcells, hc])|skip)))
  all_goals exact k_cast (hK _ (by repeat' (first|with_reducible (first|exact u0 _|refine u1 ?_ _|refine u2 ?_ _ _ ?_)|exact .inl (by (first|omega|(simp only [zz,Nat.reduceAdd,Nat.reduceLeDiff];done)|(simp only [zz];omega)))|exact .inr rfl|exact .inr (by simp;done)))) (by congr 1; simp [badSlot]; omega)
theorem asks_c1 {h : Hp} (hB : Base.b ≤ h.size) {p w : Nat} {x : LS} {cm om : Option Nat} (hb : h[p]? = some (.cells (lcells x cm om))) (hw : h[w]? = some (.cells #[pt p 0])) : Asks h (.func (.func 56) #[] #[pt w 0]) (badSlot x.frm) := by
  intro v h' K y hk
  rw [e_callV _ _ _ _ _ _ _ ent_q34]
  exact sp_c1 (y.hB hB) (y.get hb id) (y.get hw id) v hk
/-- What came, as it may be. -/
structure CameOk (x : LS) (came : List (Int × LV)) : Prop where
  keys : keysOk came
  who : ∀ k ∈ came.map (·.1), 1 ≤ k ∧ k ≤ x.masters
  slots : ∀ e ∈ came, ∀ v ∈ e.2.2, x.frm ≤ v.slot ∧ v.slot < 512
  len : ∀ e ∈ came, e.2.2.length ≤ 100000
  masters : 1 ≤ x.masters ∧ x.masters ≤ 5
  frm : 0 ≤ x.frm ∧ x.frm ≤ 512
theorem nodup_le {n : Nat} : ∀ {l : List Int}, l.Nodup → (∀ k ∈ l, 1 ≤ k ∧ k ≤ (n : Int)) → l.length ≤ n := by
  induction n with
  | zero => intro l _ h; cases l with | nil => simp | cons a l => have := h a (List.mem_cons_self ..); omega
  | succ n ih =>
    intro l hl h
    by_cases hm : ((n + 1 : Nat) : Int) ∈ l
    · have h1 := ih (l := l.erase ((n + 1 : Nat) : Int)) (hl.erase _) (fun k hk => by
        have h2 := (List.Nodup.mem_erase_iff hl).1 hk
        have := h k h2.2
        have := h2.1
        omega)
      rw [List.length_erase_of_mem hm] at h1
      omega
    · have := ih hl (fun k hk => by
        have h1 := h k hk
        have : k ≠ ((n + 1 : Nat) : Int) := fun e => hm (e ▸ hk)
        omega)
      omega
theorem CameOk.le5 {x : LS} {came : List (Int × LV)} (c : CameOk x came) : came.length ≤ 5 := by
  have := nodup_le (n := 5) c.keys (fun k hk => by have := c.who k hk; have := c.masters; omega)
  simpa using this
theorem CameOk.fine {x : LS} {came : List (Int × LV)} (c : CameOk x came) : KeysFine came :=
  ⟨c.keys, fun k hk => by have := c.who k hk; have := c.masters; unfold i64ok; omega, by have := c.le5; omega⟩
theorem CameOk.nil {x : LS} (h1 : 1 ≤ x.masters ∧ x.masters ≤ 5) (h2 : 0 ≤ x.frm ∧ x.frm ≤ 512) : CameOk x [] := ⟨List.nodup_nil, by simp, by simp, by simp, h1, h2⟩
theorem votesOf_len : ∀ (ls : List LV), (∀ a ∈ ls, a.2.length ≤ 100000) → (votesOf ls).length ≤ 100000 * ls.length
  | [], _ => by simp [votesOf]
  | a :: ls, h => by
    have h1 := h a (List.mem_cons_self ..)
    have h2 := votesOf_len ls (fun b hb => h b (List.mem_cons_of_mem _ hb))
    simp only [votesOf, List.flatMap_cons, List.length_append, List.length_cons] at h2 ⊢
    omega
theorem CameOk.total {x : LS} {came : List (Int × LV)} (c : CameOk x came) : (votesOf (allL came)).length ≤ 500000 := by
  have h1 := votesOf_len (allL came) (fun a ha => by obtain ⟨k, hk⟩ := allKs_mem ha; exact c.len _ hk)
  have h2 := List.length_filterMap_le (mget came) (sortI (came.map (·.1)))
  have h3 := c.le5
  unfold allL allKs at h1 ⊢
  simp at h2
  omega
theorem CameOk.all {x : LS} {came : List (Int × LV)} (c : CameOk x came) : ∀ v ∈ votesOf (allL came), x.frm ≤ v.slot ∧ v.slot < 512 := by
  intro v hv
  obtain ⟨a, ha, hv⟩ := List.mem_flatMap.1 hv
  obtain ⟨k, hk⟩ := allKs_mem ha
  exact c.slots _ hk v hv
/-- What comes of a promise: the votes are laid in, if that master is new. -/
def cameP (came : List (Int × LV)) (who : Int) (a : LV) : List (Int × LV) := if (mget came who).isSome then came else mset came who a
theorem CameOk.put {x : LS} {came : List (Int × LV)} (c : CameOk x came) {who : Int} (hw : 1 ≤ who ∧ who ≤ x.masters) {a : LV} (ha : ∀ v ∈ a.2, x.frm ≤ v.slot ∧ v.slot < 512) (hl : a.2.length ≤ 100000) : CameOk x (cameP came who a) := by
  unfold cameP
  split
  · exact c
  · rename_i hn
    have hnew : who ∉ came.map (·.1) := by
      intro h
      obtain ⟨q, hq⟩ := mget_key c.keys h
      rw [hq] at hn
      exact hn rfl
    rw [mset_new hnew]
    refine ⟨?_, ?_, ?_, ?_, c.masters, c.frm⟩
    · have := keysOk_mset c.keys who a
      rw [mset_new hnew] at this
      exact this
    · intro k hk
      simp only [List.map_append, List.mem_append, List.map_cons, List.map_nil, List.mem_singleton] at hk
      rcases hk with hk | rfl
      · exact c.who k hk
      · exact hw
    · intro e he
      rcases List.mem_append.1 he with he | he
      · exact c.slots e he
      · rw [List.mem_singleton] at he; subst he; exact ha
    · intro e he
      rcases List.mem_append.1 he with he | he
      · exact c.len e he
      · rw [List.mem_singleton] at he; subst he; exact hl
def promX (x : LS) (came : List (Int × LV)) : LS := { x with state := 2, next := x.frm + fillN x.frm (rBestL (votesOf (allL came))) }
def promO (x : LS) (came : List (Int × LV)) : List (Int × Prp) := fillM x.frm (rBestL (votesOf (allL came))) (fillN x.frm (rBestL (votesOf (allL came))))
end Go.Proofs.Ytdolepapmpcpiaa

namespace Go.Proofs.Ytdolepapmpcpiaa
open Go Go.RowKit Go.Maps Go.Shelf
set_option linter.unusedSectionVars false
variable [Base]
set_option linter.unusedVariables false
set_option linter.unusedSimpArgs false
set_option maxRecDepth 10000
theorem mem_cameP {came : List (Int × LV)} {who : Int} {a : LV} {e : Int × LV} (h : e ∈ cameP came who a) : e ∈ came ∨ e = (who, a) := by
  unfold cameP at h
  split at h
  · exact .inl h
  · rename_i hn
    unfold mset at h
    cases hf : mfind came who 0 with
    | none =>
      rw [hf] at h
      rcases List.mem_append.1 h with h | h
      · exact .inl h
      · exact .inr (by simpa using h)
    | some z => simp [mget, hf] at hn
theorem fillN_le {f : Int} {l : List Vote} (hf : 0 ≤ f ∧ f ≤ 512) (h : ∀ v ∈ l, f ≤ v.slot ∧ v.slot < 512) : f + (fillN f l : Int) ≤ 512 := by
  unfold fillN
  cases hg : l.getLast? with
  | none => simp; exact hf.2
  | some v => have := h v (List.mem_of_getLast? hg); simp only; omega
theorem rBest_mem (P : Vote → Prop) : ∀ (l out : List Vote), (∀ v ∈ l, P v) → (∀ v ∈ out, P v) → ∀ v ∈ l.foldl bestR out, P v := by
  intro l
  induction l with
  | nil => intro out _ h; exact h
  | cons w l ih =>
    intro out hl ho
    refine ih _ (fun v hv => hl v (List.mem_cons_of_mem _ hv)) ?_
    intro v hv
    have hw := hl w (List.mem_cons_self ..)
    unfold bestR at hv
    split at hv
    · rcases putL_mem w hv with rfl | hv
      · exact hw
      · exact ho v hv
    · split at hv
      · rcases putL_mem w hv with rfl | hv
        · exact hw
        · exact ho v hv
      · exact ho v hv
/-- A promise that is not asked for. -/
theorem sp_lPromiseBad {h : Hp} (hB : Base.b ≤ h.size) {p : Nat} {x : LS} {cm om : Option Nat} (hb : h[p]? = some (.cells (lcells x cm om))) (b who : Int) (va : Value) (hbad : ¬ ((x.state = 1 ∧ x.ballot = b) ∧ 1 ≤ who ∧ who ≤ x.masters)) {K : Kont}
    (hK : ∀ h', Ext h h' → K (.tuple #[.slice none 0 0, .bool false]) h') : C_q57 [pt p 0, .int .u64 b, .int .i64 who, va] h K := by
  refine ok_q57 ?_
  unfold G_q57
  have x1 : Ext h (h.push (.cells #[pt p 0])) := (by repeat' (first|with_reducible (first|exact u0 _|refine u1 ?_ _|refine u2 ?_ _ _ ?_)|exact .inl (by (first|omega|(simp only [zz,Nat.reduceAdd,Nat.reduceLeDiff];done)|(simp only [zz];omega)))|exact .inr rfl|exact .inr (by simp;done)))
  have hb1 := x1.get hb id
  (try simp (maxSteps:=999999) (disch:=(first|omega|(simp only [zz,Nat.reduceAdd,Nat.reduceLeDiff];done)|(simp only [zz];omega))) only [↓xa,xb,xl,xy,Int.reduceLT,Int.reduceLE,Int.reduceEq,Nat.reduceAdd,Nat.reduceMul,Nat.reduceLeDiff,setL,bfill,eqV,lookRes])
  refine sp_lis hb1 1 b ?_
  by_cases h1 : x.state = 1 ∧ x.ballot = b
  · simp (maxSteps:=999999) (disch:=(first|omega|(simp only [zz,Nat.reduceAdd,Nat.reduceLeDiff];done)|(simp only [zz];omega))) only [↓xa,xb,xl,xy,Int.reduceLT,Int.reduceLE,Int.reduceEq,Nat.reduceAdd,Nat.reduceMul,Nat.reduceLeDiff,setL,bfill,eqV,lookRes, decide_eq_true h1]
    refine sp_lmaster hb1 who ?_
    have h2 : ¬ (1 ≤ who ∧ who ≤ x.masters) := fun h => hbad ⟨h1, h⟩
    simp (maxSteps:=999999) (disch:=(first|omega|(simp only [zz,Nat.reduceAdd,Nat.reduceLeDiff];done)|(simp only [zz];omega))) only [↓xa,xb,xl,xy,Int.reduceLT,Int.reduceLE,Int.reduceEq,Nat.reduceAdd,Nat.reduceMul,Nat.reduceLeDiff,setL,bfill,eqV,lookRes, decide_eq_false h2]
    exact hK _ (by repeat' (first|with_reducible (first|exact u0 _|refine u1 ?_ _|refine u2 ?_ _ _ ?_)|exact .inl (by (first|omega|(simp only [zz,Nat.reduceAdd,Nat.reduceLeDiff];done)|(simp only [zz];omega)))|exact .inr rfl|exact .inr (by simp;done)))
  · simp (maxSteps:=999999) (disch:=(first|omega|(simp only [zz,Nat.reduceAdd,Nat.reduceLeDiff];done)|(simp only [zz];omega))) only [↓xa,xb,xl,xy,Int.reduceLT,Int.reduceLE,Int.reduceEq,Nat.reduceAdd,Nat.reduceMul,Nat.reduceLeDiff,setL,bfill,eqV,lookRes, decide_eq_false h1]
    exact hK _ (by repeat' (first|with_reducible (first|exact u0 _|refine u1 ?_ _|refine u2 ?_ _ _ ?_)|exact .inl (by (first|omega|(simp only [zz,Nat.reduceAdd,Nat.reduceLeDiff];done)|(simp only [zz];omega)))|exact .inr rfl|exact .inr (by simp;done)))
set_option maxHeartbeats 4000000 in
theorem sp_lPromise {h : Hp} (hB : Base.b ≤ h.size) {p rc ro : Nat} {x : LS} {came : List (Int × LV)} (hL : Lead h p rc ro x came []) (hn : x.next = x.frm) (hc : CameIn h came) (hco : CameOk x came) (hcb : ∀ e ∈ came, ∀ b, blk e.2.1 = some b → b ≠ p ∧ b ≠ rc ∧ b ≠ ro)
    {b who : Int} (hok : (x.state = 1 ∧ x.ballot = b) ∧ 1 ≤ who ∧ who ≤ x.masters) {va : Value} {vl : List Vote} (hS : Sl h 6 vcells va vl) (hvl : vl.length ≤ 100000) {K : Kont}
    (hno : ∀ h' v', let came' := cameP came who (v', cutV x.frm vl); enoughQ (memQ (came'.map (·.1))) x.masters = false → Upd (fun r => r = rc) h h' → Lead h' p rc ro x came' [] → CameIn h' came' → (∀ b, blk v' = some b → h.size ≤ b ∧ b < h'.size) → K (.tuple #[.slice none 0 0, .bool false]) h')
    (hyes : ∀ h' v' w, let came' := cameP came who (v', cutV x.frm vl); enoughQ (memQ (came'.map (·.1))) x.masters = true → Upd (fun r => r = p ∨ r = rc ∨ r = ro) h h' → Lead h' p rc ro (promX x came') came' (promO x came') → (∀ b, blk v' = some b → h.size ≤ b ∧ b < h'.size) → Own h' h.size 6 vcells w (openL (promX x came') (promO x came')) → K (.tuple #[w, .bool true]) h') :
    C_q57 [pt p 0, .int .u64 b, .int .i64 who, va] h K := by
  refine ok_q57 ?_
  unfold G_q57
  have x1 : Ext h (h.push (.cells #[pt p 0])) := (by repeat' (first|with_reducible (first|exact u0 _|refine u1 ?_ _|refine u2 ?_ _ _ ?_)|exact .inl (by (first|omega|(simp only [zz,Nat.reduceAdd,Nat.reduceLeDiff];done)|(simp only [zz];omega)))|exact .inr rfl|exact .inr (by simp;done)))
  have hL1 := hL.ext x1
  have hw1 : (h.push (.cells #[pt p 0]))[h.size]? = some (.cells #[pt p 0]) := g_push_eq rfl
  have hS1 := hS.ext x1
  have hc1 := hc.ext x1
  have lp := lt_of_get hL.blk
  have lc := lt_of_get hL.came
  have lo := lt_of_get hL.opn
  have hpc : p ≠ rc := by intro e; have := hL.came; rw [← e, hL.blk] at this; cases this
  have hpo : p ≠ ro := by intro e; have := hL.opn; rw [← e, hL.blk] at this; cases this
  have l1 : (h.push (.cells #[pt p 0])).size = h.size + 1 := by simp
  have hB1 := x1.hB hB
  (try simp (maxSteps:=999999) (disch:=(first|omega|(simp only [zz,Nat.reduceAdd,Nat.reduceLeDiff];done)|(simp only [zz];omega))) only [↓xa,xb,xl,xy,Int.reduceLT,Int.reduceLE,Int.reduceEq,Nat.reduceAdd,Nat.reduceMul,Nat.reduceLeDiff,setL,bfill,eqV,lookRes])
  generalize h.push (.cells #[pt p 0]) = h1 at *
  refine sp_lis hL1.blk 1 b ?_
  simp (maxSteps:=999999) (disch:=(first|omega|(simp only [zz,Nat.reduceAdd,Nat.reduceLeDiff];done)|(simp only [zz];omega))) only [↓xa,xb,xl,xy,Int.reduceLT,Int.reduceLE,Int.reduceEq,Nat.reduceAdd,Nat.reduceMul,Nat.reduceLeDiff,setL,bfill,eqV,lookRes, decide_eq_true hok.1, rdC_blk hw1]
  refine sp_lmaster hL1.blk who ?_
  have hb1 := hL1.blk
  obtain ⟨f, hf⟩ : ∃ f, mfind came who 0 = f := ⟨_, rfl⟩
  -- what stands behind the votes that are laid in
  have after : ∀ (h2 : Hp) (v' : Value) d, let came' := cameP came who (v', cutV x.frm vl); Upd (fun r => r = rc) h h2 → Lead h2 p rc ro x came' [] → CameIn h2 came' → (∀ b, blk v' = some b → h.size ≤ b ∧ b < h2.size) → h2[h.size]? = some (.cells #[pt p 0]) → G_q57_1 K (pt h.size 0) d h2 := by
    intro h2 v' d came' u2 hL2 hc2 hv2 hw2
    have hco2 : CameOk x came' := hco.put hok.2 (a := (v', cutV x.frm vl)) (fun v hv => by
      have := (List.mem_filter.1 hv).2
      simp [badSlot] at this
      omega) (Nat.le_trans (List.length_filter_le ..) hvl)
    rw [req_q57_1]
    unfold R_q57_1
    have hb2 := hL2.blk
    have hB2 := u2.hB hB
    have lb2 := u2.1
    simp (maxSteps:=999999) (disch:=(first|omega|(simp only [zz,Nat.reduceAdd,Nat.reduceLeDiff];done)|(simp only [zz];omega))) only [↓xa,xb,xl,xy,Int.reduceLT,Int.reduceLE,Int.reduceEq,Nat.reduceAdd,Nat.reduceMul,Nat.reduceLeDiff,setL,bfill,eqV,lookRes, rdC_blk hw2, rdC_blk hb2, lcells]
    refine sp_collectB hB2 hL2.came hco2.fine ?_
    intro _ v3 h3 ks hp3 x3 o3
    have hm3 : ∀ k ∈ ks, isM k := fun k hk => by
      have h1 := hco2.who k (hp3.mem_iff.1 hk)
      have := hco2.masters
      exact isM_of (by omega) (by omega)
    have hk3 : ks.length ≤ 1048576 := by rw [hp3.length_eq]; have := hco2.le5; simp; omega
    have hb3 := x3.get hb2 id
    have hw3 := x3.get hw2 id
    have hwith := fun (K : Kont) (hK : K (.int .u64 (bitsOf (ks.foldl addQ noneQ))) h3) => sp_With noneQ o3.sl hk3 hm3 hK
    rw [bits_none] at hwith
    refine hwith _ ?_
    rw [foldl_noneQ, memQ_perm hp3]
    simp (maxSteps:=999999) (disch:=(first|omega|(simp only [zz,Nat.reduceAdd,Nat.reduceLeDiff];done)|(simp only [zz];omega))) only [↓xa,xb,xl,xy,Int.reduceLT,Int.reduceLE,Int.reduceEq,Nat.reduceAdd,Nat.reduceMul,Nat.reduceLeDiff,setL,bfill,eqV,lookRes, rdC_blk hw3, rdC_blk hb3, lcells]
    refine sp_Enough _ x.masters hco2.masters.1 hco2.masters.2 ?_
    cases he : enoughQ (memQ (came'.map (·.1))) x.masters with
    | false =>
      (try simp (maxSteps:=999999) (disch:=(first|omega|(simp only [zz,Nat.reduceAdd,Nat.reduceLeDiff];done)|(simp only [zz];omega))) only [↓xa,xb,xl,xy,Int.reduceLT,Int.reduceLE,Int.reduceEq,Nat.reduceAdd,Nat.reduceMul,Nat.reduceLeDiff,setL,bfill,eqV,lookRes])
      exact hno h3 v' he (u2.trans x3.lift) (hL2.ext x3) (hc2.ext x3) (fun b hb => ⟨(hv2 b hb).1, x3.lt (hv2 b hb).2⟩)
    | true =>
      simp (maxSteps:=999999) (disch:=(first|omega|(simp only [zz,Nat.reduceAdd,Nat.reduceLeDiff];done)|(simp only [zz];omega))) only [↓xa,xb,xl,xy,Int.reduceLT,Int.reduceLE,Int.reduceEq,Nat.reduceAdd,Nat.reduceMul,Nat.reduceLeDiff,setL,bfill,eqV,lookRes, rdC_blk hw3, rdC_blk hb3, b_blk hb3, lcells]
      have lp3 := lt_of_get hb3
      have hL3 := hL2.ext x3
      have lc3 := lt_of_get hL3.came
      have lo3 := lt_of_get hL3.opn
      have lw3 := lt_of_get hw3
      have u4 : Upd (fun r => r = p) h3 (h3.setIfInBounds p (.cells (lcells { x with state := 2 } (some rc) (some ro)))) := Upd.set (Upd.refl _) _ _ (.inr rfl)
      have hL4 : Lead (h3.setIfInBounds p (.cells (lcells { x with state := 2 } (some rc) (some ro)))) p rc ro { x with state := 2 } came' [] :=
        ⟨g_set_eq lp3 rfl, by rw [g_set_ne hpc]; exact hL3.came, by rw [g_set_ne hpo]; exact hL3.opn, hL.ne⟩
      have hw4 := u4.get hw3 (by omega)
      have hc4 : CameIn (h3.setIfInBounds p (.cells (lcells { x with state := 2 } (some rc) (some ro)))) came' := by
        intro e he'
        refine ((hc2.ext x3) e he').upd u4 ?_
        intro b hb hp
        subst hp
        have := mem_cameP he'
        rcases this with h | rfl
        · exact (hcb e h b hb).1 rfl
        · have := (hv2 b hb).1; omega
      have hcells : #[Value.int .i64 x.me, .int .i64 x.masters, .int .i64 2, .int .u64 x.ballot, .int .i64 x.frm, .int .i64 x.next, .map (some rc), .map (some ro)] = lcells { x with state := 2 } (some rc) (some ro) := rfl
      have hB4 := u4.hB (x3.hB hB2)
      rw [hcells]
      generalize h3.setIfInBounds p (.cells (lcells { x with state := 2 } (some rc) (some ro))) = h4 at *
      have hco4 : CameOk { x with state := 2 } came' := ⟨hco2.keys, hco2.who, hco2.slots, hco2.len, hco2.masters, hco2.frm⟩
      refine sp_lfill hB4 hL4 hco4.fine hc4 hn hco4.frm hco4.all (by have := hco4.total; omega) ?_
      intro h5 u5 hL5
      have hw5 := u5.get hw4 (by omega)
      simp (maxSteps:=999999) (disch:=(first|omega|(simp only [zz,Nat.reduceAdd,Nat.reduceLeDiff];done)|(simp only [zz];omega))) only [↓xa,xb,xl,xy,Int.reduceLT,Int.reduceLE,Int.reduceEq,Nat.reduceAdd,Nat.reduceMul,Nat.reduceLeDiff,setL,bfill,eqV,lookRes, rdC_blk hw5]
      have hN : x.frm + (fillN x.frm (rBestL (votesOf (allL came'))) : Int) ≤ 512 := by
        exact fillN_le hco4.frm (rBest_mem _ _ [] hco4.all (by simp))
      refine sp_lOpen (u5.hB hB4) hL5 (fillM_fine _ _ _ hco4.frm.1 hN) ?_
      intro w h6 x6 o6
      (try simp (maxSteps:=999999) (disch:=(first|omega|(simp only [zz,Nat.reduceAdd,Nat.reduceLeDiff];done)|(simp only [zz];omega))) only [↓xa,xb,xl,xy,Int.reduceLT,Int.reduceLE,Int.reduceEq,Nat.reduceAdd,Nat.reduceMul,Nat.reduceLeDiff,setL,bfill,eqV,lookRes])
      have U : Upd (fun r => r = p ∨ r = rc ∨ r = ro) h h6 := by
        refine Upd.trans (u2.mono (fun _ _ h => .inr (.inl h))) (Upd.trans x3.lift (Upd.trans (u4.mono (fun _ _ h => .inl h)) (Upd.trans (u5.mono ?_) x6.lift)))
        intro _ _ h
        rcases h with h | h
        · exact .inl h
        · exact .inr (.inr h)
      have l56 := u5.1
      have l34 := u4.1
      have l23 := x3.1
      have l6 := x6.1
      exact hyes h6 v' w he U (hL5.ext x6) (fun b hb => ⟨(hv2 b hb).1, by have := (hv2 b hb).2; omega⟩) (o6.low (by omega))
  rcases f with _ | ⟨n, q⟩
  · have hcm : ∀ v', cameP came who (v', cutV x.frm vl) = mset came who (v', cutV x.frm vl) := by
      intro v'
      unfold cameP mget
      rw [hf]
      rfl
    have lp1 := lt_of_get hb1
    simp (maxSteps:=999999) (disch:=(first|omega|(simp only [zz,Nat.reduceAdd,Nat.reduceLeDiff];done)|(simp only [zz];omega))) only [↓xa,xb,xl,xy,Int.reduceLT,Int.reduceLE,Int.reduceEq,Nat.reduceAdd,Nat.reduceMul,Nat.reduceLeDiff,setL,bfill,eqV,lookRes, decide_eq_true hok.2, rdC_blk hw1, rdC_blk hb1, lcells, m_blk hL1.came, kvFind_enc, hf, Option.map_none]
    refine sp_Clone hB1 hS1 (by omega) ?_
    intro v2 h2 x2 o2
    simp (maxSteps:=999999) (disch:=(first|omega|(simp only [zz,Nat.reduceAdd,Nat.reduceLeDiff];done)|(simp only [zz];omega))) only [↓xa,xb,xl,xy,Int.reduceLT,Int.reduceLE,Int.reduceEq,Nat.reduceAdd,Nat.reduceMul,Nat.reduceLeDiff,setL,bfill,eqV,lookRes, rdC_blk (x2.get hb1 id), rdC_blk (x2.get hw1 id), lcells]
    have hB2 := x2.hB hB1
    have lx2 := x2.1
    refine sp_DeleteFunc (base := h1.size) hB2 o2 (by omega) (fun h' u => asks_c1 (u.hB hB2) (u.get (x2.get hb1 id) (by omega)) (u.get (x2.get hw1 id) (by omega))) ?_
    intro v3 h3 u3 o3
    have hb3 := u3.get (x2.get hb1 id) (by omega)
    have hw3 := u3.get (x2.get hw1 id) (by omega)
    have hL2 := hL1.ext x2
    have lc1 := lt_of_get hL1.came
    have lo1 := lt_of_get hL1.opn
    have hm3 := u3.get hL2.came (by omega)
    have lm3 := lt_of_get hm3
    have hv3 := own_one o3
    simp (maxSteps:=999999) (disch:=(first|omega|(simp only [zz,Nat.reduceAdd,Nat.reduceLeDiff];done)|(simp only [zz];omega))) only [↓xa,xb,xl,xy,Int.reduceLT,Int.reduceLE,Int.reduceEq,Nat.reduceAdd,Nat.reduceMul,Nat.reduceLeDiff,setL,bfill,eqV,lookRes, rdC_blk hb3, rdC_blk hw3, lcells, m_blk hm3, kvFind_enc]
    have hput : kvPut (encM lvV came) (Option.map (fun p => (p.1, lvV p.2)) (mfind came who 0)) (.int .i64 who) v3 = encM lvV (mset came who (v3, cutV x.frm vl)) := kvPut_enc lvV came who (v3, cutV x.frm vl)
    rw [hput]
    have u03 : Upd (fun r => r = rc) h h3 := Upd.fresh (S := fun r => r = rc) ((x1.trans x2).lift) u3 (fun r hr => .inl (by omega))
    have U : Upd (fun r => r = rc) h (h3.setIfInBounds rc (.map (encM lvV (mset came who (v3, cutV x.frm vl))))) := Upd.set u03 _ _ (.inr rfl)
    have us : Upd (fun r => r = rc) h3 (h3.setIfInBounds rc (.map (encM lvV (mset came who (v3, cutV x.frm vl))))) := Upd.set (Upd.refl _) _ _ (.inr rfl)
    have lo3 := u03.1
    have ho3 := u3.get hL2.opn (by omega)
    have key := after (h3.setIfInBounds rc (.map (encM lvV (mset came who (v3, cutV x.frm vl))))) v3
    simp only [hcm] at key
    refine key _ U ⟨?_, g_set_eq lm3 rfl, ?_, hL.ne⟩ ?_ (fun b hb => ⟨by have := o3.blk_ge hb; omega, by have := o3.blk_lt hb; simp; omega⟩) ?_
    · rw [g_set_ne (Ne.symm hpc)]; exact hb3
    · rw [g_set_ne hL.ne]; exact ho3
    · intro e he
      rw [← hcm] at he
      rcases mem_cameP he with he | rfl
      · refine ((hc e he).upd u03 ?_).upd us ?_
        · intro b hb hr; exact (hcb e he b hb).2.1 hr
        · intro b hb hr; exact (hcb e he b hb).2.1 hr
      · refine o3.sl.upd us ?_
        intro b hb hr
        have := o3.blk_ge hb
        omega
    · rw [g_set_ne (by omega)]; exact hw3
  · simp (maxSteps:=999999) (disch:=(first|omega|(simp only [zz,Nat.reduceAdd,Nat.reduceLeDiff];done)|(simp only [zz];omega))) only [↓xa,xb,xl,xy,Int.reduceLT,Int.reduceLE,Int.reduceEq,Nat.reduceAdd,Nat.reduceMul,Nat.reduceLeDiff,setL,bfill,eqV,lookRes, decide_eq_true hok.2, rdC_blk hw1, rdC_blk hb1, lcells, m_blk hL1.came, kvFind_enc, hf]
    have hcm : ∀ v', cameP came who (v', cutV x.frm vl) = came := by
      intro v'
      unfold cameP mget
      rw [hf]
      rfl
    have := after h1 (.slice none 0 0)
    simp only [hcm] at this
    exact this _ x1.lift hL1 hc1 (fun b hb => by cases hb) hw1
end Go.Proofs.Ytdolepapmpcpiaa

namespace Go.Proofs.Ytdolepapmpcpiaa
open Go Go.RowKit Go.Maps Go.Shelf
set_option linter.unusedSectionVars false
variable [Base]
set_option linter.unusedVariables false
set_option linter.unusedSimpArgs false
set_option maxRecDepth 10000
def isCmd (c : Cmd) (v : Vote) : Bool := decide (v.cmd = c)
def cmdC (c : Cmd) : Array Value := #[.int .i64 c.kind, .int .i64 c.chain, .int .u64 c.epoch, .int .i64 c.node]
theorem sp_p1 {h : Hp} (hB : Base.b ≤ h.size) {w : Nat} {c : Cmd} (hw : h[w]? = some (.cells (cmdC c))) (v : Vote) {K : Kont} (hK : ∀ h', Ext h h' → K (.bool (isCmd c v)) h') : C_q29 [voteV v, pt w 0] h K := by
  refine ok_q29 ?_
  unfold G_q29
  have lw := lt_of_get hw
  obtain ⟨s, b, v1, v2, v3, v4⟩ := v
  obtain ⟨c1, c2, c3, c4⟩ := c
  unfold voteV
  unfold cmdC at hw
  simp (maxSteps:=999999) (disch:=(first|omega|(simp only [zz,Nat.reduceAdd,Nat.reduceLeDiff];done)|(simp only [zz];omega))) only [↓xa,xb,xl,xy,Int.reduceLT,Int.reduceLE,Int.reduceEq,Nat.reduceAdd,Nat.reduceMul,Nat.reduceLeDiff,setL,bfill,eqV,lookRes, rdN_all hw, eq_cmd]
  exact k_cast (hK _ (by repeat' (first|with_reducible (first|exact u0 _|refine u1 ?_ _|refine u2 ?_ _ _ ?_)|exact .inl (by (first|omega|(simp only [zz,Nat.reduceAdd,Nat.reduceLeDiff];done)|(simp only [zz];omega)))|exact .inr rfl|exact .inr (by simp;done)))) (by congr 1; simp [isCmd])
theorem asks_p1 {h : Hp} (hB : Base.b ≤ h.size) {w : Nat} {c : Cmd} (hw : h[w]? = some (.cells (cmdC c))) : Asks h (.func (.func 85) #[] #[pt w 0]) (isCmd c) := by
  intro v h' K y hk
  rw [e_callV _ _ _ _ _ _ _ ent_q29]
  exact sp_p1 (y.hB hB) (y.get hw id) v hk
theorem openL_len (x : LS) (opn : List (Int × Prp)) : (openL x opn).length ≤ opn.length := Nat.le_trans (openKs_len ..) (by simp)
theorem sp_lproposed {h : Hp} (hB : Base.b ≤ h.size) {p rc ro : Nat} {x : LS} {came : List (Int × LV)} {opn : List (Int × Prp)} (hL : Lead h p rc ro x came opn) (hk : KeysFine opn) (c : Cmd) {K : Kont}
    (hK : ∀ h', Ext h h' → K (.bool ((openL x opn).any (isCmd c))) h') : C_q50 [pt p 0, cmdV c] h K := by
  refine ok_q50 ?_
  unfold G_q50
  unfold cmdV
  (try simp (maxSteps:=999999) (disch:=(first|omega|(simp only [zz,Nat.reduceAdd,Nat.reduceLeDiff];done)|(simp only [zz];omega))) only [↓xa,xb,xl,xy,Int.reduceLT,Int.reduceLE,Int.reduceEq,Nat.reduceAdd,Nat.reduceMul,Nat.reduceLeDiff,setL,bfill,eqV,lookRes])
  have x1 : Ext h (h.push (.cells (cmdC c))) := (by repeat' (first|with_reducible (first|exact u0 _|refine u1 ?_ _|refine u2 ?_ _ _ ?_)|exact .inl (by (first|omega|(simp only [zz,Nat.reduceAdd,Nat.reduceLeDiff];done)|(simp only [zz];omega)))|exact .inr rfl|exact .inr (by simp;done)))
  refine sp_lOpen (x1.hB hB) (hL.ext x1) hk ?_
  intro v h2 x2 o2
  have hw : h2[h.size]? = some (.cells (cmdC c)) := x2.get (g_push_eq rfl) id
  refine sp_ContainsFunc o2.sl (by have := openL_len x opn; have := hk.2.2; omega) (asks_p1 (x2.hB (x1.hB hB)) hw) ?_
  intro h3 x3
  exact hK _ (x1.trans (x2.trans x3))
theorem Lead.set {h : Hp} {p rc ro r : Nat} {x : LS} {came : List (Int × LV)} {opn : List (Int × Prp)} {o : AObj} (a : Lead h p rc ro x came opn) (e1 : r ≠ p) (e2 : r ≠ rc) (e3 : r ≠ ro) : Lead (h.setIfInBounds r o) p rc ro x came opn :=
  ⟨by rw [g_set_ne e1]; exact a.blk, by rw [g_set_ne e2]; exact a.came, by rw [g_set_ne e3]; exact a.opn, a.ne⟩
def propE (x : LS) (opn : List (Int × Prp)) (c : Cmd) : Int :=
  if x.state ≠ 2 then 12 else if checkC c ≠ 0 then checkC c else if c.kind ≠ 0 ∧ (openL x opn).any (isCmd c) = true then 8 else if 8 ≤ opn.length ∨ 512 ≤ x.next then 9 else 0
theorem sp_lProposeBad {h : Hp} (hB : Base.b ≤ h.size) {p : Nat} {x : LS} {cm om : Option Nat} (hb : h[p]? = some (.cells (lcells x cm om))) (c : Cmd) (hs : x.state ≠ 2) {K : Kont}
    (hK : ∀ h', Ext h h' → K (.tuple #[voteV vote0, .int .i64 12]) h') : C_q58 [pt p 0, cmdV c] h K := by
  refine ok_q58 ?_
  unfold G_q58
  have lp := lt_of_get hb
  obtain ⟨c1, c2, c3, c4⟩ := c
  unfold cmdV
  simp (maxSteps:=999999) (disch:=(first|omega|(simp only [zz,Nat.reduceAdd,Nat.reduceLeDiff];done)|(simp only [zz];omega))) only [↓xa,xb,xl,xy,Int.reduceLT,Int.reduceLE,Int.reduceEq,Nat.reduceAdd,Nat.reduceMul,Nat.reduceLeDiff,setL,bfill,eqV,lookRes, rdC_blk hb, lcells, decide_eq_false hs]
  refine hK _ (by repeat' (first|with_reducible (first|exact u0 _|refine u1 ?_ _|refine u2 ?_ _ _ ?_)|exact .inl (by (first|omega|(simp only [zz,Nat.reduceAdd,Nat.reduceLeDiff];done)|(simp only [zz];omega)))|exact .inr rfl|exact .inr (by simp;done)))
set_option maxHeartbeats 2000000 in
theorem sp_lPropose {h : Hp} (hB : Base.b ≤ h.size) {p rc ro : Nat} {x : LS} {came : List (Int × LV)} {opn : List (Int × Prp)} (hL : Lead h p rc ro x came opn) (hk : KeysFine opn) (hn : 0 ≤ x.next ∧ x.next ≤ 512) (c : Cmd) {K : Kont}
    (hbad : propE x opn c ≠ 0 → ∀ h', Ext h h' → K (.tuple #[voteV vote0, .int .i64 (propE x opn c)]) h')
    (hok : propE x opn c = 0 → ∀ h', Upd (fun r => r = p ∨ r = ro) h h' → Lead h' p rc ro (layX x) came (mset opn x.next ⟨c, noneQ⟩) → K (.tuple #[voteV (voteP x x.next c), .int .i64 0]) h') : C_q58 [pt p 0, cmdV c] h K := by
  by_cases hs : x.state ≠ 2
  · have e : propE x opn c = 12 := by unfold propE; rw [if_pos hs]
    rw [e] at hbad
    exact sp_lProposeBad hB hL.blk c hs (hbad (by decide))
  refine ok_q58 ?_
  unfold G_q58
  have hb := hL.blk
  have lp := lt_of_get hb
  have lo := lt_of_get hL.opn
  have lc := lt_of_get hL.came
  unfold propE at hbad hok
  rw [if_neg hs] at hbad hok
  obtain ⟨c1, c2, c3, c4⟩ := c
  unfold cmdV
  have hs2 : x.state = 2 := Decidable.not_not.1 hs
  simp (maxSteps:=999999) (disch:=(first|omega|(simp only [zz,Nat.reduceAdd,Nat.reduceLeDiff];done)|(simp only [zz];omega))) only [↓xa,xb,xl,xy,Int.reduceLT,Int.reduceLE,Int.reduceEq,Nat.reduceAdd,Nat.reduceMul,Nat.reduceLeDiff,setL,bfill,eqV,lookRes, rdC_blk hb, lcells, decide_eq_true hs2]
  have k1 : ((h.push (.cells (cmdC ⟨c1, c2, c3, c4⟩))).push (.cells #[.int .i64 0, .int .u64 0, .int .i64 0, .int .i64 0, .int .u64 0, .int .i64 0]))[h.size]? = some (.cells (cmdC ⟨c1, c2, c3, c4⟩)) := by
    rw [g_push_lt (by simp), g_push_eq rfl]
  have k2 : ((h.push (.cells (cmdC ⟨c1, c2, c3, c4⟩))).push (.cells #[.int .i64 0, .int .u64 0, .int .i64 0, .int .i64 0, .int .u64 0, .int .i64 0]))[h.size + 1]? = some (.cells #[.int .i64 0, .int .u64 0, .int .i64 0, .int .i64 0, .int .u64 0, .int .i64 0]) := by
    rw [g_push_eq (by simp)]
  have x2 : Ext h ((h.push (.cells (cmdC ⟨c1, c2, c3, c4⟩))).push (.cells #[.int .i64 0, .int .u64 0, .int .i64 0, .int .i64 0, .int .u64 0, .int .i64 0])) := (by repeat' (first|with_reducible (first|exact u0 _|refine u1 ?_ _|refine u2 ?_ _ _ ?_)|exact .inl (by (first|omega|(simp only [zz,Nat.reduceAdd,Nat.reduceLeDiff];done)|(simp only [zz];omega)))|exact .inr rfl|exact .inr (by simp;done)))
  refine sp_Check (x2.hB hB) ⟨c1, c2, c3, c4⟩ ?_
  intro h3 y3
  have x3 := x2.trans y3
  replace k1 := y3.get k1 id
  replace k2 := y3.get k2 id
  have hb3 := x3.get hb id
  have hL3 := hL.ext x3
  have z3 := x3.1
  have y2 := y3.1
  simp only [Array.size_push] at y2
  unfold cmdC at k1
  by_cases e1 : checkC ⟨c1, c2, c3, c4⟩ = 0
  · rw [if_neg (by simpa using e1)] at hbad hok
    by_cases e2 : c1 = 0
    · rw [if_neg (by simp [e2])] at hbad hok
      simp (maxSteps:=999999) (disch:=(first|omega|(simp only [zz,Nat.reduceAdd,Nat.reduceLeDiff];done)|(simp only [zz];omega))) only [↓xa,xb,xl,xy,Int.reduceLT,Int.reduceLE,Int.reduceEq,Nat.reduceAdd,Nat.reduceMul,Nat.reduceLeDiff,setL,bfill,eqV,lookRes, decide_eq_true e1, rdC_blk k1, decide_eq_true e2]
      (repeat' (first|(simp (maxSteps:=999999) (disch:=(first|omega|(simp only [zz,Nat.reduceAdd,Nat.reduceLeDiff];done)|(simp only [zz];omega))) only [↓xa,xb,xl,xy,Int.reduceLT,Int.reduceLE,Int.reduceEq,Nat.reduceAdd,Nat.reduceMul,Nat.reduceLeDiff,setL,bfill,eqV,lookRes, rdC_blk hb3, rdN_all k1, lcells, m_blk hL3.opn, encM_length, b_blk k2])|((first|refine e_ifd _ _ _ (fun hc=>?_) (fun hc=>?_)|refine e_ifn _ _ _ (fun hc=>?_) (fun hc=>?_)|refine e_gd _ _ _ _ _ (fun hc=>?_) (fun hc=>?_)|refine e_gn _ _ _ _ _ (fun hc=>?_) (fun hc=>?_)|refine e_pd _ _ _ _ _ (fun hc=>?_) (fun hc=>?_)|refine e_pn _ _ _ _ _ (fun hc=>?_) (fun hc=>?_)|refine e_if2 _ _ _ (fun hc=>?_) (fun hc=>?_)|refine e_g2 _ _ _ _ _ (fun hc=>?_) (fun hc=>?_)) <;> first|(exfalso;omega)|(simp (maxSteps:=999999) (disch:=(first|omega|(simp only [zz,Nat.reduceAdd,Nat.reduceLeDiff];done)|(simp only [zz];omega))) only [↓xa,xb,xl,xy,Int.reduceLT,Int.reduceLE,Int.reduceEq,Nat.reduceAdd,Nat.reduceMul,Nat.reduceLeDiff,setL,bfill,eqV,lookRes, rdC_blk hb3, rdN_all k1, lcells, m_blk hL3.opn, encM_length, b_blk k2, hc])|skip)))
      all_goals first
        | (have hfull : 8 ≤ opn.length ∨ 512 ≤ x.next := by omega
           rw [if_pos hfull] at hbad
           exact hbad (by decide) _ (Upd.set x3 _ _ (.inl (by omega))))
        | skip
      rw [if_neg (by omega)] at hok
      refine sp_llay (x3.hB hB) hL3 ⟨by omega, by omega⟩ ⟨c1, c2, c3, c4⟩ ?_
      intro h5 u5 hL5
      have z5 := u5.1
      have k5 : h5[h.size + 1]? = some (.cells #[.int .i64 0, .int .u64 0, .int .i64 0, .int .i64 0, .int .u64 0, .int .i64 0]) := u5.get k2 (by omega)
      refine sp_lvote (by omega) hL5 x.next (q := ⟨⟨c1, c2, c3, c4⟩, noneQ⟩) (by rw [mget_mset, if_pos rfl]) ?_
      intro h6 y6
      have z6 := y6.1
      have k6 := y6.get k5 id
      unfold voteV at *
      simp (maxSteps:=999999) (disch:=(first|omega|(simp only [zz,Nat.reduceAdd,Nat.reduceLeDiff];done)|(simp only [zz];omega))) only [↓xa,xb,xl,xy,Int.reduceLT,Int.reduceLE,Int.reduceEq,Nat.reduceAdd,Nat.reduceMul,Nat.reduceLeDiff,setL,bfill,eqV,lookRes, b_blk k6]
      refine hok rfl _ (Upd.set (((x3.lift).trans u5).trans y6.lift) _ _ (.inl (by omega))) ?_
      exact (hL5.ext y6).set (by omega) (by omega) (by omega)
    · simp (maxSteps:=999999) (disch:=(first|omega|(simp only [zz,Nat.reduceAdd,Nat.reduceLeDiff];done)|(simp only [zz];omega))) only [↓xa,xb,xl,xy,Int.reduceLT,Int.reduceLE,Int.reduceEq,Nat.reduceAdd,Nat.reduceMul,Nat.reduceLeDiff,setL,bfill,eqV,lookRes, decide_eq_true e1, rdC_blk k1, decide_eq_false e2, rdN_all k1]
      refine sp_lproposed (x3.hB hB) hL3 hk ⟨c1, c2, c3, c4⟩ ?_
      intro h4 y4
      have x4 := x3.trans y4
      have hb4 := x4.get hb id
      have hL4 := hL.ext x4
      have z4 := y4.1
      have m1 := y4.get k1 id
      have m2 := y4.get k2 id
      by_cases e3 : (openL x opn).any (isCmd ⟨c1, c2, c3, c4⟩) = true
      · rw [if_pos ⟨e2, e3⟩] at hbad
        simp (maxSteps:=999999) (disch:=(first|omega|(simp only [zz,Nat.reduceAdd,Nat.reduceLeDiff];done)|(simp only [zz];omega))) only [↓xa,xb,xl,xy,Int.reduceLT,Int.reduceLE,Int.reduceEq,Nat.reduceAdd,Nat.reduceMul,Nat.reduceLeDiff,setL,bfill,eqV,lookRes, e3, b_blk m2]
        exact hbad (by decide) _ (Upd.set x4 _ _ (.inl (by omega)))
      · rw [if_neg (by simp [e3])] at hbad hok
        simp (maxSteps:=999999) (disch:=(first|omega|(simp only [zz,Nat.reduceAdd,Nat.reduceLeDiff];done)|(simp only [zz];omega))) only [↓xa,xb,xl,xy,Int.reduceLT,Int.reduceLE,Int.reduceEq,Nat.reduceAdd,Nat.reduceMul,Nat.reduceLeDiff,setL,bfill,eqV,lookRes, eq_false_of_ne_true e3]
        (repeat' (first|(simp (maxSteps:=999999) (disch:=(first|omega|(simp only [zz,Nat.reduceAdd,Nat.reduceLeDiff];done)|(simp only [zz];omega))) only [↓xa,xb,xl,xy,Int.reduceLT,Int.reduceLE,Int.reduceEq,Nat.reduceAdd,Nat.reduceMul,Nat.reduceLeDiff,setL,bfill,eqV,lookRes, rdC_blk hb4, rdN_all m1, lcells, m_blk hL4.opn, encM_length, b_blk m2])|((first|refine e_ifd _ _ _ (fun hc=>?_) (fun hc=>?_)|refine e_ifn _ _ _ (fun hc=>?_) (fun hc=>?_)|refine e_gd _ _ _ _ _ (fun hc=>?_) (fun hc=>?_)|refine e_gn _ _ _ _ _ (fun hc=>?_) (fun hc=>?_)|refine e_pd _ _ _ _ _ (fun hc=>?_) (fun hc=>?_)|refine e_pn _ _ _ _ _ (fun hc=>?_) (fun hc=>?_)|refine e_if2 _ _ _ (fun hc=>?_) (fun hc=>?_)|refine e_g2 _ _ _ _ _ (fun hc=>?_) (fun hc=>?_)) <;> first|(exfalso;omega)|(simp (maxSteps:=999999) (disch:=(first|omega|(simp only [zz,Nat.reduceAdd,Nat.reduceLeDiff];done)|(simp only [zz];omega))) only [↓xa,xb,xl,xy,Int.reduceLT,Int.reduceLE,Int.reduceEq,Nat.reduceAdd,Nat.reduceMul,Nat.reduceLeDiff,setL,bfill,eqV,lookRes, rdC_blk hb4, rdN_all m1, lcells, m_blk hL4.opn, encM_length, b_blk m2, hc])|skip)))
        all_goals first
          | (have hfull : 8 ≤ opn.length ∨ 512 ≤ x.next := by omega
             rw [if_pos hfull] at hbad
             exact hbad (by decide) _ (Upd.set x4 _ _ (.inl (by omega))))
          | skip
        rw [if_neg (by omega)] at hok
        refine sp_llay (x4.hB hB) hL4 ⟨by omega, by omega⟩ ⟨c1, c2, c3, c4⟩ ?_
        intro h5 u5 hL5
        have z5 := u5.1
        have k5 : h5[h.size + 1]? = some (.cells #[.int .i64 0, .int .u64 0, .int .i64 0, .int .i64 0, .int .u64 0, .int .i64 0]) := u5.get m2 (by omega)
        refine sp_lvote (by omega) hL5 x.next (q := ⟨⟨c1, c2, c3, c4⟩, noneQ⟩) (by rw [mget_mset, if_pos rfl]) ?_
        intro h6 y6
        have z6 := y6.1
        have k6 := y6.get k5 id
        unfold voteV at *
        simp (maxSteps:=999999) (disch:=(first|omega|(simp only [zz,Nat.reduceAdd,Nat.reduceLeDiff];done)|(simp only [zz];omega))) only [↓xa,xb,xl,xy,Int.reduceLT,Int.reduceLE,Int.reduceEq,Nat.reduceAdd,Nat.reduceMul,Nat.reduceLeDiff,setL,bfill,eqV,lookRes, b_blk k6]
        refine hok rfl _ (Upd.set (((x4.lift).trans u5).trans y6.lift) _ _ (.inl (by omega))) ?_
        exact (hL5.ext y6).set (by omega) (by omega) (by omega)
  · rw [if_pos e1] at hbad
    simp (maxSteps:=999999) (disch:=(first|omega|(simp only [zz,Nat.reduceAdd,Nat.reduceLeDiff];done)|(simp only [zz];omega))) only [↓xa,xb,xl,xy,Int.reduceLT,Int.reduceLE,Int.reduceEq,Nat.reduceAdd,Nat.reduceMul,Nat.reduceLeDiff,setL,bfill,eqV,lookRes, decide_eq_false e1, b_blk k2]
    exact hbad e1 _ (Upd.set x3 _ _ (.inl (by omega)))
end Go.Proofs.Ytdolepapmpcpiaa

