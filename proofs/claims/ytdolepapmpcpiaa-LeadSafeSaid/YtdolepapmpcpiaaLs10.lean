/- Lemmas for the theorem of the last text; no condition. -/
import Derived.Test.YtdolepapmpcpiaaLs0
import Derived.Test.YtdolepapmpcpiaaLs1
import Derived.Test.YtdolepapmpcpiaaLs2
import Derived.Test.YtdolepapmpcpiaaLs3
import Derived.Test.YtdolepapmpcpiaaLs4
import Derived.Test.YtdolepapmpcpiaaLs5
import Derived.Test.YtdolepapmpcpiaaLs6
import Derived.Test.YtdolepapmpcpiaaLs7
import Derived.Test.YtdolepapmpcpiaaLs8
import Derived.Test.YtdolepapmpcpiaaLs9
import Derived.RowKit3
import Derived.HandedShaped
import Derived.ReadAgain
import Derived.Carry
import Derived.ChangeSame
import Derived.ChangeShapes
import Derived.Deep.Onto
import Derived.RowKit
import Derived.JoinedOf
import Derived.JoinedAt
import Derived.Test.YtdolepapmpcpiaaRows
namespace Go.Proofs.Ytdolepapmpcpiaa
open Go Go.RowKit Go.Maps Go.Shelf
set_option linter.unusedSectionVars false
variable [Base]
set_option linter.unusedVariables false
set_option linter.unusedSimpArgs false
set_option maxRecDepth 10000
def accW (q : Prp) (who : Int) : Prp := ⟨q.cmd, addQ q.who who⟩
theorem sp_lAcceptedBad {h : Hp} (hB : Base.b ≤ h.size) {p : Nat} {x : LS} {cm om : Option Nat} (hb : h[p]? = some (.cells (lcells x cm om))) (b slot who : Int) (hbad : ¬ ((x.state = 2 ∧ x.ballot = b) ∧ 1 ≤ who ∧ who ≤ x.masters)) {K : Kont}
    (hK : ∀ h', Ext h h' → K (.tuple #[voteV vote0, .bool false]) h') : C_q47 [pt p 0, .int .u64 b, .int .i64 slot, .int .i64 who] h K := by
  refine ok_q47 ?_
  unfold G_q47
  have x1 : Ext h (h.push (.cells #[.int .i64 0, .int .u64 0, .int .i64 0, .int .i64 0, .int .u64 0, .int .i64 0])) := (by repeat' (first|with_reducible (first|exact u0 _|refine u1 ?_ _|refine u2 ?_ _ _ ?_)|exact .inl (by (first|omega|(simp only [zz,Nat.reduceAdd,Nat.reduceLeDiff];done)|(simp only [zz];omega)))|exact .inr rfl|exact .inr (by simp;done)))
  have hb1 := x1.get hb id
  (try simp (maxSteps:=999999) (disch:=(first|omega|(simp only [zz,Nat.reduceAdd,Nat.reduceLeDiff];done)|(simp only [zz];omega))) only [↓xa,xb,xl,xy,Int.reduceLT,Int.reduceLE,Int.reduceEq,Nat.reduceAdd,Nat.reduceMul,Nat.reduceLeDiff,setL,bfill,eqV,lookRes])
  refine sp_lis hb1 2 b ?_
  by_cases h1 : x.state = 2 ∧ x.ballot = b
  · simp (maxSteps:=999999) (disch:=(first|omega|(simp only [zz,Nat.reduceAdd,Nat.reduceLeDiff];done)|(simp only [zz];omega))) only [↓xa,xb,xl,xy,Int.reduceLT,Int.reduceLE,Int.reduceEq,Nat.reduceAdd,Nat.reduceMul,Nat.reduceLeDiff,setL,bfill,eqV,lookRes, decide_eq_true h1]
    refine sp_lmaster hb1 who ?_
    have h2 : ¬ (1 ≤ who ∧ who ≤ x.masters) := fun h => hbad ⟨h1, h⟩
    simp (maxSteps:=999999) (disch:=(first|omega|(simp only [zz,Nat.reduceAdd,Nat.reduceLeDiff];done)|(simp only [zz];omega))) only [↓xa,xb,xl,xy,Int.reduceLT,Int.reduceLE,Int.reduceEq,Nat.reduceAdd,Nat.reduceMul,Nat.reduceLeDiff,setL,bfill,eqV,lookRes, decide_eq_false h2]
    exact hK _ (by repeat' (first|with_reducible (first|exact u0 _|refine u1 ?_ _|refine u2 ?_ _ _ ?_)|exact .inl (by (first|omega|(simp only [zz,Nat.reduceAdd,Nat.reduceLeDiff];done)|(simp only [zz];omega)))|exact .inr rfl|exact .inr (by simp;done)))
  · simp (maxSteps:=999999) (disch:=(first|omega|(simp only [zz,Nat.reduceAdd,Nat.reduceLeDiff];done)|(simp only [zz];omega))) only [↓xa,xb,xl,xy,Int.reduceLT,Int.reduceLE,Int.reduceEq,Nat.reduceAdd,Nat.reduceMul,Nat.reduceLeDiff,setL,bfill,eqV,lookRes, decide_eq_false h1]
    exact hK _ (by repeat' (first|with_reducible (first|exact u0 _|refine u1 ?_ _|refine u2 ?_ _ _ ?_)|exact .inl (by (first|omega|(simp only [zz,Nat.reduceAdd,Nat.reduceLeDiff];done)|(simp only [zz];omega)))|exact .inr rfl|exact .inr (by simp;done)))
set_option maxHeartbeats 2000000 in
theorem sp_lAccepted {h : Hp} (hB : Base.b ≤ h.size) {p rc ro : Nat} {x : LS} {came : List (Int × LV)} {opn : List (Int × Prp)} (hL : Lead h p rc ro x came opn) (hm : 1 ≤ x.masters ∧ x.masters ≤ 5) (b slot who : Int) (hok : (x.state = 2 ∧ x.ballot = b) ∧ 1 ≤ who ∧ who ≤ x.masters) {K : Kont}
    (hnone : mget opn slot = none → ∀ h', Ext h h' → K (.tuple #[voteV vote0, .bool false]) h')
    (hno : ∀ q, mget opn slot = some q → enoughQ (addQ q.who who) x.masters = false → ∀ h', Upd (fun r => r = ro) h h' → Lead h' p rc ro x came (mset opn slot (accW q who)) → K (.tuple #[voteV vote0, .bool false]) h')
    (hyes : ∀ q, mget opn slot = some q → enoughQ (addQ q.who who) x.masters = true → ∀ h', Upd (fun r => r = ro) h h' → Lead h' p rc ro x came (mdel (mset opn slot (accW q who)) slot) → K (.tuple #[voteV (voteP x slot q.cmd), .bool true]) h') :
    C_q47 [pt p 0, .int .u64 b, .int .i64 slot, .int .i64 who] h K := by
  refine ok_q47 ?_
  unfold G_q47
  have x1 : Ext h (h.push (.cells #[.int .i64 0, .int .u64 0, .int .i64 0, .int .i64 0, .int .u64 0, .int .i64 0])) := (by repeat' (first|with_reducible (first|exact u0 _|refine u1 ?_ _|refine u2 ?_ _ _ ?_)|exact .inl (by (first|omega|(simp only [zz,Nat.reduceAdd,Nat.reduceLeDiff];done)|(simp only [zz];omega)))|exact .inr rfl|exact .inr (by simp;done)))
  have k1 : (h.push (.cells #[.int .i64 0, .int .u64 0, .int .i64 0, .int .i64 0, .int .u64 0, .int .i64 0]))[h.size]? = some (.cells #[.int .i64 0, .int .u64 0, .int .i64 0, .int .i64 0, .int .u64 0, .int .i64 0]) := g_push_eq rfl
  have hL1 := hL.ext x1
  have l1 : (h.push (.cells #[.int .i64 0, .int .u64 0, .int .i64 0, .int .i64 0, .int .u64 0, .int .i64 0])).size = h.size + 1 := by simp
  have lp := lt_of_get hL.blk
  have lc := lt_of_get hL.came
  have lo := lt_of_get hL.opn
  have hpc : p ≠ rc := by intro e; have := hL.came; rw [← e, hL.blk] at this; cases this
  have hpo : p ≠ ro := by intro e; have := hL.opn; rw [← e, hL.blk] at this; cases this
  have hne := hL.ne
  have hB1 := x1.hB hB
  (try simp (maxSteps:=999999) (disch:=(first|omega|(simp only [zz,Nat.reduceAdd,Nat.reduceLeDiff];done)|(simp only [zz];omega))) only [↓xa,xb,xl,xy,Int.reduceLT,Int.reduceLE,Int.reduceEq,Nat.reduceAdd,Nat.reduceMul,Nat.reduceLeDiff,setL,bfill,eqV,lookRes])
  generalize h.push (.cells #[.int .i64 0, .int .u64 0, .int .i64 0, .int .i64 0, .int .u64 0, .int .i64 0]) = h1 at *
  refine sp_lis hL1.blk 2 b ?_
  simp (maxSteps:=999999) (disch:=(first|omega|(simp only [zz,Nat.reduceAdd,Nat.reduceLeDiff];done)|(simp only [zz];omega))) only [↓xa,xb,xl,xy,Int.reduceLT,Int.reduceLE,Int.reduceEq,Nat.reduceAdd,Nat.reduceMul,Nat.reduceLeDiff,setL,bfill,eqV,lookRes, decide_eq_true hok.1]
  refine sp_lmaster hL1.blk who ?_
  have hb1 := hL1.blk
  obtain ⟨f, hf⟩ : ∃ f, mfind opn slot 0 = f := ⟨_, rfl⟩
  rcases f with _ | ⟨n, q⟩
  · have hg : mget opn slot = none := by unfold mget; rw [hf]; rfl
    simp (maxSteps:=999999) (disch:=(first|omega|(simp only [zz,Nat.reduceAdd,Nat.reduceLeDiff];done)|(simp only [zz];omega))) only [↓xa,xb,xl,xy,Int.reduceLT,Int.reduceLE,Int.reduceEq,Nat.reduceAdd,Nat.reduceMul,Nat.reduceLeDiff,setL,bfill,eqV,lookRes, decide_eq_true hok.2, rdC_blk hb1, lcells, m_blk hL1.opn, kvFind_enc, hf, Option.map_none, b_blk k1]
    exact hnone hg _ (Upd.set (Ext.trans x1 (by repeat' (first|with_reducible (first|exact u0 _|refine u1 ?_ _|refine u2 ?_ _ _ ?_)|exact .inl (by (first|omega|(simp only [zz,Nat.reduceAdd,Nat.reduceLeDiff];done)|(simp only [zz];omega)))|exact .inr rfl|exact .inr (by simp;done)))) _ _ (.inl (by omega)))
  · have hg : mget opn slot = some q := by unfold mget; rw [hf]; rfl
    have hq : ∀ w, prpV ⟨q.cmd, w⟩ = .agg #[.int .i64 q.cmd.kind, .int .i64 q.cmd.chain, .int .u64 q.cmd.epoch, .int .i64 q.cmd.node, .int .u64 (bitsOf w)] := fun _ => rfl
    simp (maxSteps:=999999) (disch:=(first|omega|(simp only [zz,Nat.reduceAdd,Nat.reduceLeDiff];done)|(simp only [zz];omega))) only [↓xa,xb,xl,xy,Int.reduceLT,Int.reduceLE,Int.reduceEq,Nat.reduceAdd,Nat.reduceMul,Nat.reduceLeDiff,setL,bfill,eqV,lookRes, decide_eq_true hok.2, rdC_blk hb1, lcells, m_blk hL1.opn, kvFind_enc, hf, prpV]
    have hkw : isM who := isM_of (by omega) (by omega)
    obtain ⟨h2, e2⟩ : ∃ h2 : Hp, h2 = ((h1.push (.cells #[.int .i64 0, .int .i64 0, .int .u64 0, .int .i64 0, .int .u64 0])).setIfInBounds h1.size (.cells #[.int .i64 q.cmd.kind, .int .i64 q.cmd.chain, .int .u64 q.cmd.epoch, .int .i64 q.cmd.node, .int .u64 (bitsOf q.who)])).push (.cells #[.int .i64 who]) := ⟨_, rfl⟩
    have l2 : h2.size = h.size + 3 := by rw [e2]; simp; omega
    have x2 : Ext h1 h2 := by rw [e2]; exact (by repeat' (first|with_reducible (first|exact u0 _|refine u1 ?_ _|refine u2 ?_ _ _ ?_)|exact .inl (by (first|omega|(simp only [zz,Nat.reduceAdd,Nat.reduceLeDiff];done)|(simp only [zz];omega)))|exact .inr rfl|exact .inr (by simp;done)))
    have k2 : h2[h1.size]? = some (.cells #[.int .i64 q.cmd.kind, .int .i64 q.cmd.chain, .int .u64 q.cmd.epoch, .int .i64 q.cmd.node, .int .u64 (bitsOf q.who)]) := by
      rw [e2, g_push_lt (by simp), g_set_eq (by simp) rfl]
    have ks : h2[h1.size + 1]? = some (.cells #[.int .i64 who]) := by
      rw [e2, g_push_eq (by simp)]
    rw [← e2]
    clear e2
    have hS : Sl h2 1 icell (.slice (some ⟨h1.size + 1, 0, none⟩) 1 1) [who] := Own.sl (base := 0) (.inr ⟨_, 1, _, rfl, Nat.zero_le _, ks, Nat.le_refl _, rfl, rfl⟩)
    refine sp_With q.who hS (by simp) (by intro y hy; cases hy with | head => exact hkw | tail _ hy => cases hy) ?_
    have hL2 := hL1.ext x2
    have hb2 := hL2.blk
    have kv2 := x2.get k1 id
    have hw : [who].foldl addQ q.who = addQ q.who who := rfl
    rw [hw]
    simp only [l1] at k2 ks hS ⊢
    simp (maxSteps:=999999) (disch:=(first|omega|(simp only [zz,Nat.reduceAdd,Nat.reduceLeDiff];done)|(simp only [zz];omega))) only [↓xa,xb,xl,xy,Int.reduceLT,Int.reduceLE,Int.reduceEq,Nat.reduceAdd,Nat.reduceMul,Nat.reduceLeDiff,setL,bfill,eqV,lookRes, rdC_blk hb2, lcells, b_blk k2, m_blk hL2.opn, kvFind_enc, hf]
    have hput : kvPut (encM prpV opn) (some (n, prpV q)) (.int .i64 slot) (.agg #[.int .i64 q.cmd.kind, .int .i64 q.cmd.chain, .int .u64 q.cmd.epoch, .int .i64 q.cmd.node, .int .u64 (bitsOf (addQ q.who who))]) = encM prpV (mset opn slot (accW q who)) := by
      have := kvPut_enc prpV opn slot (accW q who)
      rw [hf] at this
      exact this
    rw [hput]
    have lo2 := lt_of_get hL2.opn
    have u3 : Upd (fun r => r = ro) h ((h2.setIfInBounds (h.size + 1) (.cells #[.int .i64 q.cmd.kind, .int .i64 q.cmd.chain, .int .u64 q.cmd.epoch, .int .i64 q.cmd.node, .int .u64 (bitsOf (addQ q.who who))])).setIfInBounds ro (.map (encM prpV (mset opn slot (accW q who))))) :=
      Upd.set (Upd.set (x1.trans x2).lift _ _ (.inl (by omega))) _ _ (.inr rfl)
    have hL3 : Lead ((h2.setIfInBounds (h.size + 1) (.cells #[.int .i64 q.cmd.kind, .int .i64 q.cmd.chain, .int .u64 q.cmd.epoch, .int .i64 q.cmd.node, .int .u64 (bitsOf (addQ q.who who))])).setIfInBounds ro (.map (encM prpV (mset opn slot (accW q who))))) p rc ro x came (mset opn slot (accW q who)) :=
      ⟨by rw [g_set_ne (by omega), g_set_ne (by omega)]; exact hL2.blk, by rw [g_set_ne (by omega), g_set_ne (by omega)]; exact hL2.came, g_set_eq (by simpa using lo2) rfl, hne⟩
    have k3 : ((h2.setIfInBounds (h.size + 1) (.cells #[.int .i64 q.cmd.kind, .int .i64 q.cmd.chain, .int .u64 q.cmd.epoch, .int .i64 q.cmd.node, .int .u64 (bitsOf (addQ q.who who))])).setIfInBounds ro (.map (encM prpV (mset opn slot (accW q who)))))[h.size]? = some (.cells #[.int .i64 0, .int .u64 0, .int .i64 0, .int .i64 0, .int .u64 0, .int .i64 0]) := by
      rw [g_set_ne (by omega), g_set_ne (by omega)]; exact kv2
    have l3 : ((h2.setIfInBounds (h.size + 1) (.cells #[.int .i64 q.cmd.kind, .int .i64 q.cmd.chain, .int .u64 q.cmd.epoch, .int .i64 q.cmd.node, .int .u64 (bitsOf (addQ q.who who))])).setIfInBounds ro (.map (encM prpV (mset opn slot (accW q who))))).size = h.size + 3 := by simp [l2]
    generalize (h2.setIfInBounds (h.size + 1) (.cells #[.int .i64 q.cmd.kind, .int .i64 q.cmd.chain, .int .u64 q.cmd.epoch, .int .i64 q.cmd.node, .int .u64 (bitsOf (addQ q.who who))])).setIfInBounds ro (.map (encM prpV (mset opn slot (accW q who)))) = h3 at u3 hL3 k3 l3 ⊢
    refine sp_Enough _ x.masters hm.1 hm.2 ?_
    cases he : enoughQ (addQ q.who who) x.masters with
    | false =>
      simp (maxSteps:=999999) (disch:=(first|omega|(simp only [zz,Nat.reduceAdd,Nat.reduceLeDiff];done)|(simp only [zz];omega))) only [↓xa,xb,xl,xy,Int.reduceLT,Int.reduceLE,Int.reduceEq,Nat.reduceAdd,Nat.reduceMul,Nat.reduceLeDiff,setL,bfill,eqV,lookRes, b_blk k3]
      exact hno q hg he _ (Upd.set u3 _ _ (.inl (by omega))) (hL3.set (by omega) (by omega) (by omega))
    | true =>
      (try simp (maxSteps:=999999) (disch:=(first|omega|(simp only [zz,Nat.reduceAdd,Nat.reduceLeDiff];done)|(simp only [zz];omega))) only [↓xa,xb,xl,xy,Int.reduceLT,Int.reduceLE,Int.reduceEq,Nat.reduceAdd,Nat.reduceMul,Nat.reduceLeDiff,setL,bfill,eqV,lookRes])
      refine sp_lvote (by omega) hL3 slot (q := accW q who) (by rw [mget_mset, if_pos rfl]) ?_
      intro h4 x4
      have hL4 := hL3.ext x4
      have hb4 := hL4.blk
      have k4 := x4.get k3 id
      have z4 := x4.1
      have lo4 := lt_of_get hL4.opn
      obtain ⟨⟨n4, q4⟩, hf4⟩ : ∃ f4, mfind (mset opn slot (accW q who)) slot 0 = some f4 := by
        have := mget_mset opn slot (accW q who) slot
        rw [if_pos rfl] at this
        unfold mget at this
        cases hz : mfind (mset opn slot (accW q who)) slot 0 with
        | none => rw [hz] at this; cases this
        | some z => exact ⟨z, rfl⟩
      have hdel := kvDel_enc prpV (mset opn slot (accW q who)) slot
      rw [hf4] at hdel
      simp only [Option.map_some] at hdel
      have hc : (accW q who).cmd = q.cmd := rfl
      rw [hc]
      generalize hv : voteP x slot q.cmd = v
      obtain ⟨v1, v2, v3, v4, v5, v6⟩ := v
      unfold voteV
      simp (maxSteps:=999999) (disch:=(first|omega|(simp only [zz,Nat.reduceAdd,Nat.reduceLeDiff];done)|(simp only [zz];omega))) only [↓xa,xb,xl,xy,Int.reduceLT,Int.reduceLE,Int.reduceEq,Nat.reduceAdd,Nat.reduceMul,Nat.reduceLeDiff,setL,bfill,eqV,lookRes, rdC_blk hb4, lcells, b_blk k4, m_blk hL4.opn, kvFind_enc, hf4]
      rw [hdel]
      have key := hyes q hg he
      rw [hv] at key
      refine key _ (Upd.set (Upd.set (Upd.set (Upd.push (u3.trans x4.lift) _) _ _ (.inl (by omega))) _ _ (.inr rfl)) _ _ (.inl (by omega))) ?_
      refine Lead.set ⟨?_, ?_, g_set_eq (by simp; omega) rfl, hne⟩ (by omega) (by omega) (by omega)
      · rw [g_set_ne (by omega), g_set_ne (by omega), g_push_lt (by omega)]; exact hL4.blk
      · rw [g_set_ne (by omega), g_set_ne (by omega), g_push_lt (by omega)]; exact hL4.came
/-- Refuse: idle, if there is a greater ballot. -/
def refuseB (x : LS) (b : Int) : Bool := decide (x.state ≠ 0 ∧ x.ballot < b)
theorem sp_lRefuseNo {h : Hp} {p : Nat} {x : LS} {cm om : Option Nat} (hb : h[p]? = some (.cells (lcells x cm om))) (b : Int) (hr : refuseB x b = false) {K : Kont}
    (hK : K (.bool false) h) : C_q71 [pt p 0, .int .u64 b] h K := by
  refine ok_q71 ?_
  unfold G_q71
  have lp := lt_of_get hb
  simp only [refuseB, decide_eq_false_iff_not] at hr
  by_cases h1 : x.state = 0
  · simp (maxSteps:=999999) (disch:=(first|omega|(simp only [zz,Nat.reduceAdd,Nat.reduceLeDiff];done)|(simp only [zz];omega))) only [↓xa,xb,xl,xy,Int.reduceLT,Int.reduceLE,Int.reduceEq,Nat.reduceAdd,Nat.reduceMul,Nat.reduceLeDiff,setL,bfill,eqV,lookRes, rdC_blk hb, lcells, decide_eq_true h1]
    exact hK
  · have h2 : b ≤ x.ballot := by omega
    simp (maxSteps:=999999) (disch:=(first|omega|(simp only [zz,Nat.reduceAdd,Nat.reduceLeDiff];done)|(simp only [zz];omega))) only [↓xa,xb,xl,xy,Int.reduceLT,Int.reduceLE,Int.reduceEq,Nat.reduceAdd,Nat.reduceMul,Nat.reduceLeDiff,setL,bfill,eqV,lookRes, rdC_blk hb, lcells, decide_eq_false h1, decide_eq_true h2]
    exact hK
theorem sp_lRefuse {h : Hp} (hB : Base.b ≤ h.size) {p rc ro : Nat} {x : LS} {came : List (Int × LV)} {opn : List (Int × Prp)} (hL : Lead h p rc ro x came opn) (b : Int) {K : Kont}
    (hno : refuseB x b = false → K (.bool false) h)
    (hyes : refuseB x b = true → ∀ h', Upd (fun r => r = p ∨ r = rc ∨ r = ro) h h' → Lead h' p rc ro { x with state := 0 } [] [] → K (.bool true) h') : C_q71 [pt p 0, .int .u64 b] h K := by
  cases hr : refuseB x b with
  | false => exact sp_lRefuseNo hL.blk b hr (hno hr)
  | true =>
    refine ok_q71 ?_
    unfold G_q71
    have hb := hL.blk
    have lp := lt_of_get hb
    have lo := lt_of_get hL.opn
    have lc := lt_of_get hL.came
    have hpc : p ≠ rc := by intro e; have := hL.came; rw [← e, hL.blk] at this; cases this
    have hpo : p ≠ ro := by intro e; have := hL.opn; rw [← e, hL.blk] at this; cases this
    have hne := hL.ne
    have key := hyes hr
    simp only [refuseB, decide_eq_true_eq] at hr
    have h2 : ¬ b ≤ x.ballot := by omega
    simp (maxSteps:=999999) (disch:=(first|omega|(simp only [zz,Nat.reduceAdd,Nat.reduceLeDiff];done)|(simp only [zz];omega))) only [↓xa,xb,xl,xy,Int.reduceLT,Int.reduceLE,Int.reduceEq,Nat.reduceAdd,Nat.reduceMul,Nat.reduceLeDiff,setL,bfill,eqV,lookRes, rdC_blk hb, lcells, decide_eq_false hr.1, decide_eq_false h2, b_blk hb, m_blk hL.opn, m_blk hL.came]
    refine key _ (Upd.set (Upd.set (Upd.set (Upd.refl _) _ _ (.inr (.inl rfl))) _ _ (.inr (.inr (.inr rfl)))) _ _ (.inr (.inr (.inl rfl)))) ⟨?_, ?_, ?_, hne⟩
    · rw [g_set_ne (by omega), g_set_ne (by omega), g_set_eq (by omega) rfl]; rfl
    · rw [g_set_eq (by simp; omega) rfl]; rfl
    · rw [g_set_ne (by omega), g_set_eq (by simp; omega) rfl]; rfl
end Go.Proofs.Ytdolepapmpcpiaa

namespace Go.Proofs.Ytdolepapmpcpiaa
open Go
set_option linter.unusedSectionVars false
/-- What is seen whole below the base has not turned. -/
theorem same_of_ext {W W' : World} (h0 : 0 < W.heap.size) (x : @Ext (@hv ⟨W.heap.size⟩ W) (@hv ⟨W.heap.size⟩ W')) :
    W'.os = W.os ∧ W'.output = W.output ∧ W.heap.size ≤ W'.heap.size ∧ ∀ r, r < W.heap.size → W'.heap[r]? = W.heap[r]? := by
  letI : Base := ⟨W.heap.size⟩
  have hs : W.heap.size ≤ W'.heap.size := by have := x.1; simpa [hv_size] using this
  have key : ∀ r, r < W.heap.size → W'.heap[r]? = W.heap[r]? ∧ W'.os = W.os ∧ W'.output = W.output := by
    intro r hr
    have := x.2 r (by simpa [hv_size] using hr) id
    rw [hv_get, hv_get] at this
    obtain ⟨o, ho⟩ : ∃ o, W.heap[r]? = some o := ⟨_, Array.getElem?_eq_getElem hr⟩
    obtain ⟨o', ho'⟩ : ∃ o, W'.heap[r]? = some o := ⟨_, Array.getElem?_eq_getElem (Nat.lt_of_lt_of_le hr hs)⟩
    rw [ho, ho'] at this
    simp only [Option.map_some, Option.some.injEq, see, if_pos hr, show r < Base.b from hr, if_true, AObj.old.injEq] at this
    rw [ho, ho', this.1]
    exact ⟨rfl, this.2.1, this.2.2⟩
  exact ⟨(key 0 h0).2.1, (key 0 h0).2.2, hs, fun r hr => (key r hr).1⟩
open Go.ChangeShapes Go.WideShapes Go.RowKit
/-- A law's function hands back true; what it was handed reads as it did. -/
theorem post_law {H : Type} {enc : TypeId × Value → H} {P : Program} {f : Func} {s : ChangeSpec} {apart fresh handsOn again : Bool} {W W' : World} {args : Array Value} {ds gs : List (DataW H)} {before : List MemPlace} {tb : TypeId}
    (hW : DataW.Whole enc P f.params.toList s.vars apart W args.toList ds gs before) (hv0 : s.vars = []) (hr : f.resultTypes = #[tb]) (hbool : P.underlying tb = some .bool)
    (hfn : s.fn H (ds ++ gs) = { results := [.lit (.bool true)], args := ds }) (hos : W'.os = W.os) (hout : W'.output = W.output) (hsz : W.heap.size ≤ W'.heap.size) (hbl : ∀ r, r < W.heap.size → W'.heap[r]? = W.heap[r]?)
    (hargs : ∀ sp : Nat → Bool, (∀ p ∈ before, sp p.block = true) → DataW.TrodAll enc P W' 0 sp true f.params.toList args.toList ds before) :
    s.post enc P f apart fresh handsOn again W args (.bool true) W' := by
  have hold : ∀ p ∈ before, (fun b => decide (b < W.heap.size)) p.block = true := fun p hp => by simpa using hW.lt p hp
  have hk : W.keptBut W' (· ∈ before) := World.keptBut.congr (World.keptBut_refl W _) hos hout hbl
  have hres : ∀ (b : Nat) (sp : Nat → Bool) (hd : Bool), DataW.TrodAll enc P W' b sp hd f.resultTypes.toList ((Value.bool true).resultList f.resultTypes.size) (s.fn H (ds ++ gs)).results [] := by
    intro b sp hd
    rw [hfn, hr]
    exact trodAll_mk1 (shut_bool hbool true)
  have hargs' : ∀ sp : Nat → Bool, (∀ p ∈ before, sp p.block = true) → DataW.TrodAll enc P W' 0 sp true f.params.toList args.toList (s.fn H (ds ++ gs)).args before := by
    rw [hfn]; exact hargs
  have hvars : ∀ sp : Nat → Bool, DataW.TrodVars enc P W' sp s.vars (s.fn H (ds ++ gs)).vars [] := by
    intro sp
    rw [hfn, hv0]
    exact rfl
  have hok : ∀ (j : Nat) (t : TypeId) (r : Value), f.resultTypes[j]? = some t → ((Value.bool true).resultList f.resultTypes.size)[j]? = some r → Value.okWide P W' .any 0 t r := by
    exact ok_one hr rfl (okWide_bool_mk hbool true)
  refine ⟨ds, gs, before, [], before, [], hW, hres _ _ _, hargs' _ hold, hvars _, World.keptBut_mono (fun p hp => ⟨hp, .inr (.inl hp)⟩) hk, fun _ => ?_⟩
  have hlt := hW.lt
  obtain ⟨_, _, _, _, _, hz, hn⟩ := hW
  refine ⟨hok, _, _, ([] ++ before) ++ [], ⟨[] ++ before, [], trodAll_append (hargs' _ (fun _ _ => rfl)) (hres _ _ _), hvars _, rfl, ?_, ?_⟩, ?_⟩
  · intro b off hp
    have hp' : MemPlace.cell b off ∈ before := by simpa using hp
    have : b < W.heap.size := hlt _ hp'
    rw [World.frozen?_of_block (w := W) (hbl b this)]
    exact hz b off hp'
  · intro ha
    simpa using hn ha
  · intro p hp _
    simpa using hp
end Go.Proofs.Ytdolepapmpcpiaa

namespace Go.Proofs.Ytdolepapmpcpiaa
open Go
set_option linter.unusedSectionVars false
set_option linter.unusedVariables false
def IntCells : List IntKind → List Value → Prop
  | [], [] => True
  | k :: ks, c :: cs => (∃ a, c = .int k a ∧ (Lit.int k a).wf = true) ∧ IntCells ks cs
  | _, _ => False
theorem IntCells.append : ∀ {a b : List IntKind} {x y : List Value}, IntCells a x → IntCells b y → IntCells (a ++ b) (x ++ y)
  | [], _, [], _, _, h => h
  | _ :: _, _, _ :: _, _, h, h' => ⟨h.1, IntCells.append h.2 h'⟩
  | [], _, _ :: _, _, h, _ => h.elim
  | _ :: _, _, [], _, h, _ => h.elim
theorem IntCells.length : ∀ {a : List IntKind} {x : List Value}, IntCells a x → a.length = x.length
  | [], [], _ => rfl
  | _ :: _, _ :: _, h => by simp [IntCells.length h.2]
  | [], _ :: _, h => h.elim
  | _ :: _, [], h => h.elim
end Go.Proofs.Ytdolepapmpcpiaa

namespace Go.Proofs.Ytdolepapmpcpiaa
open Go
open Go.ChangeShapes Go.WideShapes Go.RowKit
set_option linter.unusedVariables false
set_option linter.unusedSectionVars false
theorem trodAll_stays {H : Type} {enc : TypeId × Value → H} {P : Program} (hl : laidOutB P = true) {W W' : World} (hbl : ∀ r, r < W.heap.size → W'.heap[r]? = W.heap[r]?) {sp : Nat → Bool} : ∀ {ts : List TypeId} {vs : List Value} {ds : List (DataW H)} {ps : List MemPlace},
    (∀ t ∈ ts, P.readableRec t = true ∧ t < P.types.size) → DataW.TrodAll enc P W 0 (fun _ => true) true ts vs ds ps → (∀ p ∈ ps, p.block < W.heap.size) → (∀ p ∈ ps, sp p.block = true) → DataW.TrodAll enc P W' 0 sp true ts vs ds ps
  | [], [], [], _, _, h, _, _ => h
  | _ :: _, _ :: _, _ :: _, _, ht, ⟨p, q, h1, h2, e⟩, hlt, hs =>
    ⟨p, q, WideElems.Trod_stays hl (ht _ (List.mem_cons_self ..)).1 (ht _ (List.mem_cons_self ..)).2 h1 (fun x hx => by
        have hx' := hlt x (by rw [e]; exact List.mem_append_left _ hx)
        cases x with
        | cell b o => exact World.cell?_of_block (w := W) (hbl b hx')
        | map b => exact hbl b hx') (fun x hx => hs x (by rw [e]; exact List.mem_append_left _ hx)),
      trodAll_stays hl hbl (fun t h => ht t (List.mem_cons_of_mem _ h)) h2 (fun x hx => hlt x (by rw [e]; exact List.mem_append_right _ hx)) (fun x hx => hs x (by rw [e]; exact List.mem_append_right _ hx)), e⟩
/-- What a law's function does, called on whatever arguments: true, and nothing that lay has turned. -/
def LawDoes {H : Type} (enc : TypeId × Value → H) (P : Program) (f : FuncId) (fn : Func) : Prop :=
  ∀ (W : World) (base : Nat) (args : Array Value) (ds : List (DataW H)) (ps : List MemPlace), 0 < W.heap.size → (∀ p ∈ ps, p.block < W.heap.size) →
    (∀ (j : Nat) (t : TypeId) (v : Value), fn.params[j]? = some t → args[j]? = some v → Value.okWide P W .any base t v) →
    DataW.TrodAll enc P W 0 (fun _ => true) true fn.params.toList args.toList ds ps →
    @AC ⟨W.heap.size⟩ P f args (@hv ⟨W.heap.size⟩ W) (fun v h' => v = .bool true ∧ @Ext (@hv ⟨W.heap.size⟩ W) h')
theorem trodAll_len {H : Type} {enc : TypeId × Value → H} {P : Program} {W : World} {b : Nat} {sp : Nat → Bool} {hd : Bool} : ∀ {ts : List TypeId} {vs : List Value} {ds : List (DataW H)} {ps : List MemPlace}, DataW.TrodAll enc P W b sp hd ts vs ds ps → ds.length = ts.length
  | [], [], [], _, _ => rfl
  | _ :: _, _ :: _, _ :: _, _, ⟨_, _, _, h, _⟩ => by simp [trodAll_len h]
  | [], _ :: _, _, _, h => h.elim
  | [], [], _ :: _, _, h => h.elim
  | _ :: _, [], _, _, h => h.elim
  | _ :: _, _ :: _, [], _, h => h.elim
theorem lifted_law {C : Checked} {os : Os} {f : FuncId} {fn : Func} {s : ChangeSpec} {H : Type} {enc : TypeId × Value → H} {conds : List PathCond} {apart fresh handsOn again : Bool} {tb : TypeId} (own : ownKnob C.prog.godebug = none) (started : os.Started)
    (noInit : C.prog.inits.idxOf? f = none) (hfn : C.prog.funcs[f]? = some fn)
    (witness : ∃ (w : World) (tape : Tape) (i : Input), w.os = os ∧ (w.forCall tape i).Shaped C.prog ∧ i.vars = [] ∧ Input.okWide C.prog (w.forCall tape i) .any w.heap.size f i ∧
      s.pre6 enc C.prog fn conds apart (w.forCall tape i).memory i.args ∧ ({} : Assume).holds C.prog (lone (Frame.enter C.prog f i.args .normal) [] (w.forCall tape i)))
    (hv0 : s.vars = []) (hr : fn.resultTypes = #[tb]) (hbool : C.prog.underlying tb = some .bool)
    (hsfn : ∀ ds : List (DataW H), ds.length = fn.params.toList.length → s.fn H ds = { results := [.lit (.bool true)], args := ds })
    (hl : laidOutB C.prog = true) (hrd : (fn.params.toList.all fun t => C.prog.readableRec t && decide (t < C.prog.types.size)) = true)
    (hg : decide (C.prog.globals.size < (begin C.prog (fun _ _ => 0) default).world.heap.size) = true)
    (law : LawDoes enc C.prog f fn) :
    ReturnsInHanded {} C os f .any (s.pre6 enc C.prog fn conds apart) (s.post enc C.prog fn apart fresh handsOn again) := by
  refine returnsInHanded_of_change_shaped own started noInit hfn witness ?_
  intro W base args ds gs before hval hW _ _ hshape _
  have hW' := hW
  obtain ⟨p, q, hA, hV, rfl, _, _⟩ := hW
  rw [hv0] at hV
  obtain ⟨rfl, rfl⟩ := trodVars_none hV
  have h0 : 0 < W.heap.size := by
    obtain ⟨_, h2⟩ := hshape
    obtain ⟨o, _, ho, _⟩ := h2 C.prog.globals.size (Nat.le_refl _) (of_decide_eq_true hg)
    exact Nat.lt_of_le_of_lt (Nat.zero_le _) (Array.getElem?_eq_some_iff.1 ho).1
  have hlt : ∀ x ∈ p, x.block < W.heap.size := fun x hx => by simpa using hW'.lt x (by simpa using hx)
  refine Calls.mono (law W base args ds p h0 hlt hval hA W rfl) ?_
  rintro e W' ⟨v, rfl, rfl, hx⟩
  obtain ⟨h1, h2, h3, h4⟩ := same_of_ext h0 hx
  refine ⟨_, rfl, post_law hW' hv0 hr hbool (by rw [List.append_nil]; exact hsfn ds (trodAll_len hA)) h1 h2 h3 h4 ?_⟩
  intro sp hsp
  rw [List.append_nil]
  refine trodAll_stays hl h4 ?_ hA hlt (fun x hx => hsp x (by simpa using hx))
  intro t ht
  have := List.all_eq_true.1 hrd t ht
  simpa using this
end Go.Proofs.Ytdolepapmpcpiaa

namespace Go.Proofs.Ytdolepapmpcpiaa
open Go
open Go.ChangeShapes Go.WideShapes Go.RowKit
set_option linter.unusedVariables false
set_option linter.unusedSectionVars false
section
variable {H : Type} {enc : TypeId × Value → H} {P : Program} {W : World}
/-- Cells that read at type t are Q. -/
def Rd (enc : TypeId × Value → H) (P : Program) (W : World) (t : TypeId) (Q : List Value → Prop) : Prop :=
  ∀ (fuel : Nat) (cs : List Value) (x : DataW H × List MemPlace), DataW.trod enc P W 0 (fun _ => true) true fuel t cs = some x → Q cs
theorem Rd.mono {t : TypeId} {Q Q' : List Value → Prop} (r : Rd enc P W t Q) (h : ∀ cs, Q cs → Q' cs) : Rd enc P W t Q' := fun f cs x e => h cs (r f cs x e)
theorem Rd.int {t : TypeId} {k : IntKind} (hu : P.underlying t = some (.int k)) : Rd enc P W t (fun cs => ∃ a, cs = [.int k a] ∧ k.min ≤ a ∧ a ≤ k.max) := by
  intro f cs x e
  obtain ⟨a, rfl, _, hw⟩ := DataW.trod_int hu e
  simp only [Lit.wf, Bool.and_eq_true, decide_eq_true_eq] at hw
  exact ⟨a, rfl, hw.1, hw.2⟩
theorem Rd.bool {t : TypeId} (hu : P.underlying t = some .bool) : Rd enc P W t (fun cs => ∃ a, cs = [.bool a]) := by
  intro f cs x e
  obtain ⟨a, rfl, _⟩ := DataW.trod_bool hu e
  exact ⟨a, rfl⟩
theorem Rd.string {t : TypeId} (hu : P.underlying t = some .string) : Rd enc P W t (fun cs => ∃ a, cs = [.string a] ∧ a.size ≤ maxLen) := by
  intro f cs x e
  obtain ⟨a, rfl, _, h⟩ := DataW.trod_string hu e
  exact ⟨a, rfl, h⟩
def contig (P : Program) : Nat → List Field → Nat → Bool
  | off, [], all => off == all
  | off, f :: r, all => f.offset == off && contig P (off + P.cellsOf f.type) r all
/-- Cells in parts. -/
def Parts : List (List Value → Prop) → List Value → Prop
  | [], cs => cs = []
  | Q :: r, cs => ∃ a b, cs = a ++ b ∧ Q a ∧ Parts r b
inductive AllRd (enc : TypeId × Value → H) (P : Program) (W : World) : List TypeId → List (List Value → Prop) → Prop
  | nil : AllRd enc P W [] []
  | cons {f : TypeId} {fs : List TypeId} {Q : List Value → Prop} {Qs : List (List Value → Prop)} : Rd enc P W f Q → AllRd enc P W fs Qs → AllRd enc P W (f :: fs) (Q :: Qs)
theorem parts_of {n : Nat} : ∀ {fs : List Field} {Qs : List (List Value → Prop)} {off all : Nat} {cs : List Value}, AllRd enc P W (fs.map (·.type)) Qs → contig P off fs all = true → cs.length = all →
    (∀ f ∈ fs, ∃ y, DataW.trod enc P W 0 (fun _ => true) true n f.type ((cs.drop f.offset).take (P.cellsOf f.type)) = some y) → Parts Qs (cs.drop off)
  | [], _, off, all, cs, .nil, hc, hl, _ => by
    simp only [contig, beq_iff_eq] at hc
    exact List.drop_eq_nil_of_le (by omega)
  | f :: fs, _, off, all, cs, .cons h1 h2, hc, hl, he => by
    simp only [contig, Bool.and_eq_true, beq_iff_eq] at hc
    obtain ⟨y, hy⟩ := he f (List.mem_cons_self ..)
    refine ⟨_, _, ?_, h1 n _ y hy, parts_of (off := off + P.cellsOf f.type) h2 hc.2 hl (fun g hg => he g (List.mem_cons_of_mem _ hg))⟩
    rw [hc.1, ← List.drop_drop, List.take_append_drop]
theorem Rd.struct {t : TypeId} {fs : Array Field} {ts : List TypeId} {Qs : List (List Value → Prop)} (hu : P.underlying t = some (.struct fs)) (hts : fs.toList.map (·.type) = ts) (hc : contig P 0 fs.toList (P.cellsOf t) = true) (h : AllRd enc P W ts Qs) : Rd enc P W t (Parts Qs) := by
  subst hts
  intro fuel cs x e
  obtain ⟨xs, m, rfl, _, hl, hxl, hf⟩ := DataW.trod_struct hu e
  have := parts_of (n := m) h hc hl (fun f hm => by
    obtain ⟨i, hi, rfl⟩ := List.getElem_of_mem hm
    have h1 : fs[i]? = some fs.toList[i] := by simp at hi ⊢
    exact ⟨xs[i]'(by simp at hi; omega), by rw [hf i _ h1]; exact List.getElem?_eq_getElem _⟩)
  simpa using this
theorem cells_rd {W : World} {a : Addr} {n : Nat} {cs : List Value} (hb : a.block < W.heap.size ∨ True) (h : W.cells? 0 a n = some cs) : (0 < n → a.spot = none) ∧ @rdN (@hv ⟨W.heap.size⟩ W) a.block a.off n = some cs := by
  unfold World.cells? at h
  simp only [Nat.zero_le, if_true] at h
  have key : ∀ (n k : Nat) (cs : List Value), ((List.range' k n).mapM fun i => W.cell? (a.add i)) = some cs → (0 < n → k = 0 → a.spot = none) ∧ @rdN (@hv ⟨W.heap.size⟩ W) a.block (a.off + k) n = some cs := by
    intro n
    induction n with
    | zero => intro k cs h; simp at h; subst h; exact ⟨fun h => absurd h (by omega), rfl⟩
    | succ n ih =>
      intro k cs h
      rw [List.range'_succ, List.mapM_cons] at h
      simp only [Option.bind_eq_bind, Option.bind_eq_some_iff, Option.pure_def, Option.some.injEq] at h
      obtain ⟨v, hv', r, hr, rfl⟩ := h
      obtain ⟨_, h2⟩ := ih (k + 1) r hr
      have hspot : k = 0 → a.spot = none := by
        rintro rfl
        simp only [Addr.add, if_true] at hv'
        unfold World.cell? at hv'
        split at hv'
        · split at hv'
          · cases hv'
          · rename_i hs; simpa using hs
        · cases hv'
      refine ⟨fun _ => hspot, ?_⟩
      have he : a.add k = ⟨a.block, a.off + k, none⟩ := by
        by_cases hk : k = 0
        · have := hspot hk
          subst hk
          simp only [Addr.add, if_true, Nat.add_zero]
          cases a; simp_all
        · simp [Addr.add, hk]
      rw [he, ← @rdC_hv ⟨W.heap.size⟩] at hv'
      simp only [rdN, hv', Option.bind_some]
      rw [show a.off + k + 1 = a.off + (k + 1) by omega, h2]
      rfl
  rw [List.range_eq_range'] at h
  obtain ⟨h1, h2⟩ := key n 0 cs h
  exact ⟨fun hn => h1 hn rfl, by simpa using h2⟩
theorem rd_rows [Base] {h : Hp} {b : Nat} {sz : Nat} : ∀ (l : List (List Value)) (i : Nat), (∀ j, (hj : j < l.length) → rdN h b (i + j * sz) sz = some l[j]) → rdN h b i (l.length * sz) = some l.flatten
  | [], i, _ => by simp [rdN]
  | r :: l, i, hr => by
    have h0 := hr 0 (by simp)
    have ih := rd_rows (h := h) (b := b) (sz := sz) l (i + sz) (fun j hj => by
      have := hr (j + 1) (by simpa using hj)
      rw [Nat.add_mul, Nat.one_mul] at this
      rw [show i + sz + j * sz = i + (j * sz + sz) by omega]
      simpa using this)
    rw [List.length_cons, Nat.add_mul, Nat.one_mul, Nat.add_comm, rdN_add]
    simp only [Nat.zero_mul, Nat.add_zero, List.getElem_cons_zero] at h0
    rw [h0, Option.bind_some, ih]
    rfl
theorem list_pick {α : Type} {ok : α → Prop} {en : α → List Value} : ∀ {l : List (List Value)}, (∀ r ∈ l, ∃ a, r = en a ∧ ok a) → ∃ rs : List α, l = rs.map en ∧ ∀ a ∈ rs, ok a
  | [], _ => ⟨[], rfl, by simp⟩
  | r :: l, h => by
    obtain ⟨a, rfl, ha⟩ := h r (List.mem_cons_self ..)
    obtain ⟨rs, rfl, has⟩ := list_pick (fun r hr => h r (List.mem_cons_of_mem _ hr))
    exact ⟨a :: rs, rfl, by intro b hb; cases hb with | head => exact ha | tail _ hb => exact has b hb⟩
theorem Rd.slice {t e : TypeId} {sz : Nat} {α : Type} {en : α → List Value} {ok : α → Prop} (hu : P.underlying t = some (.slice e)) (he : P.cellsOf e = sz) (hsz : 0 < sz) (hen : ∀ a, (en a).length = sz)
    (hr : Rd enc P W e (fun cs => ∃ a, cs = en a ∧ ok a)) : Rd enc P W t (fun cs => ∃ v l, cs = [v] ∧ Sl (@hv ⟨W.heap.size⟩ W) sz en v l ∧ (∀ a ∈ l, ok a) ∧ l.length ≤ maxLen) := by
  letI : Base := ⟨W.heap.size⟩
  intro fuel cs x e'
  rcases DataW.trod_slice hu e' with ⟨rfl, _⟩ | ⟨a, len, cap, elems, rest, n, rfl, rfl, _, _, hlc, hcm, hel, hrd, _⟩
  · exact ⟨_, [], rfl, Sl.nil, by simp, by simp [maxLen]⟩
  · have hrow : ∀ i, i < len → ∃ cs : List Value, W.cells? 0 (a.add (i * sz)) sz = some cs ∧ ∃ b, cs = en b ∧ ok b := by
      intro i hi
      have := hrd i hi
      rw [he] at this
      rw [List.getElem?_eq_getElem (by omega)] at this
      simp only [Option.bind_eq_some_iff] at this
      obtain ⟨cs, hcs, ht⟩ := this
      exact ⟨cs, hcs, hr _ _ _ ht⟩
    let f : Nat → List Value := fun i => (W.cells? 0 (a.add (i * sz)) sz).getD []
    have hf : ∀ i, i < len → W.cells? 0 (a.add (i * sz)) sz = some (f i) := by
      intro i hi
      obtain ⟨cs, hcs, _⟩ := hrow i hi
      simp only [f, hcs, Option.getD_some]
    obtain ⟨rs, has, hok⟩ := list_pick (l := (List.range len).map f) (en := en) (ok := ok) (by
      intro r hr'
      obtain ⟨i, hi, rfl⟩ := List.mem_map.1 hr'
      obtain ⟨cs, hcs, b, hb, hb2⟩ := hrow i (List.mem_range.1 hi)
      rw [hf i (List.mem_range.1 hi)] at hcs
      cases hcs
      exact ⟨b, hb, hb2⟩)
    have hlen : rs.length = len := by have := congrArg List.length has; simpa using this.symm
    refine ⟨_, rs, rfl, ⟨some a, cap, by rw [hlen], by rw [hlen]; exact hlc, ?_⟩, hok, by omega⟩
    cases hl : len with
    | zero =>
      have : rs = [] := List.eq_nil_of_length_eq_zero (by omega)
      subst this
      obtain ⟨b, o, sp⟩ := a
      cases sp with
      | none => simp [srcCells, rdN]
      | some _ => simp [srcCells]
    | succ m =>
      have h0 := hf 0 (by omega)
      have hsp : a.spot = none := by
        have := (cells_rd (.inr trivial) h0).1 hsz
        simpa [Addr.add] using this
      obtain ⟨b, o, sp⟩ := a
      cases hsp
      have hrows := rd_rows (h := @hv ⟨W.heap.size⟩ W) (b := b) (sz := sz) (rs.map en) o (fun j hj => by
        rw [List.length_map, hlen] at hj
        have := (cells_rd (.inr trivial) (hf j hj)).2
        rw [add0] at this
        rw [this]
        congr 1
        have h2 : (rs.map en)[j]? = some (f j) := by
          rw [← has, List.getElem?_map, List.getElem?_range hj]; rfl
        exact (List.getElem_eq_iff _).2 h2 |>.symm)
      rw [List.length_map] at hrows
      rw [hlen, hl] at hrows ⊢
      simp only [srcCells, hrows, Option.map_some]
      rw [List.flatMap_def]
theorem arg_struct {t : TypeId} {fs : Array Field} {v : Value} {d : DataW H} {ps : List MemPlace} {b : Nat} {Q : List Value → Prop} (hu : P.underlying t = some (.struct fs)) (hv : Value.okWide P W .any b t v)
    (r : Rd enc P W t Q) (h : DataW.Trod enc P W 0 (fun _ => true) true t v d ps) : ∃ cs, v = .agg cs ∧ Q cs.toList := by
  unfold Value.okWide at hv
  rw [hu] at hv
  obtain ⟨cs, rfl, _⟩ := hv
  obtain ⟨f, hf⟩ := h
  exact ⟨cs, rfl, r f _ _ hf⟩
theorem arg_int {t : TypeId} {k : IntKind} {v : Value} {d : DataW H} {ps : List MemPlace} {b : Nat} (hu : P.underlying t = some (.int k)) (hv : Value.okWide P W .any b t v)
    (h : DataW.Trod enc P W 0 (fun _ => true) true t v d ps) : ∃ a, v = .int k a ∧ k.min ≤ a ∧ a ≤ k.max := by
  unfold Value.okWide at hv
  rw [hu] at hv
  obtain ⟨f, hf⟩ := h
  obtain ⟨a, ha, h1, h2⟩ := Rd.int hu f _ _ hf
  refine ⟨a, ?_, h1, h2⟩
  cases v <;> simp_all [Cell.okWide, Cell.ok, Value.cells]
theorem arg_slice {t e : TypeId} {v : Value} {d : DataW H} {ps : List MemPlace} {b : Nat} {Q : List Value → Prop} (hu : P.underlying t = some (.slice e)) (hv : Value.okWide P W .any b t v)
    (r : Rd enc P W t Q) (h : DataW.Trod enc P W 0 (fun _ => true) true t v d ps) : Q [v] := by
  unfold Value.okWide at hv
  rw [hu] at hv
  obtain ⟨f, hf⟩ := h
  have := r f _ _ hf
  cases v <;> first | exact this | (simp [Cell.okWide, Cell.ok, hu] at hv)
end
end Go.Proofs.Ytdolepapmpcpiaa

namespace Go.Proofs.Ytdolepapmpcpiaa
open Go
open Go.ChangeShapes Go.WideShapes Go.RowKit
set_option linter.unusedVariables false
theorem own_try : ownKnob Try.prog.godebug = none := by kernel_rfl
theorem laid_try : laidOutB Try.prog = true := by kernel_rfl
theorem glob_try : decide (Try.prog.globals.size < (begin Try.prog (fun _ _ => 0) default).world.heap.size) = true := by kernel_rfl
def fieldsOf (P : Program) (t : TypeId) : Array Field := match P.underlying t with | some (.struct fs) => fs | _ => #[]
theorem u_int : Try.prog.underlying 3 = some (.int .i64) := by kernel_rfl
theorem u_u64 : Try.prog.underlying 25 = some (.int .u64) := by kernel_rfl
theorem u_bool : Try.prog.underlying 4 = some .bool := by kernel_rfl
theorem u_cmd : Try.prog.underlying 32 = some (.struct (fieldsOf Try.prog 32)) := by kernel_rfl
theorem u_op : Try.prog.underlying 34 = some (.struct (fieldsOf Try.prog 34)) := by kernel_rfl
def cmdOk (c : Cmd) : Prop := i64ok c.kind ∧ i64ok c.chain ∧ u64ok c.epoch ∧ i64ok c.node
def ccells (c : Cmd) : List Value := [.int .i64 c.kind, .int .i64 c.chain, .int .u64 c.epoch, .int .i64 c.node]
section
variable {H : Type} {enc : TypeId × Value → H} {W : World}
theorem i64r_ok {a : Int} (h1 : IntKind.i64.min ≤ a) (h2 : a ≤ IntKind.i64.max) : i64ok a := by
  simp only [IntKind.min, IntKind.max, IntKind.signed, IntKind.bits, if_true] at h1 h2
  unfold i64ok
  omega
theorem u64r_ok {a : Int} (h1 : IntKind.u64.min ≤ a) (h2 : a ≤ IntKind.u64.max) : u64ok a := by
  simp only [IntKind.min, IntKind.max, IntKind.signed, IntKind.bits, Bool.false_eq_true, if_false] at h1 h2
  omega
theorem rd_int : Rd enc Try.prog W 3 (fun cs => ∃ a, cs = [.int .i64 a] ∧ i64ok a) := (Rd.int u_int).mono fun cs ⟨a, h, h1, h2⟩ => ⟨a, h, i64r_ok h1 h2⟩
theorem rd_u64 : Rd enc Try.prog W 25 (fun cs => ∃ a, cs = [.int .u64 a] ∧ u64ok a) := (Rd.int u_u64).mono fun cs ⟨a, h, h1, h2⟩ => ⟨a, h, u64r_ok h1 h2⟩
theorem rd_cmd : Rd enc Try.prog W 32 (fun cs => ∃ c, cs = ccells c ∧ cmdOk c) := by
  refine (Rd.struct (ts := [3, 3, 25, 3]) u_cmd (by kernel_rfl) (by kernel_rfl) (.cons rd_int (.cons rd_int (.cons rd_u64 (.cons rd_int .nil))))).mono ?_
  rintro cs ⟨_, _, rfl, ⟨a, rfl, ha⟩, _, _, rfl, ⟨b, rfl, hb⟩, _, _, rfl, ⟨c, rfl, hc⟩, _, _, rfl, ⟨d, rfl, hd⟩, rfl⟩
  exact ⟨⟨a, b, c, d⟩, rfl, ha, hb, hc, hd⟩
structure Op where
  kind : Int
  ballot : Int
  slot : Int
  cmd : Cmd
def ocells (o : Op) : List Value := .int .i64 o.kind :: .int .u64 o.ballot :: .int .i64 o.slot :: ccells o.cmd
def opOk (o : Op) : Prop := i64ok o.kind ∧ u64ok o.ballot ∧ i64ok o.slot ∧ cmdOk o.cmd
theorem rd_op : Rd enc Try.prog W 34 (fun cs => ∃ o, cs = ocells o ∧ opOk o) := by
  refine (Rd.struct (ts := [3, 25, 3, 32]) u_op (by kernel_rfl) (by kernel_rfl) (.cons rd_int (.cons rd_u64 (.cons rd_int (.cons rd_cmd .nil))))).mono ?_
  rintro cs ⟨_, _, rfl, ⟨a, rfl, ha⟩, _, _, rfl, ⟨b, rfl, hb⟩, _, _, rfl, ⟨c, rfl, hc⟩, _, _, rfl, ⟨d, rfl, hd⟩, rfl⟩
  exact ⟨⟨a, b, c, d⟩, rfl, ha, hb, hc, hd⟩
end
section
variable {H : Type} {enc : TypeId × Value → H} {W : World}
theorem u_vote : Try.prog.underlying 36 = some (.struct (fieldsOf Try.prog 36)) := by kernel_rfl
theorem u_votes : Try.prog.underlying 26 = some (.slice 36) := by kernel_rfl
theorem u_ops : Try.prog.underlying 22 = some (.slice 34) := by kernel_rfl
def voteOk (v : Vote) : Prop := i64ok v.slot ∧ u64ok v.ballot ∧ cmdOk v.cmd
theorem rd_vote : Rd enc Try.prog W 36 (fun cs => ∃ v, cs = vcells v ∧ voteOk v) := by
  refine (Rd.struct (ts := [3, 25, 32]) u_vote (by kernel_rfl) (by kernel_rfl) (.cons rd_int (.cons rd_u64 (.cons rd_cmd .nil)))).mono ?_
  rintro cs ⟨_, _, rfl, ⟨a, rfl, ha⟩, _, _, rfl, ⟨b, rfl, hb⟩, _, _, rfl, ⟨c, rfl, hc⟩, rfl⟩
  exact ⟨⟨a, b, c⟩, rfl, ha, hb, hc⟩
theorem rd_votes : Rd enc Try.prog W 26 (fun cs => ∃ v l, cs = [v] ∧ Sl (@hv ⟨W.heap.size⟩ W) 6 vcells v l ∧ (∀ a ∈ l, voteOk a) ∧ l.length ≤ maxLen) :=
  Rd.slice u_votes (by kernel_rfl) (by decide) (@vcells_len ⟨0⟩) rd_vote
def lvOk (W : World) (a : LV) : Prop := Sl (@hv ⟨W.heap.size⟩ W) 6 vcells a.1 a.2 ∧ (∀ v ∈ a.2, voteOk v) ∧ a.2.length ≤ maxLen
theorem ocells_len (o : Op) : (ocells o).length = 7 := rfl
theorem rd_ops : Rd enc Try.prog W 22 (fun cs => ∃ v l, cs = [v] ∧ Sl (@hv ⟨W.heap.size⟩ W) 7 ocells v l ∧ (∀ a ∈ l, opOk a) ∧ l.length ≤ maxLen) :=
  Rd.slice u_ops (by kernel_rfl) (by decide) ocells_len rd_op
end
end Go.Proofs.Ytdolepapmpcpiaa

namespace Go.Proofs.Ytdolepapmpcpiaa
open Go
open Go.ChangeShapes Go.WideShapes Go.RowKit
set_option linter.unusedSectionVars false
set_option linter.unusedVariables false
set_option linter.unusedSimpArgs false
set_option maxRecDepth 10000
section
variable [Base]
theorem sp_lisN {h : Hp} (s b : Value) {K : Kont} (hK : K (.bool false) h) : C_q126 [.pointer none, s, b] h K := by
  refine ok_q126 ?_
  unfold G_q126
  (try simp (maxSteps:=999999) (disch:=(first|omega|(simp only [zz,Nat.reduceAdd,Nat.reduceLeDiff];done)|(simp only [zz];omega))) only [↓xa,xb,xl,xy,Int.reduceLT,Int.reduceLE,Int.reduceEq,Nat.reduceAdd,Nat.reduceMul,Nat.reduceLeDiff,setL,bfill,eqV,lookRes])
  exact hK
theorem sp_lStartN {h : Hp} (a b : Value) {K : Kont} (hK : K (.tuple #[.int .u64 0, .int .i64 2]) h) : C_q82 [.pointer none, a, b] h K := by
  refine ok_q82 ?_
  unfold G_q82
  (try simp (maxSteps:=999999) (disch:=(first|omega|(simp only [zz,Nat.reduceAdd,Nat.reduceLeDiff];done)|(simp only [zz];omega))) only [↓xa,xb,xl,xy,Int.reduceLT,Int.reduceLE,Int.reduceEq,Nat.reduceAdd,Nat.reduceMul,Nat.reduceLeDiff,setL,bfill,eqV,lookRes])
  exact hK
theorem sp_lPromiseN {h : Hp} (hB : Base.b ≤ h.size) (a b c : Value) {K : Kont} (hK : ∀ h', Ext h h' → K (.tuple #[.slice none 0 0, .bool false]) h') : C_q57 [.pointer none, a, b, c] h K := by
  refine ok_q57 ?_
  unfold G_q57
  (try simp (maxSteps:=999999) (disch:=(first|omega|(simp only [zz,Nat.reduceAdd,Nat.reduceLeDiff];done)|(simp only [zz];omega))) only [↓xa,xb,xl,xy,Int.reduceLT,Int.reduceLE,Int.reduceEq,Nat.reduceAdd,Nat.reduceMul,Nat.reduceLeDiff,setL,bfill,eqV,lookRes])
  refine sp_lisN _ _ ?_
  (try simp (maxSteps:=999999) (disch:=(first|omega|(simp only [zz,Nat.reduceAdd,Nat.reduceLeDiff];done)|(simp only [zz];omega))) only [↓xa,xb,xl,xy,Int.reduceLT,Int.reduceLE,Int.reduceEq,Nat.reduceAdd,Nat.reduceMul,Nat.reduceLeDiff,setL,bfill,eqV,lookRes])
  exact hK _ (by repeat' (first|with_reducible (first|exact u0 _|refine u1 ?_ _|refine u2 ?_ _ _ ?_)|exact .inl (by (first|omega|(simp only [zz,Nat.reduceAdd,Nat.reduceLeDiff];done)|(simp only [zz];omega)))|exact .inr rfl|exact .inr (by simp;done)))
theorem sp_lProposeN {h : Hp} (hB : Base.b ≤ h.size) (c : Cmd) {K : Kont} (hK : ∀ h', Ext h h' → K (.tuple #[voteV vote0, .int .i64 2]) h') : C_q58 [.pointer none, cmdV c] h K := by
  refine ok_q58 ?_
  unfold G_q58 cmdV
  unfold voteV at hK
  (try simp (maxSteps:=999999) (disch:=(first|omega|(simp only [zz,Nat.reduceAdd,Nat.reduceLeDiff];done)|(simp only [zz];omega))) only [↓xa,xb,xl,xy,Int.reduceLT,Int.reduceLE,Int.reduceEq,Nat.reduceAdd,Nat.reduceMul,Nat.reduceLeDiff,setL,bfill,eqV,lookRes])
  exact hK _ (by repeat' (first|with_reducible (first|exact u0 _|refine u1 ?_ _|refine u2 ?_ _ _ ?_)|exact .inl (by (first|omega|(simp only [zz,Nat.reduceAdd,Nat.reduceLeDiff];done)|(simp only [zz];omega)))|exact .inr rfl|exact .inr (by simp;done)))
theorem sp_lAcceptedN {h : Hp} (hB : Base.b ≤ h.size) (a b c : Value) {K : Kont} (hK : ∀ h', Ext h h' → K (.tuple #[voteV vote0, .bool false]) h') : C_q47 [.pointer none, a, b, c] h K := by
  refine ok_q47 ?_
  unfold G_q47
  unfold voteV at hK
  (try simp (maxSteps:=999999) (disch:=(first|omega|(simp only [zz,Nat.reduceAdd,Nat.reduceLeDiff];done)|(simp only [zz];omega))) only [↓xa,xb,xl,xy,Int.reduceLT,Int.reduceLE,Int.reduceEq,Nat.reduceAdd,Nat.reduceMul,Nat.reduceLeDiff,setL,bfill,eqV,lookRes])
  refine sp_lisN _ _ ?_
  (try simp (maxSteps:=999999) (disch:=(first|omega|(simp only [zz,Nat.reduceAdd,Nat.reduceLeDiff];done)|(simp only [zz];omega))) only [↓xa,xb,xl,xy,Int.reduceLT,Int.reduceLE,Int.reduceEq,Nat.reduceAdd,Nat.reduceMul,Nat.reduceLeDiff,setL,bfill,eqV,lookRes])
  exact hK _ (by repeat' (first|with_reducible (first|exact u0 _|refine u1 ?_ _|refine u2 ?_ _ _ ?_)|exact .inl (by (first|omega|(simp only [zz,Nat.reduceAdd,Nat.reduceLeDiff];done)|(simp only [zz];omega)))|exact .inr rfl|exact .inr (by simp;done)))
theorem sp_lRefuseN {h : Hp} (a : Value) {K : Kont} (hK : K (.bool false) h) : C_q71 [.pointer none, a] h K := by
  refine ok_q71 ?_
  unfold G_q71
  (try simp (maxSteps:=999999) (disch:=(first|omega|(simp only [zz,Nat.reduceAdd,Nat.reduceLeDiff];done)|(simp only [zz];omega))) only [↓xa,xb,xl,xy,Int.reduceLT,Int.reduceLE,Int.reduceEq,Nat.reduceAdd,Nat.reduceMul,Nat.reduceLeDiff,setL,bfill,eqV,lookRes])
  exact hK
theorem sp_lOpenN {h : Hp} {K : Kont} (hK : K (.slice none 0 0) h) : C_q94 [.pointer none] h K := by
  refine ok_q94 ?_
  unfold G_q94
  (try simp (maxSteps:=999999) (disch:=(first|omega|(simp only [zz,Nat.reduceAdd,Nat.reduceLeDiff];done)|(simp only [zz];omega))) only [↓xa,xb,xl,xy,Int.reduceLT,Int.reduceLE,Int.reduceEq,Nat.reduceAdd,Nat.reduceMul,Nat.reduceLeDiff,setL,bfill,eqV,lookRes])
  exact hK
theorem sp_lStateN {h : Hp} {K : Kont} (hK : K (.int .i64 0) h) : C_q83 [.pointer none] h K := by
  refine ok_q83 ?_
  unfold G_q83
  (try simp (maxSteps:=999999) (disch:=(first|omega|(simp only [zz,Nat.reduceAdd,Nat.reduceLeDiff];done)|(simp only [zz];omega))) only [↓xa,xb,xl,xy,Int.reduceLT,Int.reduceLE,Int.reduceEq,Nat.reduceAdd,Nat.reduceMul,Nat.reduceLeDiff,setL,bfill,eqV,lookRes])
  exact hK
theorem sp_lBallotN {h : Hp} {K : Kont} (hK : K (.int .u64 0) h) : C_q70 [.pointer none] h K := by
  refine ok_q70 ?_
  unfold G_q70
  (try simp (maxSteps:=999999) (disch:=(first|omega|(simp only [zz,Nat.reduceAdd,Nat.reduceLeDiff];done)|(simp only [zz];omega))) only [↓xa,xb,xl,xy,Int.reduceLT,Int.reduceLE,Int.reduceEq,Nat.reduceAdd,Nat.reduceMul,Nat.reduceLeDiff,setL,bfill,eqV,lookRes])
  exact hK
theorem sp_lFromN {h : Hp} {K : Kont} (hK : K (.int .i64 0) h) : C_q92 [.pointer none] h K := by
  refine ok_q92 ?_
  unfold G_q92
  (try simp (maxSteps:=999999) (disch:=(first|omega|(simp only [zz,Nat.reduceAdd,Nat.reduceLeDiff];done)|(simp only [zz];omega))) only [↓xa,xb,xl,xy,Int.reduceLT,Int.reduceLE,Int.reduceEq,Nat.reduceAdd,Nat.reduceMul,Nat.reduceLeDiff,setL,bfill,eqV,lookRes])
  exact hK
theorem sp_lNextN {h : Hp} {K : Kont} (hK : K (.int .i64 0) h) : C_q93 [.pointer none] h K := by
  refine ok_q93 ?_
  unfold G_q93
  (try simp (maxSteps:=999999) (disch:=(first|omega|(simp only [zz,Nat.reduceAdd,Nat.reduceLeDiff];done)|(simp only [zz];omega))) only [↓xa,xb,xl,xy,Int.reduceLT,Int.reduceLE,Int.reduceEq,Nat.reduceAdd,Nat.reduceMul,Nat.reduceLeDiff,setL,bfill,eqV,lookRes])
  exact hK
set_option maxHeartbeats 2000000 in
theorem sp_lawake {h : Hp} (hB : Base.b ≤ h.size) {K : Kont} (hK : ∀ h', Ext h h' → K (.bool true) h') : C_q162 [] h K := by
  refine ok_q162 ?_
  unfold G_q162
  refine sp_lNew hB 2 3 (fun h => absurd ⟨by decide, by decide, by decide, by decide⟩ h) (fun _ => ?_)
  have x1 : Ext h (h.push (.cells (lcells ⟨2, 3, 0, 0, 0, 0⟩ none none))) := (by repeat' (first|with_reducible (first|exact u0 _|refine u1 ?_ _|refine u2 ?_ _ _ ?_)|exact .inl (by (first|omega|(simp only [zz,Nat.reduceAdd,Nat.reduceLeDiff];done)|(simp only [zz];omega)))|exact .inr rfl|exact .inr (by simp;done)))
  have hb1 : (h.push (.cells (lcells ⟨2, 3, 0, 0, 0, 0⟩ none none)))[h.size]? = some (.cells (lcells ⟨2, 3, 0, 0, 0, 0⟩ none none)) := g_push_eq rfl
  have l1 : (h.push (.cells (lcells ⟨2, 3, 0, 0, 0, 0⟩ none none))).size = h.size + 1 := by simp
  generalize h.push (.cells (lcells ⟨2, 3, 0, 0, 0, 0⟩ none none)) = h1 at *
  have hB1 := x1.hB hB
  (try simp (maxSteps:=999999) (disch:=(first|omega|(simp only [zz,Nat.reduceAdd,Nat.reduceLeDiff];done)|(simp only [zz];omega))) only [↓xa,xb,xl,xy,Int.reduceLT,Int.reduceLE,Int.reduceEq,Nat.reduceAdd,Nat.reduceMul,Nat.reduceLeDiff,setL,bfill,eqV,lookRes])
  have e1 : startE ⟨2, 3, 0, 0, 0, 0⟩ 0 0 = 0 := by decide
  have e2 : startB ⟨2, 3, 0, 0, 0, 0⟩ 0 0 = 10 := by decide
  have e3 : startX ⟨2, 3, 0, 0, 0, 0⟩ 0 0 = ⟨2, 3, 1, 10, 0, 0⟩ := by unfold startX; rw [if_pos e1]; rfl
  refine sp_lStart hB1 hb1 (by decide) (by decide) (by decide) 0 (fun h => absurd e1 h) (fun _ => ?_)
  intro h2 u2 hL2
  rw [e3] at hL2
  rw [e2]
  have hB2 := u2.hB hB1
  (try simp (maxSteps:=999999) (disch:=(first|omega|(simp only [zz,Nat.reduceAdd,Nat.reduceLeDiff];done)|(simp only [zz];omega))) only [↓xa,xb,xl,xy,Int.reduceLT,Int.reduceLE,Int.reduceEq,Nat.reduceAdd,Nat.reduceMul,Nat.reduceLeDiff,setL,bfill,eqV,lookRes])
  have n1 : (cutV 0 []) = [] := rfl
  refine sp_lPromise hB2 hL2 rfl (fun e he => by cases he) (CameOk.nil (by decide) (by decide)) (fun e he => by cases he) (b := 10) (who := 2) (by decide) (va := .slice none 0 0) (vl := []) Sl.nil (by simp) ?_ ?_
  rotate_left
  · intro h3 v w came' he
    have k1 : came'.map (·.1) = [2] := rfl
    rw [k1] at he
    exact absurd he (by decide)
  intro h3 v came' _ u3 hL3 hc3 hv3
  have hB3 := u3.hB hB2
  (try simp (maxSteps:=999999) (disch:=(first|omega|(simp only [zz,Nat.reduceAdd,Nat.reduceLeDiff];done)|(simp only [zz];omega))) only [↓xa,xb,xl,xy,Int.reduceLT,Int.reduceLE,Int.reduceEq,Nat.reduceAdd,Nat.reduceMul,Nat.reduceLeDiff,setL,bfill,eqV,lookRes])
  have hco3 : CameOk ⟨2, 3, 1, 10, 0, 0⟩ came' := CameOk.put (CameOk.nil (by decide) (by decide)) (by decide) (by simp [cutV]) (by simp [cutV])
  have l2 := u2.1
  have l3 := u3.1
  refine sp_lPromise hB3 hL3 rfl hc3 hco3 (fun e he b hb => ?_) (b := 10) (who := 3) (by decide) (va := .slice none 0 0) (vl := []) Sl.nil (by simp) ?_ ?_
  · rcases mem_cameP he with he | rfl
    · cases he
    · have := (hv3 b hb).1
      have h6 := lt_of_get hL2.blk
      have h7 := lt_of_get hL2.came
      have h8 := lt_of_get hL2.opn
      omega
  · intro h4 v' came2 he
    have k2 : came2.map (·.1) = [2, 3] := rfl
    rw [k2] at he
    exact absurd he (by decide)
  intro h4 v' w came2 _ u4 hL4 hv4 o4
  (try simp (maxSteps:=999999) (disch:=(first|omega|(simp only [zz,Nat.reduceAdd,Nat.reduceLeDiff];done)|(simp only [zz];omega))) only [↓xa,xb,xl,xy,Int.reduceLT,Int.reduceLE,Int.reduceEq,Nat.reduceAdd,Nat.reduceMul,Nat.reduceLeDiff,setL,bfill,eqV,lookRes])
  refine sp_lState hL4.blk ?_
  (try simp (maxSteps:=999999) (disch:=(first|omega|(simp only [zz,Nat.reduceAdd,Nat.reduceLeDiff];done)|(simp only [zz];omega))) only [↓xa,xb,xl,xy,Int.reduceLT,Int.reduceLE,Int.reduceEq,Nat.reduceAdd,Nat.reduceMul,Nat.reduceLeDiff,setL,bfill,eqV,lookRes])
  refine hK _ ?_
  have U2 : Upd (fun r => h.size ≤ r) h1 h2 := u2.mono (fun r _ e => by omega)
  have U3 : Upd (fun r => h.size ≤ r) h2 h3 := u3.mono (fun r _ e => by omega)
  have U4 : Upd (fun r => h.size ≤ r) h3 h4 := u4.mono (fun r _ e => by omega)
  exact x1.ext (U2.trans (U3.trans U4)) (Nat.le_refl _)
structure Op13 where
  kind : Int
  own : Bool
  ballot : Int
  n : Int
  who : Int
  votes : LV
  cmd : Cmd
def o13cells (o : Op13) : List Value := .int .i64 o.kind :: .bool o.own :: .int .u64 o.ballot :: .int .i64 o.n :: .int .i64 o.who :: o.votes.1 :: ccells o.cmd
set_option maxHeartbeats 4000000 in
theorem sp_LeadNil {h : Hp} (hB : Base.b ≤ h.size) (o : Op13) (hv : one o.votes.1 = true) {K : Kont} (hK : ∀ h', Ext h h' → K (.bool true) h') : C_q135 [.agg (o13cells o).toArray] h K := by
  refine ok_q135 ?_
  unfold G_q135
  obtain ⟨kd, ow, b, n, w, vs, c⟩ := o
  obtain ⟨c1, c2, c3, c4⟩ := c
  unfold o13cells ccells
  have x1 : Ext h (h.push (.cells #[.int .i64 kd, .bool ow, .int .u64 b, .int .i64 n, .int .i64 w, vs.1, .int .i64 c1, .int .i64 c2, .int .u64 c3, .int .i64 c4])) := (by repeat' (first|with_reducible (first|exact u0 _|refine u1 ?_ _|refine u2 ?_ _ _ ?_)|exact .inl (by (first|omega|(simp only [zz,Nat.reduceAdd,Nat.reduceLeDiff];done)|(simp only [zz];omega)))|exact .inr rfl|exact .inr (by simp;done)))
  have hb1 : (h.push (.cells #[.int .i64 kd, .bool ow, .int .u64 b, .int .i64 n, .int .i64 w, vs.1, .int .i64 c1, .int .i64 c2, .int .u64 c3, .int .i64 c4]))[h.size]? = some (.cells #[.int .i64 kd, .bool ow, .int .u64 b, .int .i64 n, .int .i64 w, vs.1, .int .i64 c1, .int .i64 c2, .int .u64 c3, .int .i64 c4]) := g_push_eq rfl
  have hB1 := x1.hB hB
  (try simp (maxSteps:=999999) (disch:=(first|omega|(simp only [zz,Nat.reduceAdd,Nat.reduceLeDiff];done)|(simp only [zz];omega))) only [↓xa,xb,xl,xy,Int.reduceLT,Int.reduceLE,Int.reduceEq,Nat.reduceAdd,Nat.reduceMul,Nat.reduceLeDiff,setL,bfill,eqV,lookRes])
  generalize h.push (.cells #[.int .i64 kd, .bool ow, .int .u64 b, .int .i64 n, .int .i64 w, vs.1, .int .i64 c1, .int .i64 c2, .int .u64 c3, .int .i64 c4]) = h1 at *
  refine sp_lStartN _ _ ?_
  simp (maxSteps:=999999) (disch:=(first|omega|(simp only [zz,Nat.reduceAdd,Nat.reduceLeDiff];done)|(simp only [zz];omega))) only [↓xa,xb,xl,xy,Int.reduceLT,Int.reduceLE,Int.reduceEq,Nat.reduceAdd,Nat.reduceMul,Nat.reduceLeDiff,setL,bfill,eqV,lookRes, rdC_blk hb1]
  refine sp_lPromiseN hB1 _ _ _ ?_
  intro h2 x2
  have hb2 := x2.get hb1 id
  have hB2 := x2.hB hB1
  simp (maxSteps:=999999) (disch:=(first|omega|(simp only [zz,Nat.reduceAdd,Nat.reduceLeDiff];done)|(simp only [zz];omega))) only [↓xa,xb,xl,xy,Int.reduceLT,Int.reduceLE,Int.reduceEq,Nat.reduceAdd,Nat.reduceMul,Nat.reduceLeDiff,setL,bfill,eqV,lookRes, rdN_of hb2]
  refine sp_lProposeN hB2 ⟨c1, c2, c3, c4⟩ ?_
  intro h3 x3
  have hb3 := x3.get hb2 id
  have hB3 := x3.hB hB2
  have lb3 := lt_of_get hb3
  unfold voteV vote0 cmd0
  simp (maxSteps:=999999) (disch:=(first|omega|(simp only [zz,Nat.reduceAdd,Nat.reduceLeDiff];done)|(simp only [zz];omega))) only [↓xa,xb,xl,xy,Int.reduceLT,Int.reduceLE,Int.reduceEq,Nat.reduceAdd,Nat.reduceMul,Nat.reduceLeDiff,setL,bfill,eqV,lookRes, rdC_blk hb3]
  have x4 : Ext h3 (Array.setIfInBounds (h3.push (.cells #[.int .i64 0, .int .u64 0, .int .i64 0, .int .i64 0, .int .u64 0, .int .i64 0])) h3.size (.cells #[.int .i64 0, .int .u64 0, .int .i64 0, .int .i64 0, .int .u64 0, .int .i64 0])) := (by repeat' (first|with_reducible (first|exact u0 _|refine u1 ?_ _|refine u2 ?_ _ _ ?_)|exact .inl (by (first|omega|(simp only [zz,Nat.reduceAdd,Nat.reduceLeDiff];done)|(simp only [zz];omega)))|exact .inr rfl|exact .inr (by simp;done)))
  have hd4 : (Array.setIfInBounds (h3.push (.cells #[.int .i64 0, .int .u64 0, .int .i64 0, .int .i64 0, .int .u64 0, .int .i64 0])) h3.size (.cells #[.int .i64 0, .int .u64 0, .int .i64 0, .int .i64 0, .int .u64 0, .int .i64 0]))[h3.size]? = some (.cells #[.int .i64 0, .int .u64 0, .int .i64 0, .int .i64 0, .int .u64 0, .int .i64 0]) := g_set_eq (by simp) rfl
  have hb4 := x4.get hb3 id
  generalize Array.setIfInBounds (h3.push (.cells #[.int .i64 0, .int .u64 0, .int .i64 0, .int .i64 0, .int .u64 0, .int .i64 0])) h3.size (.cells #[.int .i64 0, .int .u64 0, .int .i64 0, .int .i64 0, .int .u64 0, .int .i64 0]) = h4 at *
  have hB4 := x4.hB hB3
  refine sp_lAcceptedN hB4 _ _ _ ?_
  intro h5 x5
  have hb5 := x5.get hb4 id
  have hd5 := x5.get hd4 id
  have hB5 := x5.hB hB4
  have lb5 := lt_of_get hb5
  have ld5 := lt_of_get hd5
  unfold voteV vote0 cmd0
  simp (maxSteps:=999999) (disch:=(first|omega|(simp only [zz,Nat.reduceAdd,Nat.reduceLeDiff];done)|(simp only [zz];omega))) only [↓xa,xb,xl,xy,Int.reduceLT,Int.reduceLE,Int.reduceEq,Nat.reduceAdd,Nat.reduceMul,Nat.reduceLeDiff,setL,bfill,eqV,lookRes, rdC_blk hb5, rdN_all hd5, eq_vote]
  refine sp_lRefuseN _ ?_
  simp (maxSteps:=999999) (disch:=(first|omega|(simp only [zz,Nat.reduceAdd,Nat.reduceLeDiff];done)|(simp only [zz];omega))) only [↓xa,xb,xl,xy,Int.reduceLT,Int.reduceLE,Int.reduceEq,Nat.reduceAdd,Nat.reduceMul,Nat.reduceLeDiff,setL,bfill,eqV,lookRes, rdC_blk hb5, rdN_all hd5, eq_vote]
  refine sp_lOpenN ?_
  simp (maxSteps:=999999) (disch:=(first|omega|(simp only [zz,Nat.reduceAdd,Nat.reduceLeDiff];done)|(simp only [zz];omega))) only [↓xa,xb,xl,xy,Int.reduceLT,Int.reduceLE,Int.reduceEq,Nat.reduceAdd,Nat.reduceMul,Nat.reduceLeDiff,setL,bfill,eqV,lookRes, rdC_blk hb5, rdN_all hd5, eq_vote]
  refine sp_lStateN ?_
  (try simp (maxSteps:=999999) (disch:=(first|omega|(simp only [zz,Nat.reduceAdd,Nat.reduceLeDiff];done)|(simp only [zz];omega))) only [↓xa,xb,xl,xy,Int.reduceLT,Int.reduceLE,Int.reduceEq,Nat.reduceAdd,Nat.reduceMul,Nat.reduceLeDiff,setL,bfill,eqV,lookRes])
  refine sp_lBallotN ?_
  (try simp (maxSteps:=999999) (disch:=(first|omega|(simp only [zz,Nat.reduceAdd,Nat.reduceLeDiff];done)|(simp only [zz];omega))) only [↓xa,xb,xl,xy,Int.reduceLT,Int.reduceLE,Int.reduceEq,Nat.reduceAdd,Nat.reduceMul,Nat.reduceLeDiff,setL,bfill,eqV,lookRes])
  refine sp_lFromN ?_
  (try simp (maxSteps:=999999) (disch:=(first|omega|(simp only [zz,Nat.reduceAdd,Nat.reduceLeDiff];done)|(simp only [zz];omega))) only [↓xa,xb,xl,xy,Int.reduceLT,Int.reduceLE,Int.reduceEq,Nat.reduceAdd,Nat.reduceMul,Nat.reduceLeDiff,setL,bfill,eqV,lookRes])
  refine sp_lNextN ?_
  (try simp (maxSteps:=999999) (disch:=(first|omega|(simp only [zz,Nat.reduceAdd,Nat.reduceLeDiff];done)|(simp only [zz];omega))) only [↓xa,xb,xl,xy,Int.reduceLT,Int.reduceLE,Int.reduceEq,Nat.reduceAdd,Nat.reduceMul,Nat.reduceLeDiff,setL,bfill,eqV,lookRes])
  have x6 : Ext h5 (Array.setIfInBounds (h5.push (.cells #[.int .i64 0, .int .u64 0, .int .i64 0, .int .i64 0, .int .u64 0, .int .i64 0])) h5.size (.cells #[.int .i64 0, .int .u64 0, .int .i64 0, .int .i64 0, .int .u64 0, .int .i64 0])) := (by repeat' (first|with_reducible (first|exact u0 _|refine u1 ?_ _|refine u2 ?_ _ _ ?_)|exact .inl (by (first|omega|(simp only [zz,Nat.reduceAdd,Nat.reduceLeDiff];done)|(simp only [zz];omega)))|exact .inr rfl|exact .inr (by simp;done)))
  refine sp_lawake (x6.hB hB5) ?_
  intro h7 x7
  (try simp (maxSteps:=999999) (disch:=(first|omega|(simp only [zz,Nat.reduceAdd,Nat.reduceLeDiff];done)|(simp only [zz];omega))) only [↓xa,xb,xl,xy,Int.reduceLT,Int.reduceLE,Int.reduceEq,Nat.reduceAdd,Nat.reduceMul,Nat.reduceLeDiff,setL,bfill,eqV,lookRes])
  exact hK _ (x1.trans (x2.trans (x3.trans (x4.trans (x5.trans (x6.trans x7))))))
end
section
variable {H : Type} {enc : TypeId × Value → H} {W : World}
theorem u_op13 : Try.prog.underlying 77 = some (.struct (fieldsOf Try.prog 77)) := by kernel_rfl
def op13Ok (W : World) (o : Op13) : Prop := i64ok o.kind ∧ u64ok o.ballot ∧ i64ok o.n ∧ i64ok o.who ∧ lvOk W o.votes ∧ cmdOk o.cmd
theorem rd_bool : Rd enc Try.prog W 4 (fun cs => ∃ a, cs = [.bool a]) := Rd.bool u_bool
theorem rd_op13 : Rd enc Try.prog W 77 (fun cs => ∃ o, cs = o13cells o ∧ op13Ok W o) := by
  refine (Rd.struct (ts := [3, 4, 25, 3, 3, 26, 32]) u_op13 (by kernel_rfl) (by kernel_rfl) (.cons rd_int (.cons rd_bool (.cons rd_u64 (.cons rd_int (.cons rd_int (.cons rd_votes (.cons rd_cmd .nil)))))))).mono ?_
  rintro cs ⟨_, _, rfl, ⟨a, rfl, ha⟩, _, _, rfl, ⟨b, rfl⟩, _, _, rfl, ⟨c, rfl, hc⟩, _, _, rfl, ⟨d, rfl, hd⟩, _, _, rfl, ⟨e, rfl, he⟩, _, _, rfl, ⟨v, l, rfl, hv⟩, _, _, rfl, ⟨f, rfl, hf⟩, rfl⟩
  exact ⟨⟨a, b, c, d, e, (v, l), f⟩, rfl, ha, hc, hd, he, hv, hf⟩
end
set_option maxRecDepth 100000 in
theorem law_LeadNil {H : Type} {enc : TypeId × Value → H} : LawDoes enc Try.prog 9 Try.f9 := by
  intro W base args ds ps h0 hlt hval hA
  letI : Base := ⟨W.heap.size⟩
  have hp : Try.f9.params = #[77] := by kernel_rfl
  rw [hp] at hA hval
  obtain ⟨v0, d0, rfl, rfl, t0⟩ := trodAll_one hA
  obtain ⟨cs, rfl, o, hc, ho⟩ := arg_struct u_op13 (hval 0 77 v0 rfl rfl) rd_op13 t0
  obtain ⟨cs⟩ := cs
  cases hc
  exact sp_LeadNil (by rw [hv_size]; exact Nat.le_refl _) o (sl_one ho.2.2.2.2.1.1) (fun h' x => ⟨rfl, x⟩)
set_option maxRecDepth 100000 in
theorem lifted_LeadNil (os : Os) (started : os.Started) (H : Type) (enc : TypeId × Value → H) :
    ReturnsInHanded {} Try.checked os 9 .any (Rows.leadNilSpec.pre6 enc Try.prog Try.f9 Rows.leadNilRow.domain false) (Rows.leadNilSpec.post enc Try.prog Try.f9 false true false false) :=
  lifted_law (C := Try.checked) (s := Rows.leadNilSpec) (tb := 4) own_try started (by kernel_rfl) Try.func9
      (ChangeSpec.witness6 (enc := enc) (C := Try.checked) false ⟨#[], #[.agg #[.int .i64 0, .bool false, .int .u64 0, .int .i64 0, .int .i64 0, .slice none 0 0, .int .i64 0, .int .i64 0, .int .u64 0, .int .i64 0]], []⟩ 8 (by kernel_rfl) (by kernel_rfl) (by kernel_rfl) (by kernel_rfl))
      rfl (by kernel_rfl) u_bool (fun ds h => by
        have hp : Try.f9.params = #[77] := by kernel_rfl
        rw [hp] at h
        match ds, h with | [d0], _ => rfl) laid_try (by kernel_rfl) glob_try law_LeadNil
theorem LeadNil_holds : Rows.LeadNilSaid :=
  OpenClaim.holds_of_wide 9 Try.f9 rfl rfl rfl rfl rfl rfl rfl ⟨rfl, rfl, rfl, rfl, rfl⟩ rfl rfl rfl rfl rfl (by kernel_rfl) Try.func9 (by kernel_rfl)
    (of_decide_eq_true (by kernel_rfl)) (by unfold Func.isWrapper; rw [if_neg (of_decide_eq_false (by kernel_rfl))]; exact ⟨rfl, rfl⟩)
    (fun os started H enc _ => lifted_LeadNil os started H enc)
#print axioms LeadNil_holds
end Go.Proofs.Ytdolepapmpcpiaa

namespace Go.Proofs.Ytdolepapmpcpiaa
open Go Go.RowKit Go.Maps Go.Shelf
set_option linter.unusedSectionVars false
variable [Base]
set_option linter.unusedVariables false
set_option linter.unusedSimpArgs false
set_option maxRecDepth 10000
end Go.Proofs.Ytdolepapmpcpiaa

namespace Go.Proofs.Ytdolepapmpcpiaa
open Go Go.RowKit Go.Maps Go.Shelf
set_option linter.unusedSectionVars false
variable [Base]
set_option linter.unusedVariables false
set_option linter.unusedSimpArgs false
set_option maxRecDepth 10000
theorem isucc (i : Nat) : (i : Int) + 1 = ((i + 1 : Nat) : Int) := rfl
end Go.Proofs.Ytdolepapmpcpiaa

namespace Go.Proofs.Ytdolepapmpcpiaa
open Go Go.RowKit Go.Maps Go.Shelf
set_option linter.unusedSectionVars false
variable [Base]
set_option linter.unusedVariables false
set_option linter.unusedSimpArgs false
set_option maxRecDepth 10000
structure RP where
  slot : Int
  cmd : Cmd
  who : Value × List Int
instance : Inhabited RP := ⟨⟨0, cmd0, .slice none 0 0, []⟩⟩
section
variable {α : Type} {h h0 h' : Hp} {sz base : Nat} {enc : α → List Value} {v : Value} {l : List α}
/-- A part of an element. -/
theorem Sl.part [Inhabited α] (s : Sl h sz enc v l) (he : ∀ a, (enc a).length = sz) (i j n : Nat) (hi : i < l.length) (hj : j + n ≤ sz) : rdN h (sblk v) (soff v + i * sz + j) n = some (((enc (nth l i)).drop j).take n) := rdN_part (s.row he i hi) hj
theorem Sl.blk_some (s : Sl h sz enc v l) (hl : 0 < l.length) : blk v = some (sblk v) := by
  obtain ⟨cap, e⟩ := s.addr hl
  rw [e]; rfl
/-- What is not written to stays, as far as anything is read of it. -/
theorem Sl.keep [Inhabited α] {S : Nat → Prop} (s : Sl h sz enc v l) (he : ∀ a, (enc a).length = sz) (hsz : 0 < sz) (u : Upd S h h') (hb : ∀ b, S b → blk v = some b → ∃ m, h[b]? = some (.map m)) : Sl h' sz enc v l := by
  by_cases hl : 0 < l.length
  · refine s.upd u (fun b hb' hs => ?_)
    obtain ⟨m, hm⟩ := hb b hs hb'
    have e := s.blk_some hl
    rw [hb'] at e
    cases e
    have := s.row he 0 hl
    obtain ⟨k, hk⟩ : ∃ k, sz = k + 1 := ⟨sz - 1, by omega⟩
    rw [hk] at this
    simp only [rdN, rdC, hm, Option.bind_none] at this
    cases this
  · have : l = [] := List.eq_nil_of_length_eq_zero (by omega)
    subst this
    obtain ⟨p, cap, rfl, hc, e⟩ := s
    refine ⟨p, cap, rfl, hc, ?_⟩
    cases p with
    | none => exact e
    | some a =>
      obtain ⟨b, o, sp⟩ := a
      cases sp with
      | none => simp [srcCells, rdN]
      | some _ => simp [srcCells]
theorem flat_set (he : ∀ a, (enc a).length = sz) {w : Value} {a' : α} {j : Nat} (hj : j < sz) [Inhabited α] : ∀ (l : List α) (i : Nat), i < l.length → enc a' = (enc (nth l i)).set j w → (l.flatMap enc).set (i * sz + j) w = (l.set i a').flatMap enc
  | a :: l, 0, _, e => by
    have e' : enc a' = (enc a).set j w := e
    rw [List.set_cons_zero, List.flatMap_cons, List.flatMap_cons, e', Nat.zero_mul, Nat.zero_add, List.set_append_left _ _ (by rw [he]; exact hj)]
  | a :: l, i + 1, hi, e => by
    have ih := flat_set he hj l i (by simpa using hi) (w := w) (a' := a') (by simpa [nth] using e)
    rw [List.set_cons_succ, List.flatMap_cons, List.flatMap_cons, ← ih, List.set_append_right _ _ (by rw [he, Nat.add_mul]; omega), he, Nat.add_mul, Nat.one_mul]
    congr 2
    omega
/-- One cell of an element of one's own row is written. -/
theorem Own.put [Inhabited α] (o : Own h base sz enc v l) (he : ∀ a, (enc a).length = sz) {i j : Nat} (hi : i < l.length) (hj : j < sz) {w : Value} (hw : one w = true) (a' : α) (e : enc a' = (enc (nth l i)).set j w) {K : Kont}
    (hK : ∀ h', Own h' base sz enc v (l.set i a') → Upd (fun b => base ≤ b) h h' → K undef h') : oSt 1 (pt (sblk v) (soff v + i * sz + j)) w h K := by
  rcases o with ⟨rfl, rfl⟩ | ⟨g, cap, c, rfl, hbase, hg, hn, hsz, ht⟩
  · simp at hi
  · have hlt : i * sz + j < l.length * sz := by
      have : (i + 1) * sz ≤ l.length * sz := Nat.mul_le_mul_right _ hi
      rw [Nat.add_mul, Nat.one_mul] at this
      omega
    have hle : l.length * sz ≤ cap * sz := Nat.mul_le_mul_right _ hn
    refine ⟨c, hg, by rw [one_cells hw]; rfl, by show 0 + i * sz + j + 1 ≤ c.size; omega, by rw [one_cells hw]; simp [hw], ?_⟩
    refine hK _ (.inr ⟨g, cap, _, by simp, hbase, g_set_eq (lt_of_get hg) rfl, by simpa using hn, by rw [setL_size]; exact hsz, ?_⟩) (Upd.set (Upd.refl _) _ _ (.inr hbase))
    rw [one_cells hw, List.length_set, ← flat_set he hj l i hi e, ← ht]
    show (c.setIfInBounds (0 + i * sz + j) w).toList.take (l.length * sz) = _
    rw [Nat.zero_add, Array.toList_setIfInBounds, List.take_set]
end
def openR (x : LS) (ps : List RP) : List Vote := ps.map fun q => ⟨q.slot, x.ballot, q.cmd⟩
end Go.Proofs.Ytdolepapmpcpiaa

namespace Go.Proofs.Ytdolepapmpcpiaa
open Go Go.RowKit Go.Maps Go.Shelf
set_option linter.unusedSectionVars false
variable [Base]
set_option linter.unusedVariables false
set_option linter.unusedSimpArgs false
set_option maxRecDepth 10000
def rng (m : Int) : List Int := (List.range m.toNat).map fun (i : Nat) => (i : Int) + 1
theorem rng_succ {j : Int} (h : 1 ≤ j) : rng j = rng (j - 1) ++ [j] := by
  unfold rng
  obtain ⟨n, rfl⟩ : ∃ n : Nat, j = n + 1 := ⟨(j - 1).toNat, by omega⟩
  rw [show ((n : Int) + 1).toNat = n + 1 by omega, show ((n : Int) + 1 - 1).toNat = n by omega, List.range_succ, List.map_append]
  rfl
theorem rng_mem {m k : Int} : k ∈ rng m ↔ 1 ≤ k ∧ k ≤ m := by
  unfold rng
  rw [List.mem_map]
  constructor
  · rintro ⟨i, hi, rfl⟩
    rw [List.mem_range] at hi
    omega
  · rintro ⟨h1, h2⟩
    exact ⟨(k - 1).toNat, List.mem_range.2 (by omega), by omega⟩
end Go.Proofs.Ytdolepapmpcpiaa

namespace Go.Proofs.Ytdolepapmpcpiaa
open Go Go.RowKit Go.Maps Go.Shelf
set_option linter.unusedSectionVars false
variable [Base]
set_option linter.unusedVariables false
set_option linter.unusedSimpArgs false
set_option maxRecDepth 10000
def fillR (f : Int) (best : List Vote) (n : Nat) : List RP := (List.range n).map fun (j : Nat) => ⟨f + (j : Int), ((atL best (f + (j : Int))).getD vote0).cmd, (.slice none 0 0, [])⟩
end Go.Proofs.Ytdolepapmpcpiaa

namespace Go.Proofs.Ytdolepapmpcpiaa
open Go Go.RowKit Go.Maps Go.Shelf
set_option linter.unusedSectionVars false
variable [Base]
set_option linter.unusedVariables false
set_option linter.unusedSimpArgs false
set_option maxRecDepth 10000
theorem eq_cmdD (k ch ep nd k' ch' ep' nd' : Int) : eqL [(0, .int .i64), (1, .int .i64), (2, .int .u64), (3, .int .i64)] [.int .i64 k, .int .i64 ch, .int .u64 ep, .int .i64 nd] [.int .i64 k', .int .i64 ch', .int .u64 ep', .int .i64 nd'] =
    some (decide (k = k' ∧ ch = ch' ∧ ep = ep' ∧ nd = nd')) := by
  rw [eq_cmd]
  congr 1
  simp
end Go.Proofs.Ytdolepapmpcpiaa

namespace Go.Proofs.Ytdolepapmpcpiaa
open Go Go.RowKit Go.Maps Go.Shelf
set_option linter.unusedSectionVars false
variable [Base]
set_option linter.unusedVariables false
set_option linter.unusedSimpArgs false
set_option maxRecDepth 10000
section
variable {α : Type} {h h0 h' : Hp} {sz base : Nat} {enc : α → List Value} {v : Value} {l : List α}
end
def whoP (q : RP) (rv : Value) (r : List Int) : RP := ⟨q.slot, q.cmd, (rv, r)⟩
end Go.Proofs.Ytdolepapmpcpiaa

namespace Go.Proofs.Ytdolepapmpcpiaa
open Go
set_option linter.unusedSectionVars false
variable [Base]
set_option linter.unusedVariables false
set_option linter.unusedSimpArgs false
def opnOf (ps : List RP) : List (Int × Prp) := ps.map fun q => (q.slot, ⟨q.cmd, memQ q.who.2⟩)
theorem sortI_self {l : List Int} (h : l.Pairwise (· < ·)) : sortI l = l :=
  List.mergeSort_of_pairwise (h.imp (by intro a b h; simp only [decide_eq_true_eq]; omega))
theorem bestR_rising {l : List Vote} (h : Rising l) (v : Vote) : Rising (bestR l v) := by
  unfold bestR
  split
  · exact putL_rising v h
  · split
    · exact putL_rising v h
    · exact h
theorem rBestL_rising (l : List Vote) : Rising (rBestL l) := by
  have gen : ∀ (l a : List Vote), Rising a → Rising (l.foldl bestR a) := by
    intro l
    induction l with
    | nil => intro a h; exact h
    | cons v l ih => intro a h; exact ih _ (bestR_rising h v)
  exact gen l [] List.Pairwise.nil
theorem rising_last {l : List Vote} (h : Rising l) {w : Vote} (hw : l.getLast? = some w) : ∀ v ∈ l, v.slot ≤ w.slot := by
  intro v hv
  obtain ⟨a, rfl⟩ : ∃ a, l = a ++ [w] := by
    cases l with
    | nil => cases hw
    | cons x y =>
      refine ⟨(x :: y).dropLast, ?_⟩
      have := List.dropLast_concat_getLast (l := x :: y) (by simp)
      rw [List.getLast?_eq_some_getLast (by simp)] at hw
      cases hw
      exact this.symm
  unfold Rising at h
  rw [List.pairwise_append] at h
  rcases List.mem_append.1 hv with hv | hv
  · have := h.2.2 v hv w (by simp); omega
  · rw [List.mem_singleton] at hv; subst hv; exact Int.le_refl _
theorem opnOf_keys (ps : List RP) : (opnOf ps).map (·.1) = ps.map (·.slot) := by simp [opnOf]
theorem openKs_of {x : LS} {m : List (Int × Prp)} : ∀ {l : List (Int × Prp)}, (∀ e ∈ l, mget m e.1 = some e.2) → openKs x m (l.map (·.1)) = l.map fun e => voteP x e.1 e.2.cmd
  | [], _ => rfl
  | e :: l, h => by
    have ih := openKs_of (x := x) (m := m) (l := l) (fun e he => h e (List.mem_cons_of_mem _ he))
    unfold openKs at ih ⊢
    rw [List.map_cons, List.filterMap_cons, h e (List.mem_cons_self ..), Option.map_some, ih]
    rfl
def Up (ps : List RP) : Prop := (ps.map (·.slot)).Pairwise (· < ·)
theorem Up.keys {ps : List RP} (h : Up ps) : keysOk (opnOf ps) := by
  unfold keysOk
  rw [opnOf_keys]
  exact h.imp (by intro a b h; omega)
theorem openL_eq {x : LS} {ps : List RP} (h : Up ps) : openL x (opnOf ps) = openR x ps := by
  unfold openL
  rw [opnOf_keys, sortI_self h, ← opnOf_keys, openKs_of (fun e he => mget_of_mem h.keys (by cases e; exact he))]
  simp [opnOf, openR, voteP]
theorem Up.set {ps : List RP} (h : Up ps) {i : Nat} (hi : i < ps.length) {rv : Value} {r : List Int} : Up (ps.set i (whoP (nth ps i) rv r)) := by
  unfold Up at *
  have : (ps.set i (whoP (nth ps i) rv r)).map (·.slot) = ps.map (·.slot) := by
    rw [List.map_set]
    apply List.ext_getElem?
    intro j
    rw [List.getElem?_set]
    split
    · rename_i e
      subst e
      simp [hi, whoP, nth_get hi]
    · rfl
  rw [this]
  exact h
theorem Up.erase {ps : List RP} (h : Up ps) (i : Nat) : Up (ps.eraseIdx i) := by
  unfold Up at *
  exact h.sublist ((List.eraseIdx_sublist ps i).map _)
theorem fillR_up (f : Int) (best : List Vote) (n : Nat) : Up (fillR f best n) := by
  unfold Up fillR
  rw [List.map_map]
  refine List.Pairwise.map _ ?_ List.pairwise_lt_range
  intro a b h
  simp only [Function.comp]
  omega
end Go.Proofs.Ytdolepapmpcpiaa

namespace Go.Proofs.Ytdolepapmpcpiaa
open Go
open Go.ChangeShapes Go.WideShapes Go.RowKit
set_option linter.unusedSectionVars false
set_option linter.unusedVariables false
set_option linter.unusedSimpArgs false
set_option maxRecDepth 10000
section
variable [Base]
instance : Inhabited Op := ⟨⟨0, 0, 0, cmd0⟩⟩
/-- An acceptor's state that may be. -/
structure Fine (prom : Int) (m : List (Int × Vote)) : Prop where
  keys : keysIn m
  slots : slotsOk m
  prom0 : 0 ≤ prom
  low : ∀ s v, mget m s = some v → v.ballot ≤ prom
theorem Fine.nil : Fine 0 [] := ⟨keysIn_nil, slotsOk_nil, Int.le_refl _, fun s v h => by cases h⟩
theorem mPrepP_ge (prom b f : Int) : prom ≤ mPrepP prom b f := by
  unfold mPrepP mPrepE
  split
  · split at * <;> first | omega | (split at * <;> omega)
  · omega
theorem mAccP_ge (prom b s : Int) (c : Cmd) : prom ≤ mAccP prom b s c := by
  unfold mAccP mAccE
  split
  · split at * <;> first | omega | (split at * <;> first | omega | (split at * <;> omega))
  · omega
theorem mAccE_zero {prom b s : Int} {c : Cmd} (h : mAccE prom b s c = 0) : prom ≤ b ∧ 0 ≤ s ∧ s < 512 := by
  unfold mAccE at h
  split at h
  · omega
  · split at h
    · omega
    · split at h <;> omega
theorem Fine.prep {prom : Int} {m : List (Int × Vote)} (f : Fine prom m) (b s : Int) : Fine (mPrepP prom b s) m :=
  ⟨f.keys, f.slots, by have := mPrepP_ge prom b s; have := f.prom0; omega, fun k v h => by have := f.low k v h; have := mPrepP_ge prom b s; omega⟩
theorem Fine.acc {prom : Int} {m : List (Int × Vote)} (f : Fine prom m) (b s : Int) (c : Cmd) (hl : m.length < 1000000) : Fine (mAccP prom b s c) (mAccM prom m b s c) := by
  have hp := mAccP_ge prom b s c
  unfold mAccM
  split
  · rename_i h0
    obtain ⟨h1, h2, h3⟩ := mAccE_zero h0
    have hb : mAccP prom b s c = b := by unfold mAccP; rw [if_pos h0]
    refine ⟨⟨keysOk_mset f.keys.1 _ _, ?_, ?_⟩, slotsOk_mset f.slots ⟨s, b, c⟩, by have := f.prom0; omega, ?_⟩
    · intro k hk
      rcases mset_keys hk with rfl | hk
      · unfold i64ok; omega
      · exact f.keys.2.1 k hk
    · have := mset_length m s (⟨s, b, c⟩ : Vote); omega
    · intro k v hv
      rw [mget_mset] at hv
      split at hv
      · cases hv; rw [hb]; exact Int.le_refl _
      · have := f.low k v hv; omega
  · exact ⟨f.keys, f.slots, by have := f.prom0; omega, fun k v h => by have := f.low k v h; omega⟩
theorem mAccM_len (prom : Int) (m : List (Int × Vote)) (b s : Int) (c : Cmd) : (mAccM prom m b s c).length ≤ m.length + 1 := by
  unfold mAccM
  split
  · exact mset_length _ _ _
  · omega
theorem Acc.ext {h h' : Hp} {p r : Nat} {prom : Int} {m : List (Int × Vote)} (a : Acc h p r prom m) (x : Ext h h') : Acc h' p r prom m := ⟨x.get a.blk id, x.get a.map id⟩
/-- What an old vote has become. -/
theorem rises_vote {prom prom' : Int} {m m' : List (Int × Vote)} (hc : (prom ≤ prom' ∧ m' = m) ∨ ∃ s b c, prom' = b ∧ prom ≤ b ∧ m' = mset m s ⟨s, b, c⟩) (hf : Fine prom m) {v : Vote} (hv : mget m v.slot = some v) :
    ∃ w, mget m' v.slot = some w ∧ (w = v ∨ (v.ballot ≤ w.ballot ∧ prom ≤ w.ballot ∧ w.ballot ≤ prom')) := by
  rcases hc with ⟨_, rfl⟩ | ⟨s, b, c, rfl, h1, rfl⟩
  · exact ⟨v, hv, .inl rfl⟩
  · rw [mget_mset]
    split
    · refine ⟨_, rfl, .inr ⟨?_, h1, Int.le_refl _⟩⟩
      have := hf.low _ _ hv
      simp only
      omega
    · exact ⟨v, hv, .inl rfl⟩
theorem risingL_get {m : List (Int × Vote)} (hk : keysOk m) (hs : slotsOk m) {f : Int} {v : Vote} (h : v ∈ risingL m f) : mget m v.slot = some v := by
  have h1 := atL_of_mem (risingL_rising hk hs f) h
  rw [atL_risingL hk hs] at h1
  split at h1
  · exact h1
  · cases h1
set_option maxHeartbeats 2000000 in
theorem sp_rises3 {h : Hp} (hB : Base.b ≤ h.size) {p r : Nat} {prom prom' : Int} {m m' : List (Int × Vote)} (hA : Acc h p r prom' m') {old : Value} {base : Nat} (hO : Own h base 6 vcells old (risingL m 0)) (hf : Fine prom m)
    (hc : (prom ≤ prom' ∧ m' = m) ∨ ∃ s b c, prom' = b ∧ prom ≤ b ∧ m' = mset m s ⟨s, b, c⟩) {K : Kont} {self : Self} {a4 i : Value} {d : Nat → Value} {v0 : Value} 
    (hself : ∀ d' h', Ext h h' → self (E_q78_1 v0 (pt p 0) i d') h') (hi : ∃ j : Nat, a4 = .int .i64 j ∧ j < 60 ∧ i = .int .i64 ((j + 1 : Nat) : Int)) :
    G_q78_3 K self v0 (pt p 0) a4 (.int .u64 prom) old (.int .i64 0) d h := by
  obtain ⟨j, rfl, hj, rfl⟩ := hi
  have hlen := Nat.le_trans (risingL_le m 0) hf.keys.2.2
  refine rule_q78_3 (fun v7 h' => ∃ k : Nat, v7 = .int .i64 k ∧ k ≤ (risingL m 0).length ∧ Ext h h') (fun v7 h' => (risingL m 0).length - ival v7) ?_ _ _ _ ⟨0, rfl, Nat.zero_le _, Upd.refl _⟩
  rintro self2 v7 d h' ⟨k, rfl, hk, x⟩ hself2
  unfold B_q78_3
  have hO' := hO.ext x
  have hs := hO'.sl
  have hx := x.1
  have hA' := hA.ext x
  by_cases hlt : k < (risingL m 0).length
  rotate_left
  · simp (maxSteps:=999999) (disch:=(first|omega|(simp only [zz,Nat.reduceAdd,Nat.reduceLeDiff];done)|(simp only [zz];omega))) only [↓xa,xb,xl,xy,Int.reduceLT,Int.reduceLE,Int.reduceEq,Nat.reduceAdd,Nat.reduceMul,Nat.reduceLeDiff,setL,bfill,eqV,lookRes, decide_eq_false (show ¬ (k : Int) < ((risingL m 0).length : Int) by omega), ↓hs.len']
    exact hself _ _ x
  have hmem := risingL_get hf.keys.1 hf.slots (nth_mem hlt)
  obtain ⟨w, hw, hww⟩ := rises_vote hc hf hmem
  simp (maxSteps:=999999) (disch:=(first|omega|(simp only [zz,Nat.reduceAdd,Nat.reduceLeDiff];done)|(simp only [zz];omega))) only [↓xa,xb,xl,xy,Int.reduceLT,Int.reduceLE,Int.reduceEq,Nat.reduceAdd,Nat.reduceMul,Nat.reduceLeDiff,setL,bfill,eqV,lookRes, decide_eq_true (Int.ofNat_lt.2 hlt), ↓hs.len', ↓hs.idx, hs.cell0 vcells_len, vcells]
  refine sp_Vote (x.hB hB) hA' _ ?_
  intro h2 x2
  have hrow := (hs.ext x2).row vcells_len k hlt
  have hcell := (hs.ext x2).cell vcells_len k 1 hlt (by decide)
  have hA2 := hA'.ext x2
  have hB2 := x2.hB (x.hB hB)
  have hlt2 := (hs.ext x2).lt vcells_len (by omega) (by decide)
  have hidx := hs.idx
  rw [hw]
  generalize nth (risingL m 0) k = v at hmem hw hww hrow hcell
  have goon : ∀ h3 d, Ext h2 h3 → self2 (E_q78_3 v0 (pt p 0) (.int .i64 j) (.int .u64 prom) old (.int .i64 ((k : Int) + 1)) d) h3 := by
    intro h3 d x3
    exact hself2 _ _ _ ⟨k + 1, rfl, hlt, x.trans (x2.trans x3)⟩ (by simp only [ival_nat, show ((k : Int) + 1) = ((k + 1 : Nat) : Int) from rfl]; omega)
  obtain ⟨s, b, c1, c2, c3, c4⟩ := v
  rcases hww with rfl | ⟨w1, w2, w3⟩
  · simp (maxSteps:=999999) (disch:=(first|omega|(simp only [zz,Nat.reduceAdd,Nat.reduceLeDiff];done)|(simp only [zz];omega))) only [↓xa,xb,xl,xy,Int.reduceLT,Int.reduceLE,Int.reduceEq,Nat.reduceAdd,Nat.reduceMul,Nat.reduceLeDiff,setL,bfill,eqV,lookRes, Option.getD_some, Option.isSome_some, voteV, ↓hidx, hrow, vcells, eq_vote]
    exact goon _ _ (by repeat' (first|with_reducible (first|exact u0 _|refine u1 ?_ _|refine u2 ?_ _ _ ?_)|exact .inl (by (first|omega|(simp only [zz,Nat.reduceAdd,Nat.reduceLeDiff];done)|(simp only [zz];omega)))|exact .inr rfl|exact .inr (by simp;done)))
  · obtain ⟨s', b', c1', c2', c3', c4'⟩ := w
    simp only at w1 w2 w3
    (repeat' (first|(simp (maxSteps:=999999) (disch:=(first|omega|(simp only [zz,Nat.reduceAdd,Nat.reduceLeDiff];done)|(simp only [zz];omega))) only [↓xa,xb,xl,xy,Int.reduceLT,Int.reduceLE,Int.reduceEq,Nat.reduceAdd,Nat.reduceMul,Nat.reduceLeDiff,setL,bfill,eqV,lookRes, Option.getD_some, Option.isSome_some, voteV, ↓hidx, hrow, hcell, vcells, eq_vote, decide_eq_false (show ¬ b' < b by omega), decide_eq_false (show ¬ b' < prom by omega), decide_eq_false (show ¬ prom' < b' by omega)])|refine sp_Promised (hA2.ext (by repeat' (first|with_reducible (first|exact u0 _|refine u1 ?_ _|refine u2 ?_ _ _ ?_)|exact .inl (by (first|omega|(simp only [zz,Nat.reduceAdd,Nat.reduceLeDiff];done)|(simp only [zz];omega)))|exact .inr rfl|exact .inr (by simp;done)))) ?_|((first|refine e_ifd _ _ _ (fun hc=>?_) (fun hc=>?_)|refine e_ifn _ _ _ (fun hc=>?_) (fun hc=>?_)|refine e_gd _ _ _ _ _ (fun hc=>?_) (fun hc=>?_)|refine e_gn _ _ _ _ _ (fun hc=>?_) (fun hc=>?_)|refine e_pd _ _ _ _ _ (fun hc=>?_) (fun hc=>?_)|refine e_pn _ _ _ _ _ (fun hc=>?_) (fun hc=>?_)|refine e_if2 _ _ _ (fun hc=>?_) (fun hc=>?_)|refine e_g2 _ _ _ _ _ (fun hc=>?_) (fun hc=>?_)) <;> first|(exfalso;omega)|(simp (maxSteps:=999999) (disch:=(first|omega|(simp only [zz,Nat.reduceAdd,Nat.reduceLeDiff];done)|(simp only [zz];omega))) only [↓xa,xb,xl,xy,Int.reduceLT,Int.reduceLE,Int.reduceEq,Nat.reduceAdd,Nat.reduceMul,Nat.reduceLeDiff,setL,bfill,eqV,lookRes, Option.getD_some, Option.isSome_some, voteV, ↓hidx, hrow, hcell, vcells, eq_vote, decide_eq_false (show ¬ b' < b by omega), decide_eq_false (show ¬ b' < prom by omega), decide_eq_false (show ¬ prom' < b' by omega), hc])|skip)))
    all_goals exact goon _ _ (by repeat' (first|with_reducible (first|exact u0 _|refine u1 ?_ _|refine u2 ?_ _ _ ?_)|exact .inl (by (first|omega|(simp only [zz,Nat.reduceAdd,Nat.reduceLeDiff];done)|(simp only [zz];omega)))|exact .inr rfl|exact .inr (by simp;done)))
set_option maxHeartbeats 2000000 in
theorem sp_AcceptRises {h : Hp} (hB : Base.b ≤ h.size) {a : Value} {l : List Op} (hS : Sl h 7 ocells a l) (hl : l.length ≤ maxLen) (hok : ∀ o ∈ l, opOk o) {K : Kont} (hK : ∀ h', Ext h h' → K (.bool true) h') : C_q78 [a] h K := by
  refine ok_q78 ?_
  unfold G_q78
  unfold maxLen at hl
  refine sp_New hB ?_
  intro h1 hA1 x1
  refine rule_q78_1 (fun v4 h' => ∃ (i : Nat) (prom : Int) (m : List (Int × Vote)), v4 = .int .i64 i ∧ i ≤ 60 ∧ Ext h h' ∧ Acc h' (h.size + 1) h.size prom m ∧ Fine prom m ∧ m.length ≤ i) (fun v4 h' => 60 - ival v4) ?_ _ _ _ ⟨0, 0, [], rfl, by omega, x1, hA1, Fine.nil, by simp⟩
  clear hA1 x1
  rintro self v4 d h' ⟨i, prom, m, rfl, hi, x, hA, hf, hm⟩ hself
  unfold B_q78_1
  have hS' := hS.ext x
  have hB' := x.hB hB
  have hx := x.1
  by_cases hlt : i < l.length
  rotate_left
  · simp (maxSteps:=999999) (disch:=(first|omega|(simp only [zz,Nat.reduceAdd,Nat.reduceLeDiff];done)|(simp only [zz];omega))) only [↓xa,xb,xl,xy,Int.reduceLT,Int.reduceLE,Int.reduceEq,Nat.reduceAdd,Nat.reduceMul,Nat.reduceLeDiff,setL,bfill,eqV,lookRes, ↓hS.len', decide_eq_false (show ¬ (i : Int) < (l.length : Int) by omega)]
    refine sp_awake hB' ?_
    intro h2 x2
    exact hK _ (x.trans x2)
  by_cases h60 : i < 60
  rotate_left
  · simp (maxSteps:=999999) (disch:=(first|omega|(simp only [zz,Nat.reduceAdd,Nat.reduceLeDiff];done)|(simp only [zz];omega))) only [↓xa,xb,xl,xy,Int.reduceLT,Int.reduceLE,Int.reduceEq,Nat.reduceAdd,Nat.reduceMul,Nat.reduceLeDiff,setL,bfill,eqV,lookRes, ↓hS.len', decide_eq_true (Int.ofNat_lt.2 hlt), decide_eq_false (show ¬ (i : Int) < 60 by omega)]
    refine sp_awake hB' ?_
    intro h2 x2
    exact hK _ (x.trans x2)
  have ho := hok _ (nth_mem hlt)
  simp (maxSteps:=999999) (disch:=(first|omega|(simp only [zz,Nat.reduceAdd,Nat.reduceLeDiff];done)|(simp only [zz];omega))) only [↓xa,xb,xl,xy,Int.reduceLT,Int.reduceLE,Int.reduceEq,Nat.reduceAdd,Nat.reduceMul,Nat.reduceLeDiff,setL,bfill,eqV,lookRes, ↓hS.len', decide_eq_true (Int.ofNat_lt.2 hlt), decide_eq_true (show (i : Int) < 60 by omega)]
  refine sp_Promised hA ?_
  refine sp_Votes hB' hA hf.keys 0 ?_
  intro old h2 x2 o2
  have hS2 := hS'.ext x2
  have hA2 := hA.ext x2
  have hB2 := x2.hB hB'
  have x02 := x.trans x2
  have hx2 := x2.1
  have la := lt_of_get hA.blk
  have hc0 := hS2.cell0 ocells_len i hlt (by decide)
  have hc1 := hS2.cell ocells_len i 1 hlt (by decide)
  have hc2 := hS2.cell ocells_len i 2 hlt (by decide)
  have hc3 := rdN_part (k := 3) (n := 4) (hS2.row ocells_len i hlt) (by decide)
  generalize nth l i = o at ho hc0 hc1 hc2 hc3
  obtain ⟨kd, b, s, c⟩ := o
  obtain ⟨_, hb, _, _⟩ := ho
  obtain ⟨ck, cc, ce, cn⟩ := c
  have after : ∀ (h3 : Hp) (prom' : Int) (m' : List (Int × Vote)) d, Upd (fun x => x = h.size + 1 ∨ x = h.size) h2 h3 → Acc h3 (h.size + 1) h.size prom' m' → Fine prom' m' → m'.length ≤ i + 1 → ((prom ≤ prom' ∧ m' = m) ∨ ∃ s b c, prom' = b ∧ prom ≤ b ∧ m' = mset m s ⟨s, b, c⟩) →
      G_q78_2 K self a (pt (h.size + 1) 0) (.int .i64 i) (.int .u64 prom) old d h3 := by
    intro h3 prom' m' d u hA3 hf3 hm3 hc
    rw [req_q78_2]
    unfold R_q78_2
    refine sp_Promised hA3 ?_
    have hge : ¬ prom' < prom := by rcases hc with ⟨h, _⟩ | ⟨s, b, c, rfl, h, _⟩ <;> omega
    simp (maxSteps:=999999) (disch:=(first|omega|(simp only [zz,Nat.reduceAdd,Nat.reduceLeDiff];done)|(simp only [zz];omega))) only [↓xa,xb,xl,xy,Int.reduceLT,Int.reduceLE,Int.reduceEq,Nat.reduceAdd,Nat.reduceMul,Nat.reduceLeDiff,setL,bfill,eqV,lookRes, decide_eq_false hge]
    have x3 : Ext h h3 := x02.fresh u (fun r hr => .inl (by omega))
    refine sp_rises3 (x3.hB hB) hA3 (o2.upd u (fun b hb hr => by have := o2.blk_ge hb; omega)) hf hc ?_ ⟨i, rfl, h60, rfl⟩
    intro d' h4 x4
    exact hself _ _ _ ⟨i + 1, prom', m', rfl, h60, x3.trans x4, hA3.ext x4, hf3, hm3⟩ (by simp only [ival_nat]; omega)
  have hcells : (List.take 4 (List.drop 3 (ocells ⟨kd, b, s, ck, cc, ce, cn⟩))) = [.int .i64 ck, .int .i64 cc, .int .u64 ce, .int .i64 cn] := rfl
  rw [hcells] at hc3
  simp only [ocells, ccells, List.getElem?_cons_zero, List.getElem?_cons_succ] at hc0 hc1 hc2
  simp (maxSteps:=999999) (disch:=(first|omega|(simp only [zz,Nat.reduceAdd,Nat.reduceLeDiff];done)|(simp only [zz];omega))) only [↓xa,xb,xl,xy,Int.reduceLT,Int.reduceLE,Int.reduceEq,Nat.reduceAdd,Nat.reduceMul,Nat.reduceLeDiff,setL,bfill,eqV,lookRes, ↓hS2.idx, hc0]
  refine e_ifd _ _ _ (fun hk => ?_) (fun hk => ?_)
  · simp (maxSteps:=999999) (disch:=(first|omega|(simp only [zz,Nat.reduceAdd,Nat.reduceLeDiff];done)|(simp only [zz];omega))) only [↓xa,xb,xl,xy,Int.reduceLT,Int.reduceLE,Int.reduceEq,Nat.reduceAdd,Nat.reduceMul,Nat.reduceLeDiff,setL,bfill,eqV,lookRes, ↓hS2.idx, hc1, hc2]
    refine sp_Prepare hB2 hA2 hf.keys hb s ?_
    intro v3 h3 hA3 u3 _
    (try simp (maxSteps:=999999) (disch:=(first|omega|(simp only [zz,Nat.reduceAdd,Nat.reduceLeDiff];done)|(simp only [zz];omega))) only [↓xa,xb,xl,xy,Int.reduceLT,Int.reduceLE,Int.reduceEq,Nat.reduceAdd,Nat.reduceMul,Nat.reduceLeDiff,setL,bfill,eqV,lookRes])
    exact after h3 _ _ _ (u3.mono (fun _ _ h => .inl h)) hA3 (hf.prep b s) (by omega) (.inl ⟨mPrepP_ge _ _ _, rfl⟩)
  · simp (maxSteps:=999999) (disch:=(first|omega|(simp only [zz,Nat.reduceAdd,Nat.reduceLeDiff];done)|(simp only [zz];omega))) only [↓xa,xb,xl,xy,Int.reduceLT,Int.reduceLE,Int.reduceEq,Nat.reduceAdd,Nat.reduceMul,Nat.reduceLeDiff,setL,bfill,eqV,lookRes, ↓hS2.idx, hc1, hc2, hc3]
    refine sp_Accept hB2 hA2 hb s ⟨ck, cc, ce, cn⟩ ?_
    intro h3 hA3 u3
    (try simp (maxSteps:=999999) (disch:=(first|omega|(simp only [zz,Nat.reduceAdd,Nat.reduceLeDiff];done)|(simp only [zz];omega))) only [↓xa,xb,xl,xy,Int.reduceLT,Int.reduceLE,Int.reduceEq,Nat.reduceAdd,Nat.reduceMul,Nat.reduceLeDiff,setL,bfill,eqV,lookRes])
    have := mAccM_len prom m b s ⟨ck, cc, ce, cn⟩
    refine after h3 (mAccP prom b s ⟨ck, cc, ce, cn⟩) (mAccM prom m b s ⟨ck, cc, ce, cn⟩) _ u3 hA3 (hf.acc b s ⟨ck, cc, ce, cn⟩ (by omega)) (by omega) ?_
    unfold mAccP mAccM
    split
    · rename_i h0
      exact .inr ⟨s, b, ⟨ck, cc, ce, cn⟩, rfl, (mAccE_zero h0).1, rfl⟩
    · exact .inl ⟨Int.le_refl _, rfl⟩
end
set_option maxRecDepth 100000 in
theorem law_AcceptRises {H : Type} {enc : TypeId × Value → H} : LawDoes enc Try.prog 4 Try.f4 := by
  intro W base args ds ps h0 hlt hval hA
  letI : Base := ⟨W.heap.size⟩
  have hp : Try.f4.params = #[22] := by kernel_rfl
  rw [hp] at hA hval
  obtain ⟨v0, d0, rfl, rfl, t0⟩ := trodAll_one hA
  obtain ⟨v, l, hv, s, hl, hm⟩ := arg_slice u_ops (hval 0 22 v0 rfl rfl) rd_ops t0
  cases hv
  exact sp_AcceptRises (by rw [hv_size]; exact Nat.le_refl _) s hm hl (fun h' x => ⟨rfl, x⟩)
set_option maxRecDepth 100000 in
theorem lifted_AcceptRises (os : Os) (started : os.Started) (H : Type) (enc : TypeId × Value → H) :
    ReturnsInHanded {} Try.checked os 4 .any (Rows.acceptRisesSpec.pre6 enc Try.prog Try.f4 Rows.acceptRisesRow.domain false) (Rows.acceptRisesSpec.post enc Try.prog Try.f4 false true false false) :=
  lifted_law (C := Try.checked) (s := Rows.acceptRisesSpec) (tb := 4) own_try started (by kernel_rfl) Try.func4
      (ChangeSpec.witness6 (enc := enc) (C := Try.checked) false ⟨#[], #[.slice none 0 0], []⟩ 8 (by kernel_rfl) (by kernel_rfl) (by kernel_rfl) (by kernel_rfl))
      rfl (by kernel_rfl) u_bool (fun ds h => by
        have hp : Try.f4.params = #[22] := by kernel_rfl
        rw [hp] at h
        match ds, h with | [d0], _ => rfl) laid_try (by kernel_rfl) glob_try law_AcceptRises
theorem AcceptRises_holds : Rows.AcceptRisesSaid :=
  OpenClaim.holds_of_wide 4 Try.f4 rfl rfl rfl rfl rfl rfl rfl ⟨rfl, rfl, rfl, rfl, rfl⟩ rfl rfl rfl rfl rfl (by kernel_rfl) Try.func4 (by kernel_rfl)
    (of_decide_eq_true (by kernel_rfl)) (by unfold Func.isWrapper; rw [if_neg (of_decide_eq_false (by kernel_rfl))]; exact ⟨rfl, rfl⟩)
    (fun os started H enc _ => lifted_AcceptRises os started H enc)
#print axioms AcceptRises_holds
end Go.Proofs.Ytdolepapmpcpiaa

namespace Go.Proofs.Ytdolepapmpcpiaa.Pax
/-- What acceptors promised, what each accepted, what was proposed. -/
structure St (C : Type) where
  prom : Int → Int
  acc : Int → Int → Int → Prop
  prop : Int → Int → C → Prop
variable {C : Type}
/-- A proposal that may be: of enough acceptors none accepted anything else below it, ever. -/
def Safe (quo : (Int → Prop) → Prop) (S : St C) (b s : Int) (c : C) : Prop :=
  ∃ Q, quo Q ∧ (∀ k, Q k → b ≤ S.prom k) ∧
    ((∀ k b', Q k → S.acc k b' s → b ≤ b') ∨ ∃ b0, b0 < b ∧ S.prop b0 s c ∧ ∀ k b', Q k → S.acc k b' s → b' < b → b' ≤ b0)
/-- A state grows: nothing that was said is unsaid; who accepts has promised no more than that. -/
structure Grows (S T : St C) : Prop where
  prom : ∀ k, S.prom k ≤ T.prom k
  prop : ∀ b s c, S.prop b s c → T.prop b s c
  acc : ∀ k b s, T.acc k b s → S.acc k b s ∨ S.prom k ≤ b
theorem Safe.grows {quo : (Int → Prop) → Prop} {S T : St C} (g : Grows S T) {b s : Int} {c : C} (h : Safe quo S b s c) : Safe quo T b s c := by
  obtain ⟨Q, hq, hp, hs⟩ := h
  refine ⟨Q, hq, fun k hk => Int.le_trans (hp k hk) (g.prom k), ?_⟩
  rcases hs with hs | ⟨b0, h0, hb0, hs⟩
  · refine .inl fun k b' hk ha => ?_
    rcases g.acc k b' s ha with ha | ha
    · exact hs k b' hk ha
    · have := hp k hk; omega
  · refine .inr ⟨b0, h0, g.prop _ _ _ hb0, fun k b' hk ha hlt => ?_⟩
    rcases g.acc k b' s ha with ha | ha
    · exact hs k b' hk ha hlt
    · have := hp k hk; omega
theorem agree {quo : (Int → Prop) → Prop} (meet : ∀ Q R, quo Q → quo R → ∃ k, Q k ∧ R k) {S : St C} (uniq : ∀ b s c c', S.prop b s c → S.prop b s c' → c = c') (safe : ∀ b s c, S.prop b s c → Safe quo S b s c)
    {b1 s : Int} {c1 : C} (h1 : S.prop b1 s c1) {R : Int → Prop} (hR : quo R) (hacc : ∀ k, R k → S.acc k b1 s) : ∀ (n : Nat) (b : Int) (c : C), (b - b1).toNat < n → b1 ≤ b → S.prop b s c → c = c1 := by
  intro n
  induction n with
  | zero => intro b c h; omega
  | succ n ih =>
    intro b c hn hle hp
    by_cases e : b = b1
    · subst e; exact uniq _ _ _ _ hp h1
    obtain ⟨Q, hq, _, hs⟩ := safe b s c hp
    obtain ⟨k, hkQ, hkR⟩ := meet Q R hq hR
    have ha := hacc k hkR
    rcases hs with hs | ⟨b0, h0, hb0, hs⟩
    · have := hs k b1 hkQ ha; omega
    · have := hs k b1 hkQ ha (by omega)
      exact ih b0 c (by omega) this hb0
theorem agree2 {quo : (Int → Prop) → Prop} (meet : ∀ Q R, quo Q → quo R → ∃ k, Q k ∧ R k) {S : St C} (uniq : ∀ b s c c', S.prop b s c → S.prop b s c' → c = c') (safe : ∀ b s c, S.prop b s c → Safe quo S b s c)
    {b1 b2 s : Int} {c1 c2 : C} (h1 : S.prop b1 s c1) {R1 : Int → Prop} (hR1 : quo R1) (hacc1 : ∀ k, R1 k → S.acc k b1 s) (h2 : S.prop b2 s c2) {R2 : Int → Prop} (hR2 : quo R2) (hacc2 : ∀ k, R2 k → S.acc k b2 s) : c1 = c2 := by
  by_cases h : b1 ≤ b2
  · exact (agree meet uniq safe h1 hR1 hacc1 _ b2 c2 (Nat.lt_succ_self _) h h2).symm
  · exact agree meet uniq safe h2 hR2 hacc2 _ b1 c1 (Nat.lt_succ_self _) (by omega) h1
end Go.Proofs.Ytdolepapmpcpiaa.Pax

