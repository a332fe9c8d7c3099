/- Lemmas for the theorem of the last text; no condition. -/
import Derived.Test.YtdolepapmpcpiaaLs0
import Derived.Test.YtdolepapmpcpiaaLs1
import Derived.Test.YtdolepapmpcpiaaLs2
import Derived.Test.YtdolepapmpcpiaaLs3
import Derived.Test.YtdolepapmpcpiaaLs4
import Derived.Test.YtdolepapmpcpiaaLs5
import Derived.Test.YtdolepapmpcpiaaLs6
import Derived.Test.YtdolepapmpcpiaaLs7
import Derived.Test.YtdolepapmpcpiaaLs8
import Derived.Test.YtdolepapmpcpiaaLs9
import Derived.Test.YtdolepapmpcpiaaLs10
import Derived.Test.YtdolepapmpcpiaaLs11
namespace Go.Proofs.Ytdolepapmpcpiaa
open Go Go.RowKit Go.Maps Go.Shelf
set_option linter.unusedSectionVars false
variable [Base]
set_option linter.unusedVariables false
set_option linter.unusedSimpArgs false
set_option maxRecDepth 10000
section
variable {h h' : Hp} {ow ow' : Nat → Nat} {N t k : Nat} {n j : Int} {xv av sv cv v : Value} {P : Int → Nat} {R : Int → Option (Nat × Nat)} {Q : Int → Nat × Nat} {S : PS}
theorem rng_nth {α : Type} [Inhabited α] (f : Int → α) (hj : 1 ≤ j ∧ j ≤ n) : nth ((rng n).map f) (j - 1).toNat = f j := by
  have hi : (j - 1).toNat < ((rng n).map f).length := by rw [List.length_map, rng_len]; omega
  rw [nth_get hi]
  simp only [rng, List.getElem_map, List.getElem_range]
  congr 1
  omega
theorem TalkOk.xat (T : TalkOk h ow N t n xv av sv cv P R Q S) (hj : 1 ≤ j ∧ j ≤ n) : rdC h (sblk xv) (soff xv + (j - 1).toNat * 1) = some (pt (P j) 0) := by
  have := T.xl.cell0 pcell_len (j - 1).toNat (by rw [List.length_map, rng_len]; omega) (by decide)
  rw [rng_nth P hj] at this
  exact this
theorem TalkOk.aat (T : TalkOk h ow N t n xv av sv cv P R Q S) (hj : 1 ≤ j ∧ j ≤ n) : rdC h (sblk av) (soff av + (j - 1).toNat * 1) = some (pt (Q j).1 0) := by
  have := T.al.cell0 pcell_len (j - 1).toNat (by rw [List.length_map, rng_len]; omega) (by decide)
  rw [rng_nth (fun j => (Q j).1) hj] at this
  exact this
theorem TalkOk.xlen (T : TalkOk h ow N t n xv av sv cv P R Q S) : ((rng n).map P).length = n.toNat := by rw [List.length_map, rng_len]
theorem TalkOk.alen (T : TalkOk h ow N t n xv av sv cv P R Q S) : ((rng n).map fun j => (Q j).1).length = n.toNat := by rw [List.length_map, rng_len]
/-- What stands behind a step. -/
def Stp (h : Hp) (ow : Nat → Nat) (N t : Nat) (n : Int) (xv av : Value) (P : Int → Nat) (Q : Int → Nat × Nat) (S : PS) (K : Hp → Prop) : Prop :=
  ∀ h' ow' R' sv' cv' S', TalkOk h' ow' N t n xv av sv' cv' P R' Q S' → Inv n S' → S'.said.length ≤ S.said.length + 3000 → S'.chosen.length ≤ S.chosen.length + 1 → Upd (fun b => ow b ≠ 0) h h' → (∀ b, b < h.size → ow' b = ow b) → K h'
theorem Upd.set0 {a : Hp} {r : Nat} (c : AObj) (f : ow r = 0) : Upd (fun b => ow b = 0) a (a.setIfInBounds r c) := Upd.set (Upd.refl _) _ _ (.inr f)
theorem Upd.set2 {a : Hp} {r : Nat} (c d : AObj) (f : ow r = 0) : Upd (fun b => ow b = 0) a ((a.setIfInBounds r c).setIfInBounds r d) := Upd.set (S := fun b => ow b = 0) (Upd.set0 c f) _ _ (.inr f)
theorem Own.ge {α : Type} {sz B b : Nat} {enc : α → List Value} {xs : List α} (o : Own h B sz enc v xs) (hb : blk v = some b) : B ≤ b := by
  rcases o with ⟨rfl, rfl⟩ | ⟨g, cap, c', rfl, hbase, hg, hn, hsz, ht⟩
  · cases hb
  · cases hb; exact hbase
theorem risL_le (m : List (Int × Vote)) (f : Int) : (risingL m f).length ≤ m.length := by
  unfold risingL pick
  refine Nat.le_trans (List.length_filterMap_le ..) ?_
  unfold sortI
  simp
theorem keys_in {m : List (Int × Vote)} (h : keysOk m ∧ ∀ i ∈ m.map (·.1), 0 ≤ i ∧ i < 512) : keysIn m := by
  have f := slots_fine h
  refine ⟨h.1, fun i hi => ?_, ?_⟩
  · have := h.2 i hi; unfold i64ok; omega
  · have := f.2.2; omega
set_option maxHeartbeats 4000000 in
theorem sp_hear1 (hB : Base.b ≤ h.size) (T : TalkOk h ow N t n xv av sv cv P R Q S) (I : Inv n S) (e : Say) (he : e ∈ S.said) (hls : S.said.length ≤ 40000) (hlc : S.chosen.length ≤ 40000) (hk : e.kind = 1) {K : Kont}
    (hK : Stp h ow N t n xv av P Q S (K (.tuple #[]))) :
    C_q109 [pt t 0, .agg (saycells e).toArray] h K := by
  refine ok_q109 ?_
  unfold G_q109
  have em := I.msg e he
  have hev := sl_one (T.vt e he).1
  have hxl := T.xlen
  have hal := T.alen
  have hto := em.to
  have hn5 : 1 ≤ n ∧ n ≤ 5 := by have := I.hn; unfold isM at this; omega
  unfold saycells
  (try simp (maxSteps:=999999) (disch:=(first|omega|(simp only [zz,Nat.reduceAdd,Nat.reduceLeDiff];done)|(simp only [zz];omega))) only [↓xa,xb,xl,xy,Int.reduceLT,Int.reduceLE,Int.reduceEq,Nat.reduceAdd,Nat.reduceMul,Nat.reduceLeDiff,setL,bfill,eqV,lookRes])
  have x1 : Ext h (h.push (.cells #[.int .i64 e.kind, .int .i64 e.frm, .int .i64 e.to, .int .u64 e.ballot, .int .i64 e.slot, e.votes.1, .int .i64 e.cmd.kind, .int .i64 e.cmd.chain, .int .u64 e.cmd.epoch, .int .i64 e.cmd.node])) := (by repeat' (first|with_reducible (first|exact u0 _|refine u1 ?_ _|refine u2 ?_ _ _ ?_)|exact .inl (by (first|omega|(simp only [zz,Nat.reduceAdd,Nat.reduceLeDiff];done)|(simp only [zz];omega)))|exact .inr rfl|exact .inr (by simp;done)))
  have hb1 : (h.push (.cells #[.int .i64 e.kind, .int .i64 e.frm, .int .i64 e.to, .int .u64 e.ballot, .int .i64 e.slot, e.votes.1, .int .i64 e.cmd.kind, .int .i64 e.cmd.chain, .int .u64 e.cmd.epoch, .int .i64 e.cmd.node]))[h.size]? = some (.cells #[.int .i64 e.kind, .int .i64 e.frm, .int .i64 e.to, .int .u64 e.ballot, .int .i64 e.slot, e.votes.1, .int .i64 e.cmd.kind, .int .i64 e.cmd.chain, .int .u64 e.cmd.epoch, .int .i64 e.cmd.node]) := g_push_eq rfl
  have l1 : (h.push (.cells #[.int .i64 e.kind, .int .i64 e.frm, .int .i64 e.to, .int .u64 e.ballot, .int .i64 e.slot, e.votes.1, .int .i64 e.cmd.kind, .int .i64 e.cmd.chain, .int .u64 e.cmd.epoch, .int .i64 e.cmd.node])).size = h.size + 1 := by simp
  generalize h.push (.cells #[.int .i64 e.kind, .int .i64 e.frm, .int .i64 e.to, .int .u64 e.ballot, .int .i64 e.slot, e.votes.1, .int .i64 e.cmd.kind, .int .i64 e.cmd.chain, .int .u64 e.cmd.epoch, .int .i64 e.cmd.node]) = h1 at *
  have T1 := T.ext x1
  have c1 := T1.xat hto
  have c2 := T1.aat hto
  have hB1 := x1.hB hB
  simp (maxSteps:=999999) (disch:=(first|omega|(simp only [zz,Nat.reduceAdd,Nat.reduceLeDiff];done)|(simp only [zz];omega))) only [↓xa,xb,xl,xy,Int.reduceLT,Int.reduceLE,Int.reduceEq,Nat.reduceAdd,Nat.reduceMul,Nat.reduceLeDiff,setL,bfill,eqV,lookRes, rdC_blk T1.tb, rdC_blk hb1, ↓T1.xl.idx, ↓T1.al.idx, c1, c2, l1, decide_eq_true hk]
  have x2 : Ext h (Array.setIfInBounds (h1.push (.cells #[.int .i64 0, .int .i64 0, .int .i64 0, .int .u64 0, .int .i64 0, .slice none 0 0, .int .i64 0, .int .i64 0, .int .u64 0, .int .i64 0])) (h.size + 1) (.cells #[.int .i64 0, .int .i64 e.to, .int .i64 e.frm, .int .u64 e.ballot, .int .i64 e.slot, .slice none 0 0, .int .i64 0, .int .i64 0, .int .u64 0, .int .i64 0])) := x1.trans (by repeat' (first|with_reducible (first|exact u0 _|refine u1 ?_ _|refine u2 ?_ _ _ ?_)|exact .inl (by (first|omega|(simp only [zz,Nat.reduceAdd,Nat.reduceLeDiff];done)|(simp only [zz];omega)))|exact .inr rfl|exact .inr (by simp;done)))
  have hb2 : (Array.setIfInBounds (h1.push (.cells #[.int .i64 0, .int .i64 0, .int .i64 0, .int .u64 0, .int .i64 0, .slice none 0 0, .int .i64 0, .int .i64 0, .int .u64 0, .int .i64 0])) (h.size + 1) (.cells #[.int .i64 0, .int .i64 e.to, .int .i64 e.frm, .int .u64 e.ballot, .int .i64 e.slot, .slice none 0 0, .int .i64 0, .int .i64 0, .int .u64 0, .int .i64 0]))[h.size + 1]? = some (.cells #[.int .i64 0, .int .i64 e.to, .int .i64 e.frm, .int .u64 e.ballot, .int .i64 e.slot, .slice none 0 0, .int .i64 0, .int .i64 0, .int .u64 0, .int .i64 0]) := g_set_eq (by simp; omega) rfl
  have l2 : (Array.setIfInBounds (h1.push (.cells #[.int .i64 0, .int .i64 0, .int .i64 0, .int .u64 0, .int .i64 0, .slice none 0 0, .int .i64 0, .int .i64 0, .int .u64 0, .int .i64 0])) (h.size + 1) (.cells #[.int .i64 0, .int .i64 e.to, .int .i64 e.frm, .int .u64 e.ballot, .int .i64 e.slot, .slice none 0 0, .int .i64 0, .int .i64 0, .int .u64 0, .int .i64 0])).size = h.size + 2 := by simp; omega
  generalize Array.setIfInBounds (h1.push (.cells #[.int .i64 0, .int .i64 0, .int .i64 0, .int .u64 0, .int .i64 0, .slice none 0 0, .int .i64 0, .int .i64 0, .int .u64 0, .int .i64 0])) (h.size + 1) (.cells #[.int .i64 0, .int .i64 e.to, .int .i64 e.frm, .int .u64 e.ballot, .int .i64 e.slot, .slice none 0 0, .int .i64 0, .int .i64 0, .int .u64 0, .int .i64 0]) = h2 at *
  have T2 := T.ext x2
  have hB2 := x2.hB hB
  have A2 := T2.ac _ hto.1 hto.2
  have f1 : ow (h.size + 1) = 0 := T.fresh _ (by omega)
  refine sp_Prepare hB2 A2.1 (keys_in ⟨(I.fine e.to).1, (I.fine e.to).2.1⟩) em.bal e.slot ?_
  intro v h3 hA3 u3 o3
  have T3 := T2.acT (ow' := mark ow h2.size h3.size 5) (a := ⟨mPrepP (S.A e.to).prom e.ballot e.slot, (S.A e.to).m⟩) hto I.hn ⟨u3.mono (fun b _ hb => by change b = _ at hb; rw [hb]; exact A2.2.1), fun b hb => mark_old hb⟩ (fun b hb => by rw [mark_out hb]; exact T2.fresh b (Nat.le_trans u3.1 hb)) (fun b hb => by rw [mark_old (by have := T2.nh; omega)]; exact T2.low b hb)
    ⟨hA3, by rw [mark_old (lt_of_get A2.1.blk)]; exact A2.2.1, by rw [mark_old (lt_of_get A2.1.map)]; exact A2.2.2⟩
  have z3 := u3.1
  have uu3 : Upd (fun b => ow b ≠ 0) h h3 := x2.then u3 (fun r _ hr => by change r = _ at hr; rw [hr, A2.2.1]; unfold tA; omega)
  have hm3 : ∀ b, b < h.size → mark ow h2.size h3.size 5 b = ow b := fun b hb => mark_old (by omega)
  have hb3 : h3[h.size + 1]? = some (.cells #[.int .i64 0, .int .i64 e.to, .int .i64 e.frm, .int .u64 e.ballot, .int .i64 e.slot, .slice none 0 0, .int .i64 0, .int .i64 0, .int .u64 0, .int .i64 0]) := u3.get hb2 (fun hr => by change _ = _ at hr; have := A2.2.1; rw [← hr, f1] at this; unfold tA at this; omega)
  have f3 : mark ow h2.size h3.size 5 (h.size + 1) = 0 := by rw [mark_old (by omega)]; exact f1
  have hsv := own_one o3
  have hvc := one_cells hsv
  have lb3 := lt_of_get hb3
  have tne : h.size + 1 ≠ t := by have := lt_of_get T.tb; omega
  by_cases h0 : mPrepE (S.A e.to).prom e.ballot e.slot = 0
  rotate_left
  · simp (maxSteps:=999999) (disch:=(first|omega|(simp only [zz,Nat.reduceAdd,Nat.reduceLeDiff];done)|(simp only [zz];omega))) only [↓xa,xb,xl,xy,Int.reduceLT,Int.reduceLE,Int.reduceEq,Nat.reduceAdd,Nat.reduceMul,Nat.reduceLeDiff,setL,bfill,eqV,lookRes, decide_eq_false h0]
    have e1 : mPrepP (S.A e.to).prom e.ballot e.slot = (S.A e.to).prom := by unfold mPrepP; rw [if_neg h0]
    have e2 : ({ S with A := upd S.A e.to ⟨mPrepP (S.A e.to).prom e.ballot e.slot, (S.A e.to).m⟩ } : PS) = S := by
      rw [e1]
      have : upd S.A e.to ⟨(S.A e.to).prom, (S.A e.to).m⟩ = S.A := by
        funext i
        by_cases hi : i = e.to
        · rw [hi, upd_self]
        · rw [upd_ne _ _ hi]
      rw [this]
    rw [e2] at T3
    exact hK _ _ _ _ _ _ T3 I (by omega) (by omega) uu3 hm3
  simp (maxSteps:=999999) (disch:=(first|omega|(simp only [zz,Nat.reduceAdd,Nat.reduceLeDiff];done)|(simp only [zz];omega))) only [↓xa,xb,xl,xy,Int.reduceLT,Int.reduceLE,Int.reduceEq,Nat.reduceAdd,Nat.reduceMul,Nat.reduceLeDiff,setL,bfill,eqV,lookRes, decide_eq_true h0, b_blk hb3, hvc, hsv, rdC_blk T3.tb]
  have u4 := Upd.set2 (a := h3) (.cells #[.int .i64 2, .int .i64 e.to, .int .i64 e.frm, .int .u64 e.ballot, .int .i64 e.slot, .slice none 0 0, .int .i64 0, .int .i64 0, .int .u64 0, .int .i64 0]) (.cells #[.int .i64 2, .int .i64 e.to, .int .i64 e.frm, .int .u64 e.ballot, .int .i64 e.slot, v, .int .i64 0, .int .i64 0, .int .u64 0, .int .i64 0]) f3
  have hb4 : (Array.setIfInBounds (Array.setIfInBounds h3 (h.size + 1) (.cells #[.int .i64 2, .int .i64 e.to, .int .i64 e.frm, .int .u64 e.ballot, .int .i64 e.slot, .slice none 0 0, .int .i64 0, .int .i64 0, .int .u64 0, .int .i64 0])) (h.size + 1) (.cells #[.int .i64 2, .int .i64 e.to, .int .i64 e.frm, .int .u64 e.ballot, .int .i64 e.slot, v, .int .i64 0, .int .i64 0, .int .u64 0, .int .i64 0]))[h.size + 1]? = some (.cells #[.int .i64 2, .int .i64 e.to, .int .i64 e.frm, .int .u64 e.ballot, .int .i64 e.slot, v, .int .i64 0, .int .i64 0, .int .u64 0, .int .i64 0]) := g_set_eq (by simp; omega) rfl
  have l4 : (Array.setIfInBounds (Array.setIfInBounds h3 (h.size + 1) (.cells #[.int .i64 2, .int .i64 e.to, .int .i64 e.frm, .int .u64 e.ballot, .int .i64 e.slot, .slice none 0 0, .int .i64 0, .int .i64 0, .int .u64 0, .int .i64 0])) (h.size + 1) (.cells #[.int .i64 2, .int .i64 e.to, .int .i64 e.frm, .int .u64 e.ballot, .int .i64 e.slot, v, .int .i64 0, .int .i64 0, .int .u64 0, .int .i64 0])).size = h3.size := by simp
  have T4 := T3.turn0 u4
  have hsl : Sl (Array.setIfInBounds (Array.setIfInBounds h3 (h.size + 1) (.cells #[.int .i64 2, .int .i64 e.to, .int .i64 e.frm, .int .u64 e.ballot, .int .i64 e.slot, .slice none 0 0, .int .i64 0, .int .i64 0, .int .u64 0, .int .i64 0])) (h.size + 1) (.cells #[.int .i64 2, .int .i64 e.to, .int .i64 e.frm, .int .u64 e.ballot, .int .i64 e.slot, v, .int .i64 0, .int .i64 0, .int .u64 0, .int .i64 0])) 6 vcells v (mPrepL (S.A e.to).prom (S.A e.to).m e.ballot e.slot) := o3.sl.upd u4 (fun b hb hs => by
    have h1 := o3.ge hb
    have h2 := o3.blk_lt hb
    change mark _ _ _ _ b = 0 at hs
    rw [mark_new h1 h2] at hs
    cases hs)
  have htg : Tg (Array.setIfInBounds (Array.setIfInBounds h3 (h.size + 1) (.cells #[.int .i64 2, .int .i64 e.to, .int .i64 e.frm, .int .u64 e.ballot, .int .i64 e.slot, .slice none 0 0, .int .i64 0, .int .i64 0, .int .u64 0, .int .i64 0])) (h.size + 1) (.cells #[.int .i64 2, .int .i64 e.to, .int .i64 e.frm, .int .u64 e.ballot, .int .i64 e.slot, v, .int .i64 0, .int .i64 0, .int .u64 0, .int .i64 0])) (mark ow h2.size h3.size 5) 5 v := fun b hb => ⟨mark_new (o3.ge hb) (o3.blk_lt hb), u4.lt (o3.blk_lt hb)⟩
  have uu4 : Upd (fun b => ow b ≠ 0) h (Array.setIfInBounds (Array.setIfInBounds h3 (h.size + 1) (.cells #[.int .i64 2, .int .i64 e.to, .int .i64 e.frm, .int .u64 e.ballot, .int .i64 e.slot, .slice none 0 0, .int .i64 0, .int .i64 0, .int .u64 0, .int .i64 0])) (h.size + 1) (.cells #[.int .i64 2, .int .i64 e.to, .int .i64 e.frm, .int .u64 e.ballot, .int .i64 e.slot, v, .int .i64 0, .int .i64 0, .int .u64 0, .int .i64 0])) := Upd.set (Upd.set uu3 _ _ (.inl (by omega))) _ _ (.inl (by omega))
  generalize Array.setIfInBounds (Array.setIfInBounds h3 (h.size + 1) (.cells #[.int .i64 2, .int .i64 e.to, .int .i64 e.frm, .int .u64 e.ballot, .int .i64 e.slot, .slice none 0 0, .int .i64 0, .int .i64 0, .int .u64 0, .int .i64 0])) (h.size + 1) (.cells #[.int .i64 2, .int .i64 e.to, .int .i64 e.frm, .int .u64 e.ballot, .int .i64 e.slot, v, .int .i64 0, .int .i64 0, .int .u64 0, .int .i64 0]) = h4 at *
  have hB4 := uu4.hB hB
  have lb4 := lt_of_get hb4
  have ltH := lt_of_get T4.tb
  simp (maxSteps:=999999) (disch:=(first|omega|(simp only [zz,Nat.reduceAdd,Nat.reduceLeDiff];done)|(simp only [zz];omega))) only [↓xa,xb,xl,xy,Int.reduceLT,Int.reduceLE,Int.reduceEq,Nat.reduceAdd,Nat.reduceMul,Nat.reduceLeDiff,setL,bfill,eqV,lookRes, rdC_blk T4.tb, eq_self]
  rw [← l4]
  refine T4.say hB4 (show S.said.length ≤ 100000 by omega) ⟨2, e.to, e.frm, e.ballot, e.slot, (v, mPrepL (S.A e.to).prom (S.A e.to).m e.ballot e.slot), cmd0⟩ hsl htg ?_ ?_ ?_
  · rfl
  · rfl
  intro v' h' kt u' hz hv1 ⟨ow2, T5, hm5⟩
  have hb' := hz _ _ f3 lb4 hb4
  have lt' := lt_of_get kt
  have hvc' := one_cells hv1
  simp (maxSteps:=999999) (disch:=(first|omega|(simp only [zz,Nat.reduceAdd,Nat.reduceLeDiff];done)|(simp only [zz];omega))) only [↓xa,xb,xl,xy,Int.reduceLT,Int.reduceLE,Int.reduceEq,Nat.reduceAdd,Nat.reduceMul,Nat.reduceLeDiff,setL,bfill,eqV,lookRes, rdC_blk kt, rdN_all hb', b_blk kt, hv1, hvc', eq_self]
  have I2 := I.prepare e he hk rfl h0 v (by
    have f := slots_fine ⟨(I.fine e.to).1, (I.fine e.to).2.1⟩
    unfold mPrepL
    rw [if_pos h0]
    exact Nat.le_trans (risL_le _ _) (Nat.le_trans f.2.2 (by decide)))
  refine hK _ _ _ _ _ _ T5 I2 (by simp) (by simp) ?_ (fun b hb => by rw [hm5 b (by omega)]; exact hm3 b hb)
  refine Upd.set (uu4.fresh u' (fun r hr => ?_)) _ _ (.inr (by rw [T.tt]; decide))
  by_cases hrh : r < h.size
  · right; rw [hm3 r hrh] at hr; exact hr
  · left; omega
end
end Go.Proofs.Ytdolepapmpcpiaa

namespace Go.Proofs.Ytdolepapmpcpiaa
open Go Go.RowKit Go.Maps Go.Shelf
set_option linter.unusedSectionVars false
variable [Base]
set_option linter.unusedVariables false
set_option linter.unusedSimpArgs false
set_option maxRecDepth 10000
section
variable {h h' : Hp} {ow ow' : Nat → Nat} {N t k : Nat} {n j : Int} {xv av sv cv v : Value} {P : Int → Nat} {R : Int → Option (Nat × Nat)} {Q : Int → Nat × Nat} {S : PS}
set_option maxHeartbeats 4000000 in
theorem sp_hear3 (hB : Base.b ≤ h.size) (T : TalkOk h ow N t n xv av sv cv P R Q S) (I : Inv n S) (e : Say) (he : e ∈ S.said) (hls : S.said.length ≤ 40000) (hlc : S.chosen.length ≤ 40000) (hk : e.kind = 3) {K : Kont}
    (hK : Stp h ow N t n xv av P Q S (K (.tuple #[]))) :
    C_q109 [pt t 0, .agg (saycells e).toArray] h K := by
  refine ok_q109 ?_
  unfold G_q109
  have em := I.msg e he
  have hev := sl_one (T.vt e he).1
  have hxl := T.xlen
  have hal := T.alen
  have hto := em.to
  have hn5 : 1 ≤ n ∧ n ≤ 5 := by have := I.hn; unfold isM at this; omega
  unfold saycells
  (try simp (maxSteps:=999999) (disch:=(first|omega|(simp only [zz,Nat.reduceAdd,Nat.reduceLeDiff];done)|(simp only [zz];omega))) only [↓xa,xb,xl,xy,Int.reduceLT,Int.reduceLE,Int.reduceEq,Nat.reduceAdd,Nat.reduceMul,Nat.reduceLeDiff,setL,bfill,eqV,lookRes])
  have x1 : Ext h (h.push (.cells #[.int .i64 e.kind, .int .i64 e.frm, .int .i64 e.to, .int .u64 e.ballot, .int .i64 e.slot, e.votes.1, .int .i64 e.cmd.kind, .int .i64 e.cmd.chain, .int .u64 e.cmd.epoch, .int .i64 e.cmd.node])) := (by repeat' (first|with_reducible (first|exact u0 _|refine u1 ?_ _|refine u2 ?_ _ _ ?_)|exact .inl (by (first|omega|(simp only [zz,Nat.reduceAdd,Nat.reduceLeDiff];done)|(simp only [zz];omega)))|exact .inr rfl|exact .inr (by simp;done)))
  have hb1 : (h.push (.cells #[.int .i64 e.kind, .int .i64 e.frm, .int .i64 e.to, .int .u64 e.ballot, .int .i64 e.slot, e.votes.1, .int .i64 e.cmd.kind, .int .i64 e.cmd.chain, .int .u64 e.cmd.epoch, .int .i64 e.cmd.node]))[h.size]? = some (.cells #[.int .i64 e.kind, .int .i64 e.frm, .int .i64 e.to, .int .u64 e.ballot, .int .i64 e.slot, e.votes.1, .int .i64 e.cmd.kind, .int .i64 e.cmd.chain, .int .u64 e.cmd.epoch, .int .i64 e.cmd.node]) := g_push_eq rfl
  have l1 : (h.push (.cells #[.int .i64 e.kind, .int .i64 e.frm, .int .i64 e.to, .int .u64 e.ballot, .int .i64 e.slot, e.votes.1, .int .i64 e.cmd.kind, .int .i64 e.cmd.chain, .int .u64 e.cmd.epoch, .int .i64 e.cmd.node])).size = h.size + 1 := by simp
  generalize h.push (.cells #[.int .i64 e.kind, .int .i64 e.frm, .int .i64 e.to, .int .u64 e.ballot, .int .i64 e.slot, e.votes.1, .int .i64 e.cmd.kind, .int .i64 e.cmd.chain, .int .u64 e.cmd.epoch, .int .i64 e.cmd.node]) = h1 at *
  have T1 := T.ext x1
  have c1 := T1.xat hto
  have c2 := T1.aat hto
  have hB1 := x1.hB hB
  simp (maxSteps:=999999) (disch:=(first|omega|(simp only [zz,Nat.reduceAdd,Nat.reduceLeDiff];done)|(simp only [zz];omega))) only [↓xa,xb,xl,xy,Int.reduceLT,Int.reduceLE,Int.reduceEq,Nat.reduceAdd,Nat.reduceMul,Nat.reduceLeDiff,setL,bfill,eqV,lookRes, rdC_blk T1.tb, rdC_blk hb1, rdN_of hb1, List.drop_succ_cons, List.drop_zero, List.take_succ_cons, List.take_zero, ↓T1.xl.idx, ↓T1.al.idx, c1, c2, l1, decide_eq_false (show ¬ e.kind = 1 by omega), decide_eq_false (show ¬ e.kind = 2 by omega), decide_eq_true hk]
  have x2 : Ext h (Array.setIfInBounds (h1.push (.cells #[.int .i64 0, .int .i64 0, .int .i64 0, .int .u64 0, .int .i64 0, .slice none 0 0, .int .i64 0, .int .i64 0, .int .u64 0, .int .i64 0])) (h.size + 1) (.cells #[.int .i64 0, .int .i64 e.to, .int .i64 e.frm, .int .u64 e.ballot, .int .i64 e.slot, .slice none 0 0, .int .i64 0, .int .i64 0, .int .u64 0, .int .i64 0])) := x1.trans (by repeat' (first|with_reducible (first|exact u0 _|refine u1 ?_ _|refine u2 ?_ _ _ ?_)|exact .inl (by (first|omega|(simp only [zz,Nat.reduceAdd,Nat.reduceLeDiff];done)|(simp only [zz];omega)))|exact .inr rfl|exact .inr (by simp;done)))
  have hb2 : (Array.setIfInBounds (h1.push (.cells #[.int .i64 0, .int .i64 0, .int .i64 0, .int .u64 0, .int .i64 0, .slice none 0 0, .int .i64 0, .int .i64 0, .int .u64 0, .int .i64 0])) (h.size + 1) (.cells #[.int .i64 0, .int .i64 e.to, .int .i64 e.frm, .int .u64 e.ballot, .int .i64 e.slot, .slice none 0 0, .int .i64 0, .int .i64 0, .int .u64 0, .int .i64 0]))[h.size + 1]? = some (.cells #[.int .i64 0, .int .i64 e.to, .int .i64 e.frm, .int .u64 e.ballot, .int .i64 e.slot, .slice none 0 0, .int .i64 0, .int .i64 0, .int .u64 0, .int .i64 0]) := g_set_eq (by simp; omega) rfl
  have l2 : (Array.setIfInBounds (h1.push (.cells #[.int .i64 0, .int .i64 0, .int .i64 0, .int .u64 0, .int .i64 0, .slice none 0 0, .int .i64 0, .int .i64 0, .int .u64 0, .int .i64 0])) (h.size + 1) (.cells #[.int .i64 0, .int .i64 e.to, .int .i64 e.frm, .int .u64 e.ballot, .int .i64 e.slot, .slice none 0 0, .int .i64 0, .int .i64 0, .int .u64 0, .int .i64 0])).size = h.size + 2 := by simp; omega
  generalize Array.setIfInBounds (h1.push (.cells #[.int .i64 0, .int .i64 0, .int .i64 0, .int .u64 0, .int .i64 0, .slice none 0 0, .int .i64 0, .int .i64 0, .int .u64 0, .int .i64 0])) (h.size + 1) (.cells #[.int .i64 0, .int .i64 e.to, .int .i64 e.frm, .int .u64 e.ballot, .int .i64 e.slot, .slice none 0 0, .int .i64 0, .int .i64 0, .int .u64 0, .int .i64 0]) = h2 at *
  have T2 := T.ext x2
  have hB2 := x2.hB hB
  have A2 := T2.ac _ hto.1 hto.2
  have f1 : ow (h.size + 1) = 0 := T.fresh _ (by omega)
  refine sp_Accept hB2 A2.1 em.bal e.slot e.cmd ?_
  intro h3 hA3 u3
  have T3 := T2.acT (ow' := ow) (a := ⟨mAccP (S.A e.to).prom e.ballot e.slot e.cmd, mAccM (S.A e.to).prom (S.A e.to).m e.ballot e.slot e.cmd⟩) hto I.hn ⟨u3.mono (fun b _ hb => by rcases hb with hb | hb; (rw [hb]; exact A2.2.1); (rw [hb]; exact A2.2.2)), fun b hb => rfl⟩ (fun b hb => T2.fresh b (Nat.le_trans u3.1 hb)) T2.low
    ⟨hA3, A2.2.1, A2.2.2⟩
  have z3 := u3.1
  have nz : ∀ r, r = (Q e.to).1 ∨ r = (Q e.to).2 → ow r ≠ 0 := fun r hr => by
    rcases hr with hr | hr
    · rw [hr, A2.2.1]; unfold tA; omega
    · rw [hr, A2.2.2]; unfold tA; omega
  have uu3 : Upd (fun b => ow b ≠ 0) h h3 := x2.then u3 (fun r _ hr => nz r hr)
  have hb3 : h3[h.size + 1]? = some (.cells #[.int .i64 0, .int .i64 e.to, .int .i64 e.frm, .int .u64 e.ballot, .int .i64 e.slot, .slice none 0 0, .int .i64 0, .int .i64 0, .int .u64 0, .int .i64 0]) := u3.get hb2 (fun hr => nz _ hr f1)
  have lb3 := lt_of_get hb3
  have tne : h.size + 1 ≠ t := by have := lt_of_get T.tb; omega
  by_cases h0 : mAccE (S.A e.to).prom e.ballot e.slot e.cmd = 0
  rotate_left
  · simp (maxSteps:=999999) (disch:=(first|omega|(simp only [zz,Nat.reduceAdd,Nat.reduceLeDiff];done)|(simp only [zz];omega))) only [↓xa,xb,xl,xy,Int.reduceLT,Int.reduceLE,Int.reduceEq,Nat.reduceAdd,Nat.reduceMul,Nat.reduceLeDiff,setL,bfill,eqV,lookRes, decide_eq_false h0]
    have e1 : mAccP (S.A e.to).prom e.ballot e.slot e.cmd = (S.A e.to).prom := by unfold mAccP; rw [if_neg h0]
    have e1' : mAccM (S.A e.to).prom (S.A e.to).m e.ballot e.slot e.cmd = (S.A e.to).m := by unfold mAccM; rw [if_neg h0]
    have e2 : ({ S with A := upd S.A e.to ⟨mAccP (S.A e.to).prom e.ballot e.slot e.cmd, mAccM (S.A e.to).prom (S.A e.to).m e.ballot e.slot e.cmd⟩ } : PS) = S := by
      rw [e1, e1']
      have : upd S.A e.to ⟨(S.A e.to).prom, (S.A e.to).m⟩ = S.A := by
        funext i
        by_cases hi : i = e.to
        · rw [hi, upd_self]
        · rw [upd_ne _ _ hi]
      rw [this]
    rw [e2] at T3
    exact hK _ _ _ _ _ _ T3 I (by omega) (by omega) uu3 (fun _ _ => rfl)
  have u4 := Upd.set0 (a := h3) (.cells #[.int .i64 4, .int .i64 e.to, .int .i64 e.frm, .int .u64 e.ballot, .int .i64 e.slot, .slice none 0 0, .int .i64 0, .int .i64 0, .int .u64 0, .int .i64 0]) f1
  have hb4 : (Array.setIfInBounds h3 (h.size + 1) (.cells #[.int .i64 4, .int .i64 e.to, .int .i64 e.frm, .int .u64 e.ballot, .int .i64 e.slot, .slice none 0 0, .int .i64 0, .int .i64 0, .int .u64 0, .int .i64 0]))[h.size + 1]? = some (.cells #[.int .i64 4, .int .i64 e.to, .int .i64 e.frm, .int .u64 e.ballot, .int .i64 e.slot, .slice none 0 0, .int .i64 0, .int .i64 0, .int .u64 0, .int .i64 0]) := g_set_eq lb3 rfl
  have l4 : (Array.setIfInBounds h3 (h.size + 1) (.cells #[.int .i64 4, .int .i64 e.to, .int .i64 e.frm, .int .u64 e.ballot, .int .i64 e.slot, .slice none 0 0, .int .i64 0, .int .i64 0, .int .u64 0, .int .i64 0])).size = h3.size := by simp
  have T4 := T3.turn0 u4
  have ltH := lt_of_get T4.tb
  simp (maxSteps:=999999) (disch:=(first|omega|(simp only [zz,Nat.reduceAdd,Nat.reduceLeDiff];done)|(simp only [zz];omega))) only [↓xa,xb,xl,xy,Int.reduceLT,Int.reduceLE,Int.reduceEq,Nat.reduceAdd,Nat.reduceMul,Nat.reduceLeDiff,setL,bfill,eqV,lookRes, decide_eq_true h0, b_blk hb3, rdC_blk T3.tb, rdC_blk T4.tb, eq_self]
  have uu4 : Upd (fun b => ow b ≠ 0) h (Array.setIfInBounds h3 (h.size + 1) (.cells #[.int .i64 4, .int .i64 e.to, .int .i64 e.frm, .int .u64 e.ballot, .int .i64 e.slot, .slice none 0 0, .int .i64 0, .int .i64 0, .int .u64 0, .int .i64 0])) := Upd.set uu3 _ _ (.inl (by omega))
  generalize Array.setIfInBounds h3 (h.size + 1) (.cells #[.int .i64 4, .int .i64 e.to, .int .i64 e.frm, .int .u64 e.ballot, .int .i64 e.slot, .slice none 0 0, .int .i64 0, .int .i64 0, .int .u64 0, .int .i64 0]) = h4 at *
  have hB4 := uu4.hB hB
  have lb4 := lt_of_get hb4
  rw [← l4]
  refine T4.say hB4 (show S.said.length ≤ 100000 by omega) ⟨4, e.to, e.frm, e.ballot, e.slot, (.slice none 0 0, []), cmd0⟩ Sl.nil (fun b hb => (by cases hb)) ?_ ?_ ?_
  · rfl
  · rfl
  intro v' h' kt u' hz hv1 ⟨ow2, T5, hm5⟩
  have hb' := hz _ _ f1 lb4 hb4
  have lt' := lt_of_get kt
  have hvc' := one_cells hv1
  simp (maxSteps:=999999) (disch:=(first|omega|(simp only [zz,Nat.reduceAdd,Nat.reduceLeDiff];done)|(simp only [zz];omega))) only [↓xa,xb,xl,xy,Int.reduceLT,Int.reduceLE,Int.reduceEq,Nat.reduceAdd,Nat.reduceMul,Nat.reduceLeDiff,setL,bfill,eqV,lookRes, rdC_blk kt, rdN_all hb', b_blk kt, hv1, hvc', eq_self]
  have I2 := I.accept e he hk rfl h0
  refine hK _ _ _ _ _ _ T5 I2 (by simp) (by simp) ?_ (fun b hb => hm5 b (by omega))
  exact Upd.set (uu4.fresh u' (fun r hr => .inr hr)) _ _ (.inr (by rw [T.tt]; decide))
end
end Go.Proofs.Ytdolepapmpcpiaa

namespace Go.Proofs.Ytdolepapmpcpiaa
open Go Go.RowKit Go.Maps Go.Shelf
set_option linter.unusedSectionVars false
variable [Base]
set_option linter.unusedVariables false
set_option linter.unusedSimpArgs false
set_option maxRecDepth 10000
section
variable {h h' : Hp} {ow ow' : Nat → Nat} {N t k : Nat} {n j : Int} {xv av sv cv v : Value} {P : Int → Nat} {R : Int → Option (Nat × Nat)} {Q : Int → Nat × Nat} {S : PS}
/-- The leader's block, whether it has started or not. -/
theorem LdAt.blkX {h : Hp} {ow : Nat → Nat} {j : Int} {p : Nat} {r : Option (Nat × Nat)} {l : Ld} (a : LdAt h ow j p r l) : ∃ cm om, h[p]? = some (.cells (lcells l.x cm om)) := by
  obtain ⟨_, a⟩ := a
  cases r with
  | none => exact ⟨_, _, a.1⟩
  | some r => exact ⟨_, _, a.1.blk⟩
theorem LdAt.started {h : Hp} {ow : Nat → Nat} {j : Int} {p : Nat} {r : Option (Nat × Nat)} {l : Ld} (a : LdAt h ow j p r l) (hs : l.x.state ≠ 0) : ∃ rc ro, r = some (rc, ro) ∧ Lead h p rc ro l.x l.came l.opn ∧ ow p = tL j ∧ ow rc = tL j ∧ ow ro = tL j ∧ (l.x.state = 1 → CameIn h l.came) ∧ (l.x.state = 1 → ∀ e ∈ l.came, ∀ b, blk e.2.1 = some b → b ≠ p ∧ b ≠ rc ∧ b ≠ ro ∧ b < h.size ∧ ow b = tL j) := by
  obtain ⟨a1, a⟩ := a
  cases r with
  | none => exact absurd a.2.1 hs
  | some r => exact ⟨r.1, r.2, rfl, a.1, a1, a.2⟩
set_option maxHeartbeats 4000000 in
theorem sp_hear4 (hB : Base.b ≤ h.size) (T : TalkOk h ow N t n xv av sv cv P R Q S) (I : Inv n S) (e : Say) (he : e ∈ S.said) (hls : S.said.length ≤ 40000) (hlc : S.chosen.length ≤ 40000) (hk : e.kind = 4) {K : Kont}
    (hK : Stp h ow N t n xv av P Q S (K (.tuple #[]))) :
    C_q109 [pt t 0, .agg (saycells e).toArray] h K := by
  refine ok_q109 ?_
  unfold G_q109
  have em := I.msg e he
  have hev := sl_one (T.vt e he).1
  have hxl := T.xlen
  have hal := T.alen
  have hto := em.to
  have hn5 : 1 ≤ n ∧ n ≤ 5 := by have := I.hn; unfold isM at this; omega
  unfold saycells
  (try simp (maxSteps:=999999) (disch:=(first|omega|(simp only [zz,Nat.reduceAdd,Nat.reduceLeDiff];done)|(simp only [zz];omega))) only [↓xa,xb,xl,xy,Int.reduceLT,Int.reduceLE,Int.reduceEq,Nat.reduceAdd,Nat.reduceMul,Nat.reduceLeDiff,setL,bfill,eqV,lookRes])
  have x1 : Ext h (h.push (.cells #[.int .i64 e.kind, .int .i64 e.frm, .int .i64 e.to, .int .u64 e.ballot, .int .i64 e.slot, e.votes.1, .int .i64 e.cmd.kind, .int .i64 e.cmd.chain, .int .u64 e.cmd.epoch, .int .i64 e.cmd.node])) := (by repeat' (first|with_reducible (first|exact u0 _|refine u1 ?_ _|refine u2 ?_ _ _ ?_)|exact .inl (by (first|omega|(simp only [zz,Nat.reduceAdd,Nat.reduceLeDiff];done)|(simp only [zz];omega)))|exact .inr rfl|exact .inr (by simp;done)))
  have hb1 : (h.push (.cells #[.int .i64 e.kind, .int .i64 e.frm, .int .i64 e.to, .int .u64 e.ballot, .int .i64 e.slot, e.votes.1, .int .i64 e.cmd.kind, .int .i64 e.cmd.chain, .int .u64 e.cmd.epoch, .int .i64 e.cmd.node]))[h.size]? = some (.cells #[.int .i64 e.kind, .int .i64 e.frm, .int .i64 e.to, .int .u64 e.ballot, .int .i64 e.slot, e.votes.1, .int .i64 e.cmd.kind, .int .i64 e.cmd.chain, .int .u64 e.cmd.epoch, .int .i64 e.cmd.node]) := g_push_eq rfl
  have l1 : (h.push (.cells #[.int .i64 e.kind, .int .i64 e.frm, .int .i64 e.to, .int .u64 e.ballot, .int .i64 e.slot, e.votes.1, .int .i64 e.cmd.kind, .int .i64 e.cmd.chain, .int .u64 e.cmd.epoch, .int .i64 e.cmd.node])).size = h.size + 1 := by simp
  generalize h.push (.cells #[.int .i64 e.kind, .int .i64 e.frm, .int .i64 e.to, .int .u64 e.ballot, .int .i64 e.slot, e.votes.1, .int .i64 e.cmd.kind, .int .i64 e.cmd.chain, .int .u64 e.cmd.epoch, .int .i64 e.cmd.node]) = h1 at *
  have T1 := T.ext x1
  have c1 := T1.xat hto
  have c2 := T1.aat hto
  have hB1 := x1.hB hB
  simp (maxSteps:=999999) (disch:=(first|omega|(simp only [zz,Nat.reduceAdd,Nat.reduceLeDiff];done)|(simp only [zz];omega))) only [↓xa,xb,xl,xy,Int.reduceLT,Int.reduceLE,Int.reduceEq,Nat.reduceAdd,Nat.reduceMul,Nat.reduceLeDiff,setL,bfill,eqV,lookRes, rdC_blk T1.tb, rdC_blk hb1, ↓T1.xl.idx, ↓T1.al.idx, c1, c2, l1, decide_eq_false (show ¬ e.kind = 1 by omega), decide_eq_false (show ¬ e.kind = 2 by omega), decide_eq_false (show ¬ e.kind = 3 by omega)]
  have x2 : Ext h (Array.setIfInBounds (h1.push (.cells #[.int .i64 0, .int .i64 0, .int .i64 0, .int .u64 0, .int .i64 0, .slice none 0 0, .int .i64 0, .int .i64 0, .int .u64 0, .int .i64 0])) (h.size + 1) (.cells #[.int .i64 0, .int .i64 e.to, .int .i64 e.frm, .int .u64 e.ballot, .int .i64 e.slot, .slice none 0 0, .int .i64 0, .int .i64 0, .int .u64 0, .int .i64 0])) := x1.trans (by repeat' (first|with_reducible (first|exact u0 _|refine u1 ?_ _|refine u2 ?_ _ _ ?_)|exact .inl (by (first|omega|(simp only [zz,Nat.reduceAdd,Nat.reduceLeDiff];done)|(simp only [zz];omega)))|exact .inr rfl|exact .inr (by simp;done)))
  have l2 : (Array.setIfInBounds (h1.push (.cells #[.int .i64 0, .int .i64 0, .int .i64 0, .int .u64 0, .int .i64 0, .slice none 0 0, .int .i64 0, .int .i64 0, .int .u64 0, .int .i64 0])) (h.size + 1) (.cells #[.int .i64 0, .int .i64 e.to, .int .i64 e.frm, .int .u64 e.ballot, .int .i64 e.slot, .slice none 0 0, .int .i64 0, .int .i64 0, .int .u64 0, .int .i64 0])).size = h.size + 2 := by simp; omega
  generalize Array.setIfInBounds (h1.push (.cells #[.int .i64 0, .int .i64 0, .int .i64 0, .int .u64 0, .int .i64 0, .slice none 0 0, .int .i64 0, .int .i64 0, .int .u64 0, .int .i64 0])) (h.size + 1) (.cells #[.int .i64 0, .int .i64 e.to, .int .i64 e.frm, .int .u64 e.ballot, .int .i64 e.slot, .slice none 0 0, .int .i64 0, .int .i64 0, .int .u64 0, .int .i64 0]) = h2 at *
  have T2 := T.ext x2
  have hB2 := x2.hB hB
  have L2 := T2.ld _ hto.1 hto.2
  have lo := I.ld _ hto.1 hto.2
  have hms := lo.ms
  by_cases hok : ((S.L e.to).x.state = 2 ∧ (S.L e.to).x.ballot = e.ballot) ∧ 1 ≤ e.frm ∧ e.frm ≤ (S.L e.to).x.masters
  rotate_left
  · obtain ⟨cm, om, hpb⟩ := L2.blkX
    refine sp_lAcceptedBad hB2 hpb e.ballot e.slot e.frm hok ?_
    intro h3 x3
    have hB3 := x3.hB hB2
    simp (maxSteps:=999999) (disch:=(first|omega|(simp only [zz,Nat.reduceAdd,Nat.reduceLeDiff];done)|(simp only [zz];omega))) only [↓xa,xb,xl,xy,Int.reduceLT,Int.reduceLE,Int.reduceEq,Nat.reduceAdd,Nat.reduceMul,Nat.reduceLeDiff,setL,bfill,eqV,lookRes, voteV, vote0, cmd0]
    have x4 : Ext h (Array.setIfInBounds (h3.push (.cells #[.int .i64 0, .int .u64 0, .int .i64 0, .int .i64 0, .int .u64 0, .int .i64 0])) h3.size (.cells #[.int .i64 0, .int .u64 0, .int .i64 0, .int .i64 0, .int .u64 0, .int .i64 0])) := (x2.trans x3).trans (by repeat' (first|with_reducible (first|exact u0 _|refine u1 ?_ _|refine u2 ?_ _ _ ?_)|exact .inl (by (first|omega|(simp only [zz,Nat.reduceAdd,Nat.reduceLeDiff];done)|(simp only [zz];omega)))|exact .inr rfl|exact .inr (by simp;done)))
    exact hK _ _ _ _ _ _ (T.ext x4) I (by omega) (by omega) x4.lift (fun _ _ => rfl)
  obtain ⟨rc, ro, hr, hL, o1, o2, o3, hci, hcb⟩ := L2.started (by rw [hok.1.1]; decide)
  have hst := hok.1.1
  have step : ∀ (h3 : Hp) (o : List (Int × Prp)), Upd (fun r => r = ro) h2 h3 → Lead h3 (P e.to) rc ro (S.L e.to).x (S.L e.to).came o → TalkOk h3 ow N t n xv av sv cv P (upd R e.to (some (rc, ro))) Q { S with L := upd S.L e.to ⟨(S.L e.to).x, (S.L e.to).came, o⟩ } := by
    intro h3 o u3 hL3
    refine T2.ldT (ow' := ow) (l := ⟨(S.L e.to).x, (S.L e.to).came, o⟩) hto I.hn ⟨u3.mono (fun b _ hb => by change b = ro at hb; rw [hb]; exact o3), fun b hb => rfl⟩ (fun b hb => T2.fresh b (Nat.le_trans u3.1 hb)) T2.low ⟨o1, hL3, o2, o3, fun h => absurd (h.symm.trans hst) (by decide), fun h => absurd (h.symm.trans hst) (by decide)⟩
  have nz : ∀ r, r = ro → ow r ≠ 0 := fun r hr => by rw [hr, o3]; unfold tL; omega
  refine sp_lAccepted hB2 hL (by rw [hms]; exact hn5) e.ballot e.slot e.frm hok ?_ ?_ ?_
  · intro hg h3 x3
    have hB3 := x3.hB hB2
    simp (maxSteps:=999999) (disch:=(first|omega|(simp only [zz,Nat.reduceAdd,Nat.reduceLeDiff];done)|(simp only [zz];omega))) only [↓xa,xb,xl,xy,Int.reduceLT,Int.reduceLE,Int.reduceEq,Nat.reduceAdd,Nat.reduceMul,Nat.reduceLeDiff,setL,bfill,eqV,lookRes, voteV, vote0, cmd0]
    have x4 : Ext h (Array.setIfInBounds (h3.push (.cells #[.int .i64 0, .int .u64 0, .int .i64 0, .int .i64 0, .int .u64 0, .int .i64 0])) h3.size (.cells #[.int .i64 0, .int .u64 0, .int .i64 0, .int .i64 0, .int .u64 0, .int .i64 0])) := (x2.trans x3).trans (by repeat' (first|with_reducible (first|exact u0 _|refine u1 ?_ _|refine u2 ?_ _ _ ?_)|exact .inl (by (first|omega|(simp only [zz,Nat.reduceAdd,Nat.reduceLeDiff];done)|(simp only [zz];omega)))|exact .inr rfl|exact .inr (by simp;done)))
    exact hK _ _ _ _ _ _ (T.ext x4) I (by omega) (by omega) x4.lift (fun _ _ => rfl)
  · intro q hg hen h3 u3 hL3
    have T3 := step h3 _ u3 hL3
    have hB3 := u3.hB hB2
    simp (maxSteps:=999999) (disch:=(first|omega|(simp only [zz,Nat.reduceAdd,Nat.reduceLeDiff];done)|(simp only [zz];omega))) only [↓xa,xb,xl,xy,Int.reduceLT,Int.reduceLE,Int.reduceEq,Nat.reduceAdd,Nat.reduceMul,Nat.reduceLeDiff,setL,bfill,eqV,lookRes, voteV, vote0, cmd0]
    have x4 : Ext h3 (Array.setIfInBounds (h3.push (.cells #[.int .i64 0, .int .u64 0, .int .i64 0, .int .i64 0, .int .u64 0, .int .i64 0])) h3.size (.cells #[.int .i64 0, .int .u64 0, .int .i64 0, .int .i64 0, .int .u64 0, .int .i64 0])) := (by repeat' (first|with_reducible (first|exact u0 _|refine u1 ?_ _|refine u2 ?_ _ _ ?_)|exact .inl (by (first|omega|(simp only [zz,Nat.reduceAdd,Nat.reduceLeDiff];done)|(simp only [zz];omega)))|exact .inr rfl|exact .inr (by simp;done)))
    exact hK _ _ _ _ _ _ (T3.ext x4) (I.accepted hto e he hk hok.1.2.symm hg).1 (Nat.le_add_right _ _) (Nat.le_add_right _ _) ((x2.then u3 (fun r _ hr => nz r hr)).trans x4.lift) (fun _ _ => rfl)
  · intro q hg hen h3 u3 hL3
    have T3 := step h3 _ u3 hL3
    have hB3 := u3.hB hB2
    have I3 := (I.accepted hto e he hk hok.1.2.symm hg).2 (by rw [hms] at hen; exact hen)
    have x4 : Ext h3 (Array.setIfInBounds (h3.push (.cells #[.int .i64 0, .int .u64 0, .int .i64 0, .int .i64 0, .int .u64 0, .int .i64 0])) h3.size (.cells #[.int .i64 e.slot, .int .u64 (S.L e.to).x.ballot, .int .i64 q.cmd.kind, .int .i64 q.cmd.chain, .int .u64 q.cmd.epoch, .int .i64 q.cmd.node])) := (by repeat' (first|with_reducible (first|exact u0 _|refine u1 ?_ _|refine u2 ?_ _ _ ?_)|exact .inl (by (first|omega|(simp only [zz,Nat.reduceAdd,Nat.reduceLeDiff];done)|(simp only [zz];omega)))|exact .inr rfl|exact .inr (by simp;done)))
    have hb4 : (Array.setIfInBounds (h3.push (.cells #[.int .i64 0, .int .u64 0, .int .i64 0, .int .i64 0, .int .u64 0, .int .i64 0])) h3.size (.cells #[.int .i64 e.slot, .int .u64 (S.L e.to).x.ballot, .int .i64 q.cmd.kind, .int .i64 q.cmd.chain, .int .u64 q.cmd.epoch, .int .i64 q.cmd.node]))[h3.size]? = some (.cells #[.int .i64 e.slot, .int .u64 (S.L e.to).x.ballot, .int .i64 q.cmd.kind, .int .i64 q.cmd.chain, .int .u64 q.cmd.epoch, .int .i64 q.cmd.node]) := g_set_eq (by simp) rfl
    simp (maxSteps:=999999) (disch:=(first|omega|(simp only [zz,Nat.reduceAdd,Nat.reduceLeDiff];done)|(simp only [zz];omega))) only [↓xa,xb,xl,xy,Int.reduceLT,Int.reduceLE,Int.reduceEq,Nat.reduceAdd,Nat.reduceMul,Nat.reduceLeDiff,setL,bfill,eqV,lookRes, voteV, voteP, rdN_all hb4]
    have T4 := T3.ext x4
    have uu4 : Upd (fun b => ow b ≠ 0) h (Array.setIfInBounds (h3.push (.cells #[.int .i64 0, .int .u64 0, .int .i64 0, .int .i64 0, .int .u64 0, .int .i64 0])) h3.size (.cells #[.int .i64 e.slot, .int .u64 (S.L e.to).x.ballot, .int .i64 q.cmd.kind, .int .i64 q.cmd.chain, .int .u64 q.cmd.epoch, .int .i64 q.cmd.node])) := (x2.then u3 (fun r _ hr => nz r hr)).trans x4.lift
    generalize Array.setIfInBounds (h3.push (.cells #[.int .i64 0, .int .u64 0, .int .i64 0, .int .i64 0, .int .u64 0, .int .i64 0])) h3.size (.cells #[.int .i64 e.slot, .int .u64 (S.L e.to).x.ballot, .int .i64 q.cmd.kind, .int .i64 q.cmd.chain, .int .u64 q.cmd.epoch, .int .i64 q.cmd.node]) = h4 at *
    have hB4 := uu4.hB hB
    refine sp_choose hB4 T4 (voteP (S.L e.to).x e.slot q.cmd) (fun w hw hs => I3.good (List.mem_append_left _ hw) (List.mem_append_right _ (List.mem_singleton.2 rfl)) hs) (show S.chosen.length ≤ 50000 by omega) ?_
    intro h5 ow5 cv5 T5 u5 hm5
    (try simp (maxSteps:=999999) (disch:=(first|omega|(simp only [zz,Nat.reduceAdd,Nat.reduceLeDiff];done)|(simp only [zz];omega))) only [↓xa,xb,xl,xy,Int.reduceLT,Int.reduceLE,Int.reduceEq,Nat.reduceAdd,Nat.reduceMul,Nat.reduceLeDiff,setL,bfill,eqV,lookRes])
    refine hK _ _ _ _ _ _ T5 I3 (Nat.le_add_right _ _) (by simp) (uu4.fresh u5 (fun r hr => .inr hr)) (fun b hb => hm5 b (Nat.lt_of_lt_of_le hb uu4.1))
end
end Go.Proofs.Ytdolepapmpcpiaa

namespace Go.Proofs.Ytdolepapmpcpiaa
open Go Go.RowKit Go.Maps Go.Shelf
set_option linter.unusedSectionVars false
variable [Base]
set_option linter.unusedVariables false
set_option linter.unusedSimpArgs false
set_option maxRecDepth 10000
section
variable {h h' : Hp} {ow ow' : Nat → Nat} {N t k : Nat} {n j : Int} {xv av sv cv v : Value} {P : Int → Nat} {R : Int → Option (Nat × Nat)} {Q : Int → Nat × Nat} {S : PS}
def opMsgs (n to : Int) (l : List Vote) : List Say := l.flatMap fun v => (rng n).map fun i => ⟨3, to, i, v.ballot, v.slot, (.slice none 0 0, []), v.cmd⟩
theorem opMsgs_len {n to : Int} (hn : n ≤ 5) (l : List Vote) : (opMsgs n to l).length ≤ l.length * 5 := by
  induction l with
  | nil => simp [opMsgs]
  | cons v l ih =>
    have : opMsgs n to (v :: l) = ((rng n).map fun i => ⟨3, to, i, v.ballot, v.slot, (.slice none 0 0, []), v.cmd⟩) ++ opMsgs n to l := by simp [opMsgs]
    rw [this, List.length_append, List.length_map, rng_len, List.length_cons]
    omega
theorem openL_bal {x : LS} {opn : List (Int × Prp)} {v : Vote} (h : v ∈ openL x opn) : v.ballot = x.ballot := by
  unfold openL openKs at h
  obtain ⟨k, _, hk⟩ := List.mem_filterMap.1 h
  cases hg : mget opn k with
  | none => rw [hg] at hk; cases hk
  | some q => rw [hg] at hk; cases hk; rfl
theorem openL_le {x : LS} {came : List (Int × LV)} (c : CameOk x came) : (openL (promX x came) (promO x came)).length ≤ 512 := by
  refine Nat.le_trans (openL_len _ _) ?_
  unfold promO
  rw [fillM_opn]
  have := fillN_le c.frm (rBest_mem (fun v => x.frm ≤ v.slot ∧ v.slot < 512) (votesOf (allL came)) [] c.all (by simp))
  have h2 : (opnOf (fillR x.frm (rBestL (votesOf (allL came))) (fillN x.frm (rBestL (votesOf (allL came)))))).length = fillN x.frm (rBestL (votesOf (allL came))) := by simp [opnOf, fillR]
  rw [h2]
  have hf := c.frm
  unfold rBestL
  omega
set_option maxHeartbeats 4000000 in
theorem sp_hearLoop (hB : Base.b ≤ h.size) (T : TalkOk h ow N t n xv av sv cv P R Q S) (hn : isM n) {r : Nat} {e : Say} {l : List Vote} {w : Value} (hb : h[r]? = some (.cells #[.int .i64 e.kind, .int .i64 e.frm, .int .i64 e.to, .int .u64 e.ballot, .int .i64 e.slot, e.votes.1, .int .i64 e.cmd.kind, .int .i64 e.cmd.chain, .int .u64 e.cmd.epoch, .int .i64 e.cmd.node])) (f0 : ow r = 0) (hw : Sl h 6 vcells w l) (tw : Tg h ow 0 w) (hl : l.length ≤ 512) (hls : S.said.length ≤ 40000) {d : Nat → Value} {K : Kont}
    (hK : ∀ h' ow' sv', TalkOk h' ow' N t n xv av sv' cv P R Q { S with said := S.said ++ opMsgs n e.to l } → Upd (fun b => ow b ≠ 0) h h' → (∀ b, b < h.size → ow' b = ow b) → K (.tuple #[]) h') :
    G_q109_1 K (pt t 0) (pt r 0) w (.int .i64 0) d h := by
  have hn5 : 1 ≤ n ∧ n ≤ 5 := by unfold isM at hn; omega
  have lr := lt_of_get hb
  have keep : ∀ {H : Hp} {k : Nat} {c : AObj}, Upd (fun b => ow b ≠ 0) h H → ow k = 0 → h[k]? = some c → H[k]? = some c := fun u h0 hc => u.get hc (fun h => h h0)
  refine rule_q109_1 (fun v11 H => ∃ (i : Nat) (ow' : Nat → Nat) (sv' : Value), v11 = .int .i64 i ∧ i ≤ l.length ∧ TalkOk H ow' N t n xv av sv' cv P R Q { S with said := S.said ++ opMsgs n e.to (l.take i) } ∧ Upd (fun b => ow b ≠ 0) h H ∧ (∀ b, b < h.size → ow' b = ow b)) (fun v11 H => l.length - ival v11) ?_ _ _ _
    ⟨0, ow, sv, rfl, Nat.zero_le _, by simpa [opMsgs] using T, Upd.refl _, fun _ _ => rfl⟩
  rintro self v11 d H ⟨i, ow', sv', rfl, hi, T', u, hm⟩ hself
  unfold B_q109_1
  have hwH : Sl H 6 vcells w l := hw.upd u (fun b hb hs => hs (tw b hb).1)
  have hbH := keep u f0 hb
  have hBH := u.hB hB
  by_cases hlt : i < l.length
  rotate_left
  · have : i = l.length := by omega
    subst this
    rw [List.take_length] at T'
    simp (maxSteps:=999999) (disch:=(first|omega|(simp only [zz,Nat.reduceAdd,Nat.reduceLeDiff];done)|(simp only [zz];omega))) only [↓xa,xb,xl,xy,Int.reduceLT,Int.reduceLE,Int.reduceEq,Nat.reduceAdd,Nat.reduceMul,Nat.reduceLeDiff,setL,bfill,eqV,lookRes, ↓hwH.len', decide_eq_false (show ¬ ((l.length : Nat) : Int) < (l.length : Int) by omega)]
    exact hK H ow' sv' T' u hm
  have ht := take_nth hlt
  have c0 := hwH.cell0 vcells_len i hlt (by decide)
  have c1 := hwH.cell vcells_len i 1 hlt (by decide)
  have cp := hwH.part vcells_len i 2 4 hlt (by decide)
  have q0 := fun (H2 : Hp) (s : Sl H2 6 vcells w l) => s.cell0 vcells_len i hlt (by decide)
  have q1 := fun (H2 : Hp) (s : Sl H2 6 vcells w l) => s.cell vcells_len i 1 hlt (by decide)
  have qp := fun (H2 : Hp) (s : Sl H2 6 vcells w l) => s.part vcells_len i 2 4 hlt (by decide)
  generalize nth l i = y at c0 c1 cp q0 q1 qp ht
  obtain ⟨s, b, y1, y2, y3, y4⟩ := y
  simp only [vcells, List.getElem?_cons_zero, List.getElem?_cons_succ, List.drop_succ_cons, List.drop_zero, List.take_succ_cons, List.take_zero] at c0 c1 cp q0 q1 qp
  simp (maxSteps:=999999) (disch:=(first|omega|(simp only [zz,Nat.reduceAdd,Nat.reduceLeDiff];done)|(simp only [zz];omega))) only [↓xa,xb,xl,xy,Int.reduceLT,Int.reduceLE,Int.reduceEq,Nat.reduceAdd,Nat.reduceMul,Nat.reduceLeDiff,setL,bfill,eqV,lookRes, ↓hwH.len', decide_eq_true (Int.ofNat_lt.2 hlt), ↓hwH.idx, rdC_blk hbH, c0, c1, cp]
  have hsl : (S.said ++ opMsgs n e.to (l.take i)).length ≤ 50000 := by
    rw [List.length_append]
    have := opMsgs_len (to := e.to) hn5.2 (l.take i)
    rw [List.length_take] at this
    omega
  refine sp_toAll hBH T' hn ⟨3, e.to, 0, b, s, (.slice none 0 0, []), ⟨y1, y2, y3, y4⟩⟩ Sl.nil (fun b hb => (by cases hb)) hsl ?_
  intro H2 ow2 sv2 T2 u2 hm2
  have uu : Upd (fun b => ow b ≠ 0) h H2 := u.fresh u2 (fun b hb => by
    by_cases hbh : b < h.size
    · right; rw [hm b hbh] at hb; exact hb
    · left; omega)
  have hw2 : Sl H2 6 vcells w l := hw.upd uu (fun b hb hs => hs (tw b hb).1)
  have hb2 := keep uu f0 hb
  have d0 := q0 _ hw2
  have d1 := q1 _ hw2
  have dp := qp _ hw2
  simp (maxSteps:=999999) (disch:=(first|omega|(simp only [zz,Nat.reduceAdd,Nat.reduceLeDiff];done)|(simp only [zz];omega))) only [↓xa,xb,xl,xy,Int.reduceLT,Int.reduceLE,Int.reduceEq,Nat.reduceAdd,Nat.reduceMul,Nat.reduceLeDiff,setL,bfill,eqV,lookRes, rdC_blk hb2, d0, d1, dp, eq_self]
  refine hself _ _ _ ⟨i + 1, ow2, sv2, rfl, hlt, ?_, uu, fun b hb => by rw [hm2 b (Nat.lt_of_lt_of_le hb u.1)]; exact hm b hb⟩ (by simp only [ival_nat, isucc]; omega)
  rw [ht]
  have : opMsgs n e.to (l.take i ++ [⟨s, b, ⟨y1, y2, y3, y4⟩⟩]) = opMsgs n e.to (l.take i) ++ ((rng n).map fun i => ⟨3, e.to, i, b, s, (.slice none 0 0, []), ⟨y1, y2, y3, y4⟩⟩) := by simp [opMsgs]
  rw [this, ← List.append_assoc]
  exact T2
set_option maxHeartbeats 8000000 in
theorem sp_hear2 (hB : Base.b ≤ h.size) (T : TalkOk h ow N t n xv av sv cv P R Q S) (I : Inv n S) (e : Say) (he : e ∈ S.said) (hls : S.said.length ≤ 40000) (hlc : S.chosen.length ≤ 40000) (hk : e.kind = 2) {K : Kont}
    (hK : Stp h ow N t n xv av P Q S (K (.tuple #[]))) :
    C_q109 [pt t 0, .agg (saycells e).toArray] h K := by
  refine ok_q109 ?_
  unfold G_q109
  have em := I.msg e he
  have hev := sl_one (T.vt e he).1
  have hxl := T.xlen
  have hal := T.alen
  have hto := em.to
  have hn5 : 1 ≤ n ∧ n ≤ 5 := by have := I.hn; unfold isM at this; omega
  unfold saycells
  (try simp (maxSteps:=999999) (disch:=(first|omega|(simp only [zz,Nat.reduceAdd,Nat.reduceLeDiff];done)|(simp only [zz];omega))) only [↓xa,xb,xl,xy,Int.reduceLT,Int.reduceLE,Int.reduceEq,Nat.reduceAdd,Nat.reduceMul,Nat.reduceLeDiff,setL,bfill,eqV,lookRes])
  have x1 : Ext h (h.push (.cells #[.int .i64 e.kind, .int .i64 e.frm, .int .i64 e.to, .int .u64 e.ballot, .int .i64 e.slot, e.votes.1, .int .i64 e.cmd.kind, .int .i64 e.cmd.chain, .int .u64 e.cmd.epoch, .int .i64 e.cmd.node])) := (by repeat' (first|with_reducible (first|exact u0 _|refine u1 ?_ _|refine u2 ?_ _ _ ?_)|exact .inl (by (first|omega|(simp only [zz,Nat.reduceAdd,Nat.reduceLeDiff];done)|(simp only [zz];omega)))|exact .inr rfl|exact .inr (by simp;done)))
  have hb1 : (h.push (.cells #[.int .i64 e.kind, .int .i64 e.frm, .int .i64 e.to, .int .u64 e.ballot, .int .i64 e.slot, e.votes.1, .int .i64 e.cmd.kind, .int .i64 e.cmd.chain, .int .u64 e.cmd.epoch, .int .i64 e.cmd.node]))[h.size]? = some (.cells #[.int .i64 e.kind, .int .i64 e.frm, .int .i64 e.to, .int .u64 e.ballot, .int .i64 e.slot, e.votes.1, .int .i64 e.cmd.kind, .int .i64 e.cmd.chain, .int .u64 e.cmd.epoch, .int .i64 e.cmd.node]) := g_push_eq rfl
  have l1 : (h.push (.cells #[.int .i64 e.kind, .int .i64 e.frm, .int .i64 e.to, .int .u64 e.ballot, .int .i64 e.slot, e.votes.1, .int .i64 e.cmd.kind, .int .i64 e.cmd.chain, .int .u64 e.cmd.epoch, .int .i64 e.cmd.node])).size = h.size + 1 := by simp
  generalize h.push (.cells #[.int .i64 e.kind, .int .i64 e.frm, .int .i64 e.to, .int .u64 e.ballot, .int .i64 e.slot, e.votes.1, .int .i64 e.cmd.kind, .int .i64 e.cmd.chain, .int .u64 e.cmd.epoch, .int .i64 e.cmd.node]) = h1 at *
  have T1 := T.ext x1
  have c1 := T1.xat hto
  have c2 := T1.aat hto
  have hB1 := x1.hB hB
  simp (maxSteps:=999999) (disch:=(first|omega|(simp only [zz,Nat.reduceAdd,Nat.reduceLeDiff];done)|(simp only [zz];omega))) only [↓xa,xb,xl,xy,Int.reduceLT,Int.reduceLE,Int.reduceEq,Nat.reduceAdd,Nat.reduceMul,Nat.reduceLeDiff,setL,bfill,eqV,lookRes, rdC_blk T1.tb, rdC_blk hb1, ↓T1.xl.idx, ↓T1.al.idx, c1, c2, l1, decide_eq_false (show ¬ e.kind = 1 by omega), decide_eq_true hk]
  have x12 : Ext h1 (Array.setIfInBounds (h1.push (.cells #[.int .i64 0, .int .i64 0, .int .i64 0, .int .u64 0, .int .i64 0, .slice none 0 0, .int .i64 0, .int .i64 0, .int .u64 0, .int .i64 0])) (h.size + 1) (.cells #[.int .i64 0, .int .i64 e.to, .int .i64 e.frm, .int .u64 e.ballot, .int .i64 e.slot, .slice none 0 0, .int .i64 0, .int .i64 0, .int .u64 0, .int .i64 0])) := (by repeat' (first|with_reducible (first|exact u0 _|refine u1 ?_ _|refine u2 ?_ _ _ ?_)|exact .inl (by (first|omega|(simp only [zz,Nat.reduceAdd,Nat.reduceLeDiff];done)|(simp only [zz];omega)))|exact .inr rfl|exact .inr (by simp;done)))
  have x2 : Ext h (Array.setIfInBounds (h1.push (.cells #[.int .i64 0, .int .i64 0, .int .i64 0, .int .u64 0, .int .i64 0, .slice none 0 0, .int .i64 0, .int .i64 0, .int .u64 0, .int .i64 0])) (h.size + 1) (.cells #[.int .i64 0, .int .i64 e.to, .int .i64 e.frm, .int .u64 e.ballot, .int .i64 e.slot, .slice none 0 0, .int .i64 0, .int .i64 0, .int .u64 0, .int .i64 0])) := x1.trans x12
  have l2 : (Array.setIfInBounds (h1.push (.cells #[.int .i64 0, .int .i64 0, .int .i64 0, .int .u64 0, .int .i64 0, .slice none 0 0, .int .i64 0, .int .i64 0, .int .u64 0, .int .i64 0])) (h.size + 1) (.cells #[.int .i64 0, .int .i64 e.to, .int .i64 e.frm, .int .u64 e.ballot, .int .i64 e.slot, .slice none 0 0, .int .i64 0, .int .i64 0, .int .u64 0, .int .i64 0])).size = h.size + 2 := by simp; omega
  generalize Array.setIfInBounds (h1.push (.cells #[.int .i64 0, .int .i64 0, .int .i64 0, .int .u64 0, .int .i64 0, .slice none 0 0, .int .i64 0, .int .i64 0, .int .u64 0, .int .i64 0])) (h.size + 1) (.cells #[.int .i64 0, .int .i64 e.to, .int .i64 e.frm, .int .u64 e.ballot, .int .i64 e.slot, .slice none 0 0, .int .i64 0, .int .i64 0, .int .u64 0, .int .i64 0]) = h2 at *
  have hb2 := x12.get hb1 id
  have T2 := T.ext x2
  have hB2 := x2.hB hB
  have L2 := T2.ld _ hto.1 hto.2
  have lo := I.ld _ hto.1 hto.2
  have hms := lo.ms
  have f0 : ow h.size = 0 := T.fresh _ (Nat.le_refl _)
  have nil0 : opMsgs n e.to [] = [] := rfl
  by_cases hok : ((S.L e.to).x.state = 1 ∧ (S.L e.to).x.ballot = e.ballot) ∧ 1 ≤ e.frm ∧ e.frm ≤ (S.L e.to).x.masters
  rotate_left
  · obtain ⟨cm, om, hpb⟩ := L2.blkX
    refine sp_lPromiseBad hB2 hpb e.ballot e.frm e.votes.1 hok ?_
    intro h3 x3
    (try simp (maxSteps:=999999) (disch:=(first|omega|(simp only [zz,Nat.reduceAdd,Nat.reduceLeDiff];done)|(simp only [zz];omega))) only [↓xa,xb,xl,xy,Int.reduceLT,Int.reduceLE,Int.reduceEq,Nat.reduceAdd,Nat.reduceMul,Nat.reduceLeDiff,setL,bfill,eqV,lookRes])
    have T3 := T2.ext x3
    refine sp_hearLoop (x3.hB hB2) T3 I.hn (x3.get hb2 id) f0 Sl.nil (fun b hb => (by cases hb)) (by simp) hls ?_
    intro h4 ow4 sv4 T4 u4 hm4
    rw [nil0, List.append_nil] at T4
    exact hK _ _ _ _ _ _ T4 I (Nat.le_add_right _ _) (Nat.le_add_right _ _) ((x2.trans x3).then u4 (fun r _ hr => hr)) (fun b hb => hm4 b (by have := x3.1; omega))
  obtain ⟨rc, ro, hr, hL, o1, o2, o3, hci, hcb⟩ := L2.started (by rw [hok.1.1]; decide)
  have hst := hok.1.1
  obtain ⟨q1, q2, q3, q4, q5⟩ := lo.one hst
  rw [q2] at hL
  have lp := lt_of_get hL.blk
  have lrc := lt_of_get hL.came
  have lro := lt_of_get hL.opn
  have hfr := lo.frm
  have nz : ∀ r, r = P e.to ∨ r = rc ∨ r = ro → ow r = tL e.to := fun r hr => by
    rcases hr with hr | hr | hr
    · rw [hr]; exact o1
    · rw [hr]; exact o2
    · rw [hr]; exact o3
  have tz : tL e.to ≠ 0 := by unfold tL; omega
  refine sp_lPromise hB2 hL (q1.trans hfr.symm) (hci hst) lo.co (fun a ha b hb => by have := hcb hst a ha b hb; exact ⟨this.1, this.2.1, this.2.2.1⟩) hok (T2.vt e he).1 em.votes ?_ ?_
  · intro h3 v' came' hen u3 hL3 hc3 hv3
    (try simp (maxSteps:=999999) (disch:=(first|omega|(simp only [zz,Nat.reduceAdd,Nat.reduceLeDiff];done)|(simp only [zz];omega))) only [↓xa,xb,xl,xy,Int.reduceLT,Int.reduceLE,Int.reduceEq,Nat.reduceAdd,Nat.reduceMul,Nat.reduceLeDiff,setL,bfill,eqV,lookRes])
    have T3 := T2.ldT (ow' := mark ow h2.size h3.size (tL e.to)) (l := ⟨(S.L e.to).x, came', []⟩) (r := some (rc, ro)) hto I.hn ⟨u3.mono (fun b _ hb => by change b = rc at hb; rw [hb]; exact o2), fun b hb => mark_old hb⟩ (fun b hb => by rw [mark_out hb]; exact T2.fresh b (Nat.le_trans u3.1 hb)) (fun b hb => by rw [mark_old (by have := T2.nh; omega)]; exact T2.low b hb)
      ⟨by rw [mark_old lp]; exact o1, hL3, by rw [mark_old lrc]; exact o2, by rw [mark_old lro]; exact o3, fun _ => hc3, fun _ a ha b hb => by
        rcases mem_cameP ha with ha | rfl
        · have := hcb hst a ha b hb
          exact ⟨this.1, this.2.1, this.2.2.1, u3.lt this.2.2.2.1, by rw [mark_old this.2.2.2.1]; exact this.2.2.2.2⟩
        · have := hv3 b hb
          exact ⟨by omega, by omega, by omega, this.2, mark_new this.1 this.2⟩⟩
    have I3 := I.promiseNo hto e he hk hst hok.1.2.symm v'
    have z3 := u3.1
    have f3 : mark ow h2.size h3.size (tL e.to) h.size = 0 := by rw [mark_old (by omega)]; exact f0
    have hb3 := u3.get hb2 (fun hr => by change _ = _ at hr; have := nz _ (.inr (.inl hr)); omega)
    refine sp_hearLoop (u3.hB hB2) T3 I.hn hb3 f3 Sl.nil (fun b hb => (by cases hb)) (by simp) hls ?_
    intro h4 ow4 sv4 T4 u4 hm4
    rw [nil0, List.append_nil] at T4
    refine hK _ _ _ _ _ _ T4 I3 (Nat.le_add_right _ _) (Nat.le_add_right _ _) ?_ (fun b hb => by rw [hm4 b (by omega)]; exact mark_old (by omega))
    refine (x2.then u3 (fun r _ hr => by change r = rc at hr; rw [nz _ (.inr (.inl hr))]; exact tz)).fresh u4 (fun b hb => ?_)
    by_cases hbh : b < h.size
    · right; rw [mark_old (by omega)] at hb; exact hb
    · left; omega
  · intro h3 v' w came' hen u3 hL3 hv3 hw
    (try simp (maxSteps:=999999) (disch:=(first|omega|(simp only [zz,Nat.reduceAdd,Nat.reduceLeDiff];done)|(simp only [zz];omega))) only [↓xa,xb,xl,xy,Int.reduceLT,Int.reduceLE,Int.reduceEq,Nat.reduceAdd,Nat.reduceMul,Nat.reduceLeDiff,setL,bfill,eqV,lookRes])
    have T3 := T2.ldT (ow' := ow) (l := ⟨promX (S.L e.to).x came', came', promO (S.L e.to).x came'⟩) (r := some (rc, ro)) hto I.hn ⟨u3.mono (fun b _ hb => nz b hb), fun b hb => rfl⟩ (fun b hb => T2.fresh b (Nat.le_trans u3.1 hb)) T2.low
      ⟨o1, hL3, o2, o3, fun h => absurd h (by show ¬ (2 : Int) = 1; decide), fun h => absurd h (by show ¬ (2 : Int) = 1; decide)⟩
    have hco : CameOk (S.L e.to).x came' := lo.co.put (by rw [hms]; exact em.frm) (fun v hv => by
      have := (List.mem_filter.1 hv).2
      simp [badSlot] at this
      omega) (Nat.le_trans (List.length_filter_le ..) em.votes)
    have hl512 := openL_le hco
    have z3 := u3.1
    have hb3 := u3.get hb2 (fun hr => by have := nz _ hr; omega)
    have htw : Tg h3 ow 0 w := fun b hb => ⟨T2.fresh b (hw.ge hb), hw.blk_lt hb⟩
    refine sp_hearLoop (u3.hB hB2) T3 I.hn hb3 f0 hw.sl htw hl512 hls ?_
    intro h4 ow4 sv4 T4 u4 hm4
    have I4 := I.promiseYes hto e he hk hst hok.1.2.symm v' (by rw [hms] at hen; exact hen) (opMsgs n e.to (openL (promX (S.L e.to).x came') (promO (S.L e.to).x came'))) ?_ ?_
    · refine hK _ _ _ _ _ _ T4 I4 ?_ (Nat.le_add_right _ _) ((x2.then u3 (fun r _ hr => by rw [nz r hr]; exact tz)).fresh u4 (fun b hb => .inr hb)) (fun b hb => hm4 b (by omega))
      have := opMsgs_len (to := e.to) hn5.2 (openL (promX (S.L e.to).x came') (promO (S.L e.to).x came'))
      show (S.said ++ _).length ≤ _
      rw [List.length_append]
      omega
    · intro m hm
      obtain ⟨v, hv, hm⟩ := List.mem_flatMap.1 hm
      obtain ⟨i, hi, rfl⟩ := List.mem_map.1 hm
      have hvb : v.ballot = (S.L e.to).x.ballot := openL_bal hv
      exact ⟨rfl, hvb, ⟨.inr (.inr (.inl rfl)), hto, rng_mem.1 hi, by show u64ok v.ballot; rw [hvb]; exact lo.bal, by simp, fun h => by rcases h with h | h <;> simp at h, fun h => by simp at h⟩, v, hv, rfl, rfl⟩
    · intro v hv
      exact ⟨_, List.mem_flatMap.2 ⟨v, hv, List.mem_map.2 ⟨1, rng_mem.2 ⟨Int.le_refl _, hn5.1⟩, rfl⟩⟩, rfl, rfl⟩
end
end Go.Proofs.Ytdolepapmpcpiaa

namespace Go.Proofs.Ytdolepapmpcpiaa
open Go Go.RowKit Go.Maps Go.Shelf
set_option linter.unusedSectionVars false
variable [Base]
set_option linter.unusedVariables false
set_option linter.unusedSimpArgs false
set_option maxRecDepth 10000
def ld0 (n i : Int) : LS := ⟨i, n, 0, 0, 0, 0⟩
structure Bld (h : Hp) (ow : Nat → Nat) (N t : Nat) (n nx na : Int) (xv av : Value) (P : Int → Nat) (Q : Int → Nat × Nat) : Prop where
  tb : h[t]? = some (.cells #[xv, av, .slice none 0 0, .slice none 0 0, .bool true])
  tt : ow t = 1
  nt : N ≤ t
  xo : Own h N 1 pcell xv ((rng nx).map P)
  xt : Tg h ow 6 xv
  ao : Own h N 1 pcell av ((rng na).map fun j => (Q j).1)
  alt : Tg h ow 7 av
  ld : ∀ j, 1 ≤ j → j ≤ nx → ow (P j) = tL j ∧ h[P j]? = some (.cells (lcells (ld0 n j) none none))
  ac : ∀ j, 1 ≤ j → j ≤ na → AcAt h ow j (Q j) ⟨0, []⟩
  fresh : ∀ b, h.size ≤ b → ow b = 0
  low : ∀ b, b < N → ow b = 0
  nh : N ≤ h.size
section
variable {h h' : Hp} {ow ow' : Nat → Nat} {N t k : Nat} {n nx na j : Int} {xv av sv cv v : Value} {P : Int → Nat} {Q : Int → Nat × Nat} {S : PS}
theorem rng_upd {α : Type} (f : Int → α) (x : α) (hn : 0 ≤ nx) : (rng (nx + 1)).map (upd f (nx + 1) x) = (rng nx).map f ++ [x] := by
  rw [rng_succ (by omega), List.map_append, show nx + 1 - 1 = nx by omega, List.map_singleton, upd_self]
  congr 1
  refine List.map_congr_left fun k hk => upd_ne _ _ ?_
  have := (rng_mem.1 hk).2
  omega
theorem rng_map_upd {α β : Type} (f : Int → α) (g : α → β) (x : α) (hn : 0 ≤ nx) : (rng (nx + 1)).map (fun j => g (upd f (nx + 1) x j)) = (rng nx).map (fun j => g (f j)) ++ [g x] := by
  rw [← rng_upd (fun j => g (f j)) (g x) hn]
  refine List.map_congr_left fun k hk => ?_
  by_cases e : k = nx + 1
  · rw [e, upd_self, upd_self]
  · rw [upd_ne _ _ e, upd_ne _ _ e]
theorem tL_ne (j : Int) : tL j ≠ 6 ∧ tL j ≠ 7 ∧ tL j ≠ 1 ∧ tL j ≠ 0 := by unfold tL; omega
theorem tA_ne (j : Int) : tA j ≠ 6 ∧ tA j ≠ 7 ∧ tA j ≠ 1 ∧ tA j ≠ 0 := by unfold tA; omega
theorem Bld.addX (X : Bld h ow N t n nx na xv av P Q) (hB : Base.b ≤ h.size) (hn : 0 ≤ nx ∧ nx ≤ 5) {h1 : Hp} (x1 : Ext h h1) (hL : h1[h.size]? = some (.cells (lcells (ld0 n (nx + 1)) none none))) {z c : Array Value} (hz : z.size = 1) (hc : c.toList = pcell h.size) {K : Kont}
    (hK : ∀ v' h' ow', h'[t]? = some (.cells #[xv, av, .slice none 0 0, .slice none 0 0, .bool true]) → one v' = true → Bld (h'.setIfInBounds t (.cells #[v', av, .slice none 0 0, .slice none 0 0, .bool true])) ow' N t n (nx + 1) na v' av (upd P (nx + 1) h.size) Q → Upd (fun b => N ≤ b) h h' → K v' h') :
    oAppend 1 8 z xv (.slice (some ⟨h1.size, 0, none⟩) 1 1) (h1.push (.cells c)) K := by
  have z1 := x1.1
  have hl : ((rng nx).map P).length = nx.toNat := by rw [List.length_map, rng_len]
  refine Own.pushP (X.xo.ext x1) pcell_len h.size (fun b _ => pcell_one b) hc (x1.hB hB) hz (Nat.le_trans X.nh z1) (by rw [hl]; omega) ?_
  intro v' h' o u hb
  have lt := lt_of_get X.tb
  have z2 := u.1
  have lL := lt_of_get hL
  have u6 : Upd (fun b => ow b = 6) h h' := x1.then u (fun b _ e => (X.xt b e).1)
  have kt : h'[t]? = some (.cells #[xv, av, .slice none 0 0, .slice none 0 0, .bool true]) := u6.get X.tb (by rw [X.tt]; decide)
  have lt' := lt_of_get kt
  have y6 : Kp 6 h h' ow (mark (mark ow h.size h1.size (tL (nx + 1))) h1.size h'.size 6) := ⟨u6, fun b hb => by rw [mark_old (by omega), mark_old hb]⟩
  have y1 : Kp 1 h' (h'.setIfInBounds t (.cells #[v', av, .slice none 0 0, .slice none 0 0, .bool true])) (mark (mark ow h.size h1.size (tL (nx + 1))) h1.size h'.size 6) (mark (mark ow h.size h1.size (tL (nx + 1))) h1.size h'.size 6) :=
    ⟨Upd.set (Upd.refl _) _ _ (.inr (by show mark _ _ _ _ t = 1; rw [y6.m t lt]; exact X.tt)), fun _ _ => rfl⟩
  have tv' : Tg h' (mark (mark ow h.size h1.size (tL (nx + 1))) h1.size h'.size 6) 6 v' := fun b hb' => by
    have l := o.blk_lt hb'
    rcases hb b hb' with h | h
    · have := X.xt b h
      exact ⟨by rw [y6.m b this.2]; exact this.1, l⟩
    · exact ⟨mark_new h l, l⟩
  have hLh : h'[h.size]? = some (.cells (lcells (ld0 n (nx + 1)) none none)) := u.get hL (fun e => by have := (X.xt _ e).2; omega)
  refine hK v' h' (mark (mark ow h.size h1.size (tL (nx + 1))) h1.size h'.size 6) kt (own_one o) ⟨g_set_eq lt' rfl, by rw [y6.m t lt]; exact X.tt, X.nt, ?_, y1.tg tv', y1.own (y6.own X.ao X.alt (by decide)) (y6.tg X.alt) (by decide), y1.tg (y6.tg X.alt), fun j j1 j2 => ?_, fun j j1 j2 => ((X.ac j j1 j2).keep y6 (tA_ne j).1).keep y1 (tA_ne j).2.2.1, fun b hb' => ?_, fun b hb' => ?_, by have := X.nh; simp; omega⟩ (u6.mono fun b _ e => by
      by_cases hb : N ≤ b
      · exact hb
      · have := X.low b (by omega); change ow b = 6 at e; omega)
  · rw [rng_upd P h.size hn.1]
    exact y1.own o tv' (by decide)
  · by_cases e : j = nx + 1
    · subst e
      rw [upd_self]
      have mk : mark (mark ow h.size h1.size (tL (nx + 1))) h1.size h'.size 6 h.size = tL (nx + 1) := by rw [mark_old lL, mark_new (Nat.le_refl _) lL]
      exact ⟨mk, y1.get hLh mk (tL_ne _).2.2.1⟩
    · rw [upd_ne _ _ e]
      obtain ⟨k1, k2⟩ := X.ld j j1 (by omega)
      have lp := lt_of_get k2
      exact ⟨by rw [y6.m _ lp]; exact k1, y1.get (y6.get k2 k1 (tL_ne _).1) (by rw [y6.m _ lp]; exact k1) (tL_ne _).2.2.1⟩
  · simp only [Array.size_setIfInBounds] at hb'
    rw [mark_out hb', mark_out (by omega)]
    exact X.fresh b (by omega)
  · have := X.nh
    rw [mark_old (by omega), mark_old (by omega)]
    exact X.low b hb'
theorem Bld.addA (X : Bld h ow N t n nx na xv av P Q) (hB : Base.b ≤ h.size) (hn : 0 ≤ na ∧ na ≤ 5) {h1 : Hp} (x1 : Ext h h1) (hL : Acc h1 (h.size + 1) h.size 0 []) {z c : Array Value} (hz : z.size = 1) (hc : c.toList = pcell (h.size + 1)) {K : Kont}
    (hK : ∀ v' h' ow', h'[t]? = some (.cells #[xv, av, .slice none 0 0, .slice none 0 0, .bool true]) → one v' = true → Bld (h'.setIfInBounds t (.cells #[xv, v', .slice none 0 0, .slice none 0 0, .bool true])) ow' N t n nx (na + 1) xv v' P (upd Q (na + 1) (h.size + 1, h.size)) → Upd (fun b => N ≤ b) h h' → K v' h') :
    oAppend 1 8 z av (.slice (some ⟨h1.size, 0, none⟩) 1 1) (h1.push (.cells c)) K := by
  have z1 := x1.1
  have hl : ((rng na).map fun j => (Q j).1).length = na.toNat := by rw [List.length_map, rng_len]
  refine Own.pushP (X.ao.ext x1) pcell_len (h.size + 1) (fun b _ => pcell_one b) hc (x1.hB hB) hz (Nat.le_trans X.nh z1) (by rw [hl]; omega) ?_
  intro v' h' o u hb
  have lt := lt_of_get X.tb
  have z2 := u.1
  have lL := lt_of_get hL.blk
  have u6 : Upd (fun b => ow b = 7) h h' := x1.then u (fun b _ e => (X.alt b e).1)
  have kt : h'[t]? = some (.cells #[xv, av, .slice none 0 0, .slice none 0 0, .bool true]) := u6.get X.tb (by rw [X.tt]; decide)
  have lt' := lt_of_get kt
  have y6 : Kp 7 h h' ow (mark (mark ow h.size h1.size (tA (na + 1))) h1.size h'.size 7) := ⟨u6, fun b hb => by rw [mark_old (by omega), mark_old hb]⟩
  have y1 : Kp 1 h' (h'.setIfInBounds t (.cells #[xv, v', .slice none 0 0, .slice none 0 0, .bool true])) (mark (mark ow h.size h1.size (tA (na + 1))) h1.size h'.size 7) (mark (mark ow h.size h1.size (tA (na + 1))) h1.size h'.size 7) :=
    ⟨Upd.set (Upd.refl _) _ _ (.inr (by show mark _ _ _ _ t = 1; rw [y6.m t lt]; exact X.tt)), fun _ _ => rfl⟩
  have tv' : Tg h' (mark (mark ow h.size h1.size (tA (na + 1))) h1.size h'.size 7) 7 v' := fun b hb' => by
    have l := o.blk_lt hb'
    rcases hb b hb' with h | h
    · have := X.alt b h
      exact ⟨by rw [y6.m b this.2]; exact this.1, l⟩
    · exact ⟨mark_new h l, l⟩
  have hL1 : h'[h.size + 1]? = some (.cells #[.int .u64 0, .map (some h.size)]) := u.get hL.blk (fun e => by have := (X.alt _ e).2; omega)
  have hL2 : h'[h.size]? = some (.map (encM voteV ([] : List (Int × Vote)))) := u.get hL.map (fun e => by have := (X.alt _ e).2; omega)
  refine hK v' h' (mark (mark ow h.size h1.size (tA (na + 1))) h1.size h'.size 7) kt (own_one o) ⟨g_set_eq lt' rfl, by rw [y6.m t lt]; exact X.tt, X.nt, y1.own (y6.own X.xo X.xt (by decide)) (y6.tg X.xt) (by decide), y1.tg (y6.tg X.xt), ?_, y1.tg tv', fun j j1 j2 => ?_, fun j j1 j2 => ?_, fun b hb' => ?_, fun b hb' => ?_, by have := X.nh; simp; omega⟩ (u6.mono fun b _ e => by
      by_cases hb : N ≤ b
      · exact hb
      · have := X.low b (by omega); change ow b = 7 at e; omega)
  · rw [rng_map_upd Q (fun q => q.1) (h.size + 1, h.size) hn.1]
    exact y1.own o tv' (by decide)
  · obtain ⟨k1, k2⟩ := X.ld j j1 j2
    have lp := lt_of_get k2
    exact ⟨by rw [y6.m _ lp]; exact k1, y1.get (y6.get k2 k1 (tL_ne _).2.1) (by rw [y6.m _ lp]; exact k1) (tL_ne _).2.2.1⟩
  · by_cases e : j = na + 1
    · subst e
      rw [upd_self]
      have m1 : mark (mark ow h.size h1.size (tA (na + 1))) h1.size h'.size 7 (h.size + 1) = tA (na + 1) := by rw [mark_old lL, mark_new (by omega) lL]
      have m2 : mark (mark ow h.size h1.size (tA (na + 1))) h1.size h'.size 7 h.size = tA (na + 1) := by rw [mark_old (by omega), mark_new (by omega) (by omega)]
      exact ⟨⟨y1.get hL1 m1 (tA_ne _).2.2.1, y1.get hL2 m2 (tA_ne _).2.2.1⟩, m1, m2⟩
    · rw [upd_ne _ _ e]
      exact ((X.ac j j1 (by omega)).keep y6 (tA_ne j).2.1).keep y1 (tA_ne j).2.2.1
  · simp only [Array.size_setIfInBounds] at hb'
    rw [mark_out hb', mark_out (by omega)]
    exact X.fresh b (by omega)
  · have := X.nh
    rw [mark_old (by omega), mark_old (by omega)]
    exact X.low b hb'
def PS0 (n : Int) : PS := ⟨fun j => ⟨ld0 n j, [], []⟩, fun _ => ⟨0, []⟩, [], []⟩
theorem Bld.talk (X : Bld h ow N t n n n xv av P Q) : TalkOk h (fun b => if ow b = 6 ∨ ow b = 7 then 2 else ow b) N t n xv av (.slice none 0 0) (.slice none 0 0) P (fun _ => none) Q (PS0 n) := by
  have keep : ∀ b k, ow b = k → k ≠ 6 → k ≠ 7 → (fun b => if ow b = 6 ∨ ow b = 7 then 2 else ow b) b = k := fun b k e h1 h2 => by
    show (if ow b = 6 ∨ ow b = 7 then 2 else ow b) = k
    rw [if_neg (by omega)]; exact e
  refine ⟨X.tb, keep _ _ X.tt (by decide) (by decide), X.xo.sl, fun b hb => ⟨if_pos (.inl (X.xt b hb).1), (X.xt b hb).2⟩, X.ao.sl, fun b hb => ⟨if_pos (.inr (X.alt b hb).1), (X.alt b hb).2⟩, Own.nil, fun b hb => (by cases hb), Own.nil, fun b hb => (by cases hb), fun e he => (by cases he), fun j j1 j2 => ?_, fun j j1 j2 => ?_, fun b hb => keep _ _ (X.fresh b hb) (by decide) (by decide), fun b hb => keep _ _ (X.low b hb) (by decide) (by decide), X.nh⟩
  · obtain ⟨k1, k2⟩ := X.ld j j1 j2
    exact ⟨keep _ _ k1 (tL_ne _).1 (tL_ne _).2.1, k2, rfl, rfl, rfl⟩
  · obtain ⟨k1, k2, k3⟩ := X.ac j j1 j2
    exact ⟨k1, keep _ _ k2 (tA_ne _).1 (tA_ne _).2.1, keep _ _ k3 (tA_ne _).1 (tA_ne _).2.1⟩
set_option maxHeartbeats 4000000 in
theorem sp_build (hB : Base.b ≤ h.size) (X : Bld h ow N t n 0 0 (.slice none 0 0) (.slice none 0 0) P Q) (hn : isM n) {a : Value} {d : Nat → Value} {K : Kont}
    (hK : ∀ h' d' ow' xv av P Q, TalkOk h' ow' N t n xv av (.slice none 0 0) (.slice none 0 0) P (fun _ => none) Q (PS0 n) → Upd (fun b => N ≤ b) h h' → G_q124_3 K (.int .i64 n) a (pt t 0) (.int .i64 0) d' h') :
    G_q124_1 K (.int .i64 n) a (pt t 0) (.int .i64 1) d h := by
  have hn5 : 1 ≤ n ∧ n ≤ 5 := by unfold isM at hn; omega
  refine rule_q124_1 (fun v6 H => ∃ (i : Nat) (ow' : Nat → Nat) (xv av : Value) (P : Int → Nat) (Q : Int → Nat × Nat), v6 = .int .i64 ((i : Int) + 1) ∧ (i : Int) ≤ n ∧ Bld H ow' N t n i i xv av P Q ∧ Upd (fun b => N ≤ b) h H) (fun v6 H => n.toNat + 1 - ival v6) ?_ _ _ _
    ⟨0, ow, _, _, P, Q, rfl, by omega, X, Upd.refl _⟩
  clear X
  rintro self v6 d H ⟨i, ow', xv, av, P, Q, rfl, hi, X, u⟩ hself
  unfold B_q124_1
  have hBH := u.hB hB
  by_cases hle : (i : Int) + 1 ≤ n
  rotate_left
  · simp (maxSteps:=999999) (disch:=(first|omega|(simp only [zz,Nat.reduceAdd,Nat.reduceLeDiff];done)|(simp only [zz];omega))) only [↓xa,xb,xl,xy,Int.reduceLT,Int.reduceLE,Int.reduceEq,Nat.reduceAdd,Nat.reduceMul,Nat.reduceLeDiff,setL,bfill,eqV,lookRes, decide_eq_false hle]
    have : (i : Int) = n := by omega
    rw [this] at X
    exact hK _ _ _ _ _ _ _ X.talk u
  simp (maxSteps:=999999) (disch:=(first|omega|(simp only [zz,Nat.reduceAdd,Nat.reduceLeDiff];done)|(simp only [zz];omega))) only [↓xa,xb,xl,xy,Int.reduceLT,Int.reduceLE,Int.reduceEq,Nat.reduceAdd,Nat.reduceMul,Nat.reduceLeDiff,setL,bfill,eqV,lookRes, decide_eq_true hle]
  refine sp_lNew hBH _ _ (fun hb => absurd (by omega) hb) (fun _ => ?_)
  have x1 : Ext H (H.push (.cells (lcells ⟨(i : Int) + 1, n, 0, 0, 0, 0⟩ none none))) := (by repeat' (first|with_reducible (first|exact u0 _|refine u1 ?_ _|refine u2 ?_ _ _ ?_)|exact .inl (by (first|omega|(simp only [zz,Nat.reduceAdd,Nat.reduceLeDiff];done)|(simp only [zz];omega)))|exact .inr rfl|exact .inr (by simp;done)))
  have hb1 : (H.push (.cells (lcells ⟨(i : Int) + 1, n, 0, 0, 0, 0⟩ none none)))[H.size]? = some (.cells (lcells ⟨(i : Int) + 1, n, 0, 0, 0, 0⟩ none none)) := g_push_eq rfl
  generalize H.push (.cells (lcells ⟨(i : Int) + 1, n, 0, 0, 0, 0⟩ none none)) = H1 at *
  have hB1 := x1.hB hBH
  have kt1 := x1.get X.tb id
  have lt1 := lt_of_get kt1
  simp (maxSteps:=999999) (disch:=(first|omega|(simp only [zz,Nat.reduceAdd,Nat.reduceLeDiff];done)|(simp only [zz];omega))) only [↓xa,xb,xl,xy,Int.reduceLT,Int.reduceLE,Int.reduceEq,Nat.reduceAdd,Nat.reduceMul,Nat.reduceLeDiff,setL,bfill,eqV,lookRes, rdC_blk kt1, eq_self]
  refine X.addX hBH ⟨by omega, by omega⟩ x1 hb1 ?_ ?_ ?_
  · rfl
  · rfl
  intro v' H2 ow2 kt2 hv1 X2 u2
  have lt2 := lt_of_get kt2
  have hvc := one_cells hv1
  have uu2 : Upd (fun b => N ≤ b) h (H2.setIfInBounds t (.cells #[v', av, .slice none 0 0, .slice none 0 0, .bool true])) := Upd.set (u.trans u2) _ _ (.inr X.nt)
  simp (maxSteps:=999999) (disch:=(first|omega|(simp only [zz,Nat.reduceAdd,Nat.reduceLeDiff];done)|(simp only [zz];omega))) only [↓xa,xb,xl,xy,Int.reduceLT,Int.reduceLE,Int.reduceEq,Nat.reduceAdd,Nat.reduceMul,Nat.reduceLeDiff,setL,bfill,eqV,lookRes, rdC_blk kt2, b_blk kt2, hv1, hvc, eq_self]
  generalize H2.setIfInBounds t (.cells #[v', av, .slice none 0 0, .slice none 0 0, .bool true]) = H3 at *
  have hB3 := uu2.hB hB
  have kt3 := X2.tb
  refine sp_New hB3 ?_
  intro H4 hA4 x4
  have kt4 := x4.get kt3 id
  have hB4 := x4.hB hB3
  have lt4 := lt_of_get kt4
  simp (maxSteps:=999999) (disch:=(first|omega|(simp only [zz,Nat.reduceAdd,Nat.reduceLeDiff];done)|(simp only [zz];omega))) only [↓xa,xb,xl,xy,Int.reduceLT,Int.reduceLE,Int.reduceEq,Nat.reduceAdd,Nat.reduceMul,Nat.reduceLeDiff,setL,bfill,eqV,lookRes, rdC_blk kt3, rdC_blk kt4, eq_self]
  refine X2.addA hB3 ⟨by omega, by omega⟩ x4 hA4 ?_ ?_ ?_
  · rfl
  · rfl
  intro w' H5 ow5 kt5 hw1 X5 u5
  have lt5 := lt_of_get kt5
  have hwc := one_cells hw1
  have uu5 : Upd (fun b => N ≤ b) h (H5.setIfInBounds t (.cells #[v', w', .slice none 0 0, .slice none 0 0, .bool true])) := Upd.set (uu2.trans u5) _ _ (.inr X.nt)
  simp (maxSteps:=999999) (disch:=(first|omega|(simp only [zz,Nat.reduceAdd,Nat.reduceLeDiff];done)|(simp only [zz];omega))) only [↓xa,xb,xl,xy,Int.reduceLT,Int.reduceLE,Int.reduceEq,Nat.reduceAdd,Nat.reduceMul,Nat.reduceLeDiff,setL,bfill,eqV,lookRes, rdC_blk kt5, b_blk kt5, hw1, hwc, eq_self]
  rw [req_q124_2]
  unfold R_q124_2
  (try simp (maxSteps:=999999) (disch:=(first|omega|(simp only [zz,Nat.reduceAdd,Nat.reduceLeDiff];done)|(simp only [zz];omega))) only [↓xa,xb,xl,xy,Int.reduceLT,Int.reduceLE,Int.reduceEq,Nat.reduceAdd,Nat.reduceMul,Nat.reduceLeDiff,setL,bfill,eqV,lookRes])
  exact hself _ _ _ ⟨i + 1, ow5, v', w', _, _, rfl, by omega, X5, uu5⟩ (by simp only [ival]; omega)
end
end Go.Proofs.Ytdolepapmpcpiaa

