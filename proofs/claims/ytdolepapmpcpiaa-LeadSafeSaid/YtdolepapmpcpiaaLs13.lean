/- However leaders and acceptors talk, whatever is lost, comes twice or late: LeadSafe returns true for every number of masters and every list of picks, without any condition. -/
import Derived.Test.YtdolepapmpcpiaaLs0
import Derived.Test.YtdolepapmpcpiaaLs1
import Derived.Test.YtdolepapmpcpiaaLs2
import Derived.Test.YtdolepapmpcpiaaLs3
import Derived.Test.YtdolepapmpcpiaaLs4
import Derived.Test.YtdolepapmpcpiaaLs5
import Derived.Test.YtdolepapmpcpiaaLs6
import Derived.Test.YtdolepapmpcpiaaLs7
import Derived.Test.YtdolepapmpcpiaaLs8
import Derived.Test.YtdolepapmpcpiaaLs9
import Derived.Test.YtdolepapmpcpiaaLs10
import Derived.Test.YtdolepapmpcpiaaLs11
import Derived.Test.YtdolepapmpcpiaaLs12
import Derived.Test.YtdolepapmpcpiaaRows
namespace Go.Proofs.Ytdolepapmpcpiaa
open Go Go.RowKit Go.Maps Go.Shelf
set_option linter.unusedSectionVars false
variable [Base]
set_option linter.unusedVariables false
set_option linter.unusedSimpArgs false
set_option maxRecDepth 10000
structure Pk where
  kind : Int
  i : Int
  late : Bool
  b : Int
  cmd : Cmd
instance : Inhabited Pk := ⟨⟨0, 0, false, 0, cmd0⟩⟩
def pkcells (p : Pk) : List Value := [.int .i64 p.kind, .int .i64 p.i, .bool p.late, .int .u64 p.b, .int .i64 p.cmd.kind, .int .i64 p.cmd.chain, .int .u64 p.cmd.epoch, .int .i64 p.cmd.node]
theorem pkcells_len (p : Pk) : (pkcells p).length = 8 := rfl
section
variable {h h' : Hp} {ow ow' : Nat → Nat} {N t k : Nat} {n j : Int} {xv av sv cv v : Value} {P : Int → Nat} {R : Int → Option (Nat × Nat)} {Q : Int → Nat × Nat} {S : PS}
theorem sp_hear (hB : Base.b ≤ h.size) (T : TalkOk h ow N t n xv av sv cv P R Q S) (I : Inv n S) (e : Say) (he : e ∈ S.said) (hls : S.said.length ≤ 40000) (hlc : S.chosen.length ≤ 40000) {K : Kont}
    (hK : Stp h ow N t n xv av P Q S (K (.tuple #[]))) :
    C_q109 [pt t 0, .agg (saycells e).toArray] h K := by
  rcases (I.msg e he).kind with hk | hk | hk | hk
  · exact sp_hear1 hB T I e he hls hlc hk hK
  · exact sp_hear2 hB T I e he hls hlc hk hK
  · exact sp_hear3 hB T I e he hls hlc hk hK
  · exact sp_hear4 hB T I e he hls hlc hk hK
theorem Inv0 {n : Int} (hn : isM n) : Inv n (PS0 n) := by
  have hn5 : 1 ≤ n ∧ n ≤ 5 := by unfold isM at hn; omega
  have ha : ∀ k b s, ¬ accd (PS0 n) k b s := fun k b s ⟨e, he, _⟩ => by cases he
  have hp : ∀ b s c, ¬ prpd (PS0 n) b s c := fun b s c ⟨e, he, _⟩ => by cases he
  refine ⟨hn, fun k b s h => absurd h (ha k b s), fun k s v h => (by cases h), fun k => ⟨List.nodup_nil, by simp [PS0], fun k v h => (by cases h), Int.le_refl _, fun s v h => (by cases h)⟩, fun e he => (by cases he), fun b s c c' h => absurd h (hp b s c), fun b s c h => absurd h (hp b s c), fun b s c h => absurd h (hp b s c), fun j j1 j2 => ?_, fun v hv => (by cases hv), fun e he => (by cases he)⟩
  exact ⟨rfl, rfl, show u64ok 0 by decide, .inl rfl, rfl, ⟨Int.le_refl _, show (0 : Int) ≤ 512 by decide⟩, CameOk.nil hn5 ⟨Int.le_refl _, show (0 : Int) ≤ 512 by decide⟩, .inl rfl, ⟨List.nodup_nil, by simp [PS0]⟩, fun h => absurd h (by show ¬ (0 : Int) = 1; decide), fun h => absurd h (by show ¬ (0 : Int) = 2; decide), fun s p h => (by cases h), fun _ => rfl⟩
set_option maxHeartbeats 8000000 in
theorem sp_LeadSafe (hB : Base.b ≤ h.size) (m : Int) {a : Value} {l : List Pk} (hS : Sl h 8 pkcells a l) (hok : ∀ p ∈ l, u64ok p.b ∧ i64ok p.i) {K : Kont} (hK : ∀ h', Ext h h' → K (.bool true) h') :
    C_q124 [.int .i64 m, a] h K := by
  refine ok_q124 ?_
  unfold G_q124
  have awk : ∀ (h2 : Hp), Ext h h2 → ∀ {K2 : Kont}, (∀ h3, Ext h h3 → K2 (.bool true) h3) → C_q162 [] h2 K2 := fun h2 x2 K2 hk => sp_lawake (x2.hB hB) fun h3 x3 => hk h3 (x2.trans x3)
  by_cases h1 : m < 1
  · simp (maxSteps:=999999) (disch:=(first|omega|(simp only [zz,Nat.reduceAdd,Nat.reduceLeDiff];done)|(simp only [zz];omega))) only [↓xa,xb,xl,xy,Int.reduceLT,Int.reduceLE,Int.reduceEq,Nat.reduceAdd,Nat.reduceMul,Nat.reduceLeDiff,setL,bfill,eqV,lookRes, decide_eq_true h1]
    refine awk _ (Upd.refl _) fun h3 x3 => ?_
    (try simp (maxSteps:=999999) (disch:=(first|omega|(simp only [zz,Nat.reduceAdd,Nat.reduceLeDiff];done)|(simp only [zz];omega))) only [↓xa,xb,xl,xy,Int.reduceLT,Int.reduceLE,Int.reduceEq,Nat.reduceAdd,Nat.reduceMul,Nat.reduceLeDiff,setL,bfill,eqV,lookRes])
    exact hK _ x3
  by_cases h2 : 5 < m
  · simp (maxSteps:=999999) (disch:=(first|omega|(simp only [zz,Nat.reduceAdd,Nat.reduceLeDiff];done)|(simp only [zz];omega))) only [↓xa,xb,xl,xy,Int.reduceLT,Int.reduceLE,Int.reduceEq,Nat.reduceAdd,Nat.reduceMul,Nat.reduceLeDiff,setL,bfill,eqV,lookRes, decide_eq_false h1, decide_eq_true h2]
    refine awk _ (Upd.refl _) fun h3 x3 => ?_
    (try simp (maxSteps:=999999) (disch:=(first|omega|(simp only [zz,Nat.reduceAdd,Nat.reduceLeDiff];done)|(simp only [zz];omega))) only [↓xa,xb,xl,xy,Int.reduceLT,Int.reduceLE,Int.reduceEq,Nat.reduceAdd,Nat.reduceMul,Nat.reduceLeDiff,setL,bfill,eqV,lookRes])
    exact hK _ x3
  by_cases h3 : (300 : Int) < (l.length : Int)
  · simp (maxSteps:=999999) (disch:=(first|omega|(simp only [zz,Nat.reduceAdd,Nat.reduceLeDiff];done)|(simp only [zz];omega))) only [↓xa,xb,xl,xy,Int.reduceLT,Int.reduceLE,Int.reduceEq,Nat.reduceAdd,Nat.reduceMul,Nat.reduceLeDiff,setL,bfill,eqV,lookRes, decide_eq_false h1, decide_eq_false h2, ↓hS.len', decide_eq_true h3]
    refine awk _ (Upd.refl _) fun h3 x3 => ?_
    (try simp (maxSteps:=999999) (disch:=(first|omega|(simp only [zz,Nat.reduceAdd,Nat.reduceLeDiff];done)|(simp only [zz];omega))) only [↓xa,xb,xl,xy,Int.reduceLT,Int.reduceLE,Int.reduceEq,Nat.reduceAdd,Nat.reduceMul,Nat.reduceLeDiff,setL,bfill,eqV,lookRes])
    exact hK _ x3
  simp (maxSteps:=999999) (disch:=(first|omega|(simp only [zz,Nat.reduceAdd,Nat.reduceLeDiff];done)|(simp only [zz];omega))) only [↓xa,xb,xl,xy,Int.reduceLT,Int.reduceLE,Int.reduceEq,Nat.reduceAdd,Nat.reduceMul,Nat.reduceLeDiff,setL,bfill,eqV,lookRes, decide_eq_false h1, decide_eq_false h2, ↓hS.len', decide_eq_false h3]
  have hn : isM m := isM_of (by omega) (by omega)
  have x1 : Ext h (h.push (.cells #[.slice none 0 0, .slice none 0 0, .slice none 0 0, .slice none 0 0, .bool true])) := (by repeat' (first|with_reducible (first|exact u0 _|refine u1 ?_ _|refine u2 ?_ _ _ ?_)|exact .inl (by (first|omega|(simp only [zz,Nat.reduceAdd,Nat.reduceLeDiff];done)|(simp only [zz];omega)))|exact .inr rfl|exact .inr (by simp;done)))
  have X0 : Bld (h.push (.cells #[.slice none 0 0, .slice none 0 0, .slice none 0 0, .slice none 0 0, .bool true])) (fun b => if b = h.size then 1 else 0) h.size h.size m 0 0 (.slice none 0 0) (.slice none 0 0) (fun _ => 0) (fun _ => (0, 0)) :=
    ⟨g_push_eq rfl, if_pos rfl, Nat.le_refl _, Own.nil, fun b hb => (by cases hb), Own.nil, fun b hb => (by cases hb), fun j j1 j2 => by omega, fun j j1 j2 => by omega, fun b hb => if_neg (by simp at hb; omega), fun b hb => if_neg (by omega), by simp⟩
  refine sp_build (x1.hB hB) X0 hn ?_
  intro h2 d2 ow2 xv av P Q T2 u2
  have y2 : Ext h h2 := x1.fresh u2 (fun b hb => .inl hb)
  generalize h.push (.cells #[.slice none 0 0, .slice none 0 0, .slice none 0 0, .slice none 0 0, .bool true]) = hh at *
  refine rule_q124_3 (fun v9 H => ∃ (i : Nat) (ow : Nat → Nat) (sv cv : Value) (R : Int → Option (Nat × Nat)) (S : PS), v9 = .int .i64 i ∧ i ≤ l.length ∧ TalkOk H ow h.size h.size m xv av sv cv P R Q S ∧ Inv m S ∧ S.said.length ≤ 4000 ∧ S.chosen.length ≤ i ∧ Ext h H) (fun v9 H => l.length - ival v9) ?_ _ _ _
    ⟨0, ow2, _, _, _, _, rfl, Nat.zero_le _, T2, Inv0 hn, by simp [PS0], by simp [PS0], y2⟩
  clear T2 u2 y2 X0 x1
  rintro self v9 d H ⟨i, ow, sv, cv, R, S, rfl, hi, T, I, hls, hlc, y⟩ hself
  unfold B_q124_3
  have hn5 : 1 ≤ m ∧ m ≤ 5 := by omega
  have hBH := y.hB hB
  have hSH := hS.ext y
  by_cases hlt : i < l.length
  rotate_left
  · simp (maxSteps:=999999) (disch:=(first|omega|(simp only [zz,Nat.reduceAdd,Nat.reduceLeDiff];done)|(simp only [zz];omega))) only [↓xa,xb,xl,xy,Int.reduceLT,Int.reduceLE,Int.reduceEq,Nat.reduceAdd,Nat.reduceMul,Nat.reduceLeDiff,setL,bfill,eqV,lookRes, ↓hSH.len', decide_eq_false (show ¬ (i : Int) < (l.length : Int) by omega), rdC_blk T.tb]
    refine awk _ y fun h3 x3 => ?_
    (try simp (maxSteps:=999999) (disch:=(first|omega|(simp only [zz,Nat.reduceAdd,Nat.reduceLeDiff];done)|(simp only [zz];omega))) only [↓xa,xb,xl,xy,Int.reduceLT,Int.reduceLE,Int.reduceEq,Nat.reduceAdd,Nat.reduceMul,Nat.reduceLeDiff,setL,bfill,eqV,lookRes])
    exact hK _ x3
  have c0 := hSH.cell0 pkcells_len i hlt (by decide)
  have c1 := hSH.cell pkcells_len i 1 hlt (by decide)
  have c2 := hSH.cell pkcells_len i 2 hlt (by decide)
  have c3 := hSH.cell pkcells_len i 3 hlt (by decide)
  have cp := hSH.part pkcells_len i 4 4 hlt (by decide)
  have q := hok _ (nth_mem hlt)
  have qs := fun (H2 : Hp) (s : Sl H2 8 pkcells a l) => And.intro (s.cell pkcells_len i 3 hlt (by decide)) (s.part pkcells_len i 4 4 hlt (by decide))
  generalize nth l i = p at c0 c1 c2 c3 cp q qs
  simp only [pkcells, List.getElem?_cons_zero, List.getElem?_cons_succ, List.drop_succ_cons, List.drop_zero, List.take_succ_cons, List.take_zero] at c0 c1 c2 c3 cp qs
  have q2 := q.2
  unfold i64ok at q2
  by_cases hneg : p.i < 0
  · simp (maxSteps:=999999) (disch:=(first|omega|(simp only [zz,Nat.reduceAdd,Nat.reduceLeDiff];done)|(simp only [zz];omega))) only [↓xa,xb,xl,xy,Int.reduceLT,Int.reduceLE,Int.reduceEq,Nat.reduceAdd,Nat.reduceMul,Nat.reduceLeDiff,setL,bfill,eqV,lookRes, ↓hSH.len', ↓hSH.idx, decide_eq_true (Int.ofNat_lt.2 hlt), rdC_blk T.tb, c1, decide_eq_true hneg]
    refine awk _ y fun h3 x3 => ?_
    (try simp (maxSteps:=999999) (disch:=(first|omega|(simp only [zz,Nat.reduceAdd,Nat.reduceLeDiff];done)|(simp only [zz];omega))) only [↓xa,xb,xl,xy,Int.reduceLT,Int.reduceLE,Int.reduceEq,Nat.reduceAdd,Nat.reduceMul,Nat.reduceLeDiff,setL,bfill,eqV,lookRes])
    exact hK _ x3
  -- what stands behind a step
  have next : ∀ (H2 : Hp) d2, (∃ ow R2 sv2 cv2 S2, TalkOk H2 ow h.size h.size m xv av sv2 cv2 P R2 Q S2 ∧ Inv m S2 ∧ S2.said.length ≤ 4000 ∧ S2.chosen.length ≤ i + 1) → Ext h H2 → G_q124_6 K self (.int .i64 m) a (pt h.size 0) (.int .i64 i) d2 H2 := by
    rintro H2 d2 ⟨ow2, R2, sv2, cv2, S2, T2, I2, z1, z2⟩ y2
    rw [req_q124_6]
    unfold R_q124_6
    (try simp (maxSteps:=999999) (disch:=(first|omega|(simp only [zz,Nat.reduceAdd,Nat.reduceLeDiff];done)|(simp only [zz];omega))) only [↓xa,xb,xl,xy,Int.reduceLT,Int.reduceLE,Int.reduceEq,Nat.reduceAdd,Nat.reduceMul,Nat.reduceLeDiff,setL,bfill,eqV,lookRes])
    exact hself _ _ _ ⟨i + 1, ow2, sv2, cv2, R2, S2, rfl, hlt, T2, I2, z1, z2, y2⟩ (by simp only [ival_nat, isucc]; omega)
  have fin : ∀ d2, Stp H ow h.size h.size m xv av P Q S (fun H2 => G_q124_10 K self (.int .i64 m) a (pt h.size 0) (.int .i64 i) d2 H2) := by
    intro d2 H2 ow2 R2 sv2 cv2 S2 T2 I2 z1 z2 u2 m2
    have y2 : Ext h H2 := y.fresh u2 (fun b hb => .inl (by
      by_cases hbh : h.size ≤ b
      · exact hbh
      · exact absurd (T.low b (by omega)) hb))
    show G_q124_10 K self (.int .i64 m) a (pt h.size 0) (.int .i64 i) d2 H2
    rw [req_q124_10]
    unfold R_q124_10
    have hsd := T2.sd.sl
    by_cases hbig : (4000 : Int) < (S2.said.length : Int)
    · simp (maxSteps:=999999) (disch:=(first|omega|(simp only [zz,Nat.reduceAdd,Nat.reduceLeDiff];done)|(simp only [zz];omega))) only [↓xa,xb,xl,xy,Int.reduceLT,Int.reduceLE,Int.reduceEq,Nat.reduceAdd,Nat.reduceMul,Nat.reduceLeDiff,setL,bfill,eqV,lookRes, rdC_blk T2.tb, ↓hsd.len', decide_eq_true hbig]
      refine awk _ y2 fun h3 x3 => ?_
      (try simp (maxSteps:=999999) (disch:=(first|omega|(simp only [zz,Nat.reduceAdd,Nat.reduceLeDiff];done)|(simp only [zz];omega))) only [↓xa,xb,xl,xy,Int.reduceLT,Int.reduceLE,Int.reduceEq,Nat.reduceAdd,Nat.reduceMul,Nat.reduceLeDiff,setL,bfill,eqV,lookRes])
      exact hK _ x3
    · simp (maxSteps:=999999) (disch:=(first|omega|(simp only [zz,Nat.reduceAdd,Nat.reduceLeDiff];done)|(simp only [zz];omega))) only [↓xa,xb,xl,xy,Int.reduceLT,Int.reduceLE,Int.reduceEq,Nat.reduceAdd,Nat.reduceMul,Nat.reduceLeDiff,setL,bfill,eqV,lookRes, rdC_blk T2.tb, ↓hsd.len', decide_eq_false hbig]
      exact next H2 _ ⟨ow2, R2, sv2, cv2, S2, T2, I2, by omega, by omega⟩ y2
  obtain ⟨w, hw⟩ : ∃ w, p.i.tmod m = w := ⟨_, rfl⟩
  have hwho : 0 ≤ w ∧ w < m := by
    rw [← hw, Int.tmod_eq_emod_of_nonneg (by omega)]
    exact ⟨Int.emod_nonneg _ (by omega), Int.emod_lt_of_pos _ (by omega)⟩
  have hsd := T.sd.sl
  have hxl := T.xlen
  by_cases hk0 : p.kind = 0
  · simp (maxSteps:=999999) (disch:=(first|omega|(simp only [zz,Nat.reduceAdd,Nat.reduceLeDiff];done)|(simp only [zz];omega))) only [↓xa,xb,xl,xy,Int.reduceLT,Int.reduceLE,Int.reduceEq,Nat.reduceAdd,Nat.reduceMul,Nat.reduceLeDiff,setL,bfill,eqV,lookRes, ↓hSH.len', ↓hSH.idx, decide_eq_true (Int.ofNat_lt.2 hlt), rdC_blk T.tb, c0, c1, decide_eq_false hneg, decide_eq_true hk0]
    rw [req_q124_4]
    unfold R_q124_4
    by_cases hz0 : (S.said.length : Int) = 0
    · simp (maxSteps:=999999) (disch:=(first|omega|(simp only [zz,Nat.reduceAdd,Nat.reduceLeDiff];done)|(simp only [zz];omega))) only [↓xa,xb,xl,xy,Int.reduceLT,Int.reduceLE,Int.reduceEq,Nat.reduceAdd,Nat.reduceMul,Nat.reduceLeDiff,setL,bfill,eqV,lookRes, rdC_blk T.tb, ↓hsd.len', decide_eq_true hz0]
      exact next H _ ⟨ow, R, sv, cv, S, T, I, hls, by omega⟩ y
    have hr : ∀ (k : Int) d2, 0 ≤ k → k < S.said.length → G_q124_7 K self (.int .i64 m) a (pt h.size 0) (.int .i64 i) (.int .i64 k) d2 H := by
      intro k d2 k1 k2
      rw [req_q124_7]
      unfold R_q124_7
      have hrow := hsd.row saycells_len k.toNat (by omega)
      have hmem := nth_mem (l := S.said) (i := k.toNat) (by omega)
      generalize nth S.said k.toNat = e at hrow hmem
      simp (maxSteps:=999999) (disch:=(first|omega|(simp only [zz,Nat.reduceAdd,Nat.reduceLeDiff];done)|(simp only [zz];omega))) only [↓xa,xb,xl,xy,Int.reduceLT,Int.reduceLE,Int.reduceEq,Nat.reduceAdd,Nat.reduceMul,Nat.reduceLeDiff,setL,bfill,eqV,lookRes, rdC_blk T.tb, ↓hsd.idx, hrow]
      exact sp_hear hBH T I e hmem (by omega) (by omega) (fin _)
    have hpos : 0 < (S.said.length : Int) := by omega
    cases hlate : p.late with
    | true =>
      rw [hlate] at c2
      simp (maxSteps:=999999) (disch:=(first|omega|(simp only [zz,Nat.reduceAdd,Nat.reduceLeDiff];done)|(simp only [zz];omega))) only [↓xa,xb,xl,xy,Int.reduceLT,Int.reduceLE,Int.reduceEq,Nat.reduceAdd,Nat.reduceMul,Nat.reduceLeDiff,setL,bfill,eqV,lookRes, rdC_blk T.tb, ↓hsd.len', decide_eq_false hz0, ↓hSH.idx, c1, c2]
      refine hr _ _ ?_ ?_
      · rw [Int.tmod_eq_emod_of_nonneg (by omega)]; exact Int.emod_nonneg _ (by omega)
      · rw [Int.tmod_eq_emod_of_nonneg (by omega)]; exact Int.emod_lt_of_pos _ hpos
    | false =>
      rw [hlate] at c2
      simp (maxSteps:=999999) (disch:=(first|omega|(simp only [zz,Nat.reduceAdd,Nat.reduceLeDiff];done)|(simp only [zz];omega))) only [↓xa,xb,xl,xy,Int.reduceLT,Int.reduceLE,Int.reduceEq,Nat.reduceAdd,Nat.reduceMul,Nat.reduceLeDiff,setL,bfill,eqV,lookRes, rdC_blk T.tb, ↓hsd.len', decide_eq_false hz0, ↓hSH.idx, c1, c2]
      obtain ⟨k, hk⟩ : ∃ k, p.i.tmod (if (12 : Int) < S.said.length then 12 else S.said.length) = k := ⟨_, rfl⟩
      have hkb : 0 ≤ k ∧ k < S.said.length := by
        rw [← hk, Int.tmod_eq_emod_of_nonneg (by omega)]
        split
        · have := Int.emod_lt_of_pos p.i (show (0 : Int) < 12 by decide)
          exact ⟨Int.emod_nonneg _ (by omega), by omega⟩
        · exact ⟨Int.emod_nonneg _ (by omega), Int.emod_lt_of_pos _ hpos⟩
      simp (maxSteps:=999999) (disch:=(first|omega|(simp only [zz,Nat.reduceAdd,Nat.reduceLeDiff];done)|(simp only [zz];omega))) only [↓xa,xb,xl,xy,Int.reduceLT,Int.reduceLE,Int.reduceEq,Nat.reduceAdd,Nat.reduceMul,Nat.reduceLeDiff,setL,bfill,eqV,lookRes, hk]
      exact hr _ _ (by omega) (by omega)
  simp (maxSteps:=999999) (disch:=(first|omega|(simp only [zz,Nat.reduceAdd,Nat.reduceLeDiff];done)|(simp only [zz];omega))) only [↓xa,xb,xl,xy,Int.reduceLT,Int.reduceLE,Int.reduceEq,Nat.reduceAdd,Nat.reduceMul,Nat.reduceLeDiff,setL,bfill,eqV,lookRes, ↓hSH.len', ↓hSH.idx, decide_eq_true (Int.ofNat_lt.2 hlt), rdC_blk T.tb, c0, c1, decide_eq_false hneg, decide_eq_false hk0, hw]
  have hto : 1 ≤ w + 1 ∧ w + 1 ≤ m := by omega
  have xat : ∀ {H2 : Hp} {ow R sv cv S}, TalkOk H2 ow h.size h.size m xv av sv cv P R Q S → rdC H2 (sblk xv) (soff xv + w.toNat * 1) = some (pt (P (w + 1)) 0) := fun T => by
    have := T.xat hto
    rw [show w + 1 - 1 = w by omega] at this
    exact this
  have c4 := xat T
  have L2 := T.ld _ hto.1 hto.2
  have lo := I.ld _ hto.1 hto.2
  obtain ⟨cm, om, hpb⟩ := L2.blkX
  have tz : tL (w + 1) ≠ 0 := (tL_ne _).2.2.2
  rw [req_q124_5]
  unfold R_q124_5
  by_cases hk1 : p.kind = 1
  · simp (maxSteps:=999999) (disch:=(first|omega|(simp only [zz,Nat.reduceAdd,Nat.reduceLeDiff];done)|(simp only [zz];omega))) only [↓xa,xb,xl,xy,Int.reduceLT,Int.reduceLE,Int.reduceEq,Nat.reduceAdd,Nat.reduceMul,Nat.reduceLeDiff,setL,bfill,eqV,lookRes, decide_eq_true hk1]
    rw [req_q124_8]
    unfold R_q124_8
    simp (maxSteps:=999999) (disch:=(first|omega|(simp only [zz,Nat.reduceAdd,Nat.reduceLeDiff];done)|(simp only [zz];omega))) only [↓xa,xb,xl,xy,Int.reduceLT,Int.reduceLE,Int.reduceEq,Nat.reduceAdd,Nat.reduceMul,Nat.reduceLeDiff,setL,bfill,eqV,lookRes, rdC_blk T.tb, ↓T.xl.idx, c4, ↓hSH.idx, c3]
    refine sp_lStart hBH hpb (by rw [lo.me]; unfold i64ok; omega) lo.bal q.1 0 ?_ ?_
    · intro he
      simp (maxSteps:=999999) (disch:=(first|omega|(simp only [zz,Nat.reduceAdd,Nat.reduceLeDiff];done)|(simp only [zz];omega))) only [↓xa,xb,xl,xy,Int.reduceLT,Int.reduceLE,Int.reduceEq,Nat.reduceAdd,Nat.reduceMul,Nat.reduceLeDiff,setL,bfill,eqV,lookRes, rdC_blk T.tb, decide_eq_false he, eq_self]
      exact fin _ _ _ _ _ _ _ T I (by omega) (by omega) (Upd.refl _) (fun _ _ => rfl)
    · intro he H3 u3 hL3
      have lL := lt_of_get hL3.opn
      have lp := lt_of_get hpb
      have T3 := T.ldT (ow' := mark ow H.size H3.size (tL (w + 1))) (l := ⟨startX (S.L (w + 1)).x p.b 0, [], []⟩) (r := some (H.size, H.size + 1)) hto hn ⟨u3.mono (fun b _ hb => by change b = _ at hb; rw [hb]; exact L2.1), fun b hb => mark_old hb⟩ (fun b hb => by rw [mark_out hb]; exact T.fresh b (Nat.le_trans u3.1 hb)) (fun b hb => by rw [mark_old (by have := T.nh; omega)]; exact T.low b hb)
        ⟨by rw [mark_old lp]; exact L2.1, hL3, mark_new (Nat.le_refl _) (by omega), mark_new (by omega) lL, fun _ e he => (by cases he), fun _ e he => (by cases he)⟩
      have hB3 := u3.hB hBH
      simp (maxSteps:=999999) (disch:=(first|omega|(simp only [zz,Nat.reduceAdd,Nat.reduceLeDiff];done)|(simp only [zz];omega))) only [↓xa,xb,xl,xy,Int.reduceLT,Int.reduceLE,Int.reduceEq,Nat.reduceAdd,Nat.reduceMul,Nat.reduceLeDiff,setL,bfill,eqV,lookRes, rdC_blk T.tb, rdC_blk T3.tb, eq_self]
      refine sp_toAll hB3 T3 hn ⟨1, w + 1, 0, startB (S.L (w + 1)).x p.b 0, 0, (.slice none 0 0, []), cmd0⟩ Sl.nil (fun b hb => (by cases hb)) (show S.said.length ≤ 50000 by omega) ?_
      intro H4 ow4 sv4 T4 u4 m4
      have hbal : u64ok (startB (S.L (w + 1)).x p.b 0) := by
        have hmx : u64ok (maxI p.b (S.L (w + 1)).x.ballot) := by unfold maxI; split; exact lo.bal; exact q.1
        unfold startB
        rw [if_pos he]
        unfold startE at he
        rw [if_neg (by omega)] at he
        obtain ⟨g1, g2, g3, g4, g5⟩ := nextB_gt hmx.1 he
        unfold u64ok at hmx ⊢
        omega
      have I4 := I.start hto q.1 he ((rng m).map fun i => ⟨1, w + 1, i, startB (S.L (w + 1)).x p.b 0, 0, (.slice none 0 0, []), cmd0⟩) (fun e he => by
        obtain ⟨i, hi, rfl⟩ := List.mem_map.1 he
        exact ⟨rfl, .inl rfl, hto, rng_mem.1 hi, hbal, by simp, fun _ => rfl, fun h => by simp at h⟩)
      refine fin _ _ _ _ _ _ _ T4 I4 ?_ (Nat.le_add_right _ _) ?_ (fun b hb => by rw [m4 b (Nat.lt_of_lt_of_le hb u3.1), mark_old hb])
      · show (S.said ++ _).length ≤ _
        rw [List.length_append, List.length_map, rng_len]
        omega
      · refine (u3.mono (fun b _ hb => by change b = _ at hb; rw [hb, L2.1]; exact tz)).fresh u4 (fun b hb => ?_)
        by_cases hbh : b < H.size
        · right; rw [mark_old hbh] at hb; exact hb
        · left; omega
  simp (maxSteps:=999999) (disch:=(first|omega|(simp only [zz,Nat.reduceAdd,Nat.reduceLeDiff];done)|(simp only [zz];omega))) only [↓xa,xb,xl,xy,Int.reduceLT,Int.reduceLE,Int.reduceEq,Nat.reduceAdd,Nat.reduceMul,Nat.reduceLeDiff,setL,bfill,eqV,lookRes, decide_eq_false hk1]
  rw [req_q124_9]
  unfold R_q124_9
  by_cases hk2 : p.kind = 2
  rotate_left
  · simp (maxSteps:=999999) (disch:=(first|omega|(simp only [zz,Nat.reduceAdd,Nat.reduceLeDiff];done)|(simp only [zz];omega))) only [↓xa,xb,xl,xy,Int.reduceLT,Int.reduceLE,Int.reduceEq,Nat.reduceAdd,Nat.reduceMul,Nat.reduceLeDiff,setL,bfill,eqV,lookRes, decide_eq_false hk2, rdC_blk T.tb, ↓T.xl.idx, c4, ↓hSH.idx, c3]
    by_cases hs0 : (S.L (w + 1)).x.state = 0
    · refine sp_lRefuseNo hpb p.b (by unfold refuseB; simp [hs0]) ?_
      simp (maxSteps:=999999) (disch:=(first|omega|(simp only [zz,Nat.reduceAdd,Nat.reduceLeDiff];done)|(simp only [zz];omega))) only [↓xa,xb,xl,xy,Int.reduceLT,Int.reduceLE,Int.reduceEq,Nat.reduceAdd,Nat.reduceMul,Nat.reduceLeDiff,setL,bfill,eqV,lookRes, rdC_blk T.tb, eq_self]
      exact fin _ _ _ _ _ _ _ T I (by omega) (by omega) (Upd.refl _) (fun _ _ => rfl)
    obtain ⟨rc, ro, hr, hL, o1, o2, o3, _, _⟩ := L2.started hs0
    refine sp_lRefuse hBH hL p.b (fun _ => ?_) (fun _ H3 u3 hL3 => ?_)
    · simp (maxSteps:=999999) (disch:=(first|omega|(simp only [zz,Nat.reduceAdd,Nat.reduceLeDiff];done)|(simp only [zz];omega))) only [↓xa,xb,xl,xy,Int.reduceLT,Int.reduceLE,Int.reduceEq,Nat.reduceAdd,Nat.reduceMul,Nat.reduceLeDiff,setL,bfill,eqV,lookRes, rdC_blk T.tb, eq_self]
      exact fin _ _ _ _ _ _ _ T I (by omega) (by omega) (Upd.refl _) (fun _ _ => rfl)
    have nz : ∀ r, r = P (w + 1) ∨ r = rc ∨ r = ro → ow r = tL (w + 1) := fun r hr => by
      rcases hr with hr | hr | hr
      · rw [hr]; exact o1
      · rw [hr]; exact o2
      · rw [hr]; exact o3
    have T3 := T.ldT (ow' := ow) (l := ⟨{ (S.L (w + 1)).x with state := 0 }, [], []⟩) (r := some (rc, ro)) hto hn ⟨u3.mono (fun b _ hb => nz b hb), fun b hb => rfl⟩ (fun b hb => T.fresh b (Nat.le_trans u3.1 hb)) T.low
      ⟨o1, hL3, o2, o3, fun h => absurd h (by show ¬ (0 : Int) = 1; decide), fun h => absurd h (by show ¬ (0 : Int) = 1; decide)⟩
    simp (maxSteps:=999999) (disch:=(first|omega|(simp only [zz,Nat.reduceAdd,Nat.reduceLeDiff];done)|(simp only [zz];omega))) only [↓xa,xb,xl,xy,Int.reduceLT,Int.reduceLE,Int.reduceEq,Nat.reduceAdd,Nat.reduceMul,Nat.reduceLeDiff,setL,bfill,eqV,lookRes, rdC_blk T.tb, rdC_blk T3.tb, eq_self]
    exact fin _ _ _ _ _ _ _ T3 (I.refuse hto) (Nat.le_add_right _ _) (Nat.le_add_right _ _) (u3.mono (fun b _ hb => by rw [nz b hb]; exact tz)) (fun _ _ => rfl)
  simp (maxSteps:=999999) (disch:=(first|omega|(simp only [zz,Nat.reduceAdd,Nat.reduceLeDiff];done)|(simp only [zz];omega))) only [↓xa,xb,xl,xy,Int.reduceLT,Int.reduceLE,Int.reduceEq,Nat.reduceAdd,Nat.reduceMul,Nat.reduceLeDiff,setL,bfill,eqV,lookRes, decide_eq_true hk2]
  rw [req_q124_11]
  unfold R_q124_11
  have gbad : ∀ (H3 : Hp) (r : Nat) (e : Int) d2, Ext H H3 → e ≠ 0 → G_q124_12 K self (.int .i64 m) a (pt h.size 0) (.int .i64 i) (.int .i64 w) (pt r 0) (.int .i64 e) d2 H3 := by
    intro H3 r e d2 x he
    rw [req_q124_12]
    unfold R_q124_12
    simp (maxSteps:=999999) (disch:=(first|omega|(simp only [zz,Nat.reduceAdd,Nat.reduceLeDiff];done)|(simp only [zz];omega))) only [↓xa,xb,xl,xy,Int.reduceLT,Int.reduceLE,Int.reduceEq,Nat.reduceAdd,Nat.reduceMul,Nat.reduceLeDiff,setL,bfill,eqV,lookRes, decide_eq_false he]
    exact fin _ _ _ _ _ _ _ (T.ext x) I (by omega) (by omega) x.lift (fun _ _ => rfl)
  have gok : ∀ (H3 : Hp) (r : Nat) d2 R', (S.L (w + 1)).x.state = 2 → (S.L (w + 1)).x.next < 512 → TalkOk H3 ow h.size h.size m xv av sv cv P R' Q { S with L := upd S.L (w + 1) ⟨layX (S.L (w + 1)).x, (S.L (w + 1)).came, mset (S.L (w + 1)).opn (S.L (w + 1)).x.next ⟨p.cmd, noneQ⟩⟩ } → H3[r]? = some (.cells #[.int .i64 (S.L (w + 1)).x.next, .int .u64 (S.L (w + 1)).x.ballot, .int .i64 p.cmd.kind, .int .i64 p.cmd.chain, .int .u64 p.cmd.epoch, .int .i64 p.cmd.node]) → Upd (fun b => ow b ≠ 0) H H3 → G_q124_12 K self (.int .i64 m) a (pt h.size 0) (.int .i64 i) (.int .i64 w) (pt r 0) (.int .i64 0) d2 H3 := by
    intro H3 r d2 R' hst hnx T3 hv u3
    have hB3 := u3.hB hBH
    rw [req_q124_12]
    unfold R_q124_12
    simp (maxSteps:=999999) (disch:=(first|omega|(simp only [zz,Nat.reduceAdd,Nat.reduceLeDiff];done)|(simp only [zz];omega))) only [↓xa,xb,xl,xy,Int.reduceLT,Int.reduceLE,Int.reduceEq,Nat.reduceAdd,Nat.reduceMul,Nat.reduceLeDiff,setL,bfill,eqV,lookRes, rdC_blk hv, rdN_of hv, List.drop_succ_cons, List.drop_zero, List.take_succ_cons, List.take_zero]
    refine sp_toAll hB3 T3 hn ⟨3, w + 1, 0, (S.L (w + 1)).x.ballot, (S.L (w + 1)).x.next, (.slice none 0 0, []), p.cmd⟩ Sl.nil (fun b hb => (by cases hb)) (show S.said.length ≤ 50000 by omega) ?_
    intro H4 ow4 sv4 T4 u4 m4
    have I4 := I.proposed hto (c := p.cmd) hst hnx ((rng m).map fun i => ⟨3, w + 1, i, (S.L (w + 1)).x.ballot, (S.L (w + 1)).x.next, (.slice none 0 0, []), p.cmd⟩) (fun e he => by
      obtain ⟨i, hi, rfl⟩ := List.mem_map.1 he
      exact ⟨rfl, rfl, rfl, rfl, .inr (.inr (.inl rfl)), hto, rng_mem.1 hi, lo.bal, by simp, fun h => by rcases h with h | h <;> simp at h, fun h => by simp at h⟩) (List.ne_nil_of_mem (List.mem_map.2 ⟨1, rng_mem.2 ⟨Int.le_refl _, hn5.1⟩, rfl⟩))
    refine fin _ _ _ _ _ _ _ T4 I4 ?_ (Nat.le_add_right _ _) (u3.fresh u4 (fun b hb => .inr hb)) (fun b hb => m4 b (Nat.lt_of_lt_of_le hb u3.1))
    show (S.said ++ _).length ≤ _
    rw [List.length_append, List.length_map, rng_len]
    omega
  have prop : ∀ (H1 : Hp) (x1 : Ext H H1) {K2 : Kont}, (∀ h' e, e ≠ 0 → Ext H1 h' → K2 (.tuple #[voteV vote0, .int .i64 e]) h') →
      (∀ h' R', (S.L (w + 1)).x.state = 2 → (S.L (w + 1)).x.next < 512 → TalkOk h' ow h.size h.size m xv av sv cv P R' Q { S with L := upd S.L (w + 1) ⟨layX (S.L (w + 1)).x, (S.L (w + 1)).came, mset (S.L (w + 1)).opn (S.L (w + 1)).x.next ⟨p.cmd, noneQ⟩⟩ } → Upd (fun b => ow b = tL (w + 1)) H1 h' → K2 (.tuple #[voteV (voteP (S.L (w + 1)).x (S.L (w + 1)).x.next p.cmd), .int .i64 0]) h') →
      C_q58 [pt (P (w + 1)) 0, cmdV p.cmd] H1 K2 := by
    intro H1 x1 K2 kb ko
    have T1 := T.ext x1
    have hB1 := x1.hB hBH
    have L1 := T1.ld _ hto.1 hto.2
    by_cases hst : (S.L (w + 1)).x.state = 2
    rotate_left
    · obtain ⟨cm, om, hpb1⟩ := L1.blkX
      exact sp_lProposeBad hB1 hpb1 p.cmd hst (fun h' x => kb h' 12 (by decide) x)
    obtain ⟨rc, ro, hr, hL, o1, o2, o3, _, _⟩ := L1.started (by rw [hst]; decide)
    refine sp_lPropose hB1 hL (slots_fine lo.ofine) lo.next p.cmd (fun he h' x => kb h' _ he x) (fun he h' u3 hL3 => ?_)
    have nz : ∀ r, r = P (w + 1) ∨ r = ro → ow r = tL (w + 1) := fun r hr => by
      rcases hr with hr | hr
      · rw [hr]; exact o1
      · rw [hr]; exact o3
    have u3' : Upd (fun b => ow b = tL (w + 1)) H1 h' := u3.mono (fun b _ hb => nz b hb)
    have hnx : (S.L (w + 1)).x.next < 512 := by
      unfold propE at he
      rw [if_neg (by omega)] at he
      split at he
      · omega
      · split at he
        · cases he
        · split at he
          · cases he
          · omega
    exact ko h' (upd R (w + 1) (some (rc, ro))) hst hnx (T1.ldT (ow' := ow) (l := ⟨layX (S.L (w + 1)).x, (S.L (w + 1)).came, mset (S.L (w + 1)).opn (S.L (w + 1)).x.next ⟨p.cmd, noneQ⟩⟩) (r := some (rc, ro)) hto hn ⟨u3', fun b hb => rfl⟩ (fun b hb => T1.fresh b (Nat.le_trans u3.1 hb)) T1.low
      ⟨o1, hL3, o2, o3, fun h => absurd (h.symm.trans hst) (by decide), fun h => absurd (h.symm.trans hst) (by decide)⟩) u3'
  have lS := hSH.lt pkcells_len (by omega) (by decide)
  have lX := T.xl.lt pcell_len (by omega) (by decide)
  have lt := lt_of_get T.tb
  simp (maxSteps:=999999) (disch:=(first|omega|(simp only [zz,Nat.reduceAdd,Nat.reduceLeDiff];done)|(simp only [zz];omega))) only [↓xa,xb,xl,xy,Int.reduceLT,Int.reduceLE,Int.reduceEq,Nat.reduceAdd,Nat.reduceMul,Nat.reduceLeDiff,setL,bfill,eqV,lookRes, rdC_blk T.tb, ↓T.xl.idx, c4, ↓hSH.idx, cp]
  refine ⟨prop H (Upd.refl _) ?_ ?_, ?_⟩
  · intro h3 e he x3
    have T3 := T.ext x3
    have hB3 := x3.hB hBH
    have z3 := x3.1
    simp (maxSteps:=999999) (disch:=(first|omega|(simp only [zz,Nat.reduceAdd,Nat.reduceLeDiff];done)|(simp only [zz];omega))) only [↓xa,xb,xl,xy,Int.reduceLT,Int.reduceLE,Int.reduceEq,Nat.reduceAdd,Nat.reduceMul,Nat.reduceLeDiff,setL,bfill,eqV,lookRes, rdC_blk T3.tb, xat T3, (qs h3 (hSH.ext x3)).2, eq_self, voteV, vote0, cmd0]
    exact gbad _ _ e _ (x3.trans (by repeat' (first|with_reducible (first|exact u0 _|refine u1 ?_ _|refine u2 ?_ _ _ ?_)|exact .inl (by (first|omega|(simp only [zz,Nat.reduceAdd,Nat.reduceLeDiff];done)|(simp only [zz];omega)))|exact .inr rfl|exact .inr (by simp;done)))) he
  · intro h3 R' hst hnx T3 u3
    have hB3 := u3.hB hBH
    have z3 := u3.1
    have y3 : Ext h h3 := y.fresh u3 (fun b hb => .inl (by
      by_cases hbh : h.size ≤ b
      · exact hbh
      · have := T.low b (by omega); omega))
    simp (maxSteps:=999999) (disch:=(first|omega|(simp only [zz,Nat.reduceAdd,Nat.reduceLeDiff];done)|(simp only [zz];omega))) only [↓xa,xb,xl,xy,Int.reduceLT,Int.reduceLE,Int.reduceEq,Nat.reduceAdd,Nat.reduceMul,Nat.reduceLeDiff,setL,bfill,eqV,lookRes, rdC_blk T3.tb, xat T3, (qs h3 (hS.ext y3)).2, eq_self, voteV, voteP]
    have x4 : Ext h3 (Array.setIfInBounds (h3.push (.cells #[.int .i64 0, .int .u64 0, .int .i64 0, .int .i64 0, .int .u64 0, .int .i64 0])) h3.size (.cells #[.int .i64 (S.L (w + 1)).x.next, .int .u64 (S.L (w + 1)).x.ballot, .int .i64 p.cmd.kind, .int .i64 p.cmd.chain, .int .u64 p.cmd.epoch, .int .i64 p.cmd.node])) := (by repeat' (first|with_reducible (first|exact u0 _|refine u1 ?_ _|refine u2 ?_ _ _ ?_)|exact .inl (by (first|omega|(simp only [zz,Nat.reduceAdd,Nat.reduceLeDiff];done)|(simp only [zz];omega)))|exact .inr rfl|exact .inr (by simp;done)))
    exact gok _ h3.size _ R' hst hnx (T3.ext x4) (g_set_eq (by simp) rfl) ((u3.mono (fun b _ hb => by change ow b = _ at hb; rw [hb]; exact tz)).trans x4.lift)
  · have x1 : Ext H (H.push (.cells #[.int .i64 0, .int .u64 0, .int .i64 0, .int .i64 0, .int .u64 0, .int .i64 0])) := (by repeat' (first|with_reducible (first|exact u0 _|refine u1 ?_ _|refine u2 ?_ _ _ ?_)|exact .inl (by (first|omega|(simp only [zz,Nat.reduceAdd,Nat.reduceLeDiff];done)|(simp only [zz];omega)))|exact .inr rfl|exact .inr (by simp;done)))
    have hv1 : (H.push (.cells #[.int .i64 0, .int .u64 0, .int .i64 0, .int .i64 0, .int .u64 0, .int .i64 0]))[H.size]? = some (.cells #[.int .i64 0, .int .u64 0, .int .i64 0, .int .i64 0, .int .u64 0, .int .i64 0]) := g_push_eq rfl
    have l1 : (H.push (.cells #[.int .i64 0, .int .u64 0, .int .i64 0, .int .i64 0, .int .u64 0, .int .i64 0])).size = H.size + 1 := by simp
    have T1 := T.ext x1
    generalize H.push (.cells #[.int .i64 0, .int .u64 0, .int .i64 0, .int .i64 0, .int .u64 0, .int .i64 0]) = H1 at *
    have f0 : ow H.size = 0 := T.fresh _ (Nat.le_refl _)
    refine prop H1 x1 ?_ ?_
    · intro h3 e he x3
      have T3 := T1.ext x3
      have hv3 := x3.get hv1 id
      have lv3 := lt_of_get hv3
      simp (maxSteps:=999999) (disch:=(first|omega|(simp only [zz,Nat.reduceAdd,Nat.reduceLeDiff];done)|(simp only [zz];omega))) only [↓xa,xb,xl,xy,Int.reduceLT,Int.reduceLE,Int.reduceEq,Nat.reduceAdd,Nat.reduceMul,Nat.reduceLeDiff,setL,bfill,eqV,lookRes, rdC_blk T1.tb, rdC_blk T3.tb, eq_self, voteV, vote0, cmd0, b_blk hv3]
      exact gbad _ _ e _ (Upd.set (x1.trans x3) _ _ (.inl (Nat.le_refl _))) he
    · intro h3 R' hst hnx T3 u3
      have hv3 := u3.get hv1 (by rw [f0]; exact fun e => tz e.symm)
      have lv3 := lt_of_get hv3
      simp (maxSteps:=999999) (disch:=(first|omega|(simp only [zz,Nat.reduceAdd,Nat.reduceLeDiff];done)|(simp only [zz];omega))) only [↓xa,xb,xl,xy,Int.reduceLT,Int.reduceLE,Int.reduceEq,Nat.reduceAdd,Nat.reduceMul,Nat.reduceLeDiff,setL,bfill,eqV,lookRes, rdC_blk T1.tb, rdC_blk T3.tb, eq_self, voteV, voteP, b_blk hv3]
      exact gok _ H.size _ R' hst hnx (T3.turn0 (Upd.set0 _ f0)) (g_set_eq lv3 rfl) (Upd.set (x1.then u3 (fun r _ hb => by change ow r = _ at hb; rw [hb]; exact tz)) _ _ (.inl (Nat.le_refl _)))
end
end Go.Proofs.Ytdolepapmpcpiaa

namespace Go.Proofs.Ytdolepapmpcpiaa
open Go Go.RowKit Go.Maps Go.Shelf
open Go.ChangeShapes Go.WideShapes
set_option linter.unusedSectionVars false
set_option linter.unusedVariables false
set_option linter.unusedSimpArgs false
set_option maxRecDepth 10000
section
variable {H : Type} {enc : TypeId × Value → H} {W : World}
theorem u_pick : Try.prog.underlying 92 = some (.struct (fieldsOf Try.prog 92)) := by kernel_rfl
theorem u_picks : Try.prog.underlying 84 = some (.slice 92) := by kernel_rfl
def pickOk (p : Pk) : Prop := u64ok p.b ∧ i64ok p.i
theorem rd_pick : Rd enc Try.prog W 92 (fun cs => ∃ p, cs = pkcells p ∧ pickOk p) := by
  refine (Rd.struct (ts := [3, 3, 4, 25, 32]) u_pick (by kernel_rfl) (by kernel_rfl) (.cons rd_int (.cons rd_int (.cons (Rd.bool u_bool) (.cons rd_u64 (.cons rd_cmd .nil)))))).mono ?_
  rintro cs ⟨_, _, rfl, ⟨a, rfl, ha⟩, _, _, rfl, ⟨b, rfl, hb⟩, _, _, rfl, ⟨c, rfl⟩, _, _, rfl, ⟨d, rfl, hd⟩, _, _, rfl, ⟨f, rfl, hf⟩, rfl⟩
  exact ⟨⟨a, b, c, d, f⟩, rfl, hd, hb⟩
theorem rd_picks : Rd enc Try.prog W 84 (fun cs => ∃ v l, cs = [v] ∧ Sl (@hv ⟨W.heap.size⟩ W) 8 pkcells v l ∧ (∀ a ∈ l, pickOk a) ∧ l.length ≤ maxLen) :=
  Rd.slice u_picks (by kernel_rfl) (by decide) (@pkcells_len ⟨0⟩) rd_pick
end
set_option maxRecDepth 100000 in
theorem law_LeadSafe {H : Type} {enc : TypeId × Value → H} : LawDoes enc Try.prog 10 Try.f10 := by
  intro W base args ds ps h0 hlt hval hA
  letI : Base := ⟨W.heap.size⟩
  have hp : Try.f10.params = #[3, 84] := by kernel_rfl
  rw [hp] at hA hval
  obtain ⟨v0, vs, d0, ds, p0, p1, hargs, rfl, rfl, t0, hA⟩ := trodAll_cons hA
  obtain ⟨v1, vs, d1, ds, p1, p2, rfl, rfl, rfl, t1, hA⟩ := trodAll_cons hA
  obtain ⟨rfl, rfl, rfl⟩ := trodAll_nil hA
  obtain ⟨args⟩ := args
  cases hargs
  obtain ⟨f, rfl, _, _⟩ := arg_int u_int (hval 0 3 v0 rfl rfl) t0
  obtain ⟨v, l, hv, s, hl, hm⟩ := arg_slice u_picks (hval 1 84 v1 rfl rfl) rd_picks t1
  cases hv
  exact sp_LeadSafe (by rw [hv_size]; exact Nat.le_refl _) f s hl (fun h' x => ⟨rfl, x⟩)
set_option maxRecDepth 100000 in
theorem lifted_LeadSafe (os : Os) (started : os.Started) (H : Type) (enc : TypeId × Value → H) :
    ReturnsInHanded {} Try.checked os 10 .any (Rows.leadSafeSpec.pre6 enc Try.prog Try.f10 Rows.leadSafeRow.domain false) (Rows.leadSafeSpec.post enc Try.prog Try.f10 false true false false) :=
  lifted_law (C := Try.checked) (s := Rows.leadSafeSpec) (tb := 4) own_try started (by kernel_rfl) Try.func10
      (ChangeSpec.witness6 (enc := enc) (C := Try.checked) false ⟨#[], #[.int .i64 0, .slice none 0 0], []⟩ 8 (by kernel_rfl) (by kernel_rfl) (by kernel_rfl) (by kernel_rfl))
      rfl (by kernel_rfl) u_bool (fun ds h => by
        have hp : Try.f10.params = #[3, 84] := by kernel_rfl
        rw [hp] at h
        match ds, h with | [d0, d1], _ => rfl) laid_try (by kernel_rfl) glob_try law_LeadSafe
theorem LeadSafe_holds : Rows.LeadSafeSaid :=
  OpenClaim.holds_of_wide 10 Try.f10 rfl rfl rfl rfl rfl rfl rfl ⟨rfl, rfl, rfl, rfl, rfl⟩ rfl rfl rfl rfl rfl (by kernel_rfl) Try.func10 (by kernel_rfl)
    (of_decide_eq_true (by kernel_rfl)) (by unfold Func.isWrapper; rw [if_neg (of_decide_eq_false (by kernel_rfl))]; exact ⟨rfl, rfl⟩)
    (fun os started H enc _ => lifted_LeadSafe os started H enc)
#print axioms LeadSafe_holds
end Go.Proofs.Ytdolepapmpcpiaa

