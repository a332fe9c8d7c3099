/- Lemmas for the theorem of the last text; no condition. -/
import Derived.Test.YtdolepapmpcpiaaLs0
import Derived.Test.YtdolepapmpcpiaaLs1
import Derived.Test.YtdolepapmpcpiaaLs2
import Derived.Test.YtdolepapmpcpiaaLs3
import Derived.Test.YtdolepapmpcpiaaLs4
import Derived.Test.YtdolepapmpcpiaaLs5
import Derived.Test.YtdolepapmpcpiaaLs6
import Derived.Test.YtdolepapmpcpiaaLs7
import Derived.Test.YtdolepapmpcpiaaLs8
import Derived.Test.YtdolepapmpcpiaaLs9
import Derived.Test.YtdolepapmpcpiaaLs10
namespace Go.Proofs.Ytdolepapmpcpiaa
open Go
set_option linter.unusedSectionVars false
variable [Base]
set_option linter.unusedVariables false
set_option linter.unusedSimpArgs false
structure Say where
  kind : Int
  frm : Int
  to : Int
  ballot : Int
  slot : Int
  votes : LV
  cmd : Cmd
structure Ld where
  x : LS
  came : List (Int × LV)
  opn : List (Int × Prp)
structure Ac where
  prom : Int
  m : List (Int × Vote)
structure PS where
  L : Int → Ld
  A : Int → Ac
  said : List Say
  chosen : List Vote
def upd {α : Type} (f : Int → α) (k : Int) (v : α) : Int → α := fun i => if i = k then v else f i
theorem upd_self {α : Type} (f : Int → α) (k : Int) (v : α) : upd f k v k = v := if_pos rfl
theorem upd_ne {α : Type} (f : Int → α) {k i : Int} (v : α) (h : i ≠ k) : upd f k v i = f i := if_neg h
def accd (S : PS) (k b s : Int) : Prop := ∃ e ∈ S.said, e.kind = 4 ∧ e.frm = k ∧ e.ballot = b ∧ e.slot = s
def prpd (S : PS) (b s : Int) (c : Cmd) : Prop := ∃ e ∈ S.said, e.kind = 3 ∧ e.ballot = b ∧ e.slot = s ∧ e.cmd = c
def stOf (S : PS) : Pax.St Cmd := ⟨fun k => (S.A k).prom, accd S, prpd S⟩
def Quo (n : Int) (Q : Int → Prop) : Prop := ∃ q : Int → Bool, (∀ k, q k = true → 1 ≤ k → k ≤ n → Q k) ∧ enoughQ q n = true
theorem enough_meet {q r : Int → Bool} {n : Int} (hn : isM n) (h1 : enoughQ q n = true) (h2 : enoughQ r n = true) : ∃ k, 1 ≤ k ∧ k ≤ n ∧ q k = true ∧ r k = true := by
  have key : ((q 1 && r 1) || (decide (2 ≤ n) && q 2 && r 2) || (decide (3 ≤ n) && q 3 && r 3) || (decide (4 ≤ n) && q 4 && r 4) || (decide (5 ≤ n) && q 5 && r 5)) = true := by
    revert h1 h2
    unfold enoughQ cntQ
    generalize q 1 = a1, q 2 = a2, q 3 = a3, q 4 = a4, q 5 = a5, r 1 = b1, r 2 = b2, r 3 = b3, r 4 = b4, r 5 = b5
    rcases hn with rfl | rfl | rfl | rfl | rfl <;> revert a1 a2 a3 a4 a5 b1 b2 b3 b4 b5 <;> decide +kernel
  have h1n : 1 ≤ n := by unfold isM at hn; omega
  simp only [Bool.or_eq_true, Bool.and_eq_true, decide_eq_true_eq] at key
  rcases key with (((h | h) | h) | h) | h
  · exact ⟨1, by omega, h1n, h.1, h.2⟩
  · exact ⟨2, by omega, h.1.1, h.1.2, h.2⟩
  · exact ⟨3, by omega, h.1.1, h.1.2, h.2⟩
  · exact ⟨4, by omega, h.1.1, h.1.2, h.2⟩
  · exact ⟨5, by omega, h.1.1, h.1.2, h.2⟩
theorem Quo.meet {n : Int} (hn : isM n) (Q R : Int → Prop) (h1 : Quo n Q) (h2 : Quo n R) : ∃ k, Q k ∧ R k := by
  obtain ⟨q, hq, e1⟩ := h1
  obtain ⟨r, hr, e2⟩ := h2
  obtain ⟨k, k1, k2, k3, k4⟩ := enough_meet hn e1 e2
  exact ⟨k, hq k k3 k1 k2, hr k k4 k1 k2⟩
/-- A state grows. -/
structure Le (S T : PS) : Prop where
  said : ∀ e ∈ S.said, e ∈ T.said
  prom : ∀ k, (S.A k).prom ≤ (T.A k).prom
  acc : ∀ k b s, accd T k b s → accd S k b s ∨ (S.A k).prom ≤ b
theorem Le.accd {S T : PS} (h : Le S T) {k b s : Int} (a : accd S k b s) : accd T k b s := by
  obtain ⟨e, he, r⟩ := a
  exact ⟨e, h.said e he, r⟩
theorem Le.prpd {S T : PS} (h : Le S T) {b s : Int} {c : Cmd} (a : prpd S b s c) : prpd T b s c := by
  obtain ⟨e, he, r⟩ := a
  exact ⟨e, h.said e he, r⟩
theorem Le.grows {S T : PS} (h : Le S T) : Pax.Grows (stOf S) (stOf T) := ⟨h.prom, fun b s c a => h.prpd a, h.acc⟩
def PromOk (S : PS) (e : Say) : Prop :=
  e.ballot ≤ (S.A e.frm).prom ∧ (∀ s b', e.slot ≤ s → accd S e.frm b' s → b' < e.ballot → ∃ v ∈ e.votes.2, v.slot = s ∧ b' ≤ v.ballot) ∧ ∀ v ∈ e.votes.2, prpd S v.ballot v.slot v.cmd ∧ v.ballot ≤ e.ballot
theorem PromOk.le {S T : PS} {e : Say} (h : Le S T) (a : PromOk S e) : PromOk T e := by
  obtain ⟨a1, a2, a3⟩ := a
  refine ⟨Int.le_trans a1 (h.prom _), fun s b' hs hc hb => ?_, fun v hv => ⟨h.prpd (a3 v hv).1, (a3 v hv).2⟩⟩
  rcases h.acc _ _ _ hc with hc | hc
  · exact a2 s b' hs hc hb
  · omega
structure LdOk (n : Int) (S : PS) (j : Int) (l : Ld) : Prop where
  me : l.x.me = j
  ms : l.x.masters = n
  bal : u64ok l.x.ballot
  mine : l.x.ballot = 0 ∨ l.x.ballot % 8 = j
  frm : l.x.frm = 0
  next : 0 ≤ l.x.next ∧ l.x.next ≤ 512
  co : CameOk l.x l.came
  st : l.x.state = 0 ∨ l.x.state = 1 ∨ l.x.state = 2
  ofine : keysOk l.opn ∧ ∀ k ∈ l.opn.map (·.1), 0 ≤ k ∧ k < 512
  one : l.x.state = 1 → l.x.next = 0 ∧ l.opn = [] ∧ l.x.ballot ≠ 0 ∧ (∀ s c, ¬ prpd S l.x.ballot s c) ∧ ∀ a ∈ l.came, ∃ e ∈ S.said, e.kind = 2 ∧ e.frm = a.1 ∧ e.ballot = l.x.ballot ∧ e.slot = 0 ∧ a.2.2 = cutV 0 e.votes.2
  two : l.x.state = 2 → l.x.ballot ≠ 0 ∧ ∃ q : Int → Bool, enoughQ q n = true ∧ ∀ k, q k = true → 1 ≤ k → k ≤ n → l.x.ballot ≤ (S.A k).prom ∧ ∀ s, l.x.next ≤ s → ∀ b', accd S k b' s → l.x.ballot ≤ b'
  opn : ∀ s p, mget l.opn s = some p → l.x.state = 2 ∧ prpd S l.x.ballot s p.cmd ∧ ∀ k, p.who k = true → accd S k l.x.ballot s
  zero : l.x.state = 0 → l.opn = []
theorem LdOk.le {n j : Int} {S T : PS} {l : Ld} (h : Le S T) (a : LdOk n S j l) (hp : l.x.state = 1 → ∀ s c, prpd T l.x.ballot s c → prpd S l.x.ballot s c) : LdOk n T j l := by
  refine { a with one := fun hs => ?_, two := fun hs => ?_, opn := fun s p hg => ?_ }
  · obtain ⟨o1, o2, o3, o4, o5⟩ := a.one hs
    refine ⟨o1, o2, o3, fun s c hc => o4 s c (hp hs s c hc), fun e he => ?_⟩
    obtain ⟨m, hm, r⟩ := o5 e he
    exact ⟨m, h.said m hm, r⟩
  · obtain ⟨t1, q, hq, t2⟩ := a.two hs
    refine ⟨t1, q, hq, fun k hk k1 k2 => ⟨Int.le_trans (t2 k hk k1 k2).1 (h.prom k), fun s hn b' hc => ?_⟩⟩
    rcases h.acc _ _ _ hc with hc | hc
    · exact (t2 k hk k1 k2).2 s hn b' hc
    · have := (t2 k hk k1 k2).1; omega
  · obtain ⟨o1, o2, o3⟩ := a.opn s p hg
    exact ⟨o1, h.prpd o2, fun k hk => h.accd (o3 k hk)⟩
structure SayOk (n : Int) (e : Say) : Prop where
  kind : e.kind = 1 ∨ e.kind = 2 ∨ e.kind = 3 ∨ e.kind = 4
  frm : 1 ≤ e.frm ∧ e.frm ≤ n
  to : 1 ≤ e.to ∧ e.to ≤ n
  bal : u64ok e.ballot
  votes : e.votes.2.length ≤ 100000
  slot : e.kind = 1 ∨ e.kind = 2 → e.slot = 0
  slot4 : e.kind = 4 → 0 ≤ e.slot ∧ e.slot < 512
structure Inv (n : Int) (S : PS) : Prop where
  hn : isM n
  acc1 : ∀ k b s, accd S k b s → b ≤ (S.A k).prom ∧ ∃ v, mget (S.A k).m s = some v ∧ b ≤ v.ballot
  acc2 : ∀ k s v, mget (S.A k).m s = some v → prpd S v.ballot s v.cmd
  fine : ∀ k, keysOk (S.A k).m ∧ (∀ i ∈ (S.A k).m.map (·.1), 0 ≤ i ∧ i < 512) ∧ slotsOk (S.A k).m ∧ 0 ≤ (S.A k).prom ∧ ∀ s v, mget (S.A k).m s = some v → v.ballot ≤ (S.A k).prom
  prm : ∀ e ∈ S.said, e.kind = 2 → PromOk S e
  uniq : ∀ b s c c', prpd S b s c → prpd S b s c' → c = c'
  own : ∀ b s c, prpd S b s c → ∃ j, 1 ≤ j ∧ j ≤ n ∧ b % 8 = j ∧ b ≤ (S.L j).x.ballot ∧ (b = (S.L j).x.ballot → s < (S.L j).x.next)
  safe : ∀ b s c, prpd S b s c → Pax.Safe (Quo n) (stOf S) b s c
  ld : ∀ j, 1 ≤ j → j ≤ n → LdOk n S j (S.L j)
  ch : ∀ v ∈ S.chosen, prpd S v.ballot v.slot v.cmd ∧ Quo n (fun k => accd S k v.ballot v.slot)
  msg : ∀ e ∈ S.said, SayOk n e
/-- No two unlike commands are chosen in a slot. -/
theorem Inv.good {n : Int} {S : PS} (I : Inv n S) {v w : Vote} (hv : v ∈ S.chosen) (hw : w ∈ S.chosen) (hs : v.slot = w.slot) : v.cmd = w.cmd := by
  obtain ⟨p1, q1⟩ := I.ch v hv
  obtain ⟨p2, q2⟩ := I.ch w hw
  rw [← hs] at p2 q2
  exact Pax.agree2 (quo := Quo n) (S := stOf S) (Quo.meet I.hn) I.uniq I.safe p1 q1 (fun k hk => hk) p2 q2 (fun k hk => hk)
/-- A leader turns; nothing that counts is said. -/
theorem Inv.lead {n : Int} {S : PS} (I : Inv n S) {j : Int} (hj : 1 ≤ j ∧ j ≤ n) (l : Ld) (more : List Say) (hm : ∀ e ∈ more, e.kind = 1 ∧ SayOk n e)
    (hl : LdOk n { S with L := upd S.L j l, said := S.said ++ more } j l) (hb : (S.L j).x.ballot ≤ l.x.ballot) (hb2 : (S.L j).x.ballot = l.x.ballot → (S.L j).x.next ≤ l.x.next) : Inv n { S with L := upd S.L j l, said := S.said ++ more } := by
  have ha : ∀ k b s, accd { S with L := upd S.L j l, said := S.said ++ more } k b s ↔ accd S k b s := by
    intro k b s
    constructor
    · rintro ⟨e, he, h1, r⟩
      rcases List.mem_append.1 he with he | he
      · exact ⟨e, he, h1, r⟩
      · have := (hm e he).1; omega
    · rintro ⟨e, he, r⟩
      exact ⟨e, List.mem_append_left _ he, r⟩
  have hp : ∀ b s c, prpd { S with L := upd S.L j l, said := S.said ++ more } b s c ↔ prpd S b s c := by
    intro b s c
    constructor
    · rintro ⟨e, he, h1, r⟩
      rcases List.mem_append.1 he with he | he
      · exact ⟨e, he, h1, r⟩
      · have := (hm e he).1; omega
    · rintro ⟨e, he, r⟩
      exact ⟨e, List.mem_append_left _ he, r⟩
  have le : Le S { S with L := upd S.L j l, said := S.said ++ more } := ⟨fun e he => List.mem_append_left _ he, fun _ => Int.le_refl _, fun k b s h => .inl ((ha k b s).1 h)⟩
  refine ⟨I.hn, fun k b s h => I.acc1 k b s ((ha k b s).1 h), fun k s v h => (hp _ _ _).2 (I.acc2 k s v h), I.fine, fun e he hk => ?_, fun b s c c' h1 h2 => I.uniq b s c c' ((hp _ _ _).1 h1) ((hp _ _ _).1 h2), fun b s c h => ?_, fun b s c h => (I.safe b s c ((hp _ _ _).1 h)).grows le.grows, fun i h1 h2 => ?_, fun v hv => ?_, fun e he => ?_⟩
  · rcases List.mem_append.1 he with he | he
    · exact (I.prm e he hk).le le
    · have := (hm e he).1; omega
  · obtain ⟨i, i1, i2, i3, i4, i5⟩ := I.own b s c ((hp _ _ _).1 h)
    refine ⟨i, i1, i2, i3, ?_, ?_⟩
    · by_cases e : i = j
      · subst e; show b ≤ (upd S.L i l i).x.ballot; rw [upd_self]; omega
      · show b ≤ (upd S.L j l i).x.ballot; rw [upd_ne _ _ e]; exact i4
    · by_cases e : i = j
      · subst e
        show b = (upd S.L i l i).x.ballot → s < (upd S.L i l i).x.next
        rw [upd_self]
        intro hbe
        have := i5 (by omega)
        have := hb2 (by omega)
        omega
      · show b = (upd S.L j l i).x.ballot → s < (upd S.L j l i).x.next
        rw [upd_ne _ _ e]; exact i5
  · by_cases e : i = j
    · subst e; show LdOk n _ i (upd S.L i l i); rw [upd_self]; exact hl
    · show LdOk n _ i (upd S.L j l i); rw [upd_ne _ _ e]; exact (I.ld i h1 h2).le le (fun _ s c h => (hp _ _ _).1 h)
  · obtain ⟨p1, q, hq, r⟩ := I.ch v hv
    exact ⟨le.prpd p1, q, fun k h1 h2 h3 => le.accd (hq k h1 h2 h3), r⟩
  · rcases List.mem_append.1 he with he | he
    · exact I.msg e he
    · exact (hm e he).2
/-- Something is chosen. -/
theorem Inv.chose {n : Int} {S : PS} (I : Inv n S) {v : Vote} (h1 : prpd S v.ballot v.slot v.cmd) (h2 : Quo n (fun k => accd S k v.ballot v.slot)) : Inv n { S with chosen := S.chosen ++ [v] } :=
  { I with
    safe := I.safe
    ld := fun j h1 h2 => by have a := I.ld j h1 h2; exact ⟨a.me, a.ms, a.bal, a.mine, a.frm, a.next, a.co, a.st, a.ofine, a.one, a.two, a.opn, a.zero⟩
    ch := fun w hw => by
      rcases List.mem_append.1 hw with hw | hw
      · exact I.ch w hw
      · rw [List.mem_singleton] at hw; subst hw; exact ⟨h1, h2⟩ }
end Go.Proofs.Ytdolepapmpcpiaa

namespace Go.Proofs.Ytdolepapmpcpiaa
open Go
set_option linter.unusedSectionVars false
variable [Base]
set_option linter.unusedVariables false
set_option linter.unusedSimpArgs false
/-- What is promised is told. -/
theorem Inv.prepare {n : Int} {S : PS} (I : Inv n S) {k : Int} (e : Say) (he : e ∈ S.said) (hk : e.kind = 1) (hto : e.to = k) (h0 : mPrepE (S.A k).prom e.ballot e.slot = 0) (va : Value) (hl : (mPrepL (S.A k).prom (S.A k).m e.ballot e.slot).length ≤ 100000) :
    Inv n { S with A := upd S.A k ⟨mPrepP (S.A k).prom e.ballot e.slot, (S.A k).m⟩, said := S.said ++ [⟨2, k, e.frm, e.ballot, e.slot, (va, mPrepL (S.A k).prom (S.A k).m e.ballot e.slot), cmd0⟩] } := by
  have hP : mPrepP (S.A k).prom e.ballot e.slot = e.ballot := by unfold mPrepP; rw [if_pos h0]
  have hL : mPrepL (S.A k).prom (S.A k).m e.ballot e.slot = risingL (S.A k).m e.slot := by unfold mPrepL; rw [if_pos h0]
  have hge : (S.A k).prom ≤ e.ballot := by
    unfold mPrepE at h0
    split at h0
    · cases h0
    · split at h0
      · cases h0
      · omega
  rw [hL] at hl
  rw [hP, hL]
  have hek := I.msg e he
  obtain ⟨S', hS'⟩ : ∃ S' : PS, S' = { S with A := upd S.A k ⟨e.ballot, (S.A k).m⟩, said := S.said ++ [⟨2, k, e.frm, e.ballot, e.slot, (va, risingL (S.A k).m e.slot), cmd0⟩] } := ⟨_, rfl⟩
  have hsaid : S'.said = S.said ++ [⟨2, k, e.frm, e.ballot, e.slot, (va, risingL (S.A k).m e.slot), cmd0⟩] := by rw [hS']
  have hAk : S'.A k = ⟨e.ballot, (S.A k).m⟩ := by rw [hS']; exact upd_self _ _ _
  have hAi : ∀ i, i ≠ k → S'.A i = S.A i := fun i hi => by rw [hS']; exact upd_ne _ _ hi
  have hAm : ∀ i, (S'.A i).m = (S.A i).m := fun i => by
    by_cases h : i = k
    · subst h; rw [hAk]
    · rw [hAi i h]
  have hpm : ∀ i, (S.A i).prom ≤ (S'.A i).prom := fun i => by
    by_cases h : i = k
    · subst h; rw [hAk]; exact hge
    · rw [hAi i h]; exact Int.le_refl _
  have ha : ∀ k b s, accd S' k b s ↔ accd S k b s := by
    intro k' b s
    unfold accd
    rw [hsaid]
    constructor
    · rintro ⟨m, hm, h1, r⟩
      rcases List.mem_append.1 hm with hm | hm
      · exact ⟨m, hm, h1, r⟩
      · rw [List.mem_singleton] at hm; subst hm; simp at h1
    · rintro ⟨m, hm, r⟩
      exact ⟨m, List.mem_append_left _ hm, r⟩
  have hp : ∀ b s c, prpd S' b s c ↔ prpd S b s c := by
    intro b s c
    unfold prpd
    rw [hsaid]
    constructor
    · rintro ⟨m, hm, h1, r⟩
      rcases List.mem_append.1 hm with hm | hm
      · exact ⟨m, hm, h1, r⟩
      · rw [List.mem_singleton] at hm; subst hm; simp at h1
    · rintro ⟨m, hm, r⟩
      exact ⟨m, List.mem_append_left _ hm, r⟩
  have le : Le S S' := ⟨fun m hm => by rw [hsaid]; exact List.mem_append_left _ hm, hpm, fun k b s h => .inl ((ha k b s).1 h)⟩
  have hSL : S'.L = S.L := by rw [hS']
  have hSc : S'.chosen = S.chosen := by rw [hS']
  rw [← hS']
  obtain ⟨f1, f2, f3, f4, f5⟩ := I.fine k
  refine ⟨I.hn, fun i b s h => ?_, fun i s v h => ?_, fun i => ?_, fun m hm hk2 => ?_, fun b s c c' h1 h2 => I.uniq b s c c' ((hp _ _ _).1 h1) ((hp _ _ _).1 h2), fun b s c h => ?_, fun b s c h => (I.safe b s c ((hp _ _ _).1 h)).grows le.grows, fun i h1 h2 => ?_, fun v hv => ?_, fun m hm => ?_⟩
  · have h1 := I.acc1 i b s ((ha _ _ _).1 h)
    rw [hAm]
    exact ⟨Int.le_trans h1.1 (hpm i), h1.2⟩
  · rw [hAm] at h
    exact (hp _ _ _).2 (I.acc2 i s v h)
  · obtain ⟨g1, g2, g3, g4, g5⟩ := I.fine i
    rw [hAm]
    exact ⟨g1, g2, g3, Int.le_trans g4 (hpm i), fun s v h => Int.le_trans (g5 s v h) (hpm i)⟩
  · rw [hsaid] at hm
    rcases List.mem_append.1 hm with hm | hm
    · exact (I.prm m hm hk2).le le
    · rw [List.mem_singleton] at hm
      subst hm
      have hat := fun s => atL_risingL f1 f3 e.slot s
      refine ⟨by simp only; rw [hAk]; exact Int.le_refl _, fun s b' hs hc hb => ?_, fun v hv => ?_⟩
      · simp only at hs hc hb ⊢
        obtain ⟨_, v, hv, hbv⟩ := I.acc1 k b' s ((ha _ _ _).1 hc)
        have h1 := hat s
        rw [if_pos hs, hv] at h1
        obtain ⟨h2, h3⟩ := atL_mem h1
        exact ⟨v, h2, h3, hbv⟩
      · simp only at hv ⊢
        have h1 := atL_of_mem (risingL_rising f1 f3 e.slot) hv
        rw [hat] at h1
        split at h1
        · exact ⟨(hp _ _ _).2 (I.acc2 k _ v h1), Int.le_trans (f5 _ v h1) hge⟩
        · cases h1
  · rw [hSL]; exact I.own b s c ((hp _ _ _).1 h)
  · rw [hSL]; exact (I.ld i h1 h2).le le (fun _ s c h => (hp _ _ _).1 h)
  · rw [hSc] at hv
    obtain ⟨p1, q, hq, r⟩ := I.ch v hv
    exact ⟨le.prpd p1, q, fun k h1 h2 h3 => le.accd (hq k h1 h2 h3), r⟩
  · rw [hsaid] at hm
    rcases List.mem_append.1 hm with hm | hm
    · exact I.msg m hm
    · rw [List.mem_singleton] at hm
      subst hm
      exact ⟨.inr (.inl rfl), by rw [← hto]; exact hek.to, hek.frm, hek.bal, hl, fun _ => hek.slot (.inl hk), fun h => by simp at h⟩
/-- What is accepted is told. -/
theorem Inv.accept {n : Int} {S : PS} (I : Inv n S) {k : Int} (e : Say) (he : e ∈ S.said) (hk : e.kind = 3) (hto : e.to = k) (h0 : mAccE (S.A k).prom e.ballot e.slot e.cmd = 0) :
    Inv n { S with A := upd S.A k ⟨mAccP (S.A k).prom e.ballot e.slot e.cmd, mAccM (S.A k).prom (S.A k).m e.ballot e.slot e.cmd⟩, said := S.said ++ [⟨4, k, e.frm, e.ballot, e.slot, (.slice none 0 0, []), cmd0⟩] } := by
  have hP : mAccP (S.A k).prom e.ballot e.slot e.cmd = e.ballot := by unfold mAccP; rw [if_pos h0]
  have hM : mAccM (S.A k).prom (S.A k).m e.ballot e.slot e.cmd = mset (S.A k).m e.slot ⟨e.slot, e.ballot, e.cmd⟩ := by unfold mAccM; rw [if_pos h0]
  have hge : (S.A k).prom ≤ e.ballot ∧ 0 ≤ e.slot ∧ e.slot < 512 := by
    unfold mAccE at h0
    split at h0
    · cases h0
    · split at h0
      · rename_i h; exact absurd h0 h
      · split at h0
        · cases h0
        · omega
  rw [hP, hM]
  have hek := I.msg e he
  obtain ⟨S', hS'⟩ : ∃ S' : PS, S' = { S with A := upd S.A k ⟨e.ballot, mset (S.A k).m e.slot ⟨e.slot, e.ballot, e.cmd⟩⟩, said := S.said ++ [⟨4, k, e.frm, e.ballot, e.slot, (.slice none 0 0, []), cmd0⟩] } := ⟨_, rfl⟩
  have hsaid : S'.said = S.said ++ [⟨4, k, e.frm, e.ballot, e.slot, (.slice none 0 0, []), cmd0⟩] := by rw [hS']
  have hAk : S'.A k = ⟨e.ballot, mset (S.A k).m e.slot ⟨e.slot, e.ballot, e.cmd⟩⟩ := by rw [hS']; exact upd_self _ _ _
  have hAi : ∀ i, i ≠ k → S'.A i = S.A i := fun i hi => by rw [hS']; exact upd_ne _ _ hi
  have hpm : ∀ i, (S.A i).prom ≤ (S'.A i).prom := fun i => by
    by_cases h : i = k
    · subst h; rw [hAk]; exact hge.1
    · rw [hAi i h]; exact Int.le_refl _
  have ha : ∀ k' b s, accd S' k' b s ↔ accd S k' b s ∨ (k' = k ∧ b = e.ballot ∧ s = e.slot) := by
    intro k' b s
    unfold accd
    rw [hsaid]
    constructor
    · rintro ⟨m, hm, h1, h2, h3, h4⟩
      rcases List.mem_append.1 hm with hm | hm
      · exact .inl ⟨m, hm, h1, h2, h3, h4⟩
      · rw [List.mem_singleton] at hm; subst hm; exact .inr ⟨h2.symm, h3.symm, h4.symm⟩
    · rintro (⟨m, hm, r⟩ | ⟨rfl, rfl, rfl⟩)
      · exact ⟨m, List.mem_append_left _ hm, r⟩
      · exact ⟨_, List.mem_append_right _ (List.mem_singleton.2 rfl), rfl, rfl, rfl, rfl⟩
  have hp : ∀ b s c, prpd S' b s c ↔ prpd S b s c := by
    intro b s c
    unfold prpd
    rw [hsaid]
    constructor
    · rintro ⟨m, hm, h1, r⟩
      rcases List.mem_append.1 hm with hm | hm
      · exact ⟨m, hm, h1, r⟩
      · rw [List.mem_singleton] at hm; subst hm; simp at h1
    · rintro ⟨m, hm, r⟩
      exact ⟨m, List.mem_append_left _ hm, r⟩
  have le : Le S S' := ⟨fun m hm => by rw [hsaid]; exact List.mem_append_left _ hm, hpm, fun k' b s h => by
    rcases (ha k' b s).1 h with h | ⟨rfl, rfl, rfl⟩
    · exact .inl h
    · exact .inr hge.1⟩
  have hSL : S'.L = S.L := by rw [hS']
  have hSc : S'.chosen = S.chosen := by rw [hS']
  rw [← hS']
  obtain ⟨f1, f2, f3, f4, f5⟩ := I.fine k
  refine ⟨I.hn, fun i b s h => ?_, fun i s v h => ?_, fun i => ?_, fun m hm hk2 => ?_, fun b s c c' h1 h2 => I.uniq b s c c' ((hp _ _ _).1 h1) ((hp _ _ _).1 h2), fun b s c h => ?_, fun b s c h => (I.safe b s c ((hp _ _ _).1 h)).grows le.grows, fun i h1 h2 => ?_, fun v hv => ?_, fun m hm => ?_⟩
  · rcases (ha i b s).1 h with h | ⟨rfl, rfl, rfl⟩
    · obtain ⟨h1, v, h2, h3⟩ := I.acc1 i b s h
      refine ⟨Int.le_trans h1 (hpm i), ?_⟩
      by_cases hik : i = k
      · subst hik
        rw [hAk]
        simp only [mget_mset]
        by_cases hs : s = e.slot
        · rw [if_pos hs]; exact ⟨_, rfl, by simp only; omega⟩
        · rw [if_neg hs]; exact ⟨v, h2, h3⟩
      · rw [hAi i hik]; exact ⟨v, h2, h3⟩
    · rw [hAk]
      simp only [mget_mset, if_true]
      exact ⟨Int.le_refl _, _, rfl, Int.le_refl _⟩
  · by_cases hik : i = k
    · subst hik
      rw [hAk] at h
      simp only [mget_mset] at h
      split at h
      · rename_i hs
        cases h
        subst hs
        exact (hp _ _ _).2 ⟨e, he, hk, rfl, rfl, rfl⟩
      · exact (hp _ _ _).2 (I.acc2 i s v h)
    · rw [hAi i hik] at h
      exact (hp _ _ _).2 (I.acc2 i s v h)
  · by_cases hik : i = k
    · subst hik
      rw [hAk]
      refine ⟨keysOk_mset f1 _ _, fun a ha' => ?_, slotsOk_mset f3 ⟨e.slot, e.ballot, e.cmd⟩, by simp only; omega, fun s v h => ?_⟩
      · rcases mset_keys ha' with rfl | h
        · exact hge.2
        · exact f2 a h
      · simp only [mget_mset] at h
        split at h
        · cases h; exact Int.le_refl _
        · have := f5 s v h; simp only; omega
    · rw [hAi i hik]; exact I.fine i
  · rw [hsaid] at hm
    rcases List.mem_append.1 hm with hm | hm
    · exact (I.prm m hm hk2).le le
    · rw [List.mem_singleton] at hm; subst hm; simp at hk2
  · rw [hSL]; exact I.own b s c ((hp _ _ _).1 h)
  · rw [hSL]; exact (I.ld i h1 h2).le le (fun _ s c h => (hp _ _ _).1 h)
  · rw [hSc] at hv
    obtain ⟨p1, q, hq, r⟩ := I.ch v hv
    exact ⟨le.prpd p1, q, fun k h1 h2 h3 => le.accd (hq k h1 h2 h3), r⟩
  · rw [hsaid] at hm
    rcases List.mem_append.1 hm with hm | hm
    · exact I.msg m hm
    · rw [List.mem_singleton] at hm
      subst hm
      exact ⟨.inr (.inr (.inr rfl)), by rw [← hto]; exact hek.to, hek.frm, hek.bal, by simp, fun h => by rcases h with h | h <;> simp at h, fun _ => hge.2⟩
/-- Proposals are said: they are new, and may be. -/
theorem Inv.propose {n : Int} {S : PS} (I : Inv n S) {j : Int} (hj : 1 ≤ j ∧ j ≤ n) (l : Ld) (more : List Say) (b : Int) (P : Int → Cmd → Prop)
    (hm : ∀ e ∈ more, e.kind = 3 ∧ e.ballot = b ∧ P e.slot e.cmd ∧ SayOk n e) (hall : ∀ s c, P s c → ∃ e ∈ more, e.slot = s ∧ e.cmd = c) (huq : ∀ s c c', P s c → P s c' → c = c')
    (hbx : b = l.x.ballot ∧ b = (S.L j).x.ballot) (hbm : b % 8 = j) (hnew : ∀ s c, P s c → (S.L j).x.next ≤ s ∧ s < l.x.next) (hnx : (S.L j).x.next ≤ l.x.next)
    (hsafe : ∀ s c, P s c → Pax.Safe (Quo n) (stOf S) b s c)
    (hst : l.x.state = 2) (hl : ∀ T : PS, Le S T → (∀ s c, P s c → prpd T b s c) → LdOk n T j l) : Inv n { S with L := upd S.L j l, said := S.said ++ more } := by
  obtain ⟨S', hS'⟩ : ∃ S' : PS, S' = { S with L := upd S.L j l, said := S.said ++ more } := ⟨_, rfl⟩
  have hsaid : S'.said = S.said ++ more := by rw [hS']
  have hSA : S'.A = S.A := by rw [hS']
  have hSc : S'.chosen = S.chosen := by rw [hS']
  have hLj : S'.L j = l := by rw [hS']; exact upd_self _ _ _
  have hLi : ∀ i, i ≠ j → S'.L i = S.L i := fun i hi => by rw [hS']; exact upd_ne _ _ hi
  rw [← hS']
  have ha : ∀ k b s, accd S' k b s ↔ accd S k b s := by
    intro k b s
    unfold accd
    rw [hsaid]
    constructor
    · rintro ⟨e, he, h1, r⟩
      rcases List.mem_append.1 he with he | he
      · exact ⟨e, he, h1, r⟩
      · have := (hm e he).1; omega
    · rintro ⟨e, he, r⟩
      exact ⟨e, List.mem_append_left _ he, r⟩
  have hp : ∀ b' s c, prpd S' b' s c ↔ prpd S b' s c ∨ (b' = b ∧ P s c) := by
    intro b' s c
    unfold prpd
    rw [hsaid]
    constructor
    · rintro ⟨e, he, h1, h2, h3, h4⟩
      rcases List.mem_append.1 he with he | he
      · exact .inl ⟨e, he, h1, h2, h3, h4⟩
      · obtain ⟨m1, m2, m3, m4⟩ := hm e he
        exact .inr ⟨by rw [← h2, m2], by rw [← h3, ← h4]; exact m3⟩
    · rintro (⟨e, he, r⟩ | ⟨rfl, hP⟩)
      · exact ⟨e, List.mem_append_left _ he, r⟩
      · obtain ⟨e, he, h1, h2⟩ := hall s c hP
        exact ⟨e, List.mem_append_right _ he, (hm e he).1, (hm e he).2.1, h1, h2⟩
  have le : Le S S' := ⟨fun e he => by rw [hsaid]; exact List.mem_append_left _ he, fun k => by rw [hSA]; exact Int.le_refl _, fun k b s h => .inl ((ha k b s).1 h)⟩
  have hnot : ∀ s c c', P s c → ¬ prpd S b s c' := by
    intro s c c' hP hq
    obtain ⟨i, _, _, i3, i4, i5⟩ := I.own b s c' hq
    rw [hbm] at i3
    subst i3
    have := i5 hbx.2
    have := (hnew s c hP).1
    omega
  refine ⟨I.hn, fun k b s h => by rw [hSA]; exact I.acc1 k b s ((ha k b s).1 h), fun k s v h => by rw [hSA] at h; exact le.prpd (I.acc2 k s v h), fun k => by rw [hSA]; exact I.fine k, fun e he hk => ?_, fun b' s c c' h1 h2 => ?_, fun b' s c h => ?_, fun b' s c h => ?_, fun i h1 h2 => ?_, fun v hv => ?_, fun e he => ?_⟩
  · rw [hsaid] at he
    rcases List.mem_append.1 he with he | he
    · exact (I.prm e he hk).le le
    · have := (hm e he).1; omega
  · rcases (hp b' s c).1 h1 with h1 | ⟨e1, h1⟩
    · rcases (hp b' s c').1 h2 with h2 | ⟨e2, h2⟩
      · exact I.uniq b' s c c' h1 h2
      · subst e2; exact absurd h1 (hnot s c' c h2)
    · rcases (hp b' s c').1 h2 with h2 | ⟨e2, h2⟩
      · subst e1; exact absurd h2 (hnot s c c' h1)
      · exact huq s c c' h1 h2
  · rcases (hp b' s c).1 h with h | ⟨e1, h⟩
    · obtain ⟨i, i1, i2, i3, i4, i5⟩ := I.own b' s c h
      refine ⟨i, i1, i2, i3, ?_, ?_⟩
      · by_cases e : i = j
        · subst e; rw [hLj, ← hbx.1, hbx.2]; exact i4
        · rw [hLi i e]; exact i4
      · by_cases e : i = j
        · subst e; rw [hLj, ← hbx.1]; intro h; have := i5 (by rw [← hbx.2]; exact h); omega
        · rw [hLi i e]; exact i5
    · subst e1
      exact ⟨j, hj.1, hj.2, hbm, by rw [hLj, ← hbx.1]; exact Int.le_refl _, fun _ => by rw [hLj]; exact (hnew s c h).2⟩
  · rcases (hp b' s c).1 h with h | ⟨e1, h⟩
    · exact (I.safe b' s c h).grows le.grows
    · subst e1; exact (hsafe s c h).grows le.grows
  · by_cases e : i = j
    · subst e
      rw [hLj]
      exact hl S' le (fun s c h => (hp b s c).2 (.inr ⟨rfl, h⟩))
    · rw [hLi i e]
      have a := I.ld i h1 h2
      refine a.le le (fun hs1 s c h => ?_)
      rcases (hp _ s c).1 h with h | ⟨e1, _⟩
      · exact h
      · exfalso
        have h0 := (a.one hs1).2.2.1
        rcases a.mine with m | m
        · exact h0 m
        · rw [e1, hbm] at m; exact e m.symm
  · rw [hSc] at hv
    obtain ⟨p1, q, hq, r⟩ := I.ch v hv
    exact ⟨le.prpd p1, q, fun k h1 h2 h3 => le.accd (hq k h1 h2 h3), r⟩
  · rw [hsaid] at he
    rcases List.mem_append.1 he with he | he
    · exact I.msg e he
    · exact (hm e he).2.2.2
end Go.Proofs.Ytdolepapmpcpiaa

namespace Go.Proofs.Ytdolepapmpcpiaa
open Go
set_option linter.unusedSectionVars false
variable [Base]
set_option linter.unusedVariables false
set_option linter.unusedSimpArgs false
theorem slots_fine {α : Type} {m : List (Int × α)} (h : keysOk m ∧ ∀ k ∈ m.map (·.1), 0 ≤ k ∧ k < 512) : KeysFine m := by
  refine ⟨h.1, fun k hk => by have := h.2 k hk; unfold i64ok; omega, ?_⟩
  have h1 : ((m.map (·.1)).map (· + 1)).Nodup := by
    have := h.1
    unfold keysOk at this
    exact List.Pairwise.map _ (by intro a b hab e; apply hab; omega) this
  have := nodup_le (n := 512) h1 (fun k hk => by
    obtain ⟨a, ha, rfl⟩ := List.mem_map.1 hk
    have := h.2 a ha
    omega)
  simp at this
  omega
theorem mdel_sub {α : Type} (m : List (Int × α)) (i : Int) : (mdel m i).Sublist m := by
  unfold mdel
  split
  · exact List.eraseIdx_sublist ..
  · exact List.Sublist.refl _
theorem keysOk_mdel {α : Type} {m : List (Int × α)} (h : keysOk m) (i : Int) : keysOk (mdel m i) := by
  unfold keysOk at *
  exact h.sublist ((mdel_sub m i).map _)
theorem mget_mdel {α : Type} {m : List (Int × α)} (h : keysOk m) {i k : Int} {x : α} (hg : mget (mdel m i) k = some x) : mget m k = some x :=
  mget_of_mem h ((mdel_sub m i).subset (mget_mem hg))
theorem fillM_opn (f : Int) (best : List Vote) (n : Nat) : fillM f best n = opnOf (fillR f best n) := by
  unfold fillM opnOf fillR
  rw [List.map_map]
  rfl
theorem best_max (l : List Vote) : (∀ u ∈ l, ∃ v, atL (rBestL l) u.slot = some v ∧ u.ballot ≤ v.ballot) ∧ ∀ s v, atL (rBestL l) s = some v → v ∈ l ∧ v.slot = s := by
  have gen : ∀ (l a : List Vote), Rising a → (∀ w ∈ a, ∃ v, atL (l.foldl bestR a) w.slot = some v ∧ w.ballot ≤ v.ballot) ∧ (∀ u ∈ l, ∃ v, atL (l.foldl bestR a) u.slot = some v ∧ u.ballot ≤ v.ballot) := by
    intro l
    induction l with
    | nil => intro a ha; exact ⟨fun w hw => ⟨w, atL_of_mem ha hw, Int.le_refl _⟩, fun u hu => (by cases hu)⟩
    | cons x l ih =>
      intro a ha
      obtain ⟨i1, i2⟩ := ih (bestR a x) (bestR_rising ha x)
      have key : ∀ w, (w ∈ a ∨ w = x) → ∃ v ∈ bestR a x, v.slot = w.slot ∧ w.ballot ≤ v.ballot := by
        intro w hw
        have hx : ∀ s, atL (putL x a) s = if x.slot = s then some x else atL a s := atL_putL x ha
        have hmem : ∀ {s v}, atL (putL x a) s = some v → v ∈ putL x a ∧ v.slot = s := atL_mem
        unfold bestR
        cases hg : atL a x.slot with
        | none =>
          simp only
          rcases hw with hw | rfl
          · have h1 := atL_of_mem ha hw
            have hne : x.slot ≠ w.slot := by intro e; rw [e, h1] at hg; cases hg
            have h2 := hx w.slot
            rw [if_neg hne, h1] at h2
            exact ⟨w, (hmem h2).1, rfl, Int.le_refl _⟩
          · have h2 := hx w.slot
            rw [if_pos rfl] at h2
            exact ⟨w, (hmem h2).1, rfl, Int.le_refl _⟩
        | some o =>
          obtain ⟨ho, hos⟩ := atL_mem hg
          simp only
          by_cases hb : o.ballot < x.ballot
          · rw [if_pos hb]
            rcases hw with hw | rfl
            · have h1 := atL_of_mem ha hw
              by_cases e : x.slot = w.slot
              · have h2 := hx w.slot
                rw [if_pos e] at h2
                rw [e, h1] at hg
                cases hg
                exact ⟨x, (hmem h2).1, e, by omega⟩
              · have h2 := hx w.slot
                rw [if_neg e, h1] at h2
                exact ⟨w, (hmem h2).1, rfl, Int.le_refl _⟩
            · have h2 := hx w.slot
              rw [if_pos rfl] at h2
              exact ⟨w, (hmem h2).1, rfl, Int.le_refl _⟩
          · rw [if_neg hb]
            rcases hw with hw | rfl
            · exact ⟨w, hw, rfl, Int.le_refl _⟩
            · exact ⟨o, ho, hos, by omega⟩
      have up : ∀ w, (w ∈ a ∨ w = x) → ∃ v, atL ((x :: l).foldl bestR a) w.slot = some v ∧ w.ballot ≤ v.ballot := by
        intro w hw
        obtain ⟨v, hv, h1, h2⟩ := key w hw
        obtain ⟨y, h3, h4⟩ := i1 v hv
        rw [List.foldl_cons, ← h1]
        exact ⟨y, h3, by omega⟩
      refine ⟨fun w hw => up w (.inl hw), fun u hu => ?_⟩
      cases hu with
      | head => exact up x (.inr rfl)
      | tail _ hu => rw [List.foldl_cons]; exact i2 u hu
  refine ⟨(gen l [] List.Pairwise.nil).2, fun s v h => ?_⟩
  obtain ⟨h1, h2⟩ := atL_mem h
  exact ⟨rBest_mem (fun v => v ∈ l) l [] (fun v hv => hv) (by simp) v h1, h2⟩
theorem Inv.start {n : Int} {S : PS} (I : Inv n S) {j : Int} (hj : 1 ≤ j ∧ j ≤ n) {ab : Int} (hab : u64ok ab) (he : startE (S.L j).x ab 0 = 0) (more : List Say) (hm : ∀ e ∈ more, e.kind = 1 ∧ SayOk n e) :
    Inv n { S with L := upd S.L j ⟨startX (S.L j).x ab 0, [], []⟩, said := S.said ++ more } := by
  have a := I.ld j hj.1 hj.2
  have hmx : u64ok (maxI ab (S.L j).x.ballot) := by unfold maxI; split; exact a.bal; exact hab
  have hge : (S.L j).x.ballot ≤ maxI ab (S.L j).x.ballot := by unfold maxI; split <;> omega
  have hne : nextE (maxI ab (S.L j).x.ballot) (S.L j).x.me = 0 := by
    unfold startE at he
    rw [if_neg (by omega)] at he
    exact he
  obtain ⟨g1, g2, g3, g4, g5⟩ := nextB_gt hmx.1 hne
  have hx : startX (S.L j).x ab 0 = { (S.L j).x with state := 1, ballot := nextB (maxI ab (S.L j).x.ballot) (S.L j).x.me, frm := 0, next := 0 } := by unfold startX; rw [if_pos he]
  rw [hx]
  have hn5 : 1 ≤ n ∧ n ≤ 5 := by have := I.hn; unfold isM at this; omega
  refine I.lead hj _ more hm ?_ (by simp only; omega) (fun e => by simp only at e; omega)
  refine ⟨a.me, a.ms, by unfold u64ok at hmx ⊢; simp only; omega, .inr (g2.trans a.me), rfl, by simp only; omega, CameOk.nil a.co.masters ⟨Int.le_refl _, show (0 : Int) ≤ 512 by decide⟩, .inr (.inl rfl), ⟨List.nodup_nil, by simp⟩, fun _ => ⟨rfl, rfl, by simp only; unfold u64ok at hmx; omega, fun s c hc => ?_, fun e he => (by cases he)⟩, fun h => absurd h (by show ¬ (1 : Int) = 2; decide), fun s p hg => (by cases hg), fun _ => rfl⟩
  obtain ⟨e, he, h1, h2, h3⟩ := hc
  rcases List.mem_append.1 he with he | he
  · obtain ⟨i, i1, i2, i3, i4, _⟩ := I.own _ s c ⟨e, he, h1, h2, h3⟩
    simp only at i3
    have : i = j := by have := a.me; omega
    subst this
    simp only at i4
    omega
  · have := (hm e he).1; omega
theorem Inv.refuse {n : Int} {S : PS} (I : Inv n S) {j : Int} (hj : 1 ≤ j ∧ j ≤ n) : Inv n { S with L := upd S.L j ⟨{ (S.L j).x with state := 0 }, [], []⟩ } := by
  have a := I.ld j hj.1 hj.2
  have := I.lead hj ⟨{ (S.L j).x with state := 0 }, [], []⟩ [] (fun e he => by cases he) ?_ (Int.le_refl _) (fun _ => Int.le_refl _)
  · simpa using this
  · exact ⟨a.me, a.ms, a.bal, a.mine, a.frm, a.next, CameOk.nil a.co.masters a.co.frm, .inl rfl, ⟨List.nodup_nil, by simp⟩, fun h => absurd h (by show ¬ (0 : Int) = 1; decide), fun h => absurd h (by show ¬ (0 : Int) = 2; decide), fun s p hg => (by cases hg), fun _ => rfl⟩
/-- A master accepted. -/
theorem Inv.accepted {n : Int} {S : PS} (I : Inv n S) {j : Int} (hj : 1 ≤ j ∧ j ≤ n) (e : Say) (he : e ∈ S.said) (hk : e.kind = 4) (hb : e.ballot = (S.L j).x.ballot) {q : Prp} (hq : mget (S.L j).opn e.slot = some q) :
    Inv n { S with L := upd S.L j ⟨(S.L j).x, (S.L j).came, mset (S.L j).opn e.slot (accW q e.frm)⟩ } ∧
    (enoughQ (addQ q.who e.frm) n = true → Inv n { S with L := upd S.L j ⟨(S.L j).x, (S.L j).came, mdel (mset (S.L j).opn e.slot (accW q e.frm)) e.slot⟩, chosen := S.chosen ++ [voteP (S.L j).x e.slot q.cmd] }) := by
  have a := I.ld j hj.1 hj.2
  obtain ⟨o1, o2, o3⟩ := a.opn _ _ hq
  have hacc : accd S e.frm (S.L j).x.ballot e.slot := ⟨e, he, hk, rfl, hb, rfl⟩
  have hsl := (I.msg e he).slot4 hk
  have hst2 : ∀ {h : (S.L j).x.state = 1}, False := fun {h} => by rw [o1] at h; cases h
  have hst0 : ∀ {h : (S.L j).x.state = 0}, False := fun {h} => by rw [o1] at h; cases h
  have hms : ∀ s p, mget (mset (S.L j).opn e.slot (accW q e.frm)) s = some p → prpd S (S.L j).x.ballot s p.cmd ∧ ∀ k, p.who k = true → accd S k (S.L j).x.ballot s := by
    intro s p hg
    rw [mget_mset] at hg
    split at hg
    · rename_i h
      cases hg
      subst h
      refine ⟨o2, fun k hk => ?_⟩
      simp only [accW, addQ, Bool.or_eq_true, decide_eq_true_eq] at hk
      rcases hk with hk | hk
      · exact o3 k hk
      · rw [hk]; exact hacc
    · exact (a.opn s p hg).2
  have hkm : keysOk (mset (S.L j).opn e.slot (accW q e.frm)) := keysOk_mset a.ofine.1 _ _
  have hkk : ∀ k ∈ (mset (S.L j).opn e.slot (accW q e.frm)).map (·.1), 0 ≤ k ∧ k < 512 := fun k hk => by
    rcases mset_keys hk with rfl | hk
    · exact hsl
    · exact a.ofine.2 k hk
  have mk : ∀ o : List (Int × Prp), keysOk o → (∀ k ∈ o.map (·.1), 0 ≤ k ∧ k < 512) → (∀ s p, mget o s = some p → prpd S (S.L j).x.ballot s p.cmd ∧ ∀ k, p.who k = true → accd S k (S.L j).x.ballot s) → Inv n { S with L := upd S.L j ⟨(S.L j).x, (S.L j).came, o⟩ } := by
    intro o ho1 ho2 ho3
    have := I.lead hj ⟨(S.L j).x, (S.L j).came, o⟩ [] (fun e he => by cases he) ?_ (Int.le_refl _) (fun _ => Int.le_refl _)
    · simpa using this
    · have a' : LdOk n S j ⟨(S.L j).x, (S.L j).came, o⟩ := ⟨a.me, a.ms, a.bal, a.mine, a.frm, a.next, a.co, a.st, ⟨ho1, ho2⟩, fun h => (hst2 (h := h)).elim, a.two, fun s p hg => ⟨o1, ho3 s p hg⟩, fun h => (hst0 (h := h)).elim⟩
      have le : Le S { S with L := upd S.L j ⟨(S.L j).x, (S.L j).came, o⟩, said := S.said ++ [] } := ⟨fun e he => List.mem_append_left _ he, fun _ => Int.le_refl _, fun k b s h => .inl (by unfold accd at h ⊢; simpa using h)⟩
      exact LdOk.le le a' (fun h => (hst2 (h := h)).elim)
  refine ⟨mk _ hkm hkk hms, fun hen => ?_⟩
  have I2 := mk (mdel (mset (S.L j).opn e.slot (accW q e.frm)) e.slot) (keysOk_mdel hkm _) (fun k hk => hkk k (((mdel_sub _ _).map _).subset hk)) (fun s p hg => hms s p (mget_mdel hkm hg))
  refine I2.chose (v := voteP (S.L j).x e.slot q.cmd) o2 ⟨addQ q.who e.frm, fun k hk _ _ => ?_, hen⟩
  simp only [addQ, Bool.or_eq_true, decide_eq_true_eq] at hk
  rcases hk with hk | hk
  · exact o3 k hk
  · rw [hk]; exact hacc
/-- A command is proposed. -/
theorem Inv.proposed {n : Int} {S : PS} (I : Inv n S) {j : Int} (hj : 1 ≤ j ∧ j ≤ n) {c : Cmd} (hst : (S.L j).x.state = 2) (hn : (S.L j).x.next < 512) (more : List Say)
    (hm : ∀ e ∈ more, e.kind = 3 ∧ e.ballot = (S.L j).x.ballot ∧ e.slot = (S.L j).x.next ∧ e.cmd = c ∧ SayOk n e) (hne : more ≠ []) :
    Inv n { S with L := upd S.L j ⟨layX (S.L j).x, (S.L j).came, mset (S.L j).opn (S.L j).x.next ⟨c, noneQ⟩⟩, said := S.said ++ more } := by
  have a := I.ld j hj.1 hj.2
  obtain ⟨t1, q, hq, t2⟩ := a.two hst
  have hb8 : (S.L j).x.ballot % 8 = j := a.mine.resolve_left t1
  refine I.propose hj _ more (S.L j).x.ballot (fun s c' => s = (S.L j).x.next ∧ c' = c) (fun e he => ?_) ?_ (fun s c1 c2 h1 h2 => h1.2.trans h2.2.symm) ⟨rfl, rfl⟩ hb8 (fun s c' h => ?_) (by show (S.L j).x.next ≤ (S.L j).x.next + 1; omega) ?_ hst ?_
  · obtain ⟨m1, m2, m3, m4, m5⟩ := hm e he
    exact ⟨m1, m2, ⟨m3, m4⟩, m5⟩
  · rintro s c' ⟨rfl, rfl⟩
    obtain ⟨e, he⟩ := List.exists_mem_of_ne_nil _ hne
    exact ⟨e, he, (hm e he).2.2.1, (hm e he).2.2.2.1⟩
  · show (S.L j).x.next ≤ s ∧ s < (S.L j).x.next + 1
    omega
  · rintro s c' ⟨rfl, rfl⟩
    refine ⟨fun k => q k = true ∧ 1 ≤ k ∧ k ≤ n, ⟨q, fun k h1 h2 h3 => ⟨h1, h2, h3⟩, hq⟩, fun k hk => (t2 k hk.1 hk.2.1 hk.2.2).1, .inl fun k b' hk hc => (t2 k hk.1 hk.2.1 hk.2.2).2 _ (Int.le_refl _) b' hc⟩
  · intro T le hT
    have a' := a.le le (fun h => by rw [hst] at h; cases h)
    obtain ⟨_, q', hq', t2'⟩ := a'.two hst
    refine ⟨a.me, a.ms, a.bal, a.mine, a.frm, ?_, ⟨a.co.keys, a.co.who, a.co.slots, a.co.len, a.co.masters, a.co.frm⟩, a.st, ⟨keysOk_mset a.ofine.1 _ _, fun k hk => ?_⟩, fun h => absurd (h.symm.trans hst) (by decide), fun _ => ⟨t1, q', hq', fun k h1 h2 h3 => ⟨(t2' k h1 h2 h3).1, fun s hs b' hc => (t2' k h1 h2 h3).2 s (by have : (S.L j).x.next + 1 ≤ s := hs; omega) b' hc⟩⟩, fun s p hg => ?_, fun h => absurd (h.symm.trans hst) (by decide)⟩
    · show 0 ≤ (S.L j).x.next + 1 ∧ (S.L j).x.next + 1 ≤ 512
      have := a.next; omega
    · rcases mset_keys hk with rfl | hk
      · have := a.next; omega
      · exact a.ofine.2 k hk
    · rw [mget_mset] at hg
      split at hg
      · rename_i h
        cases hg
        subst h
        exact ⟨hst, hT _ _ ⟨rfl, rfl⟩, fun k hk => by simp [noneQ] at hk⟩
      · exact a'.opn s p hg
end Go.Proofs.Ytdolepapmpcpiaa

namespace Go.Proofs.Ytdolepapmpcpiaa
open Go
set_option linter.unusedSectionVars false
variable [Base]
set_option linter.unusedVariables false
set_option linter.unusedSimpArgs false
theorem opnOf_get {ps : List RP} {s : Int} {p : Prp} (h : mget (opnOf ps) s = some p) : ∃ q ∈ ps, q.slot = s ∧ p = ⟨q.cmd, memQ q.who.2⟩ := by
  have := mget_mem h
  obtain ⟨q, hq, e⟩ := List.mem_map.1 this
  cases e
  exact ⟨q, hq, rfl, rfl⟩
/-- A promise that is not enough. -/
theorem Inv.promiseNo {n : Int} {S : PS} (I : Inv n S) {j : Int} (hj : 1 ≤ j ∧ j ≤ n) (e : Say) (he : e ∈ S.said) (hk : e.kind = 2) (hst : (S.L j).x.state = 1) (hb : e.ballot = (S.L j).x.ballot) (v' : Value) :
    Inv n { S with L := upd S.L j ⟨(S.L j).x, cameP (S.L j).came e.frm (v', cutV (S.L j).x.frm e.votes.2), []⟩ } := by
  have a := I.ld j hj.1 hj.2
  obtain ⟨o1, o2, o3, o4, o5⟩ := a.one hst
  have em := I.msg e he
  have hf := a.frm
  have := I.lead hj ⟨(S.L j).x, cameP (S.L j).came e.frm (v', cutV (S.L j).x.frm e.votes.2), []⟩ [] (fun e he => by cases he) ?_ (Int.le_refl _) (fun _ => Int.le_refl _)
  · simpa using this
  · have a' : LdOk n S j ⟨(S.L j).x, cameP (S.L j).came e.frm (v', cutV (S.L j).x.frm e.votes.2), []⟩ := by
      refine ⟨a.me, a.ms, a.bal, a.mine, a.frm, a.next, a.co.put (by rw [a.ms]; exact em.frm) (fun v hv => ?_) (Nat.le_trans (List.length_filter_le ..) em.votes), a.st, ⟨List.nodup_nil, by simp⟩, fun h => ⟨o1, rfl, o3, o4, fun c hc => ?_⟩, fun h => absurd (h.symm.trans hst) (by decide), fun s p hg => (by cases hg), fun _ => rfl⟩
      · have := (List.mem_filter.1 hv).2
        simp [badSlot] at this
        omega
      · rcases mem_cameP hc with hc | rfl
        · exact o5 c hc
        · exact ⟨e, he, hk, rfl, hb, em.slot (.inr hk), by simp only [hf]⟩
    have le : Le S { S with L := upd S.L j ⟨(S.L j).x, cameP (S.L j).came e.frm (v', cutV (S.L j).x.frm e.votes.2), []⟩, said := S.said ++ [] } := ⟨fun e he => List.mem_append_left _ he, fun _ => Int.le_refl _, fun k b s h => .inl (by unfold accd at h ⊢; simpa using h)⟩
    exact LdOk.le le a' (fun _ s c h => by unfold prpd at h ⊢; simpa using h)
set_option maxHeartbeats 8000000 in
/-- A promise by which it leads. -/
theorem Inv.promiseYes {n : Int} {S : PS} (I : Inv n S) {j : Int} (hj : 1 ≤ j ∧ j ≤ n) (e : Say) (he : e ∈ S.said) (hk : e.kind = 2) (hst : (S.L j).x.state = 1) (hb : e.ballot = (S.L j).x.ballot) (v' : Value)
    (hen : enoughQ (memQ ((cameP (S.L j).came e.frm (v', cutV (S.L j).x.frm e.votes.2)).map (·.1))) n = true) (more : List Say)
    (hm : ∀ m ∈ more, m.kind = 3 ∧ m.ballot = (S.L j).x.ballot ∧ SayOk n m ∧ ∃ v ∈ openL (promX (S.L j).x (cameP (S.L j).came e.frm (v', cutV (S.L j).x.frm e.votes.2))) (promO (S.L j).x (cameP (S.L j).came e.frm (v', cutV (S.L j).x.frm e.votes.2))), m.slot = v.slot ∧ m.cmd = v.cmd)
    (hall : ∀ v ∈ openL (promX (S.L j).x (cameP (S.L j).came e.frm (v', cutV (S.L j).x.frm e.votes.2))) (promO (S.L j).x (cameP (S.L j).came e.frm (v', cutV (S.L j).x.frm e.votes.2))), ∃ m ∈ more, m.slot = v.slot ∧ m.cmd = v.cmd) :
    Inv n { S with L := upd S.L j ⟨promX (S.L j).x (cameP (S.L j).came e.frm (v', cutV (S.L j).x.frm e.votes.2)), cameP (S.L j).came e.frm (v', cutV (S.L j).x.frm e.votes.2), promO (S.L j).x (cameP (S.L j).came e.frm (v', cutV (S.L j).x.frm e.votes.2))⟩, said := S.said ++ more } := by
  have a := I.ld j hj.1 hj.2
  obtain ⟨o1, o2, o3, o4, o5⟩ := a.one hst
  have em := I.msg e he
  have hf := a.frm
  have hb8 : (S.L j).x.ballot % 8 = j := a.mine.resolve_left o3
  have hco : CameOk (S.L j).x (cameP (S.L j).came e.frm (v', cutV (S.L j).x.frm e.votes.2)) := a.co.put (by rw [a.ms]; exact em.frm) (fun v hv => by
    have := (List.mem_filter.1 hv).2
    simp [badSlot] at this
    omega) (Nat.le_trans (List.length_filter_le ..) em.votes)
  have hcm : ∀ c ∈ cameP (S.L j).came e.frm (v', cutV (S.L j).x.frm e.votes.2), ∃ m ∈ S.said, m.kind = 2 ∧ m.frm = c.1 ∧ m.ballot = (S.L j).x.ballot ∧ m.slot = 0 ∧ c.2.2 = cutV 0 m.votes.2 := by
    intro c hc
    rcases mem_cameP hc with hc | rfl
    · exact o5 c hc
    · exact ⟨e, he, hk, rfl, hb, em.slot (.inr hk), by simp only [hf]⟩
  generalize cameP (S.L j).came e.frm (v', cutV (S.L j).x.frm e.votes.2) = came at *
  obtain ⟨hmax1, hmax2⟩ := best_max (votesOf (allL came))
  have hrise := rBestL_rising (votesOf (allL came))
  have hall' := hco.all
  have hpx : promX (S.L j).x came = { (S.L j).x with state := 2, next := (fillN 0 (rBestL (votesOf (allL came))) : Int) } := by
    unfold promX; simp [hf]
  have hpo : promO (S.L j).x came = opnOf (fillR 0 (rBestL (votesOf (allL came))) (fillN 0 (rBestL (votesOf (allL came))))) := by
    unfold promO; rw [hf, fillM_opn]
  have hfn : (0 : Int) + (fillN 0 (rBestL (votesOf (allL came))) : Int) ≤ 512 := by
    refine fillN_le (by omega) (rBest_mem (fun v => 0 ≤ v.slot ∧ v.slot < 512) _ [] (fun v hv => ?_) (by simp))
    have := hall' v hv
    omega
  have hlast : ∀ v ∈ rBestL (votesOf (allL came)), v.slot < (fillN 0 (rBestL (votesOf (allL came))) : Int) := by
    intro v hv
    unfold fillN
    cases hg : (rBestL (votesOf (allL came))).getLast? with
    | none => rw [List.getLast?_eq_none_iff.1 hg] at hv; cases hv
    | some w =>
      have := rising_last hrise hg v hv
      simp only
      omega
  -- what those who promised accepted
  have hvote : ∀ k, memQ (came.map (·.1)) k = true → (S.L j).x.ballot ≤ (S.A k).prom ∧ ∀ s b', 0 ≤ s → s < 512 → accd S k b' s → b' < (S.L j).x.ballot → ∃ u ∈ votesOf (allL came), u.slot = s ∧ b' ≤ u.ballot := by
    intro k hk'
    simp only [memQ, decide_eq_true_eq] at hk'
    obtain ⟨lv, hlv⟩ := mget_key hco.keys hk'
    obtain ⟨m, hm0, m1, m2, m3, m4, m5⟩ := hcm _ (mget_mem hlv)
    obtain ⟨p1, p2, p3⟩ := I.prm m hm0 m1
    simp only at m2 m5
    rw [m2, m3] at p1
    refine ⟨p1, fun s b' hs hs2 hc hlt => ?_⟩
    obtain ⟨u, hu, hu1, hu2⟩ := p2 s b' (by rw [m4]; exact hs) (by rw [m2]; exact hc) (by rw [m3]; exact hlt)
    refine ⟨u, ?_, hu1, hu2⟩
    unfold votesOf
    rw [List.mem_flatMap]
    refine ⟨lv, ?_, ?_⟩
    · unfold allL allKs
      rw [List.mem_filterMap]
      exact ⟨k, sortI_mem.2 hk', hlv⟩
    · rw [m5]
      unfold cutV
      rw [List.mem_filter]
      exact ⟨hu, by simp [badSlot]; omega⟩
  have hvp : ∀ v ∈ votesOf (allL came), prpd S v.ballot v.slot v.cmd ∧ v.ballot < (S.L j).x.ballot := by
    intro v hv
    unfold votesOf at hv
    obtain ⟨lv, hlv, hv⟩ := List.mem_flatMap.1 hv
    obtain ⟨k, hk'⟩ := allKs_mem hlv
    obtain ⟨m, hm0, m1, m2, m3, m4, m5⟩ := hcm _ hk'
    simp only at m5
    rw [m5] at hv
    obtain ⟨p1, p2⟩ := (I.prm m hm0 m1).2.2 v (List.mem_filter.1 hv).1
    refine ⟨p1, ?_⟩
    have : v.ballot ≠ (S.L j).x.ballot := fun e => o4 v.slot v.cmd (e ▸ p1)
    omega
  have hslot4 : ∀ k b s, accd S k b s → 0 ≤ s ∧ s < 512 := by
    rintro k b s ⟨m, hm0, m1, _, _, m4⟩
    rw [← m4]
    exact (I.msg m hm0).slot4 m1
  rw [hpx, hpo, openL_eq (fillR_up ..)] at hm hall
  rw [hpx, hpo]
  generalize rBestL (votesOf (allL came)) = best at *
  generalize hfnn : fillN 0 best = n' at *
  have hop : ∀ v, v ∈ openR { (S.L j).x with state := 2, next := (n' : Int) } (fillR 0 best n') ↔ ∃ i : Nat, i < n' ∧ v = ⟨i, (S.L j).x.ballot, ((atL best i).getD vote0).cmd⟩ := by
    intro v
    unfold openR fillR
    rw [List.map_map, List.mem_map]
    constructor
    · rintro ⟨i, hi, rfl⟩
      exact ⟨i, List.mem_range.1 hi, by simp [Function.comp]⟩
    · rintro ⟨i, hi, rfl⟩
      exact ⟨i, List.mem_range.2 hi, by simp [Function.comp]⟩
  refine I.propose hj _ more (S.L j).x.ballot (fun s c => ∃ i : Nat, i < n' ∧ s = i ∧ c = ((atL best i).getD vote0).cmd) (fun m hm' => ?_) ?_ ?_ ⟨rfl, rfl⟩ hb8 ?_ (by show (S.L j).x.next ≤ (n' : Int); omega) ?_ rfl ?_
  · obtain ⟨m1, m2, m3, v, hv, m4, m5⟩ := hm m hm'
    obtain ⟨i, hi, rfl⟩ := (hop v).1 hv
    exact ⟨m1, m2, ⟨i, hi, m4, m5⟩, m3⟩
  · rintro s c ⟨i, hi, rfl, rfl⟩
    obtain ⟨m, hm1, hm2, hm3⟩ := hall _ ((hop _).2 ⟨i, hi, rfl⟩)
    exact ⟨m, hm1, hm2, hm3⟩
  · rintro s c c' ⟨i, hi, rfl, rfl⟩ ⟨i', hi', e1, rfl⟩
    have : i = i' := by omega
    subst this
    rfl
  · rintro s c ⟨i, hi, rfl, rfl⟩
    show (S.L j).x.next ≤ (i : Int) ∧ (i : Int) < (n' : Int)
    omega
  · rintro s c ⟨i, hi, rfl, rfl⟩
    refine ⟨fun k => memQ (came.map (·.1)) k = true ∧ 1 ≤ k ∧ k ≤ n, ⟨_, fun k h1 h2 h3 => ⟨h1, h2, h3⟩, hen⟩, fun k hk' => (hvote k hk'.1).1, ?_⟩
    cases hg : atL best i with
    | none =>
      left
      intro k b' hk' hc
      by_cases hlt : b' < (S.L j).x.ballot
      · exfalso
        obtain ⟨u, hu, hu1, _⟩ := (hvote k hk'.1).2 _ b' (by omega) (by omega) hc hlt
        obtain ⟨v, hv, _⟩ := hmax1 u hu
        rw [hu1, hg] at hv
        cases hv
      · omega
    | some v =>
      right
      obtain ⟨hv1, hv2⟩ := hmax2 _ v hg
      obtain ⟨p1, p2⟩ := hvp v hv1
      refine ⟨v.ballot, p2, ?_, fun k b' hk' hc hlt => ?_⟩
      · rw [hv2] at p1
        exact p1
      · obtain ⟨u, hu, hu1, hu2⟩ := (hvote k hk'.1).2 _ b' (by omega) (by omega) hc hlt
        obtain ⟨y, hy, hy2⟩ := hmax1 u hu
        rw [hu1, hg] at hy
        cases hy
        omega
  · intro T le hT
    refine { me := a.me, ms := a.ms, bal := a.bal, mine := a.mine, frm := a.frm, next := ?_, co := ?_, st := ?_, ofine := ⟨(fillR_up 0 best n').keys, fun k hk' => ?_⟩, one := fun h => ?_, two := ?_, opn := ?_, zero := fun h => ?_ }
    · simp only; omega
    · exact ⟨hco.keys, hco.who, hco.slots, hco.len, hco.masters, hco.frm⟩
    · exact .inr (.inr rfl)
    · rw [opnOf_keys] at hk'
      obtain ⟨q, hq, rfl⟩ := List.mem_map.1 hk'
      unfold fillR at hq
      obtain ⟨i, hi, rfl⟩ := List.mem_map.1 hq
      rw [List.mem_range] at hi
      simp only
      omega
    · simp only at h; omega
    · intro _
      refine ⟨o3, ?_⟩
      refine ⟨_, hen, ?_⟩
      intro k h1 h2 h3
      refine ⟨Int.le_trans (hvote k h1).1 (le.prom k), ?_⟩
      intro s hs b' hc
      have hs' : (n' : Int) ≤ s := hs
      rcases le.acc _ _ _ hc with hc | hc
      · by_cases hlt : b' < (S.L j).x.ballot
        · exfalso
          have hr := hslot4 _ _ _ hc
          obtain ⟨u, hu, hu1, _⟩ := (hvote k h1).2 s b' hr.1 hr.2 hc hlt
          obtain ⟨v, hv, _⟩ := hmax1 u hu
          obtain ⟨hv1, hv2⟩ := atL_mem hv
          have := hlast v hv1
          omega
        · show (S.L j).x.ballot ≤ b'
          omega
      · have := (hvote k h1).1
        show (S.L j).x.ballot ≤ b'
        omega
    · intro s p hg
      obtain ⟨q, hq, hqs, rfl⟩ := opnOf_get hg
      unfold fillR at hq
      obtain ⟨i, hi, rfl⟩ := List.mem_map.1 hq
      rw [List.mem_range] at hi
      simp only at hqs
      refine ⟨rfl, hT s _ ⟨i, hi, by omega, by simp⟩, fun k hk' => ?_⟩
      simp [memQ] at hk'
    · simp only at h; omega
end Go.Proofs.Ytdolepapmpcpiaa

namespace Go.Proofs.Ytdolepapmpcpiaa
open Go Go.RowKit Go.Maps Go.Shelf
set_option linter.unusedSectionVars false
variable [Base]
set_option linter.unusedVariables false
set_option linter.unusedSimpArgs false
set_option maxRecDepth 10000
instance : Inhabited Say := ⟨⟨0, 0, 0, 0, 0, (.slice none 0 0, []), cmd0⟩⟩
def saycells (e : Say) : List Value := [.int .i64 e.kind, .int .i64 e.frm, .int .i64 e.to, .int .u64 e.ballot, .int .i64 e.slot, e.votes.1, .int .i64 e.cmd.kind, .int .i64 e.cmd.chain, .int .u64 e.cmd.epoch, .int .i64 e.cmd.node]
theorem saycells_len (e : Say) : (saycells e).length = 10 := rfl
theorem saycells_one {e : Say} (h : one e.votes.1 = true) : (saycells e).all one = true := by
  simp only [saycells, List.all_cons, List.all_nil, h, o_int, Bool.and_self]
def pcell (p : Nat) : List Value := [pt p 0]
theorem pcell_len (p : Nat) : (pcell p).length = 1 := rfl
theorem pcell_one (p : Nat) : (pcell p).all one = true := rfl
instance : Inhabited Nat := ⟨0⟩
/-- append of one element: where it writes. -/
theorem Own.pushP {α : Type} {h : Hp} {base sz : Nat} {enc : α → List Value} {v : Value} {l : List α} (o : Own h base sz enc v l) (he : ∀ a, (enc a).length = sz) (a : α) (ho : ∀ b ∈ l ++ [a], (enc b).all one = true) {z c : Array Value} {bytes : Nat}
    (hc : c.toList = enc a) (hB : Base.b ≤ h.size) (hz : z.size = sz) (hb : base ≤ h.size) (hbytes : (l.length + 1) * bytes ≤ 140737488355328) {K : Kont}
    (hK : ∀ v' h', Own h' base sz enc v' (l ++ [a]) → Upd (fun b => blk v = some b) h h' → (∀ b, blk v' = some b → blk v = some b ∨ h.size ≤ b) → K v' h') :
    oAppend sz bytes z v (.slice (some ⟨h.size, 0, none⟩) 1 1) (h.push (.cells c)) K := by
  have hcs : c.size = sz := by rw [← Array.length_toList, hc, he]
  have hl := flat_len he l
  have hsrc : srcCells sz (.slice (some ⟨h.size, 0, none⟩) 1 1) (h.push (.cells c)) = some (1, enc a) := by
    simp only [srcCells, Nat.one_mul]
    rw [rdN_blk (g_push_eq rfl) (by omega), List.drop_zero, hc, List.take_of_length_le (by rw [he]; exact Nat.le_refl _)]
    rfl
  have hoa : (enc a).all one = true := ho a (by simp)
  have x1 : Ext h (h.push (.cells c)) := Upd.push (Upd.refl _) _
  rcases o with ⟨rfl, rfl⟩ | ⟨g, cap, c', rfl, hbase, hg, hn, hsz, ht⟩
  · refine ⟨1, enc a, hsrc, fun h => by omega, fun _ => ⟨[], rfl, by simpa using hbytes, x1.hB hB, fun nc hnc => hK _ _ (.inr ⟨(h.push (.cells c)).size, nc, _, by simp, by simp; omega, g_push_eq rfl, by simpa using hnc, ?_, ?_⟩) (Upd.push (Upd.push (Upd.refl _) _) _) (fun b hb => .inr (by cases hb; simp))⟩⟩
    · simp only [Array.size_append, List.size_toArray, List.length_nil, Nat.zero_add, he, zeroCells_size, hz]
      simp at hnc
      rw [show nc - (0 + 1) = nc - 1 by omega, Nat.sub_mul, Nat.one_mul]
      have : sz ≤ nc * sz := Nat.le_mul_of_pos_left _ hnc
      omega
    · simp only [List.nil_append, Array.toList_append, List.length_singleton, Nat.one_mul, List.flatMap_singleton]
      simp [he]
  · have hg1 := x1.get hg id
    have lg := lt_of_get hg
    refine ⟨1, enc a, hsrc, fun hc2 => .inr ⟨g, 0, c', rfl, hg1, ?_, hoa, ?_⟩, fun hc2 => ?_⟩
    · rw [he, hsz, Nat.zero_add]
      have := Nat.mul_le_mul_right sz hc2
      rw [Nat.add_mul, Nat.one_mul] at this
      exact this
    · refine hK _ _ (.inr ⟨g, cap, _, by simp, hbase, g_set_eq (x1.lt lg) rfl, by simpa using hc2, by rw [setL_size]; exact hsz, ?_⟩) (Upd.set (Upd.push (Upd.refl _) _) _ _ (.inr rfl)) (fun b hb => .inl hb)
      have := Nat.mul_le_mul_right sz hc2
      rw [Nat.add_mul, Nat.one_mul] at this
      rw [List.length_append, List.length_singleton, Nat.add_mul, Nat.one_mul, Nat.zero_add, show l.length * sz + sz = l.length * sz + (enc a).length by rw [he], setL_take _ _ _ (by rw [he, hsz]; exact this), ht, List.flatMap_append]
      simp
    · have hself : srcCells sz (.slice (some ⟨g, 0, none⟩) l.length cap) (h.push (.cells c)) = some (l.length, l.flatMap enc) := by
        have : Sl h sz enc (.slice (some ⟨g, 0, none⟩) l.length cap) l := Own.sl (base := base) (.inr ⟨g, cap, c', rfl, hbase, hg, hn, hsz, ht⟩)
        obtain ⟨_, _, hh, _, e⟩ := this.ext x1
        cases hh; exact e
      refine ⟨_, hself, hbytes, x1.hB hB, fun nc hnc => hK _ _ (.inr ⟨(h.push (.cells c)).size, nc, _, by simp, by simp; omega, g_push_eq rfl, by simpa using hnc, ?_, ?_⟩) (Upd.push (Upd.push (Upd.refl _) _) _) (fun b hb => .inr (by cases hb; simp))⟩
      · simp only [Array.size_append, List.size_toArray, hl, he, zeroCells_size, hz]
        rw [Nat.sub_mul, Nat.add_mul, Nat.one_mul]
        have := Nat.mul_le_mul_right sz hnc
        rw [Nat.add_mul, Nat.one_mul] at this
        omega
      · simp only [Array.toList_append, List.length_append, List.length_singleton, Nat.add_mul, Nat.one_mul, List.flatMap_append, List.flatMap_singleton]
        rw [List.take_append_of_le_length (by simp [hl, he]), List.take_of_length_le (by simp [hl, he])]
/-- Where a value lies: at a block with a mark. -/
def Tg (h : Hp) (ow : Nat → Nat) (k : Nat) (v : Value) : Prop := ∀ b, blk v = some b → ow b = k ∧ b < h.size
def tL (j : Int) : Nat := 10 + j.toNat
def tA (j : Int) : Nat := 20 + j.toNat
def LdAt (h : Hp) (ow : Nat → Nat) (j : Int) (p : Nat) (R : Option (Nat × Nat)) (l : Ld) : Prop :=
  ow p = tL j ∧
  match R with
  | none => h[p]? = some (.cells (lcells l.x none none)) ∧ l.x.state = 0 ∧ l.came = [] ∧ l.opn = []
  | some (rc, ro) => Lead h p rc ro l.x l.came l.opn ∧ ow rc = tL j ∧ ow ro = tL j ∧ (l.x.state = 1 → CameIn h l.came) ∧ (l.x.state = 1 → ∀ e ∈ l.came, ∀ b, blk e.2.1 = some b → b ≠ p ∧ b ≠ rc ∧ b ≠ ro ∧ b < h.size ∧ ow b = tL j)
def AcAt (h : Hp) (ow : Nat → Nat) (j : Int) (Q : Nat × Nat) (a : Ac) : Prop := Acc h Q.1 Q.2 a.prom a.m ∧ ow Q.1 = tA j ∧ ow Q.2 = tA j
structure TalkOk (h : Hp) (ow : Nat → Nat) (N t : Nat) (n : Int) (xv av sv cv : Value) (P : Int → Nat) (R : Int → Option (Nat × Nat)) (Q : Int → Nat × Nat) (S : PS) : Prop where
  tb : h[t]? = some (.cells #[xv, av, sv, cv, .bool true])
  tt : ow t = 1
  xl : Sl h 1 pcell xv ((rng n).map P)
  xt : Tg h ow 2 xv
  al : Sl h 1 pcell av ((rng n).map fun j => (Q j).1)
  alt : Tg h ow 2 av
  sd : Own h N 10 saycells sv S.said
  st : Tg h ow 3 sv
  cn : Own h N 6 vcells cv S.chosen
  ct : Tg h ow 4 cv
  vt : ∀ e ∈ S.said, Sl h 6 vcells e.votes.1 e.votes.2 ∧ Tg h ow 5 e.votes.1
  ld : ∀ j, 1 ≤ j → j ≤ n → LdAt h ow j (P j) (R j) (S.L j)
  ac : ∀ j, 1 ≤ j → j ≤ n → AcAt h ow j (Q j) (S.A j)
  fresh : ∀ b, h.size ≤ b → ow b = 0
  low : ∀ b, b < N → ow b = 0
  nh : N ≤ h.size
section
variable {h h' : Hp} {ow ow' : Nat → Nat} {N t k : Nat} {n j : Int} {xv av sv cv v : Value} {P : Int → Nat} {R : Int → Option (Nat × Nat)} {Q : Int → Nat × Nat} {S : PS} {l : Ld} {a : Ac} {p : Nat} {r : Option (Nat × Nat)} {q : Nat × Nat}
/-- Blocks with the mark k may turn; marks stay. -/
structure Kp (k : Nat) (h h' : Hp) (ow ow' : Nat → Nat) : Prop where
  u : Upd (fun b => ow b = k) h h'
  m : ∀ b, b < h.size → ow' b = ow b
theorem Kp.tg {i : Nat} (y : Kp k h h' ow ow') (a : Tg h ow i v) : Tg h' ow' i v := fun b hb => by
  have := a b hb
  exact ⟨by rw [y.m b this.2]; exact this.1, y.u.lt this.2⟩
theorem Kp.sl {α : Type} {sz i : Nat} {enc : α → List Value} {xs : List α} (y : Kp k h h' ow ow') (s : Sl h sz enc v xs) (a : Tg h ow i v) (hi : i ≠ k) : Sl h' sz enc v xs :=
  s.upd y.u (fun b hb e => by have := (a b hb).1; change ow b = k at e; omega)
theorem Kp.own {α : Type} {sz i B : Nat} {enc : α → List Value} {xs : List α} (y : Kp k h h' ow ow') (s : Own h B sz enc v xs) (a : Tg h ow i v) (hi : i ≠ k) : Own h' B sz enc v xs :=
  s.upd y.u (fun b hb e => by have := (a b hb).1; change ow b = k at e; omega)
theorem Kp.get {i b : Nat} {o : AObj} (y : Kp k h h' ow ow') (e : h[b]? = some o) (hb : ow b = i) (hi : i ≠ k) : h'[b]? = some o := y.u.get e (by rw [hb]; exact hi)
theorem LdAt.keep (y : Kp k h h' ow ow') (x : LdAt h ow j p r l) (hk : tL j ≠ k) : LdAt h' ow' j p r l := by
  obtain ⟨x1, x2⟩ := x
  cases r with
  | none =>
    obtain ⟨x3, x4⟩ := x2
    exact ⟨by rw [y.m p (lt_of_get x3)]; exact x1, y.get x3 x1 hk, x4⟩
  | some r =>
    obtain ⟨rc, ro⟩ := r
    obtain ⟨x3, x4, x5, x6, x7⟩ := x2
    refine ⟨by rw [y.m p (lt_of_get x3.blk)]; exact x1, ⟨y.get x3.blk x1 hk, y.get x3.came x4 hk, y.get x3.opn x5 hk, x3.ne⟩, by rw [y.m rc (lt_of_get x3.came)]; exact x4, by rw [y.m ro (lt_of_get x3.opn)]; exact x5, fun hs e he => ?_, fun hs e he b hb => ?_⟩
    · exact (x6 hs e he).upd y.u (fun b hb e' => by have := (x7 hs e he b hb).2.2.2.2; change ow b = k at e'; omega)
    · have k := x7 hs e he b hb
      exact ⟨k.1, k.2.1, k.2.2.1, y.u.lt k.2.2.2.1, by rw [y.m b k.2.2.2.1]; exact k.2.2.2.2⟩
theorem AcAt.keep (y : Kp k h h' ow ow') (x : AcAt h ow j q a) (hk : tA j ≠ k) : AcAt h' ow' j q a := by
  obtain ⟨x1, x2, x3⟩ := x
  exact ⟨⟨y.get x1.blk x2 hk, y.get x1.map x3 hk⟩, by rw [y.m _ (lt_of_get x1.blk)]; exact x2, by rw [y.m _ (lt_of_get x1.map)]; exact x3⟩
theorem TalkOk.ext (T : TalkOk h ow N t n xv av sv cv P R Q S) (x : Ext h h') : TalkOk h' ow N t n xv av sv cv P R Q S := by
  have y : Kp 1000 h h' ow ow := ⟨x.lift, fun _ _ => rfl⟩
  have g : ∀ {i : Nat} {v : Value}, Tg h ow i v → Tg h' ow i v := fun a b hb => ⟨(a b hb).1, x.lt (a b hb).2⟩
  have hj : ∀ j, 1 ≤ j → j ≤ n → (tL j ≠ 1000 ∨ True) := fun _ _ _ => .inr trivial
  refine ⟨x.get T.tb id, T.tt, T.xl.ext x, g T.xt, T.al.ext x, g T.alt, T.sd.ext x, g T.st, T.cn.ext x, g T.ct, fun e he => ⟨(T.vt e he).1.ext x, g (T.vt e he).2⟩, fun j h1 h2 => ?_, fun j h1 h2 => ?_, fun b hb => T.fresh b (Nat.le_trans x.1 hb), T.low, Nat.le_trans T.nh x.1⟩
  · obtain ⟨x1, x2⟩ := T.ld j h1 h2
    refine ⟨x1, ?_⟩
    cases hr : R j with
    | none => rw [hr] at x2; exact ⟨x.get x2.1 id, x2.2⟩
    | some r =>
      obtain ⟨rc, ro⟩ := r
      rw [hr] at x2
      obtain ⟨x3, x4, x5, x6, x7⟩ := x2
      exact ⟨x3.ext x, x4, x5, fun hs => (x6 hs).ext x, fun hs e he b hb => by have k := x7 hs e he b hb; exact ⟨k.1, k.2.1, k.2.2.1, x.lt k.2.2.2.1, k.2.2.2.2⟩⟩
  · obtain ⟨x1, x2, x3⟩ := T.ac j h1 h2
    exact ⟨⟨x.get x1.blk id, x.get x1.map id⟩, x2, x3⟩
/-- New blocks up to the heap's end get a mark. -/
def mark (ow : Nat → Nat) (m M k : Nat) : Nat → Nat := fun b => if m ≤ b ∧ b < M then k else ow b
theorem mark_old {m M k b : Nat} (hb : b < m) : mark ow m M k b = ow b := if_neg (by omega)
theorem mark_new {m M k b : Nat} (h1 : m ≤ b) (h2 : b < M) : mark ow m M k b = k := if_pos ⟨h1, h2⟩
theorem mark_out {m M k b : Nat} (h1 : M ≤ b) : mark ow m M k b = ow b := if_neg (by omega)
/-- Something is said: append, and the talk's own cell. -/
theorem TalkOk.say (T : TalkOk h ow N t n xv av sv cv P R Q S) (hB : Base.b ≤ h.size) (hlen : S.said.length ≤ 100000) (e : Say) (he : Sl h 6 vcells e.votes.1 e.votes.2) (ht : Tg h ow 5 e.votes.1) {z c : Array Value} (hz : z.size = 10) (hc : c.toList = saycells e) {K : Kont}
    (hK : ∀ v' h', h'[t]? = some (.cells #[xv, av, sv, cv, .bool true]) → Upd (fun b => ow b ≠ 0) h h' → (∀ r c0, ow r = 0 → r < h.size → h[r]? = some c0 → h'[r]? = some c0) → one v' = true → (∃ ow', TalkOk (h'.setIfInBounds t (.cells #[xv, av, v', cv, .bool true])) ow' N t n xv av v' cv P R Q { S with said := S.said ++ [e] } ∧ ∀ b, b < h.size → ow' b = ow b) → K v' h') :
    oAppend 10 96 z sv (.slice (some ⟨h.size, 0, none⟩) 1 1) (h.push (.cells c)) K := by
  have ho : ∀ b ∈ S.said ++ [e], (saycells b).all one = true := fun b hb => by
    rcases List.mem_append.1 hb with hb | hb
    · exact saycells_one (sl_one (T.vt b hb).1)
    · rw [List.mem_singleton] at hb; subst hb; exact saycells_one (sl_one he)
  have lt := lt_of_get T.tb
  -- what may turn: the row of what is said
  have key : ∀ v' h', Own h' N 10 saycells v' (S.said ++ [e]) → Upd (fun b => ow b = 3) h h' → (∀ b, blk v' = some b → (ow b = 3 ∧ b < h.size) ∨ h.size ≤ b) → K v' h' := by
    intro v' h' o u hb
    have hz' := u.1
    have kt : h'[t]? = some (.cells #[xv, av, sv, cv, .bool true]) := u.get T.tb (by rw [T.tt]; decide)
    have lt' := lt_of_get kt
    refine hK v' h' kt (u.mono (fun b _ e => by change ow b = 3 at e; omega)) (fun r c0 h0 hr hc0 => u.get hc0 (by omega)) (own_one o) ⟨mark ow h.size h'.size 3, ?_, fun b hb => mark_old hb⟩
    have u2 : Upd (fun b => ow b = 3 ∨ ow b = 1) h (h'.setIfInBounds t (.cells #[xv, av, v', cv, .bool true])) := Upd.set (u.mono (fun b _ e => .inl e)) _ _ (.inr (.inr T.tt))
    have y3 : Kp 3 h h' ow (mark ow h.size h'.size 3) := ⟨u, fun b hb => mark_old hb⟩
    have y1 : Kp 1 h' (h'.setIfInBounds t (.cells #[xv, av, v', cv, .bool true])) (mark ow h.size h'.size 3) (mark ow h.size h'.size 3) :=
      ⟨Upd.set (Upd.refl _) _ _ (.inr (by show mark ow h.size h'.size 3 t = 1; rw [mark_old lt]; exact T.tt)), fun _ _ => rfl⟩
    have tv' : Tg h' (mark ow h.size h'.size 3) 3 v' := fun b hb' => by
      have l := o.blk_lt hb'
      rcases hb b hb' with h | h
      · exact ⟨by rw [mark_old h.2]; exact h.1, l⟩
      · exact ⟨mark_new h l, l⟩
    have g : ∀ {i : Nat} {v : Value}, Tg h ow i v → Tg (h'.setIfInBounds t (.cells #[xv, av, v', cv, .bool true])) (mark ow h.size h'.size 3) i v := fun a => y1.tg (y3.tg a)
    have nL : ∀ j, tL j ≠ 3 ∧ tL j ≠ 1 := fun j => by unfold tL; omega
    have nA : ∀ j, tA j ≠ 3 ∧ tA j ≠ 1 := fun j => by unfold tA; omega
    refine ⟨g_set_eq lt' rfl, by rw [mark_old lt]; exact T.tt, y1.sl (y3.sl T.xl T.xt (by decide)) (y3.tg T.xt) (by decide), g T.xt, y1.sl (y3.sl T.al T.alt (by decide)) (y3.tg T.alt) (by decide), g T.alt, y1.own o tv' (by decide), y1.tg tv', y1.own (y3.own T.cn T.ct (by decide)) (y3.tg T.ct) (by decide), g T.ct, fun m hm => ?_, fun j h1 h2 => ((T.ld j h1 h2).keep y3 (nL j).1).keep y1 (nL j).2, fun j h1 h2 => ((T.ac j h1 h2).keep y3 (nA j).1).keep y1 (nA j).2, fun b hb' => ?_, fun b hb' => ?_, by simp; have := T.nh; omega⟩
    · rcases List.mem_append.1 hm with hm | hm
      · exact ⟨y1.sl (y3.sl (T.vt m hm).1 (T.vt m hm).2 (by decide)) (y3.tg (T.vt m hm).2) (by decide), g (T.vt m hm).2⟩
      · rw [List.mem_singleton] at hm; subst hm
        exact ⟨y1.sl (y3.sl he ht (by decide)) (y3.tg ht) (by decide), g ht⟩
    · simp only [Array.size_setIfInBounds] at hb'
      rw [mark_out hb']; exact T.fresh b (by omega)
    · rw [mark_old (by have := T.nh; omega)]; exact T.low b hb'
  have hcs : c.size = 10 := by rw [← Array.length_toList, hc, saycells_len]
  have x1 : Ext h (h.push (.cells c)) := (by repeat' (first|with_reducible (first|exact u0 _|refine u1 ?_ _|refine u2 ?_ _ _ ?_)|exact .inl (by (first|omega|(simp only [zz,Nat.reduceAdd,Nat.reduceLeDiff];done)|(simp only [zz];omega)))|exact .inr rfl|exact .inr (by simp;done)))
  refine Own.pushP T.sd saycells_len e ho hc hB hz T.nh (by omega) ?_
  intro v' h' o u hb
  refine key v' h' o (u.mono (fun b _ e => (T.st b e).1)) (fun b hb' => ?_)
  rcases hb b hb' with h | h
  · exact .inl (T.st b h)
  · exact .inr h
end
end Go.Proofs.Ytdolepapmpcpiaa

namespace Go.Proofs.Ytdolepapmpcpiaa
open Go Go.RowKit Go.Maps Go.Shelf
set_option linter.unusedSectionVars false
variable [Base]
set_option linter.unusedVariables false
set_option linter.unusedSimpArgs false
set_option maxRecDepth 10000
section
variable {h h' : Hp} {ow ow' : Nat → Nat} {N t k : Nat} {n j : Int} {xv av sv cv v : Value} {P : Int → Nat} {R : Int → Option (Nat × Nat)} {Q : Int → Nat × Nat} {S : PS}
/-- What has no mark may turn. -/
theorem TalkOk.turn0 (T : TalkOk h ow N t n xv av sv cv P R Q S) (u : Upd (fun b => ow b = 0) h h') : TalkOk h' ow N t n xv av sv cv P R Q S := by
  have y : Kp 0 h h' ow ow := ⟨u, fun _ _ => rfl⟩
  have nL : ∀ j, tL j ≠ 0 := fun j => by unfold tL; omega
  have nA : ∀ j, tA j ≠ 0 := fun j => by unfold tA; omega
  exact ⟨y.get T.tb T.tt (by decide), T.tt, y.sl T.xl T.xt (by decide), y.tg T.xt, y.sl T.al T.alt (by decide), y.tg T.alt, y.own T.sd T.st (by decide), y.tg T.st, y.own T.cn T.ct (by decide), y.tg T.ct, fun e he => ⟨y.sl (T.vt e he).1 (T.vt e he).2 (by decide), y.tg (T.vt e he).2⟩, fun j h1 h2 => (T.ld j h1 h2).keep y (nL j), fun j h1 h2 => (T.ac j h1 h2).keep y (nA j), fun b hb => T.fresh b (Nat.le_trans u.1 hb), T.low, Nat.le_trans T.nh u.1⟩
theorem TalkOk.chose (T : TalkOk h ow N t n xv av sv cv P R Q S) (hB : Base.b ≤ h.size) (hlen : S.chosen.length ≤ 100000) (w : Vote) {z c : Array Value} (hz : z.size = 6) (hc : c.toList = vcells w) {K : Kont}
    (hK : ∀ v' h', h'[t]? = some (.cells #[xv, av, sv, cv, .bool true]) → Upd (fun b => ow b ≠ 0) h h' → (∀ r c0, ow r = 0 → r < h.size → h[r]? = some c0 → h'[r]? = some c0) → one v' = true → (∃ ow', TalkOk (h'.setIfInBounds t (.cells #[xv, av, sv, v', .bool true])) ow' N t n xv av sv v' P R Q { S with chosen := S.chosen ++ [w] } ∧ ∀ b, b < h.size → ow' b = ow b) → K v' h') :
    oAppend 6 48 z cv (.slice (some ⟨h.size, 0, none⟩) 1 1) (h.push (.cells c)) K := by
  have lt := lt_of_get T.tb
  refine Own.pushP T.cn vcells_len w (fun b _ => vcells_one b) hc hB hz T.nh (by omega) ?_
  intro v' h' o u0 hb0
  have u : Upd (fun b => ow b = 4) h h' := u0.mono (fun b _ e => (T.ct b e).1)
  have hb : ∀ b, blk v' = some b → (ow b = 4 ∧ b < h.size) ∨ h.size ≤ b := fun b hb' => (hb0 b hb').imp (T.ct b) id
  have hz' := u.1
  have kt : h'[t]? = some (.cells #[xv, av, sv, cv, .bool true]) := u.get T.tb (by rw [T.tt]; decide)
  have lt' := lt_of_get kt
  refine hK v' h' kt (u.mono (fun b _ e => by change ow b = 4 at e; omega)) (fun r c0 h0 hr hc0 => u.get hc0 (by omega)) (own_one o) ⟨mark ow h.size h'.size 4, ?_, fun b hb => mark_old hb⟩
  have y3 : Kp 4 h h' ow (mark ow h.size h'.size 4) := ⟨u, fun b hb => mark_old hb⟩
  have y1 : Kp 1 h' (h'.setIfInBounds t (.cells #[xv, av, sv, v', .bool true])) (mark ow h.size h'.size 4) (mark ow h.size h'.size 4) :=
    ⟨Upd.set (Upd.refl _) _ _ (.inr (by show mark ow h.size h'.size 4 t = 1; rw [mark_old lt]; exact T.tt)), fun _ _ => rfl⟩
  have tv' : Tg h' (mark ow h.size h'.size 4) 4 v' := fun b hb' => by
    have l := o.blk_lt hb'
    rcases hb b hb' with h | h
    · exact ⟨by rw [mark_old h.2]; exact h.1, l⟩
    · exact ⟨mark_new h l, l⟩
  have g : ∀ {i : Nat} {v : Value}, Tg h ow i v → Tg (h'.setIfInBounds t (.cells #[xv, av, sv, v', .bool true])) (mark ow h.size h'.size 4) i v := fun a => y1.tg (y3.tg a)
  have nL : ∀ j, tL j ≠ 4 ∧ tL j ≠ 1 := fun j => by unfold tL; omega
  have nA : ∀ j, tA j ≠ 4 ∧ tA j ≠ 1 := fun j => by unfold tA; omega
  refine ⟨g_set_eq lt' rfl, by rw [mark_old lt]; exact T.tt, y1.sl (y3.sl T.xl T.xt (by decide)) (y3.tg T.xt) (by decide), g T.xt, y1.sl (y3.sl T.al T.alt (by decide)) (y3.tg T.alt) (by decide), g T.alt, y1.own (y3.own T.sd T.st (by decide)) (y3.tg T.st) (by decide), g T.st, y1.own o tv' (by decide), y1.tg tv', fun m hm => ⟨y1.sl (y3.sl (T.vt m hm).1 (T.vt m hm).2 (by decide)) (y3.tg (T.vt m hm).2) (by decide), g (T.vt m hm).2⟩, fun j h1 h2 => ((T.ld j h1 h2).keep y3 (nL j).1).keep y1 (nL j).2, fun j h1 h2 => ((T.ac j h1 h2).keep y3 (nA j).1).keep y1 (nA j).2, fun b hb' => ?_, fun b hb' => ?_, by simp; have := T.nh; omega⟩
  · simp only [Array.size_setIfInBounds] at hb'
    rw [mark_out hb']; exact T.fresh b (by omega)
  · rw [mark_old (by have := T.nh; omega)]; exact T.low b hb'
theorem rng_len (n : Int) : (rng n).length = n.toNat := by simp [rng]
set_option maxHeartbeats 4000000 in
theorem sp_toAll (hB : Base.b ≤ h.size) (T : TalkOk h ow N t n xv av sv cv P R Q S) (hn : isM n) (e : Say) (he : Sl h 6 vcells e.votes.1 e.votes.2) (ht : Tg h ow 5 e.votes.1) (hlen : S.said.length ≤ 50000) {K : Kont}
    (hK : ∀ h' ow' sv', TalkOk h' ow' N t n xv av sv' cv P R Q { S with said := S.said ++ (rng n).map fun i => { e with to := i } } → Upd (fun b => ow b ≠ 0) h h' → (∀ b, b < h.size → ow' b = ow b) → K (.tuple #[]) h') :
    C_q91 [pt t 0, .agg (saycells e).toArray] h K := by
  refine ok_q91 ?_
  unfold G_q91
  have hn5 : 1 ≤ n ∧ n ≤ 5 := by unfold isM at hn; omega
  have hev := sl_one he
  unfold saycells
  (try simp (maxSteps:=999999) (disch:=(first|omega|(simp only [zz,Nat.reduceAdd,Nat.reduceLeDiff];done)|(simp only [zz];omega))) only [↓xa,xb,xl,xy,Int.reduceLT,Int.reduceLE,Int.reduceEq,Nat.reduceAdd,Nat.reduceMul,Nat.reduceLeDiff,setL,bfill,eqV,lookRes])
  have x1 : Ext h (h.push (.cells #[.int .i64 e.kind, .int .i64 e.frm, .int .i64 e.to, .int .u64 e.ballot, .int .i64 e.slot, e.votes.1, .int .i64 e.cmd.kind, .int .i64 e.cmd.chain, .int .u64 e.cmd.epoch, .int .i64 e.cmd.node])) := (by repeat' (first|with_reducible (first|exact u0 _|refine u1 ?_ _|refine u2 ?_ _ _ ?_)|exact .inl (by (first|omega|(simp only [zz,Nat.reduceAdd,Nat.reduceLeDiff];done)|(simp only [zz];omega)))|exact .inr rfl|exact .inr (by simp;done)))
  have hb1 : (h.push (.cells #[.int .i64 e.kind, .int .i64 e.frm, .int .i64 e.to, .int .u64 e.ballot, .int .i64 e.slot, e.votes.1, .int .i64 e.cmd.kind, .int .i64 e.cmd.chain, .int .u64 e.cmd.epoch, .int .i64 e.cmd.node]))[h.size]? = some (.cells #[.int .i64 e.kind, .int .i64 e.frm, .int .i64 e.to, .int .u64 e.ballot, .int .i64 e.slot, e.votes.1, .int .i64 e.cmd.kind, .int .i64 e.cmd.chain, .int .u64 e.cmd.epoch, .int .i64 e.cmd.node]) := g_push_eq rfl
  have l1 : (h.push (.cells #[.int .i64 e.kind, .int .i64 e.frm, .int .i64 e.to, .int .u64 e.ballot, .int .i64 e.slot, e.votes.1, .int .i64 e.cmd.kind, .int .i64 e.cmd.chain, .int .u64 e.cmd.epoch, .int .i64 e.cmd.node])).size = h.size + 1 := by simp
  generalize h.push (.cells #[.int .i64 e.kind, .int .i64 e.frm, .int .i64 e.to, .int .u64 e.ballot, .int .i64 e.slot, e.votes.1, .int .i64 e.cmd.kind, .int .i64 e.cmd.chain, .int .u64 e.cmd.epoch, .int .i64 e.cmd.node]) = h1 at *
  have f0 : ow h.size = 0 := T.fresh _ (Nat.le_refl _)
  have lt := lt_of_get T.tb
  refine rule_q91_1 (fun v4 H => ∃ (i : Int) (ow' : Nat → Nat) (sv' : Value) (j : Int), v4 = .int .i64 i ∧ 1 ≤ i ∧ i ≤ n + 1 ∧ TalkOk H ow' N t n xv av sv' cv P R Q { S with said := S.said ++ (rng (i - 1)).map fun i => { e with to := i } } ∧ Upd (fun b => ow b ≠ 0) h H ∧ (∀ b, b < h.size → ow' b = ow b) ∧ ow' h.size = 0 ∧ h.size < H.size ∧ H[h.size]? = some (.cells #[.int .i64 e.kind, .int .i64 e.frm, .int .i64 j, .int .u64 e.ballot, .int .i64 e.slot, e.votes.1, .int .i64 e.cmd.kind, .int .i64 e.cmd.chain, .int .u64 e.cmd.epoch, .int .i64 e.cmd.node]) ∧ Sl H 6 vcells e.votes.1 e.votes.2 ∧ Tg H ow' 5 e.votes.1) (fun v4 H => (n + 1).toNat - ival v4) ?_ _ _ _
    ⟨1, ow, sv, e.to, rfl, by omega, by omega, ?_, x1.lift, fun _ _ => rfl, f0, by omega, hb1, he.ext x1, fun b hb => ⟨(ht b hb).1, x1.lt (ht b hb).2⟩⟩
  rotate_left
  · have : rng (1 - 1) = [] := rfl
    rw [this, List.map_nil, List.append_nil]
    exact T.ext x1
  rintro self v4 d H ⟨i, ow', sv', j, rfl, i1, i2, T', u, hm, h0, hlt, hb, hes, het⟩ hself
  unfold B_q91_1
  have hl := T'.xl.len'
  rw [List.length_map, rng_len] at hl
  have hnn : ((n.toNat : Nat) : Int) = n := by omega
  rw [hnn] at hl
  have hBH := u.hB hB
  by_cases hle : i ≤ n
  rotate_left
  · simp (maxSteps:=999999) (disch:=(first|omega|(simp only [zz,Nat.reduceAdd,Nat.reduceLeDiff];done)|(simp only [zz];omega))) only [↓xa,xb,xl,xy,Int.reduceLT,Int.reduceLE,Int.reduceEq,Nat.reduceAdd,Nat.reduceMul,Nat.reduceLeDiff,setL,bfill,eqV,lookRes, rdC_blk T'.tb, hl, decide_eq_false hle]
    have : i - 1 = n := by omega
    rw [this] at T'
    exact hK H ow' sv' T' u hm
  have u1 : Upd (fun b => ow' b = 0) H (H.setIfInBounds h.size (.cells #[.int .i64 e.kind, .int .i64 e.frm, .int .i64 i, .int .u64 e.ballot, .int .i64 e.slot, e.votes.1, .int .i64 e.cmd.kind, .int .i64 e.cmd.chain, .int .u64 e.cmd.epoch, .int .i64 e.cmd.node])) := Upd.set (Upd.refl _) _ _ (.inr h0)
  have T1 := T'.turn0 u1
  have hb1 : (H.setIfInBounds h.size (.cells #[.int .i64 e.kind, .int .i64 e.frm, .int .i64 i, .int .u64 e.ballot, .int .i64 e.slot, e.votes.1, .int .i64 e.cmd.kind, .int .i64 e.cmd.chain, .int .u64 e.cmd.epoch, .int .i64 e.cmd.node]))[h.size]? = some (.cells #[.int .i64 e.kind, .int .i64 e.frm, .int .i64 i, .int .u64 e.ballot, .int .i64 e.slot, e.votes.1, .int .i64 e.cmd.kind, .int .i64 e.cmd.chain, .int .u64 e.cmd.epoch, .int .i64 e.cmd.node]) := g_set_eq hlt rfl
  have tne : h.size ≠ t := by omega
  simp (maxSteps:=999999) (disch:=(first|omega|(simp only [zz,Nat.reduceAdd,Nat.reduceLeDiff];done)|(simp only [zz];omega))) only [↓xa,xb,xl,xy,Int.reduceLT,Int.reduceLE,Int.reduceEq,Nat.reduceAdd,Nat.reduceMul,Nat.reduceLeDiff,setL,bfill,eqV,lookRes, rdC_blk T'.tb, hl, decide_eq_true hle, b_blk hb, hev]
  have z1 : (H.setIfInBounds h.size (.cells #[.int .i64 e.kind, .int .i64 e.frm, .int .i64 i, .int .u64 e.ballot, .int .i64 e.slot, e.votes.1, .int .i64 e.cmd.kind, .int .i64 e.cmd.chain, .int .u64 e.cmd.epoch, .int .i64 e.cmd.node])).size = H.size := by simp
  have uu : Upd (fun b => ow b ≠ 0) h (H.setIfInBounds h.size (.cells #[.int .i64 e.kind, .int .i64 e.frm, .int .i64 i, .int .u64 e.ballot, .int .i64 e.slot, e.votes.1, .int .i64 e.cmd.kind, .int .i64 e.cmd.chain, .int .u64 e.cmd.epoch, .int .i64 e.cmd.node])) := Upd.set u _ _ (.inl (Nat.le_refl _))
  have hes1 := hes.upd u1 (fun b hb hs => by have := (het b hb).1; change ow' b = 0 at hs; omega)
  have het1 : Tg (H.setIfInBounds h.size (.cells #[.int .i64 e.kind, .int .i64 e.frm, .int .i64 i, .int .u64 e.ballot, .int .i64 e.slot, e.votes.1, .int .i64 e.cmd.kind, .int .i64 e.cmd.chain, .int .u64 e.cmd.epoch, .int .i64 e.cmd.node])) ow' 5 e.votes.1 := fun b hb => ⟨(het b hb).1, u1.lt (het b hb).2⟩
  generalize H.setIfInBounds h.size (.cells #[.int .i64 e.kind, .int .i64 e.frm, .int .i64 i, .int .u64 e.ballot, .int .i64 e.slot, e.votes.1, .int .i64 e.cmd.kind, .int .i64 e.cmd.chain, .int .u64 e.cmd.epoch, .int .i64 e.cmd.node]) = H1 at *
  have hB1 := uu.hB hB
  have lb1 := lt_of_get hb1
  have ltH := lt_of_get T1.tb
  have hsl : (S.said ++ (rng (i - 1)).map fun i => { e with to := i }).length ≤ 100000 := by rw [List.length_append, List.length_map, rng_len]; omega
  rw [← z1]
  refine T1.say hB1 hsl { e with to := i } hes1 het1 ?_ ?_ ?_
  · rfl
  · rfl
  intro v' h' kt u' hz hv1 ⟨ow2, T2, hm2⟩
  have hb' := hz _ _ h0 lb1 hb1
  have lt' := lt_of_get kt
  have hvc := one_cells hv1
  have lb' := lt_of_get hb'
  simp (maxSteps:=999999) (disch:=(first|omega|(simp only [zz,Nat.reduceAdd,Nat.reduceLeDiff];done)|(simp only [zz];omega))) only [↓xa,xb,xl,xy,Int.reduceLT,Int.reduceLE,Int.reduceEq,Nat.reduceAdd,Nat.reduceMul,Nat.reduceLeDiff,setL,bfill,eqV,lookRes, rdC_blk kt, rdN_all hb', b_blk kt, hv1, hvc, eq_self]
  refine hself _ _ _ ⟨i + 1, ow2, v', i, rfl, by omega, by omega, ?_, ?_, fun b hb => ?_, ?_, by simp; omega, ?_, (T2.vt _ (List.mem_append_right _ (List.mem_singleton.2 rfl))).1, (T2.vt _ (List.mem_append_right _ (List.mem_singleton.2 rfl))).2⟩ (by simp only [ival]; omega)
  · rw [show i + 1 - 1 = i by omega, rng_succ i1, List.map_append, ← List.append_assoc]
    exact T2
  · refine Upd.set (uu.fresh u' (fun r hr => ?_)) _ _ (.inr (by rw [T.tt]; decide))
    by_cases hrh : r < h.size
    · right; rw [hm r hrh] at hr; exact hr
    · left; omega
  · rw [hm2 b (by omega)]; exact hm b hb
  · rw [hm2 _ lb1]; exact h0
  · rw [g_set_ne (by omega)]; exact hb'
end
end Go.Proofs.Ytdolepapmpcpiaa

namespace Go.Proofs.Ytdolepapmpcpiaa
open Go Go.RowKit Go.Maps Go.Shelf
set_option linter.unusedSectionVars false
variable [Base]
set_option linter.unusedVariables false
set_option linter.unusedSimpArgs false
set_option maxRecDepth 10000
section
variable {h h' : Hp} {ow ow' : Nat → Nat} {N t k : Nat} {n j : Int} {xv av sv cv v : Value} {P : Int → Nat} {R : Int → Option (Nat × Nat)} {Q : Int → Nat × Nat} {S : PS}
theorem Ext.then {a b c : Hp} {S T : Nat → Prop} (x : Ext a b) (u : Upd S b c) (hT : ∀ r, r < a.size → S r → T r) : Upd T a c :=
  ⟨Nat.le_trans x.1 u.1, fun r hr hs => (u.2 r (Nat.lt_of_lt_of_le hr x.1) (fun h => hs (hT r hr h))).trans (x.2 r hr id)⟩
theorem TalkOk.ldT (T : TalkOk h ow N t n xv av sv cv P R Q S) (hj : 1 ≤ j ∧ j ≤ n) (hn : isM n) (y : Kp (tL j) h h' ow ow') (hf : ∀ b, h'.size ≤ b → ow' b = 0) (hl : ∀ b, b < N → ow' b = 0) {r : Option (Nat × Nat)} {l : Ld} (x : LdAt h' ow' j (P j) r l) : TalkOk h' ow' N t n xv av sv cv P (upd R j r) Q { S with L := upd S.L j l } := by
  have nL : tL j ≠ 1 ∧ tL j ≠ 2 ∧ tL j ≠ 3 ∧ tL j ≠ 4 ∧ tL j ≠ 5 := by unfold tL; omega
  refine ⟨y.get T.tb T.tt (by omega), by rw [y.m t (lt_of_get T.tb)]; exact T.tt, y.sl T.xl T.xt (by omega), y.tg T.xt, y.sl T.al T.alt (by omega), y.tg T.alt, y.own T.sd T.st (by omega), y.tg T.st, y.own T.cn T.ct (by omega), y.tg T.ct, fun e he => ⟨y.sl (T.vt e he).1 (T.vt e he).2 (by omega), y.tg (T.vt e he).2⟩, fun i h1 h2 => ?_, fun i h1 h2 => (T.ac i h1 h2).keep y ?_, hf, hl, Nat.le_trans T.nh y.u.1⟩
  · by_cases e : i = j
    · subst e
      rw [upd_self]
      show LdAt h' ow' i (P i) r (upd S.L i l i)
      rw [upd_self]
      exact x
    · rw [upd_ne _ _ e]
      show LdAt h' ow' i (P i) (R i) (upd S.L j l i)
      rw [upd_ne _ _ e]
      exact (T.ld i h1 h2).keep y (by unfold tL; omega)
  · have hn5 : n ≤ 5 := by unfold isM at hn; omega
    unfold tA tL
    omega
theorem TalkOk.acT (T : TalkOk h ow N t n xv av sv cv P R Q S) (hj : 1 ≤ j ∧ j ≤ n) (hn : isM n) (y : Kp (tA j) h h' ow ow') (hf : ∀ b, h'.size ≤ b → ow' b = 0) (hl : ∀ b, b < N → ow' b = 0) {a : Ac} (x : AcAt h' ow' j (Q j) a) : TalkOk h' ow' N t n xv av sv cv P R Q { S with A := upd S.A j a } := by
  have nA : tA j ≠ 1 ∧ tA j ≠ 2 ∧ tA j ≠ 3 ∧ tA j ≠ 4 ∧ tA j ≠ 5 := by unfold tA; omega
  have hn5 : n ≤ 5 := by unfold isM at hn; omega
  refine ⟨y.get T.tb T.tt (by omega), by rw [y.m t (lt_of_get T.tb)]; exact T.tt, y.sl T.xl T.xt (by omega), y.tg T.xt, y.sl T.al T.alt (by omega), y.tg T.alt, y.own T.sd T.st (by omega), y.tg T.st, y.own T.cn T.ct (by omega), y.tg T.ct, fun e he => ⟨y.sl (T.vt e he).1 (T.vt e he).2 (by omega), y.tg (T.vt e he).2⟩, fun i h1 h2 => (T.ld i h1 h2).keep y (by unfold tL tA; omega), fun i h1 h2 => ?_, hf, hl, Nat.le_trans T.nh y.u.1⟩
  by_cases e : i = j
  · subst e
    show AcAt h' ow' i (Q i) (upd S.A i a i)
    rw [upd_self]
    exact x
  · show AcAt h' ow' i (Q i) (upd S.A j a i)
    rw [upd_ne _ _ e]
    exact (T.ac i h1 h2).keep y (by unfold tA; omega)
set_option maxHeartbeats 4000000 in
theorem sp_choose (hB : Base.b ≤ h.size) (T : TalkOk h ow N t n xv av sv cv P R Q S) (v : Vote) (hall : ∀ w ∈ S.chosen, w.slot = v.slot → w.cmd = v.cmd) (hlen : S.chosen.length ≤ 50000) {K : Kont}
    (hK : ∀ h' ow' cv', TalkOk h' ow' N t n xv av sv cv' P R Q { S with chosen := S.chosen ++ [v] } → Upd (fun b => ow b ≠ 0) h h' → (∀ b, b < h.size → ow' b = ow b) → K (.tuple #[]) h') :
    C_q81 [pt t 0, voteV v] h K := by
  refine ok_q81 ?_
  unfold G_q81
  have hK0 := hK
  obtain ⟨s, b, c1, c2, c3, c4⟩ := v
  unfold voteV
  (try simp (maxSteps:=999999) (disch:=(first|omega|(simp only [zz,Nat.reduceAdd,Nat.reduceLeDiff];done)|(simp only [zz];omega))) only [↓xa,xb,xl,xy,Int.reduceLT,Int.reduceLE,Int.reduceEq,Nat.reduceAdd,Nat.reduceMul,Nat.reduceLeDiff,setL,bfill,eqV,lookRes])
  have x1 : Ext h (h.push (.cells #[.int .i64 s, .int .u64 b, .int .i64 c1, .int .i64 c2, .int .u64 c3, .int .i64 c4])) := (by repeat' (first|with_reducible (first|exact u0 _|refine u1 ?_ _|refine u2 ?_ _ _ ?_)|exact .inl (by (first|omega|(simp only [zz,Nat.reduceAdd,Nat.reduceLeDiff];done)|(simp only [zz];omega)))|exact .inr rfl|exact .inr (by simp;done)))
  have hb1 : (h.push (.cells #[.int .i64 s, .int .u64 b, .int .i64 c1, .int .i64 c2, .int .u64 c3, .int .i64 c4]))[h.size]? = some (.cells #[.int .i64 s, .int .u64 b, .int .i64 c1, .int .i64 c2, .int .u64 c3, .int .i64 c4]) := g_push_eq rfl
  have l1 : (h.push (.cells #[.int .i64 s, .int .u64 b, .int .i64 c1, .int .i64 c2, .int .u64 c3, .int .i64 c4])).size = h.size + 1 := by simp
  generalize h.push (.cells #[.int .i64 s, .int .u64 b, .int .i64 c1, .int .i64 c2, .int .u64 c3, .int .i64 c4]) = h1 at *
  have f0 : ow h.size = 0 := T.fresh _ (Nat.le_refl _)
  have lt := lt_of_get T.tb
  have T1 := T.ext x1
  have hB1 := x1.hB hB
  have hs := T1.cn.sl
  have lb1 := lt_of_get hb1
  refine rule_q81_1 (fun v4 H => ∃ i : Nat, v4 = .int .i64 i ∧ i ≤ S.chosen.length ∧ H = h1) (fun v4 H => S.chosen.length - ival v4) ?_ _ _ _ ⟨0, rfl, Nat.zero_le _, rfl⟩
  rintro self v4 d H ⟨i, rfl, hi, rfl⟩ hself
  unfold B_q81_1
  by_cases hlt : i < S.chosen.length
  · have c0 := hs.cell0 vcells_len i hlt (by decide)
    have cp := hs.part vcells_len i 2 4 hlt (by decide)
    have hw := hall _ (nth_mem hlt)
    generalize nth S.chosen i = w at c0 cp hw
    obtain ⟨s', b', d1, d2, d3, d4⟩ := w
    simp only [vcells, List.getElem?_cons_zero, List.drop_succ_cons, List.drop_zero, List.take_succ_cons, List.take_zero] at c0 cp
    by_cases he : s' = s
    · obtain ⟨e1, e2, e3, e4⟩ : d1 = c1 ∧ d2 = c2 ∧ d3 = c3 ∧ d4 = c4 := by have := hw he; simpa using this
      subst e1; subst e2; subst e3; subst e4
      have ec := eq_cmdD d1 d2 d3 d4 d1 d2 d3 d4
      rw [decide_eq_true ⟨rfl, rfl, rfl, rfl⟩] at ec
      simp (maxSteps:=999999) (disch:=(first|omega|(simp only [zz,Nat.reduceAdd,Nat.reduceLeDiff];done)|(simp only [zz];omega))) only [↓xa,xb,xl,xy,Int.reduceLT,Int.reduceLE,Int.reduceEq,Nat.reduceAdd,Nat.reduceMul,Nat.reduceLeDiff,setL,bfill,eqV,lookRes, rdC_blk T1.tb, ↓hs.len', decide_eq_true (Int.ofNat_lt.2 hlt), ↓hs.idx, c0, cp, rdC_blk hb1, decide_eq_true he, rdN_of hb1, List.drop_succ_cons, List.drop_zero, List.take_succ_cons, List.take_zero, ec]
      rw [req_q81_2]
      unfold R_q81_2
      (try simp (maxSteps:=999999) (disch:=(first|omega|(simp only [zz,Nat.reduceAdd,Nat.reduceLeDiff];done)|(simp only [zz];omega))) only [↓xa,xb,xl,xy,Int.reduceLT,Int.reduceLE,Int.reduceEq,Nat.reduceAdd,Nat.reduceMul,Nat.reduceLeDiff,setL,bfill,eqV,lookRes])
      exact hself _ _ _ ⟨i + 1, rfl, hlt, rfl⟩ (by simp only [ival_nat, isucc]; omega)
    · simp (maxSteps:=999999) (disch:=(first|omega|(simp only [zz,Nat.reduceAdd,Nat.reduceLeDiff];done)|(simp only [zz];omega))) only [↓xa,xb,xl,xy,Int.reduceLT,Int.reduceLE,Int.reduceEq,Nat.reduceAdd,Nat.reduceMul,Nat.reduceLeDiff,setL,bfill,eqV,lookRes, rdC_blk T1.tb, ↓hs.len', decide_eq_true (Int.ofNat_lt.2 hlt), ↓hs.idx, c0, cp, rdC_blk hb1, decide_eq_false he]
      rw [req_q81_2]
      unfold R_q81_2
      (try simp (maxSteps:=999999) (disch:=(first|omega|(simp only [zz,Nat.reduceAdd,Nat.reduceLeDiff];done)|(simp only [zz];omega))) only [↓xa,xb,xl,xy,Int.reduceLT,Int.reduceLE,Int.reduceEq,Nat.reduceAdd,Nat.reduceMul,Nat.reduceLeDiff,setL,bfill,eqV,lookRes])
      exact hself _ _ _ ⟨i + 1, rfl, hlt, rfl⟩ (by simp only [ival_nat, isucc]; omega)
  · simp (maxSteps:=999999) (disch:=(first|omega|(simp only [zz,Nat.reduceAdd,Nat.reduceLeDiff];done)|(simp only [zz];omega))) only [↓xa,xb,xl,xy,Int.reduceLT,Int.reduceLE,Int.reduceEq,Nat.reduceAdd,Nat.reduceMul,Nat.reduceLeDiff,setL,bfill,eqV,lookRes, rdC_blk T1.tb, ↓hs.len', decide_eq_false (show ¬ (i : Int) < (S.chosen.length : Int) by omega), rdN_all hb1]
    refine T1.chose hB1 (by omega) ⟨s, b, ⟨c1, c2, c3, c4⟩⟩ ?_ ?_ ?_
    · rfl
    · rfl
    intro v' h' kt u' hz hv1 ⟨ow2, T2, hm2⟩
    have hb' := hz _ _ f0 lb1 hb1
    have lt' := lt_of_get kt
    have hvc := one_cells hv1
    have lb' := lt_of_get hb'
    simp (maxSteps:=999999) (disch:=(first|omega|(simp only [zz,Nat.reduceAdd,Nat.reduceLeDiff];done)|(simp only [zz];omega))) only [↓xa,xb,xl,xy,Int.reduceLT,Int.reduceLE,Int.reduceEq,Nat.reduceAdd,Nat.reduceMul,Nat.reduceLeDiff,setL,bfill,eqV,lookRes, rdC_blk kt, rdN_all hb', b_blk kt, hv1, hvc, eq_self]
    refine hK _ ow2 v' T2 (Upd.set (x1.then u' (fun r hr e => e)) _ _ (.inr (by rw [T.tt]; decide))) (fun b hb => hm2 b (by omega))
end
end Go.Proofs.Ytdolepapmpcpiaa

