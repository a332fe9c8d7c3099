/- More laws of slices and cells in the seen heap, in the form in which a spec's proof rewrites by them. -/
import Derived.Test.YtdolepapmpcpiaaVSl
namespace Go.Proofs.Ytdolepapmpcpiaa
open Go
set_option linter.unusedSectionVars false
variable [Base]
set_option linter.unusedVariables false
set_option linter.unusedSimpArgs false

def sblk : Value → Nat
  | .slice (some a) _ _ => a.block
  | _ => 0
def soff : Value → Nat
  | .slice (some a) _ _ => a.off
  | _ => 0
def nth {α : Type} [Inhabited α] (l : List α) (i : Nat) : α := l.getD i default
theorem nth_get {α : Type} [Inhabited α] {l : List α} {i : Nat} (h : i < l.length) : nth l i = l[i] := by simp [nth, List.getD, h]
theorem nth_mem {α : Type} [Inhabited α] {l : List α} {i : Nat} (h : i < l.length) : nth l i ∈ l := by rw [nth_get h]; exact List.getElem_mem h
theorem take_nth {α : Type} [Inhabited α] {l : List α} {i : Nat} (h : i < l.length) : l.take (i + 1) = l.take i ++ [nth l i] := by rw [nth_get h]; simp
theorem drop_nth {α : Type} [Inhabited α] {l : List α} {i : Nat} (h : i < l.length) : l.drop i = nth l i :: l.drop (i + 1) := by rw [nth_get h]; exact List.drop_eq_getElem_cons h

theorem vc_int (k : IntKind) (n : Int) : Value.cells (.int k n) = #[.int k n] := id rfl
theorem vc_bool (b : Bool) : Value.cells (.bool b) = #[.bool b] := id rfl
theorem vc_str (s : ByteArray) : Value.cells (.string s) = #[.string s] := id rfl
theorem vc_ptr (a : Option Addr) : Value.cells (.pointer a) = #[.pointer a] := id rfl
theorem vc_slice (a : Option Addr) (n c : Nat) : Value.cells (.slice a n c) = #[.slice a n c] := id rfl
theorem vc_map (a : Option Nat) : Value.cells (.map a) = #[.map a] := id rfl
theorem vc_func (f : Fn) (a b : Array Value) : Value.cells (.func f a b) = #[.func f a b] := id rfl
theorem vc_agg (a : Array Value) : Value.cells (.agg a) = a := id rfl
theorem one_cells {v : Value} (h : one v = true) : v.cells = #[v] := by cases v <;> first | rfl | cases h
theorem o_int (k : IntKind) (n : Int) : one (.int k n) = true := id rfl
theorem o_bool (b : Bool) : one (.bool b) = true := id rfl
theorem o_str (s : ByteArray) : one (.string s) = true := id rfl
theorem o_ptr (a : Option Addr) : one (.pointer a) = true := id rfl
theorem o_slice (a : Option Addr) (n c : Nat) : one (.slice a n c) = true := id rfl
theorem o_map (a : Option Nat) : one (.map a) = true := id rfl
theorem o_func (f : Fn) (a b : Array Value) : one (.func f a b) = true := id rfl
theorem sl_one {α : Type} {h : Hp} {sz : Nat} {enc : α → List Value} {v : Value} {l : List α} (s : Sl h sz enc v l) : one v = true := by obtain ⟨p, cap, rfl, _⟩ := s; rfl
theorem own_one {α : Type} {h : Hp} {base sz : Nat} {enc : α → List Value} {v : Value} {l : List α} (s : Own h base sz enc v l) : one v = true := sl_one s.sl
theorem sl_cells {α : Type} {h : Hp} {sz : Nat} {enc : α → List Value} {v : Value} {l : List α} (s : Sl h sz enc v l) : v.cells = #[v] := by obtain ⟨p, cap, rfl, _⟩ := s; rfl
theorem c_ld1 (b i : Nat) (h : Hp) (K : Kont) : oLd1 (.pointer (some ⟨b, i, none⟩)) h K = onS (rdC h b i) (fun v => K v h) := onS_ex _ _
theorem rdC_push {h : Hp} {o : AObj} {b i : Nat} (hb : b < h.size) : rdC (h.push o) b i = rdC h b i := by unfold rdC; rw [g_push_lt hb]
theorem rdC_pushE {h : Hp} {c : Array Value} {b i : Nat} (hb : b = h.size) : rdC (h.push (.cells c)) b i = c[i]? := by unfold rdC; rw [g_push_eq hb]
theorem rdC_setN {h : Hp} {o : AObj} {b r i : Nat} (e : r ≠ b) : rdC (h.setIfInBounds r o) b i = rdC h b i := by unfold rdC; rw [g_set_ne e]
theorem rdC_setE {h : Hp} {c : Array Value} {b r i : Nat} (hb : r < h.size) (e : r = b) : rdC (h.setIfInBounds r (.cells c)) b i = c[i]? := by unfold rdC; rw [g_set_eq hb e]
theorem rdC_blk {h : Hp} {c : Array Value} {b : Nat} (e : h[b]? = some (.cells c)) (i : Nat) : rdC h b i = c[i]? := by unfold rdC; rw [e]
theorem rdN_all {h : Hp} {c : Array Value} {b n : Nat} (e : h[b]? = some (.cells c)) (hn : n = c.size) : rdN h b 0 n = some c.toList := by
  rw [rdN_blk e (by omega), List.drop_zero, hn, List.take_of_length_le (by simp)]
theorem rdN_pushE {h : Hp} {c : Array Value} {b n : Nat} (hb : b = h.size) (hn : n = c.size) : rdN (h.push (.cells c)) b 0 n = some c.toList := rdN_all (g_push_eq hb) hn
theorem rdN_setE {h : Hp} {c : Array Value} {b r n : Nat} (hb : r < h.size) (e : r = b) (hn : n = c.size) : rdN (h.setIfInBounds r (.cells c)) b 0 n = some c.toList := rdN_all (g_set_eq hb e) hn
theorem rdN_of {h : Hp} {c : Array Value} {b i n : Nat} (e : h[b]? = some (.cells c)) (hn : i + n ≤ c.size) : rdN h b i n = some ((c.toList.drop i).take n) := rdN_blk e hn
theorem rdN_pushP {h : Hp} {c : Array Value} {b i n : Nat} (hb : b = h.size) (hn : i + n ≤ c.size) : rdN (h.push (.cells c)) b i n = some ((c.toList.drop i).take n) := rdN_blk (g_push_eq hb) hn
theorem rdN_setP {h : Hp} {c : Array Value} {b r i n : Nat} (hb : r < h.size) (e : r = b) (hn : i + n ≤ c.size) : rdN (h.setIfInBounds r (.cells c)) b i n = some ((c.toList.drop i).take n) := rdN_blk (g_set_eq hb e) hn
theorem b_push {h : Hp} {o : AObj} {b : Nat} (hb : b < h.size) : ((h.push o)[b]?).bind asCells = (h[b]?).bind asCells := by rw [g_push_lt hb]
theorem b_pushE {h : Hp} {c : Array Value} {b : Nat} (hb : b = h.size) : ((h.push (.cells c))[b]?).bind asCells = some c := by rw [g_push_eq hb]; rfl
theorem b_setN {h : Hp} {o : AObj} {b r : Nat} (e : r ≠ b) : ((h.setIfInBounds r o)[b]?).bind asCells = (h[b]?).bind asCells := by rw [g_set_ne e]
theorem b_setE {h : Hp} {c : Array Value} {b r : Nat} (hb : r < h.size) (e : r = b) : ((h.setIfInBounds r (.cells c))[b]?).bind asCells = some c := by rw [g_set_eq hb e]; rfl
theorem b_blk {h : Hp} {c : Array Value} {b : Nat} (e : h[b]? = some (.cells c)) : (h[b]?).bind asCells = some c := by rw [e]; rfl
theorem m_blk {h : Hp} {c : List (Value × Value)} {b : Nat} (e : h[b]? = some (.map c)) : (h[b]?).bind asMap = some c := by rw [e]; rfl
theorem m_push {h : Hp} {o : AObj} {b : Nat} (hb : b < h.size) : ((h.push o)[b]?).bind asMap = (h[b]?).bind asMap := by rw [g_push_lt hb]
theorem m_pushE {h : Hp} {c : List (Value × Value)} {b : Nat} (hb : b = h.size) : ((h.push (.map c))[b]?).bind asMap = some c := by rw [g_push_eq hb]; rfl
theorem m_setN {h : Hp} {o : AObj} {b r : Nat} (e : r ≠ b) : ((h.setIfInBounds r o)[b]?).bind asMap = (h[b]?).bind asMap := by rw [g_set_ne e]
theorem m_setE {h : Hp} {c : List (Value × Value)} {b r : Nat} (hb : r < h.size) (e : r = b) : ((h.setIfInBounds r (.map c))[b]?).bind asMap = some c := by rw [g_set_eq hb e]; rfl

section
variable {α : Type} {h h0 : Hp} {sz base : Nat} {enc : α → List Value} {v : Value} {l : List α}
theorem Sl.addr (s : Sl h sz enc v l) (hl : 0 < l.length) : ∃ cap, v = .slice (some ⟨sblk v, soff v, none⟩) l.length cap := by
  obtain ⟨p, cap, rfl, _, e⟩ := s
  unfold srcCells at e
  split at e <;> rename_i hm
  · split at e
    · rename_i h0; cases hm; omega
    · cases e
  · cases hm; exact ⟨_, rfl⟩
  · split at e
    · cases hm; omega
    · cases e
  · cases hm
  · cases e
theorem Sl.idx (s : Sl h0 sz enc v l) (k : IntKind) (n : Int) (h : Hp) (K : Kont) (hn : 0 ≤ n) (hl : n < l.length) : oIdxS sz v (.int k n) h K = K (pt (sblk v) (soff v + n.toNat * sz)) h := by
  obtain ⟨cap, e⟩ := s.addr (by omega)
  rw [e]
  simp only [oIdxS, hn, hl, true_and]
  rfl
theorem Sl.row [Inhabited α] (s : Sl h sz enc v l) (he : ∀ a, (enc a).length = sz) (i : Nat) (hi : i < l.length) : rdN h (sblk v) (soff v + i * sz) sz = some (enc (nth l i)) := by
  obtain ⟨b, o, cap, rfl, hr⟩ := s.at he i hi
  rw [nth_get hi]
  exact hr
theorem Sl.cell [Inhabited α] (s : Sl h sz enc v l) (he : ∀ a, (enc a).length = sz) (i j : Nat) (hi : i < l.length) (hj : j < sz) : rdC h (sblk v) (soff v + i * sz + j) = (enc (nth l i))[j]? := by
  have := s.row he i hi
  have h2 : (enc (nth l i))[j]? = some ((enc (nth l i))[j]'(by rw [he]; exact hj)) := List.getElem?_eq_getElem _
  rw [h2]
  exact rdN_cell this h2
theorem Sl.cell0 [Inhabited α] (s : Sl h sz enc v l) (he : ∀ a, (enc a).length = sz) (i : Nat) (hi : i < l.length) (hj : 0 < sz) : rdC h (sblk v) (soff v + i * sz) = (enc (nth l i))[0]? := s.cell he i 0 hi hj
theorem Sl.lt (s : Sl h sz enc v l) (he : ∀ a, (enc a).length = sz) (hl : 0 < l.length) (hsz : 0 < sz) : sblk v < h.size := by
  obtain ⟨b, o, cap, rfl, hr⟩ := s.at he 0 hl
  obtain ⟨k, rfl⟩ : ∃ k, sz = k + 1 := ⟨sz - 1, by omega⟩
  exact rdN_lt hr
theorem Sl.updB {S : Nat → Prop} {h' : Hp} (s : Sl h sz enc v l) (he : ∀ a, (enc a).length = sz) (hsz : 0 < sz) (u : Upd S h h') (hb : ∀ b, b < h.size → blk v = some b → ¬ S b) : Sl h' sz enc v l := by
  by_cases hl : 0 < l.length
  · have hlt := s.lt he hl hsz
    refine s.upd u fun b hb' => hb b ?_ hb'
    obtain ⟨cap, e⟩ := s.addr hl
    rw [e] at hb' hlt
    cases hb'
    exact hlt
  · have : l = [] := List.eq_nil_of_length_eq_zero (by omega)
    subst this
    obtain ⟨p, cap, rfl, hc, e⟩ := s
    refine ⟨p, cap, rfl, hc, ?_⟩
    cases p with
    | none => exact e
    | some a =>
      obtain ⟨b, o, sp⟩ := a
      cases sp with
      | none => simp [srcCells, rdN]
      | some _ => simp [srcCells]
theorem Sl.push (s : Sl h sz enc v l) (o : AObj) : Sl (h.push o) sz enc v l := s.ext (Upd.push (Upd.refl _) _)
theorem Own.push (s : Own h base sz enc v l) (o : AObj) : Own (h.push o) base sz enc v l := s.ext (Upd.push (Upd.refl _) _)
theorem Own.blk_ge (o : Own h base sz enc v l) {b : Nat} (hb : blk v = some b) : base ≤ b := by
  rcases o with ⟨rfl, _⟩ | ⟨g, cap, c, rfl, hg, _⟩
  · cases hb
  · cases hb; exact hg
theorem Own.blk_lt (o : Own h base sz enc v l) {b : Nat} (hb : blk v = some b) : b < h.size := by
  rcases o with ⟨rfl, _⟩ | ⟨g, cap, c, rfl, _, hg, _⟩
  · cases hb
  · cases hb; exact lt_of_get hg
theorem Own.setb (o : Own h base sz enc v l) {r : Nat} (hr : r < base) (x : AObj) : Own (h.setIfInBounds r x) base sz enc v l :=
  o.upd (S := fun i => i = r) (Upd.set (Upd.refl _) _ _ (.inr rfl)) (fun b hb e => by have := o.blk_ge hb; omega)
theorem Own.len (s : Own h base sz enc v l) {h' : Hp} {K : Kont} : oLen 0 v h' K = K (.int .i64 l.length) h' := by
  obtain ⟨p, cap, rfl, _⟩ := s.sl; rfl
theorem Sl.len' (s : Sl h0 sz enc v l) (h : Hp) (K : Kont) : oLen 0 v h K = K (.int .i64 l.length) h := by
  obtain ⟨p, cap, rfl, _⟩ := s; rfl
theorem flat_sub (he : ∀ a, (enc a).length = sz) : ∀ (l : List α) (lo n : Nat), ((l.flatMap enc).drop (lo * sz)).take (n * sz) = ((l.drop lo).take n).flatMap enc
  | [], lo, n => by simp
  | a :: l, 0, 0 => by simp
  | a :: l, 0, n + 1 => by
    have := flat_sub he l 0 n
    simp only [Nat.zero_mul, List.drop_zero, List.flatMap_cons, List.take_succ_cons] at this ⊢
    rw [Nat.add_mul, Nat.one_mul, Nat.add_comm, ← he a, List.take_length_add_append, he a, this]
  | a :: l, lo + 1, n => by
    rw [List.flatMap_cons, Nat.add_mul, Nat.one_mul, Nat.add_comm, ← List.drop_drop, List.drop_left' (he a), List.drop_succ_cons]
    exact flat_sub he l lo n
theorem bnd_int {k : IntKind} {n : Int} {d m : Nat} (h0 : 0 ≤ n) (h1 : n ≤ m) : bnd (some (.int k n)) d m = some n.toNat := by simp [bnd, h0, h1]
/-- xs[lo:hi]. -/
theorem Sl.sub (s : Sl h0 sz enc v l) (he : ∀ a, (enc a).length = sz) {lo hi : Option Value} {a b : Nat} (hlo : ∀ m, b ≤ m → bnd lo 0 m = some a) (hhi : ∀ m, l.length ≤ m → bnd hi l.length m = some b) (hab : a ≤ b) (hb : b ≤ l.length) {h : Hp} {K : Kont}
    (hK : ∀ v', Sl h0 sz enc v' ((l.take b).drop a) → (blk v' = blk v ∨ blk v' = none) → K v' h) : oSlice 0 sz v lo hi none h K := by
  obtain ⟨p, cap, rfl, hcap, e⟩ := s
  refine ⟨cap, b, a, rfl, hhi _ hcap, fun _ => rfl, hlo _ (Nat.le_refl _), ?_⟩
  have hlen : ((l.take b).drop a).length = b - a := by simp; omega
  have hflat : ((l.take b).drop a).flatMap enc = ((l.flatMap enc).drop (a * sz)).take ((b - a) * sz) := by
    rw [flat_sub he, List.drop_take]
  refine hK _ ⟨_, cap - a, by rw [hlen], by rw [hlen]; omega, ?_⟩ ?_
  · rw [hlen, hflat]
    cases p with
    | none =>
      simp only [srcCells] at e
      split at e
      · rename_i h0
        have : l = [] := List.eq_nil_of_length_eq_zero h0
        subst this
        have hb0 : b = 0 := by simpa using hb
        have ha0 : a = 0 := by omega
        subst hb0; subst ha0
        split <;> simp [srcCells]
      · cases e
    | some q =>
      obtain ⟨x, y, sp⟩ := q
      cases sp with
      | some _ =>
        simp only [srcCells] at e
        split at e
        · rename_i h0
          have : l = [] := List.eq_nil_of_length_eq_zero h0
          subst this
          have hb0 : b = 0 := by simpa using hb
          have ha0 : a = 0 := by omega
          subst hb0; subst ha0
          split <;> simp [srcCells, Addr.add]
        · cases e
      | none =>
        simp only [srcCells, Option.map_eq_some_iff, Prod.mk.injEq, true_and] at e
        obtain ⟨r, hr, rfl⟩ := e
        by_cases hc : cap = a
        · have : b - a = 0 := by omega
          simp [hc, this, srcCells, rdN]
        · simp only [if_neg hc, Option.map_some, add0, srcCells]
          rw [rdN_part hr (by rw [← Nat.add_mul]; exact Nat.mul_le_mul_right _ (by omega))]
          rfl
  · cases p with
    | none => right; split <;> rfl
    | some q => left; split <;> simp [blk, Addr.add] ; split <;> rfl
theorem setL_all (vs : List Value) : ∀ (c : Array Value), c.size = vs.length → (setL c 0 vs).toList = vs := by
  intro c hc
  have := setL_take vs c 0 (by omega)
  rw [Nat.zero_add, List.take_zero, List.nil_append, List.take_of_length_le (by simp [setL_size, hc])] at this
  exact this
/-- append(out, a): a struct's cells go behind what the row holds. -/
theorem Own.push1 (o : Own h base sz enc v l) (he : ∀ a, (enc a).length = sz) (ho : ∀ a, (enc a).all one = true) (a : α) {z c : Array Value} {bytes : Nat}
    (hc : c.toList = enc a) (hB : Base.b ≤ h.size) (hz : z.size = sz) (hb : base ≤ h.size) (hbytes : (l.length + 1) * bytes ≤ 140737488355328) {K : Kont}
    (hK : ∀ v' h', Own h' base sz enc v' (l ++ [a]) → Upd (fun b => base ≤ b) h h' → K v' h') :
    oAppend sz bytes z v (.slice (some ⟨h.size, 0, none⟩) 1 1) (h.push (.cells c)) K := by
  refine Own.append (o.push _) he ho (by simp; omega) hz (Sl.one (a := a) hc (he a)) (by simp; omega) (by simpa using hbytes) ?_
  intro v' h' o' u
  exact hK v' h' o' ((Upd.push (Upd.refl _) _).trans u)
end
theorem e_if2 (c : Bool) (a b : Prop) (ha : c = true → a) (hb : c = false → b) : oIf (.bool c) a b := by cases c <;> simp_all [oIf]
theorem e_ifd (p : Prop) [Decidable p] (a b : Prop) (ha : p → a) (hb : ¬ p → b) : oIf (.bool (decide p)) a b := by
  by_cases h : p
  · rw [decide_eq_true h]; exact ha h
  · rw [decide_eq_false h]; exact hb h
theorem e_ifn (p : Prop) [Decidable p] (a b : Prop) (ha : ¬ p → a) (hb : p → b) : oIf (.bool (!decide p)) a b := by
  by_cases h : p
  · rw [decide_eq_true h]; exact hb h
  · rw [decide_eq_false h]; exact ha h
theorem e_gd (p : Prop) [Decidable p] (w : Bool) (m : Kont → Prop) (h : Hp) (K : Kont) (ha : p → oGuard (.bool true) w m h K) (hb : ¬ p → oGuard (.bool false) w m h K) : oGuard (.bool (decide p)) w m h K := by
  by_cases h : p
  · rw [decide_eq_true h]; exact ha h
  · rw [decide_eq_false h]; exact hb h
theorem e_gn (p : Prop) [Decidable p] (w : Bool) (m : Kont → Prop) (h : Hp) (K : Kont) (ha : ¬ p → oGuard (.bool true) w m h K) (hb : p → oGuard (.bool false) w m h K) : oGuard (.bool (!decide p)) w m h K := by
  by_cases h : p
  · rw [decide_eq_true h]; exact hb h
  · rw [decide_eq_false h]; exact ha h
theorem e_g2 (c : Bool) (w : Bool) (m : Kont → Prop) (h : Hp) (K : Kont) (ha : c = true → oGuard (.bool true) w m h K) (hb : c = false → oGuard (.bool false) w m h K) : oGuard (.bool c) w m h K := by cases c <;> simp_all
theorem e_pd (p : Prop) [Decidable p] (a b : Value) (h : Hp) (K : Kont) (ha : p → K a h) (hb : ¬ p → K b h) : oPick (.bool (decide p)) a b h K := by
  by_cases h : p
  · rw [decide_eq_true h]; exact ha h
  · rw [decide_eq_false h]; exact hb h
theorem e_pn (p : Prop) [Decidable p] (a b : Value) (h : Hp) (K : Kont) (ha : ¬ p → K a h) (hb : p → K b h) : oPick (.bool (!decide p)) a b h K := by
  by_cases h : p
  · rw [decide_eq_true h]; exact hb h
  · rw [decide_eq_false h]; exact ha h
theorem k_cast {K : Kont} {v v' : Value} {h : Hp} (k : K v h) (e : v = v') : K v' h := e ▸ k
/-- Whatever fell below a mark stays, whatever is new may have turned. -/
theorem Upd.ext {a b c : Hp} {base : Nat} (x : Ext a b) (y : Upd (fun r => base ≤ r) b c) (hb : a.size ≤ base) : Ext a c := Upd.fresh x y (fun r hr => .inl (by omega))
theorem Ext.trans {a b c : Hp} (x : Ext a b) (y : Ext b c) : Ext a c := Upd.trans x y
theorem Ext.lift {a b : Hp} {S : Nat → Prop} (x : Ext a b) : Upd S a b := x.mono (fun _ _ h => h.elim)
theorem Ext.hB {a b : Hp} (x : Ext a b) (h : Base.b ≤ a.size) : Base.b ≤ b.size := Nat.le_trans h x.1
theorem Upd.hB {a b : Hp} {S : Nat → Prop} (x : Upd S a b) (h : Base.b ≤ a.size) : Base.b ≤ b.size := Nat.le_trans h x.1
end Go.Proofs.Ytdolepapmpcpiaa
