/- Lemmas for the theorem of the last text; no condition. -/
import Derived.Test.YtdolepapmpcpiaaLs0
import Derived.Test.YtdolepapmpcpiaaLs1
import Derived.Test.YtdolepapmpcpiaaLs2
import Derived.Test.YtdolepapmpcpiaaLs3
import Derived.Test.YtdolepapmpcpiaaLs4
import Derived.Test.YtdolepapmpcpiaaLs5
import Derived.Test.YtdolepapmpcpiaaLs6
import Derived.Test.YtdolepapmpcpiaaLs7
namespace Go.Proofs.Ytdolepapmpcpiaa
open Go
set_option linter.unusedSectionVars false
variable [Base]
set_option linter.unusedVariables false
set_option linter.unusedSimpArgs false
theorem keysIn_nil : keysIn [] := ⟨List.nodup_nil, by simp, by simp⟩
set_option maxHeartbeats 4000000 in
theorem sp_awake {h : Hp} (hB : Base.b ≤ h.size) {K : Kont} (hK : ∀ h', Ext h h' → K (.bool true) h') : C_q161 [] h K := by
  refine ok_q161 ?_
  unfold G_q161
  refine sp_New hB ?_
  intro h1 hA1 x1
  have b1 : Base.b ≤ h1.size := Nat.le_trans hB x1.1
  refine sp_Prepare b1 hA1 keysIn_nil (b := 9) (by decide) 0 ?_
  intro v2 h2 hA2 x2 ho2
  have b2 : Base.b ≤ h2.size := Nat.le_trans b1 x2.1
  have e2 : mPrepE 0 9 0 = 0 := by decide
  have e2' : mPrepP 0 9 0 = 9 := by decide
  rw [e2'] at hA2
  rw [e2]
  simp (disch := (first|omega|(simp only [zz,Nat.reduceAdd,Nat.reduceLeDiff];done)|(simp only [zz];omega))) only [e_pickT, e_pickF, e_alloc, e_box, e_build, e_buildSlice, e_ld1, e_ldN, e_st, e_nilCheck, e_bin, e_eq, e_not, e_conv, e_makeMap, e_fieldAddr, e_idxS, e_idxA, e_lookup, e_lookupN, e_mapUpdate, e_delete, e_clearMap, e_len0, e_len1, e_len2, e_len2n, e_extract, e_ifT, e_ifF, e_gTT, e_gFF, e_gTF, e_gFT, e_hTT, e_hFF, e_hTF, e_hFT, e_gU, e_hU, e_minmax, e_field1, b_add, b_sub, b_mul, b_quo, b_rem, b_eql, b_neq, b_lss, b_leq, b_gtr, b_geq, Int.cast_ofNat_Int, decide_true, decide_false, Int.reduceLT, Int.reduceLE, Int.reduceEq, List.toList_toArray, rdC_eq, Bool.false_eq_true, if_false, Bool.true_eq_false, onS_some, asCells_cells, asMap_map, cellAt_cells, g_push_lt, g_push_eq, g_set_eq, g_set_ne, wrap_i, wrap_u, Option.bind_some, Array.size_push, Array.size_setIfInBounds, List.size_toArray, List.length_cons, List.length_nil, List.getElem?_toArray, List.getElem?_cons_zero, List.getElem?_cons_succ, List.setIfInBounds_toArray, List.set_cons_zero, List.set_cons_succ, Nat.reduceAdd, Nat.zero_add, Nat.add_zero, true_and, and_true, Value.cells, setL, rdN, bfill, one, List.all_cons, List.all_nil, Bool.and_self, Option.map_some, Nat.reduceLeDiff, Nat.le_refl, if_true, Option.isNone_some, Option.isNone_none, eqV, Bool.not_true, Bool.not_false, Nat.zero_mul, Nat.reduceMul, lookRes]
  refine sp_Accept b2 hA2 (b := 17) (by decide) 3 ⟨0, 0, 0, 0⟩ ?_
  intro h3 hA3 x3
  have b3 : Base.b ≤ h3.size := Nat.le_trans b2 x3.1
  have e3 : mAccE 9 17 3 ⟨0, 0, 0, 0⟩ = 0 := by decide
  have e3' : mAccP 9 17 3 ⟨0, 0, 0, 0⟩ = 17 := by decide
  have e3m : mAccM 9 [] 17 3 ⟨0, 0, 0, 0⟩ = [(3, ⟨3, 17, ⟨0, 0, 0, 0⟩⟩)] := by decide
  rw [e3', e3m] at hA3
  rw [e3]
  refine sp_Prepare b3 hA3 ⟨by simp [keysOk], by intro k hk; simp at hk; subst hk; decide, by decide⟩ (b := 9) (by decide) 0 ?_
  intro v4 h4 hA4 x4 ho4
  have e4 : mPrepE 17 9 0 = 10 := by decide
  have e4' : mPrepP 17 9 0 = 17 := by decide
  rw [e4'] at hA4
  rw [e4]
  simp (disch := (first|omega|(simp only [zz,Nat.reduceAdd,Nat.reduceLeDiff];done)|(simp only [zz];omega))) only [e_pickT, e_pickF, e_alloc, e_box, e_build, e_buildSlice, e_ld1, e_ldN, e_st, e_nilCheck, e_bin, e_eq, e_not, e_conv, e_makeMap, e_fieldAddr, e_idxS, e_idxA, e_lookup, e_lookupN, e_mapUpdate, e_delete, e_clearMap, e_len0, e_len1, e_len2, e_len2n, e_extract, e_ifT, e_ifF, e_gTT, e_gFF, e_gTF, e_gFT, e_hTT, e_hFF, e_hTF, e_hFT, e_gU, e_hU, e_minmax, e_field1, b_add, b_sub, b_mul, b_quo, b_rem, b_eql, b_neq, b_lss, b_leq, b_gtr, b_geq, Int.cast_ofNat_Int, decide_true, decide_false, Int.reduceLT, Int.reduceLE, Int.reduceEq, List.toList_toArray, rdC_eq, Bool.false_eq_true, if_false, Bool.true_eq_false, onS_some, asCells_cells, asMap_map, cellAt_cells, g_push_lt, g_push_eq, g_set_eq, g_set_ne, wrap_i, wrap_u, Option.bind_some, Array.size_push, Array.size_setIfInBounds, List.size_toArray, List.length_cons, List.length_nil, List.getElem?_toArray, List.getElem?_cons_zero, List.getElem?_cons_succ, List.setIfInBounds_toArray, List.set_cons_zero, List.set_cons_succ, Nat.reduceAdd, Nat.zero_add, Nat.add_zero, true_and, and_true, Value.cells, setL, rdN, bfill, one, List.all_cons, List.all_nil, Bool.and_self, Option.map_some, Nat.reduceLeDiff, Nat.le_refl, if_true, Option.isNone_some, Option.isNone_none, eqV, Bool.not_true, Bool.not_false, Nat.zero_mul, Nat.reduceMul, lookRes]
  refine sp_Promised hA4 ?_
  simp (disch := (first|omega|(simp only [zz,Nat.reduceAdd,Nat.reduceLeDiff];done)|(simp only [zz];omega))) only [e_pickT, e_pickF, e_alloc, e_box, e_build, e_buildSlice, e_ld1, e_ldN, e_st, e_nilCheck, e_bin, e_eq, e_not, e_conv, e_makeMap, e_fieldAddr, e_idxS, e_idxA, e_lookup, e_lookupN, e_mapUpdate, e_delete, e_clearMap, e_len0, e_len1, e_len2, e_len2n, e_extract, e_ifT, e_ifF, e_gTT, e_gFF, e_gTF, e_gFT, e_hTT, e_hFF, e_hTF, e_hFT, e_gU, e_hU, e_minmax, e_field1, b_add, b_sub, b_mul, b_quo, b_rem, b_eql, b_neq, b_lss, b_leq, b_gtr, b_geq, Int.cast_ofNat_Int, decide_true, decide_false, Int.reduceLT, Int.reduceLE, Int.reduceEq, List.toList_toArray, rdC_eq, Bool.false_eq_true, if_false, Bool.true_eq_false, onS_some, asCells_cells, asMap_map, cellAt_cells, g_push_lt, g_push_eq, g_set_eq, g_set_ne, wrap_i, wrap_u, Option.bind_some, Array.size_push, Array.size_setIfInBounds, List.size_toArray, List.length_cons, List.length_nil, List.getElem?_toArray, List.getElem?_cons_zero, List.getElem?_cons_succ, List.setIfInBounds_toArray, List.set_cons_zero, List.set_cons_succ, Nat.reduceAdd, Nat.zero_add, Nat.add_zero, true_and, and_true, Value.cells, setL, rdN, bfill, one, List.all_cons, List.all_nil, Bool.and_self, Option.map_some, Nat.reduceLeDiff, Nat.le_refl, if_true, Option.isNone_some, Option.isNone_none, eqV, Bool.not_true, Bool.not_false, Nat.zero_mul, Nat.reduceMul, lookRes]
  refine sp_Len hA4 ?_
  simp (disch := (first|omega|(simp only [zz,Nat.reduceAdd,Nat.reduceLeDiff];done)|(simp only [zz];omega))) only [e_pickT, e_pickF, e_alloc, e_box, e_build, e_buildSlice, e_ld1, e_ldN, e_st, e_nilCheck, e_bin, e_eq, e_not, e_conv, e_makeMap, e_fieldAddr, e_idxS, e_idxA, e_lookup, e_lookupN, e_mapUpdate, e_delete, e_clearMap, e_len0, e_len1, e_len2, e_len2n, e_extract, e_ifT, e_ifF, e_gTT, e_gFF, e_gTF, e_gFT, e_hTT, e_hFF, e_hTF, e_hFT, e_gU, e_hU, e_minmax, e_field1, b_add, b_sub, b_mul, b_quo, b_rem, b_eql, b_neq, b_lss, b_leq, b_gtr, b_geq, Int.cast_ofNat_Int, decide_true, decide_false, Int.reduceLT, Int.reduceLE, Int.reduceEq, List.toList_toArray, rdC_eq, Bool.false_eq_true, if_false, Bool.true_eq_false, onS_some, asCells_cells, asMap_map, cellAt_cells, g_push_lt, g_push_eq, g_set_eq, g_set_ne, wrap_i, wrap_u, Option.bind_some, Array.size_push, Array.size_setIfInBounds, List.size_toArray, List.length_cons, List.length_nil, List.getElem?_toArray, List.getElem?_cons_zero, List.getElem?_cons_succ, List.setIfInBounds_toArray, List.set_cons_zero, List.set_cons_succ, Nat.reduceAdd, Nat.zero_add, Nat.add_zero, true_and, and_true, Value.cells, setL, rdN, bfill, one, List.all_cons, List.all_nil, Bool.and_self, Option.map_some, Nat.reduceLeDiff, Nat.le_refl, if_true, Option.isNone_some, Option.isNone_none, eqV, Bool.not_true, Bool.not_false, Nat.zero_mul, Nat.reduceMul, lookRes, List.length_singleton]
  refine hK _ ?_
  have y2 : Upd (fun x => h.size ≤ x) h1 h2 := x2.mono (fun r _ h => by omega)
  have y3 : Upd (fun x => h.size ≤ x) h2 h3 := x3.mono (fun r _ h => by omega)
  have y4 : Upd (fun x => h.size ≤ x) h3 h4 := x4.mono (fun r _ h => by omega)
  exact Upd.fresh x1 (y2.trans (y3.trans y4)) (fun r h => .inl h)
end Go.Proofs.Ytdolepapmpcpiaa

namespace Go.Proofs.Ytdolepapmpcpiaa
open Go
set_option linter.unusedSectionVars false
variable [Base]
set_option linter.unusedVariables false
set_option linter.unusedSimpArgs false
def sblk : Value → Nat
  | .slice (some a) _ _ => a.block
  | _ => 0
def soff : Value → Nat
  | .slice (some a) _ _ => a.off
  | _ => 0
def nth {α : Type} [Inhabited α] (l : List α) (i : Nat) : α := l.getD i default
theorem nth_get {α : Type} [Inhabited α] {l : List α} {i : Nat} (h : i < l.length) : nth l i = l[i] := by simp [nth, List.getD, h]
theorem nth_mem {α : Type} [Inhabited α] {l : List α} {i : Nat} (h : i < l.length) : nth l i ∈ l := by rw [nth_get h]; exact List.getElem_mem h
theorem take_nth {α : Type} [Inhabited α] {l : List α} {i : Nat} (h : i < l.length) : l.take (i + 1) = l.take i ++ [nth l i] := by rw [nth_get h]; simp
theorem drop_nth {α : Type} [Inhabited α] {l : List α} {i : Nat} (h : i < l.length) : l.drop i = nth l i :: l.drop (i + 1) := by rw [nth_get h]; exact List.drop_eq_getElem_cons h
theorem vc_int (k : IntKind) (n : Int) : Value.cells (.int k n) = #[.int k n] := id rfl
theorem vc_bool (b : Bool) : Value.cells (.bool b) = #[.bool b] := id rfl
theorem vc_str (s : ByteArray) : Value.cells (.string s) = #[.string s] := id rfl
theorem vc_ptr (a : Option Addr) : Value.cells (.pointer a) = #[.pointer a] := id rfl
theorem vc_slice (a : Option Addr) (n c : Nat) : Value.cells (.slice a n c) = #[.slice a n c] := id rfl
theorem vc_map (a : Option Nat) : Value.cells (.map a) = #[.map a] := id rfl
theorem vc_func (f : Fn) (a b : Array Value) : Value.cells (.func f a b) = #[.func f a b] := id rfl
theorem vc_agg (a : Array Value) : Value.cells (.agg a) = a := id rfl
theorem one_cells {v : Value} (h : one v = true) : v.cells = #[v] := by cases v <;> first | rfl | cases h
theorem o_int (k : IntKind) (n : Int) : one (.int k n) = true := id rfl
theorem o_bool (b : Bool) : one (.bool b) = true := id rfl
theorem o_str (s : ByteArray) : one (.string s) = true := id rfl
theorem o_ptr (a : Option Addr) : one (.pointer a) = true := id rfl
theorem o_slice (a : Option Addr) (n c : Nat) : one (.slice a n c) = true := id rfl
theorem o_map (a : Option Nat) : one (.map a) = true := id rfl
theorem o_func (f : Fn) (a b : Array Value) : one (.func f a b) = true := id rfl
theorem sl_one {α : Type} {h : Hp} {sz : Nat} {enc : α → List Value} {v : Value} {l : List α} (s : Sl h sz enc v l) : one v = true := by obtain ⟨p, cap, rfl, _⟩ := s; rfl
theorem own_one {α : Type} {h : Hp} {base sz : Nat} {enc : α → List Value} {v : Value} {l : List α} (s : Own h base sz enc v l) : one v = true := sl_one s.sl
theorem c_ld1 (b i : Nat) (h : Hp) (K : Kont) : oLd1 (.pointer (some ⟨b, i, none⟩)) h K = onS (rdC h b i) (fun v => K v h) := onS_ex _ _
theorem rdC_push {h : Hp} {o : AObj} {b i : Nat} (hb : b < h.size) : rdC (h.push o) b i = rdC h b i := by unfold rdC; rw [g_push_lt hb]
theorem rdC_pushE {h : Hp} {c : Array Value} {b i : Nat} (hb : b = h.size) : rdC (h.push (.cells c)) b i = c[i]? := by unfold rdC; rw [g_push_eq hb]
theorem rdC_setN {h : Hp} {o : AObj} {b r i : Nat} (e : r ≠ b) : rdC (h.setIfInBounds r o) b i = rdC h b i := by unfold rdC; rw [g_set_ne e]
theorem rdC_setE {h : Hp} {c : Array Value} {b r i : Nat} (hb : r < h.size) (e : r = b) : rdC (h.setIfInBounds r (.cells c)) b i = c[i]? := by unfold rdC; rw [g_set_eq hb e]
theorem rdC_blk {h : Hp} {c : Array Value} {b : Nat} (e : h[b]? = some (.cells c)) (i : Nat) : rdC h b i = c[i]? := by unfold rdC; rw [e]
theorem rdN_all {h : Hp} {c : Array Value} {b n : Nat} (e : h[b]? = some (.cells c)) (hn : n = c.size) : rdN h b 0 n = some c.toList := by
  rw [rdN_blk e (by omega), List.drop_zero, hn, List.take_of_length_le (by simp)]
theorem rdN_pushE {h : Hp} {c : Array Value} {b n : Nat} (hb : b = h.size) (hn : n = c.size) : rdN (h.push (.cells c)) b 0 n = some c.toList := rdN_all (g_push_eq hb) hn
theorem rdN_setE {h : Hp} {c : Array Value} {b r n : Nat} (hb : r < h.size) (e : r = b) (hn : n = c.size) : rdN (h.setIfInBounds r (.cells c)) b 0 n = some c.toList := rdN_all (g_set_eq hb e) hn
theorem rdN_of {h : Hp} {c : Array Value} {b i n : Nat} (e : h[b]? = some (.cells c)) (hn : i + n ≤ c.size) : rdN h b i n = some ((c.toList.drop i).take n) := rdN_blk e hn
theorem rdN_pushP {h : Hp} {c : Array Value} {b i n : Nat} (hb : b = h.size) (hn : i + n ≤ c.size) : rdN (h.push (.cells c)) b i n = some ((c.toList.drop i).take n) := rdN_blk (g_push_eq hb) hn
theorem rdN_setP {h : Hp} {c : Array Value} {b r i n : Nat} (hb : r < h.size) (e : r = b) (hn : i + n ≤ c.size) : rdN (h.setIfInBounds r (.cells c)) b i n = some ((c.toList.drop i).take n) := rdN_blk (g_set_eq hb e) hn
theorem b_push {h : Hp} {o : AObj} {b : Nat} (hb : b < h.size) : ((h.push o)[b]?).bind asCells = (h[b]?).bind asCells := by rw [g_push_lt hb]
theorem b_pushE {h : Hp} {c : Array Value} {b : Nat} (hb : b = h.size) : ((h.push (.cells c))[b]?).bind asCells = some c := by rw [g_push_eq hb]; rfl
theorem b_setN {h : Hp} {o : AObj} {b r : Nat} (e : r ≠ b) : ((h.setIfInBounds r o)[b]?).bind asCells = (h[b]?).bind asCells := by rw [g_set_ne e]
theorem b_setE {h : Hp} {c : Array Value} {b r : Nat} (hb : r < h.size) (e : r = b) : ((h.setIfInBounds r (.cells c))[b]?).bind asCells = some c := by rw [g_set_eq hb e]; rfl
theorem b_blk {h : Hp} {c : Array Value} {b : Nat} (e : h[b]? = some (.cells c)) : (h[b]?).bind asCells = some c := by rw [e]; rfl
theorem m_blk {h : Hp} {c : List (Value × Value)} {b : Nat} (e : h[b]? = some (.map c)) : (h[b]?).bind asMap = some c := by rw [e]; rfl
theorem m_push {h : Hp} {o : AObj} {b : Nat} (hb : b < h.size) : ((h.push o)[b]?).bind asMap = (h[b]?).bind asMap := by rw [g_push_lt hb]
theorem m_pushE {h : Hp} {c : List (Value × Value)} {b : Nat} (hb : b = h.size) : ((h.push (.map c))[b]?).bind asMap = some c := by rw [g_push_eq hb]; rfl
theorem m_setN {h : Hp} {o : AObj} {b r : Nat} (e : r ≠ b) : ((h.setIfInBounds r o)[b]?).bind asMap = (h[b]?).bind asMap := by rw [g_set_ne e]
theorem m_setE {h : Hp} {c : List (Value × Value)} {b r : Nat} (hb : r < h.size) (e : r = b) : ((h.setIfInBounds r (.map c))[b]?).bind asMap = some c := by rw [g_set_eq hb e]; rfl
section
variable {α : Type} {h h0 : Hp} {sz base : Nat} {enc : α → List Value} {v : Value} {l : List α}
theorem Sl.addr (s : Sl h sz enc v l) (hl : 0 < l.length) : ∃ cap, v = .slice (some ⟨sblk v, soff v, none⟩) l.length cap := by
  obtain ⟨p, cap, rfl, _, e⟩ := s
  unfold srcCells at e
  split at e <;> rename_i hm
  · split at e
    · rename_i h0; cases hm; omega
    · cases e
  · cases hm; exact ⟨_, rfl⟩
  · split at e
    · cases hm; omega
    · cases e
  · cases hm
  · cases e
theorem Sl.idx (s : Sl h0 sz enc v l) (k : IntKind) (n : Int) (h : Hp) (K : Kont) (hn : 0 ≤ n) (hl : n < l.length) : oIdxS sz v (.int k n) h K = K (pt (sblk v) (soff v + n.toNat * sz)) h := by
  obtain ⟨cap, e⟩ := s.addr (by omega)
  rw [e]
  simp only [oIdxS, hn, hl, true_and]
  rfl
theorem Sl.row [Inhabited α] (s : Sl h sz enc v l) (he : ∀ a, (enc a).length = sz) (i : Nat) (hi : i < l.length) : rdN h (sblk v) (soff v + i * sz) sz = some (enc (nth l i)) := by
  obtain ⟨b, o, cap, rfl, hr⟩ := s.at he i hi
  rw [nth_get hi]
  exact hr
theorem Sl.cell [Inhabited α] (s : Sl h sz enc v l) (he : ∀ a, (enc a).length = sz) (i j : Nat) (hi : i < l.length) (hj : j < sz) : rdC h (sblk v) (soff v + i * sz + j) = (enc (nth l i))[j]? := by
  have := s.row he i hi
  have h2 : (enc (nth l i))[j]? = some ((enc (nth l i))[j]'(by rw [he]; exact hj)) := List.getElem?_eq_getElem _
  rw [h2]
  exact rdN_cell this h2
theorem Sl.cell0 [Inhabited α] (s : Sl h sz enc v l) (he : ∀ a, (enc a).length = sz) (i : Nat) (hi : i < l.length) (hj : 0 < sz) : rdC h (sblk v) (soff v + i * sz) = (enc (nth l i))[0]? := s.cell he i 0 hi hj
theorem Sl.lt (s : Sl h sz enc v l) (he : ∀ a, (enc a).length = sz) (hl : 0 < l.length) (hsz : 0 < sz) : sblk v < h.size := by
  obtain ⟨b, o, cap, rfl, hr⟩ := s.at he 0 hl
  obtain ⟨k, rfl⟩ : ∃ k, sz = k + 1 := ⟨sz - 1, by omega⟩
  exact rdN_lt hr
theorem Sl.push (s : Sl h sz enc v l) (o : AObj) : Sl (h.push o) sz enc v l := s.ext (Upd.push (Upd.refl _) _)
theorem Own.push (s : Own h base sz enc v l) (o : AObj) : Own (h.push o) base sz enc v l := s.ext (Upd.push (Upd.refl _) _)
theorem Own.blk_ge (o : Own h base sz enc v l) {b : Nat} (hb : blk v = some b) : base ≤ b := by
  rcases o with ⟨rfl, _⟩ | ⟨g, cap, c, rfl, hg, _⟩
  · cases hb
  · cases hb; exact hg
theorem Own.blk_lt (o : Own h base sz enc v l) {b : Nat} (hb : blk v = some b) : b < h.size := by
  rcases o with ⟨rfl, _⟩ | ⟨g, cap, c, rfl, _, hg, _⟩
  · cases hb
  · cases hb; exact lt_of_get hg
theorem Own.len (s : Own h base sz enc v l) {h' : Hp} {K : Kont} : oLen 0 v h' K = K (.int .i64 l.length) h' := by
  obtain ⟨p, cap, rfl, _⟩ := s.sl; rfl
theorem Sl.len' (s : Sl h0 sz enc v l) (h : Hp) (K : Kont) : oLen 0 v h K = K (.int .i64 l.length) h := by
  obtain ⟨p, cap, rfl, _⟩ := s; rfl
theorem flat_sub (he : ∀ a, (enc a).length = sz) : ∀ (l : List α) (lo n : Nat), ((l.flatMap enc).drop (lo * sz)).take (n * sz) = ((l.drop lo).take n).flatMap enc
  | [], lo, n => by simp
  | a :: l, 0, 0 => by simp
  | a :: l, 0, n + 1 => by
    have := flat_sub he l 0 n
    simp only [Nat.zero_mul, List.drop_zero, List.flatMap_cons, List.take_succ_cons] at this ⊢
    rw [Nat.add_mul, Nat.one_mul, Nat.add_comm, ← he a, List.take_length_add_append, he a, this]
  | a :: l, lo + 1, n => by
    rw [List.flatMap_cons, Nat.add_mul, Nat.one_mul, Nat.add_comm, ← List.drop_drop, List.drop_left' (he a), List.drop_succ_cons]
    exact flat_sub he l lo n
theorem bnd_int {k : IntKind} {n : Int} {d m : Nat} (h0 : 0 ≤ n) (h1 : n ≤ m) : bnd (some (.int k n)) d m = some n.toNat := by simp [bnd, h0, h1]
/-- xs[lo:hi]. -/
theorem Sl.sub (s : Sl h0 sz enc v l) (he : ∀ a, (enc a).length = sz) {lo hi : Option Value} {a b : Nat} (hlo : ∀ m, b ≤ m → bnd lo 0 m = some a) (hhi : ∀ m, l.length ≤ m → bnd hi l.length m = some b) (hab : a ≤ b) (hb : b ≤ l.length) {h : Hp} {K : Kont}
    (hK : ∀ v', Sl h0 sz enc v' ((l.take b).drop a) → (blk v' = blk v ∨ blk v' = none) → K v' h) : oSlice 0 sz v lo hi none h K := by
  obtain ⟨p, cap, rfl, hcap, e⟩ := s
  refine ⟨cap, b, a, rfl, hhi _ hcap, fun _ => rfl, hlo _ (Nat.le_refl _), ?_⟩
  have hlen : ((l.take b).drop a).length = b - a := by simp; omega
  have hflat : ((l.take b).drop a).flatMap enc = ((l.flatMap enc).drop (a * sz)).take ((b - a) * sz) := by
    rw [flat_sub he, List.drop_take]
  refine hK _ ⟨_, cap - a, by rw [hlen], by rw [hlen]; omega, ?_⟩ ?_
  · rw [hlen, hflat]
    cases p with
    | none =>
      simp only [srcCells] at e
      split at e
      · rename_i h0
        have : l = [] := List.eq_nil_of_length_eq_zero h0
        subst this
        have hb0 : b = 0 := by simpa using hb
        have ha0 : a = 0 := by omega
        subst hb0; subst ha0
        split <;> simp [srcCells]
      · cases e
    | some q =>
      obtain ⟨x, y, sp⟩ := q
      cases sp with
      | some _ =>
        simp only [srcCells] at e
        split at e
        · rename_i h0
          have : l = [] := List.eq_nil_of_length_eq_zero h0
          subst this
          have hb0 : b = 0 := by simpa using hb
          have ha0 : a = 0 := by omega
          subst hb0; subst ha0
          split <;> simp [srcCells, Addr.add]
        · cases e
      | none =>
        simp only [srcCells, Option.map_eq_some_iff, Prod.mk.injEq, true_and] at e
        obtain ⟨r, hr, rfl⟩ := e
        by_cases hc : cap = a
        · have : b - a = 0 := by omega
          simp [hc, this, srcCells, rdN]
        · simp only [if_neg hc, Option.map_some, add0, srcCells]
          rw [rdN_part hr (by rw [← Nat.add_mul]; exact Nat.mul_le_mul_right _ (by omega))]
          rfl
  · cases p with
    | none => right; split <;> rfl
    | some q => left; split <;> simp [blk, Addr.add] ; split <;> rfl
/-- append(out, a): a struct's cells go behind what the row holds. -/
theorem Own.push1 (o : Own h base sz enc v l) (he : ∀ a, (enc a).length = sz) (ho : ∀ a, (enc a).all one = true) (a : α) {z c : Array Value} {bytes : Nat}
    (hc : c.toList = enc a) (hB : Base.b ≤ h.size) (hz : z.size = sz) (hb : base ≤ h.size) (hbytes : (l.length + 1) * bytes ≤ 140737488355328) {K : Kont}
    (hK : ∀ v' h', Own h' base sz enc v' (l ++ [a]) → Upd (fun b => base ≤ b) h h' → K v' h') :
    oAppend sz bytes z v (.slice (some ⟨h.size, 0, none⟩) 1 1) (h.push (.cells c)) K := by
  refine Own.append (o.push _) he ho (by simp; omega) hz (Sl.one (a := a) hc (he a)) (by simp; omega) (by simpa using hbytes) ?_
  intro v' h' o' u
  exact hK v' h' o' ((Upd.push (Upd.refl _) _).trans u)
end
theorem e_if2 (c : Bool) (a b : Prop) (ha : c = true → a) (hb : c = false → b) : oIf (.bool c) a b := by cases c <;> simp_all [oIf]
theorem e_ifd (p : Prop) [Decidable p] (a b : Prop) (ha : p → a) (hb : ¬ p → b) : oIf (.bool (decide p)) a b := by
  by_cases h : p
  · rw [decide_eq_true h]; exact ha h
  · rw [decide_eq_false h]; exact hb h
theorem e_ifn (p : Prop) [Decidable p] (a b : Prop) (ha : ¬ p → a) (hb : p → b) : oIf (.bool (!decide p)) a b := by
  by_cases h : p
  · rw [decide_eq_true h]; exact hb h
  · rw [decide_eq_false h]; exact ha h
theorem e_gd (p : Prop) [Decidable p] (w : Bool) (m : Kont → Prop) (h : Hp) (K : Kont) (ha : p → oGuard (.bool true) w m h K) (hb : ¬ p → oGuard (.bool false) w m h K) : oGuard (.bool (decide p)) w m h K := by
  by_cases h : p
  · rw [decide_eq_true h]; exact ha h
  · rw [decide_eq_false h]; exact hb h
theorem e_gn (p : Prop) [Decidable p] (w : Bool) (m : Kont → Prop) (h : Hp) (K : Kont) (ha : ¬ p → oGuard (.bool true) w m h K) (hb : p → oGuard (.bool false) w m h K) : oGuard (.bool (!decide p)) w m h K := by
  by_cases h : p
  · rw [decide_eq_true h]; exact hb h
  · rw [decide_eq_false h]; exact ha h
theorem e_g2 (c : Bool) (w : Bool) (m : Kont → Prop) (h : Hp) (K : Kont) (ha : c = true → oGuard (.bool true) w m h K) (hb : c = false → oGuard (.bool false) w m h K) : oGuard (.bool c) w m h K := by cases c <;> simp_all
theorem e_pd (p : Prop) [Decidable p] (a b : Value) (h : Hp) (K : Kont) (ha : p → K a h) (hb : ¬ p → K b h) : oPick (.bool (decide p)) a b h K := by
  by_cases h : p
  · rw [decide_eq_true h]; exact ha h
  · rw [decide_eq_false h]; exact hb h
theorem e_pn (p : Prop) [Decidable p] (a b : Value) (h : Hp) (K : Kont) (ha : ¬ p → K a h) (hb : p → K b h) : oPick (.bool (!decide p)) a b h K := by
  by_cases h : p
  · rw [decide_eq_true h]; exact hb h
  · rw [decide_eq_false h]; exact ha h
theorem k_cast {K : Kont} {v v' : Value} {h : Hp} (k : K v h) (e : v = v') : K v' h := e ▸ k
/-- Whatever fell below a mark stays, whatever is new may have turned. -/
theorem Upd.ext {a b c : Hp} {base : Nat} (x : Ext a b) (y : Upd (fun r => base ≤ r) b c) (hb : a.size ≤ base) : Ext a c := Upd.fresh x y (fun r hr => .inl (by omega))
theorem Ext.trans {a b c : Hp} (x : Ext a b) (y : Ext b c) : Ext a c := Upd.trans x y
theorem Ext.lift {a b : Hp} {S : Nat → Prop} (x : Ext a b) : Upd S a b := x.mono (fun _ _ h => h.elim)
theorem Ext.hB {a b : Hp} (x : Ext a b) (h : Base.b ≤ a.size) : Base.b ≤ b.size := Nat.le_trans h x.1
theorem Upd.hB {a b : Hp} {S : Nat → Prop} (x : Upd S a b) (h : Base.b ≤ a.size) : Base.b ≤ b.size := Nat.le_trans h x.1
theorem xa [Base] : type_of% (And.intro (@e_pickT _) (And.intro (@e_pickF _) (And.intro (@e_alloc _) (And.intro (@e_box _) (And.intro (@e_build _) (And.intro (@e_buildSlice _) (And.intro (@e_ldN _) (And.intro (@e_st _) (And.intro (@e_nilCheck _) (And.intro (@e_bin _) (And.intro (@e_eq _) (And.intro (@e_not _) (And.intro (@e_conv _) (And.intro (@e_makeMap _) (And.intro (@e_fieldAddr _) (And.intro (@e_idxS _) (And.intro (@e_idxA _) (And.intro (@e_lookup _) (And.intro (@e_lookupN _) (And.intro (@e_mapUpdate _) (And.intro (@e_delete _) (And.intro (@e_clearMap _) (And.intro (@e_len0 _) (And.intro (@e_len1 _) (And.intro (@e_len2 _) (And.intro (@e_len2n _) (And.intro (@e_extract _) (And.intro (@e_ifT _) (And.intro (@e_ifF _) (And.intro (@e_gTT _) (And.intro (@e_gFF _) (And.intro (@e_gTF _) (And.intro (@e_gFT _) (And.intro (@e_hTT _) (And.intro (@e_hFF _) (And.intro (@e_hTF _) (And.intro (@e_hFT _) (And.intro (@e_gU _) (And.intro (@e_hU _) (And.intro (@e_minmax _) (And.intro (@e_field1 _) (And.intro (@c_ld1 _) ((@onS_some _)))))))))))))))))))))))))))))))))))))))))))) := And.intro (@e_pickT _) (And.intro (@e_pickF _) (And.intro (@e_alloc _) (And.intro (@e_box _) (And.intro (@e_build _) (And.intro (@e_buildSlice _) (And.intro (@e_ldN _) (And.intro (@e_st _) (And.intro (@e_nilCheck _) (And.intro (@e_bin _) (And.intro (@e_eq _) (And.intro (@e_not _) (And.intro (@e_conv _) (And.intro (@e_makeMap _) (And.intro (@e_fieldAddr _) (And.intro (@e_idxS _) (And.intro (@e_idxA _) (And.intro (@e_lookup _) (And.intro (@e_lookupN _) (And.intro (@e_mapUpdate _) (And.intro (@e_delete _) (And.intro (@e_clearMap _) (And.intro (@e_len0 _) (And.intro (@e_len1 _) (And.intro (@e_len2 _) (And.intro (@e_len2n _) (And.intro (@e_extract _) (And.intro (@e_ifT _) (And.intro (@e_ifF _) (And.intro (@e_gTT _) (And.intro (@e_gFF _) (And.intro (@e_gTF _) (And.intro (@e_gFT _) (And.intro (@e_hTT _) (And.intro (@e_hFF _) (And.intro (@e_hTF _) (And.intro (@e_hFT _) (And.intro (@e_gU _) (And.intro (@e_hU _) (And.intro (@e_minmax _) (And.intro (@e_field1 _) (And.intro (@c_ld1 _) ((@onS_some _)))))))))))))))))))))))))))))))))))))))))))
theorem xb [Base] : type_of% (And.intro (@b_add _) (And.intro (@b_sub _) (And.intro (@b_mul _) (And.intro (@b_quo _) (And.intro (@b_rem _) (And.intro (@b_eql _) (And.intro (@b_neq _) (And.intro (@b_lss _) (And.intro (@b_leq _) (And.intro (@b_gtr _) (And.intro (@b_geq _) (And.intro (@rdC_push _) (And.intro (@rdC_pushE _) (And.intro (@rdC_setN _) (And.intro (@rdC_setE _) (And.intro (@rdN_push _) (And.intro (@rdN_pushE _) (And.intro (@rdN_setne _) (And.intro (@rdN_setE _) (And.intro (@rdN_pushP _) (And.intro (@rdN_setP _) (And.intro (@b_push _) (And.intro (@b_pushE _) (And.intro (@b_setN _) (And.intro (@b_setE _) (And.intro (@m_push _) (And.intro (@m_pushE _) (And.intro (@m_setN _) (And.intro (@m_setE _) (And.intro (@wrap_i _) (And.intro (@wrap_u _) (And.intro (@vc_int _) (And.intro (@vc_bool _) (And.intro (@vc_str _) (And.intro (@vc_ptr _) (And.intro (@vc_slice _) (And.intro (@vc_map _) (And.intro (@vc_func _) (And.intro (@vc_agg _) (And.intro (@o_int _) (And.intro (@o_bool _) (And.intro (@o_str _) (And.intro (@o_ptr _) (And.intro (@o_slice _) (And.intro (@o_map _) ((@o_func _))))))))))))))))))))))))))))))))))))))))))))))) := And.intro (@b_add _) (And.intro (@b_sub _) (And.intro (@b_mul _) (And.intro (@b_quo _) (And.intro (@b_rem _) (And.intro (@b_eql _) (And.intro (@b_neq _) (And.intro (@b_lss _) (And.intro (@b_leq _) (And.intro (@b_gtr _) (And.intro (@b_geq _) (And.intro (@rdC_push _) (And.intro (@rdC_pushE _) (And.intro (@rdC_setN _) (And.intro (@rdC_setE _) (And.intro (@rdN_push _) (And.intro (@rdN_pushE _) (And.intro (@rdN_setne _) (And.intro (@rdN_setE _) (And.intro (@rdN_pushP _) (And.intro (@rdN_setP _) (And.intro (@b_push _) (And.intro (@b_pushE _) (And.intro (@b_setN _) (And.intro (@b_setE _) (And.intro (@m_push _) (And.intro (@m_pushE _) (And.intro (@m_setN _) (And.intro (@m_setE _) (And.intro (@wrap_i _) (And.intro (@wrap_u _) (And.intro (@vc_int _) (And.intro (@vc_bool _) (And.intro (@vc_str _) (And.intro (@vc_ptr _) (And.intro (@vc_slice _) (And.intro (@vc_map _) (And.intro (@vc_func _) (And.intro (@vc_agg _) (And.intro (@o_int _) (And.intro (@o_bool _) (And.intro (@o_str _) (And.intro (@o_ptr _) (And.intro (@o_slice _) (And.intro (@o_map _) ((@o_func _))))))))))))))))))))))))))))))))))))))))))))))
theorem xl [Base] : type_of% (And.intro (@Option.isNone_none Addr) (And.intro (@Option.isNone_none Nat) (And.intro (@Option.isNone_some Addr) (And.intro (@Option.isNone_some Nat) (And.intro (@List.drop_zero Value) (And.intro (@List.drop_succ_cons Value) (And.intro (@List.take_zero Value) (And.intro (@List.take_succ_cons Value) (And.intro (@List.toList_toArray Value) (And.intro (@List.size_toArray Value) (And.intro (@List.length_cons Value) (And.intro (@List.length_nil Value) (And.intro (@List.getElem?_toArray Value) (And.intro (@List.getElem?_cons_zero Value) (And.intro (@List.getElem?_cons_succ Value) (And.intro (@List.setIfInBounds_toArray Value) (And.intro (@List.set_cons_zero Value) (And.intro (@List.set_cons_succ Value) (And.intro (@List.all_cons Value) (And.intro (@List.all_nil Value) (And.intro (@Array.size_push AObj) (And.intro (@Array.size_setIfInBounds AObj) (And.intro Int.toNat_natCast (And.intro Nat.zero_add (And.intro Nat.add_zero (And.intro Nat.zero_mul (And.intro Nat.le_refl (And.intro Bool.and_self (And.intro Bool.not_true (And.intro Bool.not_false (And.intro Bool.true_eq_false (Bool.false_eq_true)))))))))))))))))))))))))))))))) := And.intro (@Option.isNone_none Addr) (And.intro (@Option.isNone_none Nat) (And.intro (@Option.isNone_some Addr) (And.intro (@Option.isNone_some Nat) (And.intro (@List.drop_zero Value) (And.intro (@List.drop_succ_cons Value) (And.intro (@List.take_zero Value) (And.intro (@List.take_succ_cons Value) (And.intro (@List.toList_toArray Value) (And.intro (@List.size_toArray Value) (And.intro (@List.length_cons Value) (And.intro (@List.length_nil Value) (And.intro (@List.getElem?_toArray Value) (And.intro (@List.getElem?_cons_zero Value) (And.intro (@List.getElem?_cons_succ Value) (And.intro (@List.setIfInBounds_toArray Value) (And.intro (@List.set_cons_zero Value) (And.intro (@List.set_cons_succ Value) (And.intro (@List.all_cons Value) (And.intro (@List.all_nil Value) (And.intro (@Array.size_push AObj) (And.intro (@Array.size_setIfInBounds AObj) (And.intro Int.toNat_natCast (And.intro Nat.zero_add (And.intro Nat.add_zero (And.intro Nat.zero_mul (And.intro Nat.le_refl (And.intro Bool.and_self (And.intro Bool.not_true (And.intro Bool.not_false (And.intro Bool.true_eq_false (Bool.false_eq_true)))))))))))))))))))))))))))))))
theorem xy [Base] : type_of% (And.intro (@Option.bind_some.{0,0}) (And.intro (@Option.map_some.{0,0}) (And.intro (@implies_true.{1}) (And.intro (@imp_self) (And.intro (@true_and) (And.intro (@and_true) (And.intro (@if_true.{1}) (And.intro (@if_false.{1}) (And.intro (@decide_true) (And.intro (@decide_false) ((@Int.cast_ofNat_Int)))))))))))) := And.intro (@Option.bind_some.{0,0}) (And.intro (@Option.map_some.{0,0}) (And.intro (@implies_true.{1}) (And.intro (@imp_self) (And.intro (@true_and) (And.intro (@and_true) (And.intro (@if_true.{1}) (And.intro (@if_false.{1}) (And.intro (@decide_true) (And.intro (@decide_false) ((@Int.cast_ofNat_Int)))))))))))
end Go.Proofs.Ytdolepapmpcpiaa

namespace Go.Proofs.Ytdolepapmpcpiaa
open Go
set_option linter.unusedSectionVars false
variable [Base]
set_option linter.unusedVariables false
set_option linter.unusedSimpArgs false
instance : Inhabited Vote := ⟨vote0⟩
/-- A slot's vote. -/
def atL (l : List Vote) (s : Int) : Option Vote := l.find? (fun v => decide (v.slot = s))
end Go.Proofs.Ytdolepapmpcpiaa

namespace Go.Proofs.Ytdolepapmpcpiaa
open Go
set_option linter.unusedSectionVars false
variable [Base]
set_option linter.unusedVariables false
set_option linter.unusedSimpArgs false
def fromL (l : List Vote) (f : Int) : List Vote := l.filter (fun v => decide (f ≤ v.slot))
def putL (v : Vote) : List Vote → List Vote
  | [] => [v]
  | a :: r => if a.slot < v.slot then a :: putL v r else if a.slot = v.slot then v :: r else v :: a :: r
theorem putL_len (v : Vote) : ∀ l : List Vote, (putL v l).length ≤ l.length + 1
  | [] => by simp [putL]
  | a :: l => by
    have := putL_len v l
    unfold putL
    split
    · simp; omega
    · split <;> simp
end Go.Proofs.Ytdolepapmpcpiaa

namespace Go.Proofs.Ytdolepapmpcpiaa
open Go
set_option linter.unusedSectionVars false
variable [Base]
set_option linter.unusedVariables false
set_option linter.unusedSimpArgs false
set_option maxRecDepth 10000
end Go.Proofs.Ytdolepapmpcpiaa

namespace Go.Proofs.Ytdolepapmpcpiaa
open Go Go.RowKit Go.Maps Go.Shelf
set_option linter.unusedSectionVars false
variable [Base]
set_option linter.unusedVariables false
set_option linter.unusedSimpArgs false
set_option maxRecDepth 10000
abbrev LV := Value × List Vote
abbrev lvc (a : LV) : List Value := [a.1]
theorem lvc_len (a : LV) : (lvc a).length = 1 := rfl
instance : Inhabited LV := ⟨(undef, [])⟩
/-- A slice of slices of votes. -/
def Sll (h : Hp) (v : Value) (ls : List LV) : Prop := Sl h 1 lvc v ls ∧ ∀ a ∈ ls, Sl h 6 vcells a.1 a.2
theorem Sll.ext {h h' : Hp} {v : Value} {ls : List LV} (s : Sll h v ls) (x : Ext h h') : Sll h' v ls := ⟨s.1.ext x, fun a ha => (s.2 a ha).ext x⟩
def votesOf (ls : List LV) : List Vote := ls.flatMap (·.2)
theorem votesOf_snoc {ls : List LV} {i : Nat} (hi : i < ls.length) : votesOf (ls.take (i + 1)) = votesOf (ls.take i) ++ (nth ls i).2 := by
  rw [take_nth hi]; simp [votesOf]
theorem votesOf_take (ls : List LV) (i : Nat) : (votesOf (ls.take i)).length ≤ (votesOf ls).length := by
  have := congrArg (fun l => (votesOf l).length) (List.take_append_drop i ls)
  simp only [votesOf, List.flatMap_append, List.length_append] at this
  unfold votesOf
  omega
def bestR (out : List Vote) (v : Vote) : List Vote :=
  match atL out v.slot with
  | none => putL v out
  | some o => if o.ballot < v.ballot then putL v out else out
def rBestL (l : List Vote) : List Vote := l.foldl bestR []
theorem bestR_len (out : List Vote) (v : Vote) : (bestR out v).length ≤ out.length + 1 := by
  unfold bestR
  split
  · exact putL_len _ _
  · split
    · exact putL_len _ _
    · omega
theorem foldR_len : ∀ (l out : List Vote), (l.foldl bestR out).length ≤ out.length + l.length
  | [], out => by simp
  | v :: l, out => by
    have h1 := foldR_len l (bestR out v)
    have h2 := bestR_len out v
    simp only [List.foldl_cons, List.length_cons]
    omega
theorem rBestL_len (l : List Vote) : (rBestL l).length ≤ l.length := by have := foldR_len l []; simpa [rBestL] using this
end Go.Proofs.Ytdolepapmpcpiaa

namespace Go.Proofs.Ytdolepapmpcpiaa
open Go
set_option linter.unusedSectionVars false
variable [Base]
set_option linter.unusedVariables false
/-- Rising by slots. -/
def Rising (l : List Vote) : Prop := l.Pairwise (fun a b => a.slot < b.slot)
theorem atL_cons (a : Vote) (l : List Vote) (s : Int) : atL (a :: l) s = if a.slot = s then some a else atL l s := by
  unfold atL; rw [List.find?_cons]; split <;> simp_all
theorem atL_mem {l : List Vote} {s : Int} {v : Vote} (h : atL l s = some v) : v ∈ l ∧ v.slot = s := by
  unfold atL at h
  exact ⟨List.mem_of_find?_eq_some h, by simpa using List.find?_some h⟩
theorem atL_of_mem {l : List Vote} (hr : Rising l) {v : Vote} (h : v ∈ l) : atL l v.slot = some v := by
  induction l with
  | nil => cases h
  | cons a l ih =>
    unfold Rising at hr
    rw [List.pairwise_cons] at hr
    rw [atL_cons]
    cases h with
    | head => simp
    | tail _ h => rw [if_neg (by have := hr.1 v h; omega)]; exact ih hr.2 h
/-- Two rising lists of the same votes are one. -/
theorem rising_ext : ∀ {a b : List Vote}, Rising a → Rising b → (∀ s, atL a s = atL b s) → a = b
  | [], [], _, _, _ => rfl
  | [], y :: b, _, _, h => by have := h y.slot; rw [atL_cons, if_pos rfl] at this; cases this
  | x :: a, [], _, _, h => by have := h x.slot; rw [atL_cons, if_pos rfl] at this; cases this
  | x :: a, y :: b, ha, hb, h => by
    unfold Rising at ha hb
    rw [List.pairwise_cons] at ha hb
    have hx := h x.slot
    have hy := h y.slot
    rw [atL_cons, atL_cons, if_pos rfl] at hx hy
    have e : x.slot = y.slot := by
      split at hx
      · rename_i e; exact e.symm
      · split at hy
        · rename_i e; exact e
        · have h1 := hb.1 _ (atL_mem hx.symm).1
          have h2 := ha.1 _ (atL_mem hy).1
          omega
    rw [if_pos e.symm] at hx
    cases hx
    congr 1
    refine rising_ext ha.2 hb.2 fun s => ?_
    have hs := h s
    rw [atL_cons, atL_cons] at hs
    by_cases e : x.slot = s
    · have h1 : atL a s = none := by
        cases h3 : atL a s with
        | none => rfl
        | some v => have := ha.1 v (atL_mem h3).1; have := (atL_mem h3).2; omega
      have h2 : atL b s = none := by
        cases h3 : atL b s with
        | none => rfl
        | some v => have := hb.1 v (atL_mem h3).1; have := (atL_mem h3).2; omega
      rw [h1, h2]
    · rw [if_neg e, if_neg e] at hs; exact hs
theorem putL_mem (v : Vote) : ∀ {l : List Vote} {x : Vote}, x ∈ putL v l → x = v ∨ x ∈ l
  | [], x, h => by simp [putL] at h; exact .inl h
  | a :: l, x, h => by
    unfold putL at h
    split at h
    · cases h with
      | head => exact .inr (List.mem_cons_self ..)
      | tail _ h => rcases putL_mem v h with h | h; exact .inl h; exact .inr (List.mem_cons_of_mem _ h)
    · split at h
      · cases h with
        | head => exact .inl rfl
        | tail _ h => exact .inr (List.mem_cons_of_mem _ h)
      · cases h with
        | head => exact .inl rfl
        | tail _ h => exact .inr h
theorem putL_rising (v : Vote) : ∀ {l : List Vote}, Rising l → Rising (putL v l)
  | [], _ => by simp [putL, Rising]
  | a :: l, h => by
    unfold Rising at h ⊢
    rw [List.pairwise_cons] at h
    unfold putL
    split
    · rw [List.pairwise_cons]
      refine ⟨fun x hx => ?_, putL_rising v h.2⟩
      rcases putL_mem v hx with rfl | hx
      · assumption
      · exact h.1 x hx
    · split
      · rename_i e
        rw [List.pairwise_cons]
        exact ⟨fun x hx => by rw [← e]; exact h.1 x hx, h.2⟩
      · rw [List.pairwise_cons, List.pairwise_cons]
        refine ⟨fun x hx => ?_, h⟩
        cases hx with
        | head => omega
        | tail _ hx => have := h.1 x hx; omega
theorem atL_putL (v : Vote) : ∀ {l : List Vote} (hr : Rising l) (s : Int), atL (putL v l) s = if v.slot = s then some v else atL l s
  | [], _, s => by simp [putL, atL_cons]
  | a :: l, h, s => by
    unfold Rising at h
    rw [List.pairwise_cons] at h
    unfold putL
    split
    · rw [atL_cons, atL_putL v h.2 s, atL_cons]
      split
      · rw [if_neg (by omega)]
      · rfl
    · split
      · rw [atL_cons, atL_cons]
        split
        · rfl
        · rw [if_neg (by omega)]
      · rw [atL_cons]
theorem fromL_rising {l : List Vote} (h : Rising l) (f : Int) : Rising (fromL l f) := List.Pairwise.filter _ h
theorem atL_fromL {l : List Vote} (f s : Int) : atL (fromL l f) s = if f ≤ s then atL l s else none := by
  induction l with
  | nil => simp [fromL, atL]
  | cons a l ih =>
    unfold fromL at ih ⊢
    rw [List.filter_cons]
    by_cases h : f ≤ a.slot
    · rw [if_pos (by simpa using h), atL_cons, ih, atL_cons]
      split
      · rw [if_pos (by omega)]
      · rfl
    · rw [if_neg (by simpa using h), ih, atL_cons]
      by_cases e : a.slot = s
      · rw [if_neg (by omega), if_neg (by omega)]
      · rw [if_neg e]
/-- Each vote of a map is of its key. -/
def slotsOk (m : List (Int × Vote)) : Prop := ∀ s v, mget m s = some v → v.slot = s
theorem slotsOk_nil : slotsOk [] := fun s v h => by cases h
theorem slotsOk_mset {m : List (Int × Vote)} (h : slotsOk m) (v : Vote) : slotsOk (mset m v.slot v) := by
  intro s w hw
  rw [mget_mset] at hw
  split at hw
  · rename_i e; cases hw; exact e.symm
  · exact h s w hw
theorem mem_keys {m : List (Int × Vote)} (hk : keysOk m) {s : Int} : s ∈ m.map (·.1) ↔ ∃ v, mget m s = some v := by
  constructor
  · intro h
    obtain ⟨p, hp, rfl⟩ := List.mem_map.1 h
    exact ⟨p.2, mget_of_mem hk hp⟩
  · rintro ⟨v, hv⟩
    exact List.mem_map.2 ⟨_, mget_mem hv, rfl⟩
theorem sortI_sorted (l : List Int) : (sortI l).Pairwise (fun a b => a ≤ b) := by
  have := List.pairwise_mergeSort (le := fun x y => decide (x ≤ y)) (by intro a b c h1 h2; simp at *; omega) (by intro a b; simp; omega) l
  exact this.imp (by intro a b h; simpa using h)
theorem sortI_lt {l : List Int} (h : l.Nodup) : (sortI l).Pairwise (fun a b => a < b) := by
  have h1 := sortI_sorted l
  have h2 : (sortI l).Nodup := (List.mergeSort_perm l _).nodup_iff.2 h
  unfold List.Nodup at h2
  exact (h1.and h2).imp (by intro a b h; have := h.1; have := h.2; omega)
theorem sortI_mem {l : List Int} {x : Int} : x ∈ sortI l ↔ x ∈ l := List.mem_mergeSort
theorem pick_rising {m : List (Int × Vote)} (hs : slotsOk m) (f : Int) : ∀ {ks : List Int}, ks.Pairwise (fun a b => a < b) → Rising (pick m f ks)
  | [], _ => List.Pairwise.nil
  | k :: ks, h => by
    rw [List.pairwise_cons] at h
    have ih := pick_rising hs f h.2
    unfold pick at ih ⊢
    rw [List.filterMap_cons]
    split
    · exact ih
    · rename_i v hv
      unfold Rising
      rw [List.pairwise_cons]
      refine ⟨fun x hx => ?_, ih⟩
      obtain ⟨k', hk', hx'⟩ := List.mem_filterMap.1 hx
      have h1 : v.slot = k := by split at hv; exact hs _ _ hv; cases hv
      have h2 : x.slot = k' := by split at hx'; exact hs _ _ hx'; cases hx'
      have := h.1 k' hk'
      omega
theorem atL_pick {m : List (Int × Vote)} (hs : slotsOk m) (f s : Int) : ∀ (ks : List Int), atL (pick m f ks) s = if s ∈ ks ∧ f ≤ s then mget m s else none
  | [] => by simp [pick, atL]
  | k :: ks => by
    have ih := atL_pick hs f s ks
    unfold pick at ih ⊢
    rw [List.filterMap_cons]
    split
    · rename_i hn
      rw [ih]
      by_cases e : s = k
      · subst e
        by_cases hf : f ≤ s
        · rw [if_pos hf] at hn
          simp [hn]
        · simp [hf]
      · simp [e]
    · rename_i v hv
      rw [atL_cons, ih]
      have h1 : v.slot = k := by split at hv; exact hs _ _ hv; cases hv
      by_cases e : k = s
      · subst e
        by_cases hf : f ≤ k
        · rw [if_pos hf] at hv
          simp [h1, hf, hv]
        · rw [if_neg hf] at hv; cases hv
      · rw [if_neg (by omega)]
        have : ¬ s = k := fun h => e h.symm
        simp [this]
theorem risingL_rising {m : List (Int × Vote)} (hk : keysOk m) (hs : slotsOk m) (f : Int) : Rising (risingL m f) := pick_rising hs f (sortI_lt hk)
theorem atL_risingL {m : List (Int × Vote)} (hk : keysOk m) (hs : slotsOk m) (f s : Int) : atL (risingL m f) s = if f ≤ s then mget m s else none := by
  unfold risingL
  rw [atL_pick hs]
  have e : s ∈ sortI (m.map (·.1)) ↔ ∃ v, mget m s = some v := sortI_mem.trans (mem_keys hk)
  by_cases h : f ≤ s
  · rw [if_pos h]
    cases hg : mget m s with
    | none => split <;> rfl
    | some v => rw [if_pos ⟨e.2 ⟨v, hg⟩, h⟩]
  · rw [if_neg h, if_neg (fun x => h x.2)]
theorem filterMap_len {α β : Type} {f : α → Option β} : ∀ {l : List α}, (∀ x ∈ l, (f x).isSome) → (l.filterMap f).length = l.length
  | [], _ => rfl
  | x :: l, h => by
    have h1 := h x (List.mem_cons_self ..)
    rw [List.filterMap_cons]
    cases hx : f x with
    | none => rw [hx] at h1; cases h1
    | some y => simp only [List.length_cons, filterMap_len (fun z hz => h z (List.mem_cons_of_mem _ hz))]
theorem risingL_len {m : List (Int × Vote)} (hk : keysOk m) {f : Int} (hf : ∀ k ∈ m.map (·.1), f ≤ k) : (risingL m f).length = m.length := by
  unfold risingL pick
  rw [filterMap_len]
  · simp
  · intro x hx
    rw [sortI_mem] at hx
    rw [if_pos (hf x hx)]
    obtain ⟨v, hv⟩ := (mem_keys hk).1 hx
    simp [hv]
theorem risingL_le (m : List (Int × Vote)) (f : Int) : (risingL m f).length ≤ m.length := by
  unfold risingL pick
  have := List.length_filterMap_le (fun k => if f ≤ k then mget m k else none) (sortI (m.map (·.1)))
  simpa using this
/-- The document's list and the program's map hold the same votes. -/
structure Both (l : List Vote) (m : List (Int × Vote)) : Prop where
  rise : Rising l
  keys : keysOk m
  slots : slotsOk m
  same : ∀ s, atL l s = mget m s
theorem Both.nil : Both [] [] := ⟨List.Pairwise.nil, List.nodup_nil, slotsOk_nil, fun _ => rfl⟩
theorem Both.put {l : List Vote} {m : List (Int × Vote)} (b : Both l m) (v : Vote) : Both (putL v l) (mset m v.slot v) :=
  ⟨putL_rising v b.rise, keysOk_mset b.keys _ _, slotsOk_mset b.slots v, fun s => by
    rw [atL_putL v b.rise, mget_mset, b.same]
    by_cases e : v.slot = s
    · rw [if_pos e, if_pos e.symm]
    · rw [if_neg e, if_neg (fun h => e h.symm)]⟩
theorem Both.from {l : List Vote} {m : List (Int × Vote)} (b : Both l m) (f : Int) : risingL m f = fromL l f :=
  rising_ext (risingL_rising b.keys b.slots f) (fromL_rising b.rise f) fun s => by rw [atL_risingL b.keys b.slots, atL_fromL, b.same]
theorem Both.all {l : List Vote} {m : List (Int × Vote)} (b : Both l m) {f : Int} (hf : ∀ k ∈ m.map (·.1), f ≤ k) : risingL m f = l :=
  rising_ext (risingL_rising b.keys b.slots f) b.rise fun s => by
    rw [atL_risingL b.keys b.slots, b.same]
    split
    · rfl
    · cases hg : mget m s with
      | none => rfl
      | some v => exact absurd (hf s ((mem_keys b.keys).2 ⟨v, hg⟩)) (by assumption)
theorem Both.len {l : List Vote} {m : List (Int × Vote)} (b : Both l m) {f : Int} (hf : ∀ k ∈ m.map (·.1), f ≤ k) : m.length = l.length := by
  rw [← b.all hf, risingL_len b.keys hf]
end Go.Proofs.Ytdolepapmpcpiaa

namespace Go.Proofs.Ytdolepapmpcpiaa
open Go Go.RowKit Go.Maps Go.Shelf
set_option linter.unusedSectionVars false
variable [Base]
set_option linter.unusedVariables false
set_option linter.unusedSimpArgs false
set_option maxRecDepth 10000
theorem icell_len (a : Int) : (icell a).length = 1 := rfl
instance : Inhabited Int := ⟨0⟩
theorem Row.own {h : Hp} {base n : Nat} {v : Value} {xs : List Int} (r : Row h base 1 v n (xs.map encZ)) (hn : xs.length = n) : Own h base 1 icell v xs := by
  obtain ⟨h1, h2⟩ := r
  rcases h2 with ⟨rfl, hz⟩ | ⟨g, cap, c, rfl, hb, hg, hc, _, hs, ht⟩
  · exact .inl ⟨rfl, List.eq_nil_of_length_eq_zero (by omega)⟩
  · refine .inr ⟨g, cap, c, by rw [hn], hb, hg, by omega, hs, ?_⟩
    rw [hn, ht]
    clear ht h1 hn
    induction xs with
    | nil => rfl
    | cons a q ih => simp [ih]
def minI (x y : Int) : Int := if y < x then y else x
theorem foldmin (l : List Int) : ∀ x, (l.foldl minI x ∈ x :: l) ∧ ∀ y ∈ x :: l, l.foldl minI x ≤ y := by
  induction l with
  | nil => intro x; simp
  | cons a l ih =>
    intro x
    obtain ⟨h1, h2⟩ := ih (minI x a)
    rw [List.foldl_cons]
    refine ⟨?_, ?_⟩
    · simp only [List.mem_cons] at h1 ⊢
      rcases h1 with h1 | h1
      · rw [h1]; unfold minI; split <;> simp
      · exact .inr (.inr h1)
    · intro y hy
      have h3 := h2 (minI x a) (List.mem_cons_self ..)
      simp only [List.mem_cons] at hy
      rcases hy with rfl | rfl | hy
      · unfold minI at h3 ⊢; split at h3 <;> split <;> omega
      · unfold minI at h3 ⊢; split at h3 <;> split <;> omega
      · exact h2 y (List.mem_cons_of_mem _ hy)
theorem sp_Min {h : Hp} {a : Value} {l : List Int} (hS : Sl h 1 icell a l) (hl : l.length ≤ 1048576) (h0 : l ≠ []) {K : Kont} (hK : ∀ x, x ∈ l → (∀ y ∈ l, x ≤ y) → K (.int .i64 x) h) : C_q42 [a] h K := by
  refine ok_q42 ?_
  unfold G_q42
  have hp : 0 < l.length := List.length_pos_iff.2 h0
  have hn : ¬ (l.length : Int) < 1 := by omega
  simp (maxSteps:=999999) (disch:=(first|omega|(simp only [zz,Nat.reduceAdd,Nat.reduceLeDiff];done)|(simp only [zz];omega))) only [↓xa,xb,xl,xy,Int.reduceLT,Int.reduceLE,Int.reduceEq,Nat.reduceAdd,Nat.reduceMul,Nat.reduceLeDiff,setL,bfill,eqV,lookRes, ↓hS.len', decide_eq_false hn]
  rw [req_q42_1]
  unfold R_q42_1
  have hi := hS.idx .i64 0 h
  have hc := hS.cell0 icell_len 0 hp (by decide)
  rw [Nat.zero_mul, Nat.add_zero] at hc
  simp (maxSteps:=999999) (disch:=(first|omega|(simp only [zz,Nat.reduceAdd,Nat.reduceLeDiff];done)|(simp only [zz];omega))) only [↓xa,xb,xl,xy,Int.reduceLT,Int.reduceLE,Int.reduceEq,Nat.reduceAdd,Nat.reduceMul,Nat.reduceLeDiff,setL,bfill,eqV,lookRes, ↓hS.idx, Int.toNat_zero, hc, List.getElem?_cons_zero]
  refine rule_q42_2 (fun v3 v4 h' => ∃ i : Nat, v4 = .int .i64 i ∧ 1 ≤ i ∧ i ≤ l.length ∧ h' = h ∧ v3 = .int .i64 (((l.take i).drop 1).foldl minI (nth l 0))) (fun v3 v4 h' => l.length - ival v4) ?_ _ _ _ _ ⟨1, rfl, Nat.le_refl _, hp, rfl, by cases l with | nil => exact absurd rfl h0 | cons a l => rfl⟩
  rintro self v3 v4 d h' ⟨i, rfl, h1, hi, rfl, rfl⟩ hself
  unfold B_q42_2
  simp (maxSteps:=999999) (disch:=(first|omega|(simp only [zz,Nat.reduceAdd,Nat.reduceLeDiff];done)|(simp only [zz];omega))) only [↓xa,xb,xl,xy,Int.reduceLT,Int.reduceLE,Int.reduceEq,Nat.reduceAdd,Nat.reduceMul,Nat.reduceLeDiff,setL,bfill,eqV,lookRes, ↓hS.len']
  by_cases hlt : i < l.length
  · simp (maxSteps:=999999) (disch:=(first|omega|(simp only [zz,Nat.reduceAdd,Nat.reduceLeDiff];done)|(simp only [zz];omega))) only [↓xa,xb,xl,xy,Int.reduceLT,Int.reduceLE,Int.reduceEq,Nat.reduceAdd,Nat.reduceMul,Nat.reduceLeDiff,setL,bfill,eqV,lookRes, decide_eq_true (Int.ofNat_lt.2 hlt), ↓hS.idx, hS.cell0 icell_len, Go.encZ]
    refine hself _ _ _ _ ⟨i + 1, rfl, by omega, hlt, rfl, ?_⟩ (by simp only [ival_nat, show ((i : Int) + 1) = ((i + 1 : Nat) : Int) from rfl]; omega)
    rw [take_nth hlt, List.drop_append_of_le_length (by simp; omega), List.foldl_append]
    rfl
  · simp (maxSteps:=999999) (disch:=(first|omega|(simp only [zz,Nat.reduceAdd,Nat.reduceLeDiff];done)|(simp only [zz];omega))) only [↓xa,xb,xl,xy,Int.reduceLT,Int.reduceLE,Int.reduceEq,Nat.reduceAdd,Nat.reduceMul,Nat.reduceLeDiff,setL,bfill,eqV,lookRes, decide_eq_false (show ¬ (i : Int) < (l.length : Int) by omega)]
    rw [List.take_of_length_le (by omega)]
    have e : l = nth l 0 :: l.drop 1 := by
      have := drop_nth hp
      simpa using this
    obtain ⟨m1, m2⟩ := foldmin (l.drop 1) (nth l 0)
    rw [← e] at m1 m2
    exact hK _ m1 m2
def bestM (m : List (Int × Vote)) (v : Vote) : List (Int × Vote) :=
  match mget m v.slot with
  | none => mset m v.slot v
  | some o => if o.ballot < v.ballot then mset m v.slot v else m
def mBestL (l : List Vote) : List (Int × Vote) := l.foldl bestM []
theorem mBestL_snoc (l : List Vote) (v : Vote) : mBestL (l ++ [v]) = bestM (mBestL l) v := by simp [mBestL]
theorem both_best (l : List Vote) : Both (rBestL l) (mBestL l) := by
  have gen : ∀ (l : List Vote) (a : List Vote) (m : List (Int × Vote)), Both a m → Both (l.foldl bestR a) (l.foldl bestM m) := by
    intro l
    induction l with
    | nil => intro a m b; exact b
    | cons v l ih =>
      intro a m b
      refine ih _ _ ?_
      unfold bestR bestM
      rw [b.same]
      cases mget m v.slot with
      | none => exact b.put v
      | some o =>
        simp only
        split
        · exact b.put v
        · exact b
  exact gen l [] [] Both.nil
theorem bestM_len (m : List (Int × Vote)) (v : Vote) : (bestM m v).length ≤ m.length + 1 := by
  unfold bestM
  split
  · exact mset_length _ _ _
  · split
    · exact mset_length _ _ _
    · omega
theorem mBestL_len (l : List Vote) : (mBestL l).length ≤ l.length := by
  have gen : ∀ (l : List Vote) (m : List (Int × Vote)), (l.foldl bestM m).length ≤ m.length + l.length := by
    intro l
    induction l with
    | nil => intro m; simp
    | cons v l ih => intro m; have := ih (bestM m v); have := bestM_len m v; simp only [List.foldl_cons, List.length_cons]; omega
  have := gen l []
  simpa [mBestL] using this
theorem mset_keys {α : Type} {m : List (Int × α)} {i : Int} {x : α} {k : Int} (h : k ∈ (mset m i x).map (·.1)) : k = i ∨ k ∈ m.map (·.1) := by
  unfold mset at h
  split at h
  · rename_i n y hf
    rw [List.map_set] at h
    rcases List.mem_or_eq_of_mem_set h with h | h
    · exact .inr h
    · exact .inl h
  · simp only [List.map_append, List.mem_append, List.map_cons, List.map_nil, List.mem_singleton] at h
    rcases h with h | h
    · exact .inr h
    · exact .inl h
theorem mBestL_keys {l : List Vote} (h : ∀ v ∈ l, i64ok v.slot) : ∀ k ∈ (mBestL l).map (·.1), i64ok k := by
  have gen : ∀ (l : List Vote) (m : List (Int × Vote)), (∀ v ∈ l, i64ok v.slot) → (∀ k ∈ m.map (·.1), i64ok k) → ∀ k ∈ (l.foldl bestM m).map (·.1), i64ok k := by
    intro l
    induction l with
    | nil => intro m _ hm; exact hm
    | cons v l ih =>
      intro m hl hm
      refine ih _ (fun w hw => hl w (List.mem_cons_of_mem _ hw)) ?_
      intro k hk
      have hv := hl v (List.mem_cons_self ..)
      have key : k ∈ (mset m v.slot v).map (·.1) → i64ok k := by
        intro hk
        rcases mset_keys hk with rfl | hk
        · exact hv
        · exact hm k hk
      unfold bestM at hk
      split at hk
      · exact key hk
      · split at hk
        · exact key hk
        · exact hm k hk
  exact gen l [] h (by simp)
set_option maxHeartbeats 2000000 in
theorem sp_Best {h : Hp} (hB : Base.b ≤ h.size) {a : Value} {ls : List LV} (hS : Sll h a ls) (hl : (votesOf ls).length ≤ 1048576) (hll : ls.length ≤ 1048576) (hok : ∀ v ∈ votesOf ls, i64ok v.slot) {K : Kont}
    (hK : ∀ v' h', Ext h h' → Own h' h.size 6 vcells v' (rBestL (votesOf ls)) → K v' h') : C_q131 [a] h K := by
  refine ok_q131 ?_
  unfold G_q131
  simp (maxSteps:=999999) (disch:=(first|omega|(simp only [zz,Nat.reduceAdd,Nat.reduceLeDiff];done)|(simp only [zz];omega))) only [↓xa,xb,xl,xy,Int.reduceLT,Int.reduceLE,Int.reduceEq,Nat.reduceAdd,Nat.reduceMul,Nat.reduceLeDiff,setL,bfill,eqV,lookRes, ↓hS.1.len']
  have x0 : Ext h (h.push (.map [])) := (by repeat' (first|with_reducible (first|exact u0 _|refine u1 ?_ _|refine u2 ?_ _ _ ?_)|exact .inl (by (first|omega|(simp only [zz,Nat.reduceAdd,Nat.reduceLeDiff];done)|(simp only [zz];omega)))|exact .inr rfl|exact .inr (by simp;done)))
  refine rule_q131_1 (fun v13 h' => ∃ i : Nat, v13 = .int .i64 i ∧ i ≤ ls.length ∧ Ext h h' ∧ h'[h.size]? = some (.map (encM voteV (mBestL (votesOf (ls.take i)))))) (fun v13 h' => ls.length - ival v13) ?_ _ _ _ ⟨0, rfl, Nat.zero_le _, x0, g_push_eq rfl⟩
  clear x0
  rintro self v13 d h' ⟨i, rfl, hi, x, hm⟩ hself
  unfold B_q131_1
  have lm := lt_of_get hm
  by_cases hlt : i < ls.length
  rotate_left
  · rw [List.take_of_length_le (by omega)] at hm
    simp (maxSteps:=999999) (disch:=(first|omega|(simp only [zz,Nat.reduceAdd,Nat.reduceLeDiff];done)|(simp only [zz];omega))) only [↓xa,xb,xl,xy,Int.reduceLT,Int.reduceLE,Int.reduceEq,Nat.reduceAdd,Nat.reduceMul,Nat.reduceLeDiff,setL,bfill,eqV,lookRes, decide_eq_false (show ¬ (i : Int) < (ls.length : Int) by omega), m_blk hm, encM_length]
    have hbo := both_best (votesOf ls)
    by_cases h0 : (mBestL (votesOf ls)).length = 0
    · simp (maxSteps:=999999) (disch:=(first|omega|(simp only [zz,Nat.reduceAdd,Nat.reduceLeDiff];done)|(simp only [zz];omega))) only [↓xa,xb,xl,xy,Int.reduceLT,Int.reduceLE,Int.reduceEq,Nat.reduceAdd,Nat.reduceMul,Nat.reduceLeDiff,setL,bfill,eqV,lookRes, h0]
      have e : rBestL (votesOf ls) = [] := by
        have : mBestL (votesOf ls) = [] := List.eq_nil_of_length_eq_zero h0
        rw [← hbo.all (f := 0) (by rw [this]; simp), this]
        exact List.eq_nil_of_length_eq_zero (by have := risingL_le [] 0; simpa using this)
      refine hK _ _ x ?_
      rw [e]
      exact Own.nil
    · simp (maxSteps:=999999) (disch:=(first|omega|(simp only [zz,Nat.reduceAdd,Nat.reduceLeDiff];done)|(simp only [zz];omega))) only [↓xa,xb,xl,xy,Int.reduceLT,Int.reduceLE,Int.reduceEq,Nat.reduceAdd,Nat.reduceMul,Nat.reduceLeDiff,setL,bfill,eqV,lookRes, decide_eq_false (show ¬ ((mBestL (votesOf ls)).length : Int) = 0 by omega)]
      refine sp_keysA (x.hB hB) ?_
      have hk := mBestL_keys hok
      have hln := mBestL_len (votesOf ls)
      have hx := x.1
      refine collect_of (ks := (mBestL (votesOf ls)).map (·.1)) (by simp; omega) en76 (by simp; omega) (seqA (g_push_eq rfl) (by rw [g_push_lt lm]; exact hm) (encM_keys _ _) hk (by simp; omega)) ?_
      intro v2 h2 ss hp x2 hrow _
      have x02 : Ext h' h2 := Ext.trans (by repeat' (first|with_reducible (first|exact u0 _|refine u1 ?_ _|refine u2 ?_ _ _ ?_)|exact .inl (by (first|omega|(simp only [zz,Nat.reduceAdd,Nat.reduceLeDiff];done)|(simp only [zz];omega)))|exact .inr rfl|exact .inr (by simp;done))) x2
      have hs2 := (hrow.own (by rw [hp.length_eq])).sl
      have hlen : ss.length ≤ 1048576 := by rw [hp.length_eq]; simp; omega
      refine sp_Min hs2 hlen (by rintro rfl; have := hp.length_eq; simp at this; omega) ?_
      intro f hf1 hf2
      have hle : ∀ k ∈ (mBestL (votesOf ls)).map (·.1), f ≤ k := fun k hk => hf2 k (hp.mem_iff.2 hk)
      refine sp_rising ((x.trans x02).hB hB) (x02.get hm id) hbo.keys hk (by omega) f ?_
      intro v3 h3 x3 o3
      rw [hbo.all hle] at o3
      exact hK _ _ (x.trans (x02.trans x3)) (o3.low (by have := x02.1; omega))
  have hS1 := hS.1.ext x
  have hin := hS.2 _ (nth_mem hlt)
  have hsn := votesOf_snoc hlt
  have htl := votesOf_take ls (i + 1)
  rw [hsn, List.length_append] at htl
  generalize hlv : nth ls i = lv at hin hsn htl
  have hi1 := hin.ext x
  simp (maxSteps:=999999) (disch:=(first|omega|(simp only [zz,Nat.reduceAdd,Nat.reduceLeDiff];done)|(simp only [zz];omega))) only [↓xa,xb,xl,xy,Int.reduceLT,Int.reduceLE,Int.reduceEq,Nat.reduceAdd,Nat.reduceMul,Nat.reduceLeDiff,setL,bfill,eqV,lookRes, decide_eq_true (Int.ofNat_lt.2 hlt), ↓hS1.idx, hS1.cell0 lvc_len, hlv, ↓hi1.len']
  clear hi1 hS1
  refine rule_q131_2 (fun v19 h' => ∃ k : Nat, v19 = .int .i64 k ∧ k ≤ lv.2.length ∧ Ext h h' ∧ h'[h.size]? = some (.map (encM voteV (mBestL (votesOf (ls.take i) ++ lv.2.take k))))) (fun v19 h' => lv.2.length - ival v19) ?_ _ _ _ ⟨0, rfl, Nat.zero_le _, x, by simpa using hm⟩
  clear hm x lm
  rintro self2 v19 d h' ⟨k, rfl, hk, x, hm⟩ hself2
  unfold B_q131_2
  have lm := lt_of_get hm
  have hi1 := hin.ext x
  have hx := x.1
  by_cases hlk : k < lv.2.length
  rotate_left
  · simp (maxSteps:=999999) (disch:=(first|omega|(simp only [zz,Nat.reduceAdd,Nat.reduceLeDiff];done)|(simp only [zz];omega))) only [↓xa,xb,xl,xy,Int.reduceLT,Int.reduceLE,Int.reduceEq,Nat.reduceAdd,Nat.reduceMul,Nat.reduceLeDiff,setL,bfill,eqV,lookRes, decide_eq_false (show ¬ (k : Int) < (lv.2.length : Int) by omega)]
    rw [List.take_of_length_le (l := lv.2) (i := k) (by omega)] at hm
    exact hself _ _ _ ⟨i + 1, rfl, hlt, x, by rw [hsn]; exact hm⟩ (by simp only [ival_nat, show ((i : Int) + 1) = ((i + 1 : Nat) : Int) from rfl]; omega)
  have hrow := hi1.row vcells_len k hlk
  have hr : mBestL (votesOf (ls.take i) ++ lv.2.take (k + 1)) = bestM (mBestL (votesOf (ls.take i) ++ lv.2.take k)) (nth lv.2 k) := by
    rw [take_nth hlk, ← List.append_assoc, mBestL_snoc]
  have next : ∀ d h3, Ext h h3 → h3[h.size]? = some (.map (encM voteV (bestM (mBestL (votesOf (ls.take i) ++ lv.2.take k)) (nth lv.2 k)))) → G_q131_3 K self self2 (.map (some h.size)) a (.int .i64 ls.length) (.int .i64 i) lv.1 (.int .i64 lv.2.length) (.int .i64 k) d h3 := by
    intro d h3 x3 hm3
    rw [req_q131_3]
    unfold R_q131_3
    (try simp (maxSteps:=999999) (disch:=(first|omega|(simp only [zz,Nat.reduceAdd,Nat.reduceLeDiff];done)|(simp only [zz];omega))) only [↓xa,xb,xl,xy,Int.reduceLT,Int.reduceLE,Int.reduceEq,Nat.reduceAdd,Nat.reduceMul,Nat.reduceLeDiff,setL,bfill,eqV,lookRes])
    exact hself2 _ _ _ ⟨k + 1, rfl, hlk, x3, by rw [hr]; exact hm3⟩ (by simp only [ival_nat, show ((k : Int) + 1) = ((k + 1 : Nat) : Int) from rfl]; omega)
  unfold bestM mget at next
  generalize mBestL (votesOf (ls.take i) ++ lv.2.take k) = m at hm next
  generalize nth lv.2 k = v at hrow next
  obtain ⟨s, b, c1, c2, c3, c4⟩ := v
  simp (maxSteps:=999999) (disch:=(first|omega|(simp only [zz,Nat.reduceAdd,Nat.reduceLeDiff];done)|(simp only [zz];omega))) only [↓xa,xb,xl,xy,Int.reduceLT,Int.reduceLE,Int.reduceEq,Nat.reduceAdd,Nat.reduceMul,Nat.reduceLeDiff,setL,bfill,eqV,lookRes, decide_eq_true (Int.ofNat_lt.2 hlk), ↓hi1.idx, hrow, vcells, m_blk hm, kvFind_enc]
  generalize hf : mfind m s 0 = f at next
  rcases f with _ | ⟨n, o⟩
  · simp (maxSteps:=999999) (disch:=(first|omega|(simp only [zz,Nat.reduceAdd,Nat.reduceLeDiff];done)|(simp only [zz];omega))) only [↓xa,xb,xl,xy,Int.reduceLT,Int.reduceLE,Int.reduceEq,Nat.reduceAdd,Nat.reduceMul,Nat.reduceLeDiff,setL,bfill,eqV,lookRes, Option.map_none, m_blk hm, kvFind_enc, hf]
    simp only [Option.map_none] at next
    refine next _ _ (by repeat' (first|with_reducible (first|exact u0 _|exact x|refine u1 ?_ _|refine u2 ?_ _ _ ?_)|exact .inl (by (first|omega|(simp only [zz,Nat.reduceAdd,Nat.reduceLeDiff];done)|(simp only [zz];omega)))|exact .inr rfl|exact .inr (by simp;done))) ?_
    rw [g_set_eq (by simp; omega) rfl]
    congr 3
    exact kvPut_enc voteV m s ⟨s, b, c1, c2, c3, c4⟩ ▸ (by rw [hf]; rfl)
  · simp only [Option.map_some] at next
    by_cases hb : o.ballot < b
    · simp (maxSteps:=999999) (disch:=(first|omega|(simp only [zz,Nat.reduceAdd,Nat.reduceLeDiff];done)|(simp only [zz];omega))) only [↓xa,xb,xl,xy,Int.reduceLT,Int.reduceLE,Int.reduceEq,Nat.reduceAdd,Nat.reduceMul,Nat.reduceLeDiff,setL,bfill,eqV,lookRes, Option.map_some, m_blk hm, kvFind_enc, hf, voteV, decide_eq_true hb]
      rw [if_pos hb] at next
      refine next _ _ (by repeat' (first|with_reducible (first|exact u0 _|exact x|refine u1 ?_ _|refine u2 ?_ _ _ ?_)|exact .inl (by (first|omega|(simp only [zz,Nat.reduceAdd,Nat.reduceLeDiff];done)|(simp only [zz];omega)))|exact .inr rfl|exact .inr (by simp;done))) ?_
      rw [g_set_eq (by simp; omega) rfl]
      congr 3
      exact kvPut_enc voteV m s ⟨s, b, c1, c2, c3, c4⟩ ▸ (by rw [hf]; rfl)
    · simp (maxSteps:=999999) (disch:=(first|omega|(simp only [zz,Nat.reduceAdd,Nat.reduceLeDiff];done)|(simp only [zz];omega))) only [↓xa,xb,xl,xy,Int.reduceLT,Int.reduceLE,Int.reduceEq,Nat.reduceAdd,Nat.reduceMul,Nat.reduceLeDiff,setL,bfill,eqV,lookRes, Option.map_some, m_blk hm, kvFind_enc, hf, voteV, decide_eq_false hb]
      rw [if_neg hb] at next
      refine next _ _ (by repeat' (first|with_reducible (first|exact u0 _|exact x|refine u1 ?_ _|refine u2 ?_ _ _ ?_)|exact .inl (by (first|omega|(simp only [zz,Nat.reduceAdd,Nat.reduceLeDiff];done)|(simp only [zz];omega)))|exact .inr rfl|exact .inr (by simp;done))) ?_
      simp (disch := (first|omega|(simp only [zz,Nat.reduceAdd,Nat.reduceLeDiff];done)|(simp only [zz];omega))) only [g_push_lt, g_set_ne]
      exact hm
end Go.Proofs.Ytdolepapmpcpiaa

namespace Go.Proofs.Ytdolepapmpcpiaa
open Go
set_option linter.unusedSectionVars false
variable [Base]
set_option linter.unusedVariables false
set_option linter.unusedSimpArgs false
set_option maxRecDepth 10000
theorem n_shr (k k' : IntKind) (a b : Int) (h : 0 ≤ b) : binV .shr (.int k a) (.int k' b) = some (.int k (a.fdiv (2 ^ (min b.toNat k.bits)))) := by
  simp only [binV]; rw [if_neg (by omega)]
theorem n_shl (k k' : IntKind) (a b : Int) (h : 0 ≤ b) : binV .shl (.int k a) (.int k' b) = some (.int k (k.wrap (a * 2 ^ (min b.toNat k.bits)))) := by
  simp only [binV]; rw [if_neg (by omega)]
def andI (k : IntKind) (a b : Int) : Int := k.wrap (BitVec.ofInt k.bits a &&& BitVec.ofInt k.bits b).toNat
def orI (k : IntKind) (a b : Int) : Int := k.wrap (BitVec.ofInt k.bits a ||| BitVec.ofInt k.bits b).toNat
def anI (k : IntKind) (a b : Int) : Int := k.wrap (BitVec.ofInt k.bits a &&& ~~~BitVec.ofInt k.bits b).toNat
def shrI (k : IntKind) (a : Int) (b : Nat) : Int := a.fdiv (2 ^ (min b k.bits))
def shlI (k : IntKind) (a : Int) (b : Nat) : Int := k.wrap (a * 2 ^ (min b k.bits))
theorem n_and (k : IntKind) (a b : Int) : binV .and (.int k a) (.int k b) = some (.int k (andI k a b)) := by simp [binV, intBin, andI]
theorem n_or (k : IntKind) (a b : Int) : binV .or (.int k a) (.int k b) = some (.int k (orI k a b)) := by simp [binV, intBin, orI]
theorem n_an (k : IntKind) (a b : Int) : binV .andNot (.int k a) (.int k b) = some (.int k (anI k a b)) := by simp [binV, intBin, anI]
theorem n_shr' (k k' : IntKind) (a b : Int) (h : 0 ≤ b) : binV .shr (.int k a) (.int k' b) = some (.int k (shrI k a b.toNat)) := n_shr k k' a b h
theorem n_shl' (k k' : IntKind) (a b : Int) (h : 0 ≤ b) : binV .shl (.int k a) (.int k' b) = some (.int k (shlI k a b.toNat)) := n_shl k k' a b h
/-- A set of masters as bits. -/
def bitsOf (q : Int → Bool) : Int := (cond (q 1) 2 0) + (cond (q 2) 4 0) + (cond (q 3) 8 0) + (cond (q 4) 16 0) + (cond (q 5) 32 0)
def addQ (q : Int → Bool) (x : Int) : Int → Bool := fun i => q i || decide (i = x)
def isM (x : Int) : Prop := x = 1 ∨ x = 2 ∨ x = 3 ∨ x = 4 ∨ x = 5
theorem isM_of {x : Int} (h1 : 1 ≤ x) (h2 : x ≤ 5) : isM x := by unfold isM; omega
theorem or_bits (q : Int → Bool) (x : Int) (h : isM x) : orI .u64 (bitsOf q) (shlI .u64 1 x.toNat) = bitsOf (addQ q x) := by
  unfold bitsOf addQ
  generalize q 1 = a, q 2 = b, q 3 = c, q 4 = d, q 5 = e
  rcases h with rfl | rfl | rfl | rfl | rfl <;> revert a b c d e <;> decide +kernel
/-- How many masters of the first n there are. -/
def cntQ (q : Int → Bool) (n : Int) : Int := (cond (q 1 && decide (1 ≤ n)) 1 0) + (cond (q 2 && decide (2 ≤ n)) 1 0) + (cond (q 3 && decide (3 ≤ n)) 1 0) + (cond (q 4 && decide (4 ≤ n)) 1 0) + (cond (q 5 && decide (5 ≤ n)) 1 0)
def enoughQ (q : Int → Bool) (n : Int) : Bool := decide (n / 2 + 1 ≤ cntQ q n)
def pop1 (x : Int) : Int := IntKind.u64.wrap (andI .u64 (shrI .u64 x 1) 6148914691236517205 + andI .u64 x 6148914691236517205)
def pop2 (y : Int) : Int := IntKind.u64.wrap (andI .u64 (shrI .u64 y 2) 3689348814741910323 + andI .u64 y 3689348814741910323)
def pop3 (z : Int) : Int := andI .u64 (IntKind.u64.wrap (shrI .u64 z 4 + z)) 1085102592571150095
def pop4 (z : Int) (n : Nat) : Int := IntKind.u64.wrap (z + shrI .u64 z n)
def pop (x : Int) : Int := andI .i64 (IntKind.i64.wrap (pop4 (pop4 (pop4 (pop3 (pop2 (pop1 x))) 8) 16) 32)) 127
theorem pop_bits (q : Int → Bool) (n : Int) (h : isM n) : pop (anI .u64 (andI .u64 (bitsOf q) (IntKind.u64.wrap (shlI .u64 1 (n + 1).toNat - 1))) 1) = cntQ q n := by
  unfold bitsOf cntQ
  generalize q 1 = a, q 2 = b, q 3 = c, q 4 = d, q 5 = e
  rcases h with rfl | rfl | rfl | rfl | rfl <;> revert a b c d e <;> decide +kernel
theorem sp_OnesCount {h : Hp} (x : Int) {K : Kont} (hK : K (.int .i64 (pop x)) h) : C_q31 [.int .u64 x] h K := by
  refine ok_q31 ?_
  unfold G_q31
  simp (maxSteps:=999999) (disch:=(first|omega|(simp only [zz,Nat.reduceAdd,Nat.reduceLeDiff];done)|(simp only [zz];omega))) only [↓xa,xb,xl,xy,Int.reduceLT,Int.reduceLE,Int.reduceEq,Nat.reduceAdd,Nat.reduceMul,Nat.reduceLeDiff,setL,bfill,eqV,lookRes, n_shr', n_and, Int.reduceToNat]
  exact hK
theorem sp_member {h : Hp} (n : Int) {K : Kont} (hK : K (.bool (decide (1 ≤ n ∧ n ≤ 63))) h) : C_q105 [.int .i64 n] h K := by
  refine ok_q105 ?_
  unfold G_q105
  (repeat' (first|(simp (maxSteps:=999999) (disch:=(first|omega|(simp only [zz,Nat.reduceAdd,Nat.reduceLeDiff];done)|(simp only [zz];omega))) only [↓xa,xb,xl,xy,Int.reduceLT,Int.reduceLE,Int.reduceEq,Nat.reduceAdd,Nat.reduceMul,Nat.reduceLeDiff,setL,bfill,eqV,lookRes])|((first|refine e_ifd _ _ _ (fun hc=>?_) (fun hc=>?_)|refine e_ifn _ _ _ (fun hc=>?_) (fun hc=>?_)|refine e_gd _ _ _ _ _ (fun hc=>?_) (fun hc=>?_)|refine e_gn _ _ _ _ _ (fun hc=>?_) (fun hc=>?_)|refine e_pd _ _ _ _ _ (fun hc=>?_) (fun hc=>?_)|refine e_pn _ _ _ _ _ (fun hc=>?_) (fun hc=>?_)|refine e_if2 _ _ _ (fun hc=>?_) (fun hc=>?_)|refine e_g2 _ _ _ _ _ (fun hc=>?_) (fun hc=>?_)) <;> first|(exfalso;omega)|(simp (maxSteps:=999999) (disch:=(first|omega|(simp only [zz,Nat.reduceAdd,Nat.reduceLeDiff];done)|(simp only [zz];omega))) only [↓xa,xb,xl,xy,Int.reduceLT,Int.reduceLE,Int.reduceEq,Nat.reduceAdd,Nat.reduceMul,Nat.reduceLeDiff,setL,bfill,eqV,lookRes, hc])|skip)))
  all_goals exact k_cast hK (by congr 1; simp; omega)
theorem sp_Quorum {h : Hp} (n : Int) (h0 : 1 ≤ n) (h1 : n ≤ 5) {K : Kont} (hK : K (.int .i64 (n / 2 + 1)) h) : C_q103 [.int .i64 n] h K := by
  refine ok_q103 ?_
  unfold G_q103
  have q : n.tdiv 2 = n / 2 := Int.tdiv_eq_ediv_of_nonneg (by omega)
  have e2 : (2 : Int) ≠ 0 := by decide
  simp (maxSteps:=999999) (disch:=(first|omega|(simp only [zz,Nat.reduceAdd,Nat.reduceLeDiff];done)|(simp only [zz];omega))) only [↓xa,xb,xl,xy,Int.reduceLT,Int.reduceLE,Int.reduceEq,Nat.reduceAdd,Nat.reduceMul,Nat.reduceLeDiff,setL,bfill,eqV,lookRes, decide_eq_false (show ¬ n < 1 by omega), q]
  exact hK
theorem sp_Count {h : Hp} (x : Int) {K : Kont} (hK : K (.int .i64 (pop (anI .u64 x 1))) h) : C_q120 [.int .u64 x] h K := by
  refine ok_q120 ?_
  unfold G_q120
  simp (maxSteps:=999999) (disch:=(first|omega|(simp only [zz,Nat.reduceAdd,Nat.reduceLeDiff];done)|(simp only [zz];omega))) only [↓xa,xb,xl,xy,Int.reduceLT,Int.reduceLE,Int.reduceEq,Nat.reduceAdd,Nat.reduceMul,Nat.reduceLeDiff,setL,bfill,eqV,lookRes, n_an]
  refine sp_OnesCount _ ?_
  exact hK
theorem sp_Enough {h : Hp} (q : Int → Bool) (n : Int) (h0 : 1 ≤ n) (h1 : n ≤ 5) {K : Kont} (hK : K (.bool (enoughQ q n)) h) : C_q102 [.int .u64 (bitsOf q), .int .i64 n] h K := by
  refine ok_q102 ?_
  unfold G_q102
  simp (maxSteps:=999999) (disch:=(first|omega|(simp only [zz,Nat.reduceAdd,Nat.reduceLeDiff];done)|(simp only [zz];omega))) only [↓xa,xb,xl,xy,Int.reduceLT,Int.reduceLE,Int.reduceEq,Nat.reduceAdd,Nat.reduceMul,Nat.reduceLeDiff,setL,bfill,eqV,lookRes, decide_eq_false (show ¬ n < 1 by omega), decide_eq_true (show n < 63 by omega), n_shl', n_and]
  rw [req_q102_1]
  unfold R_q102_1
  refine sp_Count _ ?_
  refine sp_Quorum n h0 h1 ?_
  rw [pop_bits q n (isM_of h0 h1)]
  (try simp (maxSteps:=999999) (disch:=(first|omega|(simp only [zz,Nat.reduceAdd,Nat.reduceLeDiff];done)|(simp only [zz];omega))) only [↓xa,xb,xl,xy,Int.reduceLT,Int.reduceLE,Int.reduceEq,Nat.reduceAdd,Nat.reduceMul,Nat.reduceLeDiff,setL,bfill,eqV,lookRes])
  exact hK
theorem sp_With {h : Hp} (q : Int → Bool) {a : Value} {l : List Int} (hS : Sl h 1 icell a l) (hl : l.length ≤ 1048576) (hm : ∀ x ∈ l, isM x) {K : Kont} (hK : K (.int .u64 (bitsOf (l.foldl addQ q))) h) : C_q133 [.int .u64 (bitsOf q), a] h K := by
  refine ok_q133 ?_
  unfold G_q133
  have e1 : anI .u64 (bitsOf q) 1 = bitsOf q := by
    unfold bitsOf
    generalize q 1 = a, q 2 = b, q 3 = c, q 4 = d, q 5 = e
    revert a b c d e
    decide +kernel
  simp (maxSteps:=999999) (disch:=(first|omega|(simp only [zz,Nat.reduceAdd,Nat.reduceLeDiff];done)|(simp only [zz];omega))) only [↓xa,xb,xl,xy,Int.reduceLT,Int.reduceLE,Int.reduceEq,Nat.reduceAdd,Nat.reduceMul,Nat.reduceLeDiff,setL,bfill,eqV,lookRes, n_an, e1, ↓hS.len']
  refine rule_q133_1 (fun v0 v11 h' => ∃ i : Nat, v11 = .int .i64 i ∧ i ≤ l.length ∧ h' = h ∧ v0 = .int .u64 (bitsOf ((l.take i).foldl addQ q))) (fun v0 v11 h' => l.length - ival v11) ?_ _ _ _ _ ⟨0, rfl, Nat.zero_le _, rfl, rfl⟩
  rintro self v0 v11 d h' ⟨i, rfl, hi, rfl, rfl⟩ hself
  unfold B_q133_1
  by_cases hlt : i < l.length
  · have hx := hm _ (nth_mem hlt)
    simp (maxSteps:=999999) (disch:=(first|omega|(simp only [zz,Nat.reduceAdd,Nat.reduceLeDiff];done)|(simp only [zz];omega))) only [↓xa,xb,xl,xy,Int.reduceLT,Int.reduceLE,Int.reduceEq,Nat.reduceAdd,Nat.reduceMul,Nat.reduceLeDiff,setL,bfill,eqV,lookRes, decide_eq_true (Int.ofNat_lt.2 hlt), ↓hS.idx, hS.cell0 icell_len, Go.encZ]
    have htk : (l.take (i + 1)).foldl addQ q = addQ ((l.take i).foldl addQ q) (nth l i) := by rw [take_nth hlt, List.foldl_append]; rfl
    generalize nth l i = x at hx htk
    refine sp_member _ ?_
    have hr : 1 ≤ x ∧ x ≤ 63 := by unfold isM at hx; omega
    simp (maxSteps:=999999) (disch:=(first|omega|(simp only [zz,Nat.reduceAdd,Nat.reduceLeDiff];done)|(simp only [zz];omega))) only [↓xa,xb,xl,xy,Int.reduceLT,Int.reduceLE,Int.reduceEq,Nat.reduceAdd,Nat.reduceMul,Nat.reduceLeDiff,setL,bfill,eqV,lookRes, decide_eq_true hr, n_shl', n_or, or_bits _ _ hx]
    rw [req_q133_2]
    unfold R_q133_2
    (try simp (maxSteps:=999999) (disch:=(first|omega|(simp only [zz,Nat.reduceAdd,Nat.reduceLeDiff];done)|(simp only [zz];omega))) only [↓xa,xb,xl,xy,Int.reduceLT,Int.reduceLE,Int.reduceEq,Nat.reduceAdd,Nat.reduceMul,Nat.reduceLeDiff,setL,bfill,eqV,lookRes])
    exact hself _ _ _ _ ⟨i + 1, rfl, hlt, rfl, by rw [htk]⟩ (by simp only [ival_nat, show ((i : Int) + 1) = ((i + 1 : Nat) : Int) from rfl]; omega)
  · simp (maxSteps:=999999) (disch:=(first|omega|(simp only [zz,Nat.reduceAdd,Nat.reduceLeDiff];done)|(simp only [zz];omega))) only [↓xa,xb,xl,xy,Int.reduceLT,Int.reduceLE,Int.reduceEq,Nat.reduceAdd,Nat.reduceMul,Nat.reduceLeDiff,setL,bfill,eqV,lookRes, decide_eq_false (show ¬ (i : Int) < (l.length : Int) by omega)]
    rw [List.take_of_length_le (by omega)]
    exact hK
end Go.Proofs.Ytdolepapmpcpiaa

namespace Go.Proofs.Ytdolepapmpcpiaa
open Go
set_option linter.unusedSectionVars false
variable [Base]
set_option linter.unusedVariables false
set_option linter.unusedSimpArgs false
set_option maxRecDepth 10000
theorem sp_Of {h : Hp} {a b : Int} (ha : 0 ≤ a ∧ a < 2305843009213693952) (hb : 0 ≤ b ∧ b < 8) {K : Kont}
    (hK : K (.tuple #[.int .u64 (if 1 ≤ a ∧ a < 1152921504606846976 ∧ 1 ≤ b ∧ b ≤ 5 then 8 * a + b else 0), .int .i64 (if 1 ≤ a ∧ a < 1152921504606846976 ∧ 1 ≤ b ∧ b ≤ 5 then 0 else 1)]) h) : C_q160 [.int .u64 a, .int .i64 b] h K := by
  refine ok_q160 ?_
  unfold G_q160
  (repeat' (first|(simp (maxSteps:=999999) (disch:=(first|omega|(simp only [zz,Nat.reduceAdd,Nat.reduceLeDiff];done)|(simp only [zz];omega))) only [↓xa,xb,xl,xy,Int.reduceLT,Int.reduceLE,Int.reduceEq,Nat.reduceAdd,Nat.reduceMul,Nat.reduceLeDiff,setL,bfill,eqV,lookRes])|refine sp_master _ ?_|((first|refine e_ifd _ _ _ (fun hc=>?_) (fun hc=>?_)|refine e_ifn _ _ _ (fun hc=>?_) (fun hc=>?_)|refine e_gd _ _ _ _ _ (fun hc=>?_) (fun hc=>?_)|refine e_gn _ _ _ _ _ (fun hc=>?_) (fun hc=>?_)|refine e_pd _ _ _ _ _ (fun hc=>?_) (fun hc=>?_)|refine e_pn _ _ _ _ _ (fun hc=>?_) (fun hc=>?_)|refine e_if2 _ _ _ (fun hc=>?_) (fun hc=>?_)|refine e_g2 _ _ _ _ _ (fun hc=>?_) (fun hc=>?_)) <;> first|(exfalso;omega)|(simp (maxSteps:=999999) (disch:=(first|omega|(simp only [zz,Nat.reduceAdd,Nat.reduceLeDiff];done)|(simp only [zz];omega))) only [↓xa,xb,xl,xy,Int.reduceLT,Int.reduceLE,Int.reduceEq,Nat.reduceAdd,Nat.reduceMul,Nat.reduceLeDiff,setL,bfill,eqV,lookRes, hc])|skip)))
  all_goals first
    | (rw [if_neg (by omega), if_neg (by omega)] at hK; exact hK)
    | (rw [if_pos (by omega), if_pos (by omega)] at hK; exact hK)
    | skip
/-- The least ballot of a master above a number; 0: none. -/
def nextRound (b : Int) (me : Int) : Int :=
  let r := if 1 > b / 8 then 1 else b / 8
  if 8 * r + me ≤ b then r + 1 else r
def nextE (b me : Int) : Int := if ¬ (1 ≤ me ∧ me ≤ 5) then 1 else if 1152921504606846976 ≤ nextRound b me then 9 else 0
def nextB (b me : Int) : Int := if nextE b me = 0 then 8 * nextRound b me + me else 0
theorem nextB_gt {b me : Int} (hb : 0 ≤ b) (h : nextE b me = 0) : b < nextB b me ∧ nextB b me % 8 = me ∧ 1 ≤ me ∧ me ≤ 5 ∧ nextB b me < 9223372036854775808 := by
  unfold nextB
  rw [if_pos h]
  unfold nextE at h
  split at h
  · omega
  · rename_i hm
    split at h
    · omega
    · rename_i hr
      have hm' : 1 ≤ me ∧ me ≤ 5 := by omega
      unfold nextRound at hr ⊢
      simp only at hr ⊢
      split at hr <;> split at hr <;> simp_all <;> omega
theorem sp_Next {h : Hp} {b me : Int} (hb : u64ok b) (hm : i64ok me) {K : Kont} (hK : K (.tuple #[.int .u64 (nextB b me), .int .i64 (nextE b me)]) h) : C_q132 [.int .u64 b, .int .i64 me] h K := by
  refine ok_q132 ?_
  unfold G_q132
  obtain ⟨hb1, hb2⟩ := hb
  refine sp_master _ ?_
  by_cases hme : 1 ≤ me ∧ me ≤ 5
  rotate_left
  · simp (maxSteps:=999999) (disch:=(first|omega|(simp only [zz,Nat.reduceAdd,Nat.reduceLeDiff];done)|(simp only [zz];omega))) only [↓xa,xb,xl,xy,Int.reduceLT,Int.reduceLE,Int.reduceEq,Nat.reduceAdd,Nat.reduceMul,Nat.reduceLeDiff,setL,bfill,eqV,lookRes, decide_eq_false hme]
    have e : nextE b me = 1 := by unfold nextE; rw [if_pos hme]
    simp only [nextB, e] at hK
    exact hK
  have q1 : b.tdiv 8 = b / 8 := Int.tdiv_eq_ediv_of_nonneg hb1
  have w1 : IntKind.u64.wrap (b / 8) = b / 8 := wrap_u _ (by omega) (by omega)
  have e8 : (8 : Int) ≠ 0 := by decide
  have hme' : ¬ ¬ (1 ≤ me ∧ me ≤ 5) := by omega
  unfold nextB nextE nextRound at hK
  simp only [if_neg hme'] at hK
  obtain ⟨r, hr⟩ : ∃ r, r = (if 1 > b / 8 then 1 else b / 8) := ⟨_, rfl⟩
  rw [← hr] at hK
  have hr1 : 1 ≤ r ∧ r < 2305843009213693952 ∧ (r = 1 ∨ r = b / 8) := by rw [hr]; split <;> omega
  have hr2 := hr.symm
  clear hr
  have hn : G_q132_1 = G_q132_1 := rfl
  have next : ∀ (x : Int) d, 1 ≤ x → x < 2305843009213693953 → (K (.tuple #[.int .u64 (if (if 1152921504606846976 ≤ x then (9 : Int) else 0) = 0 then 8 * x + me else 0), .int .i64 (if 1152921504606846976 ≤ x then 9 else 0)]) h) → G_q132_1 K (.int .i64 me) (.int .u64 x) d h := by
    intro x d h1 h2 hk
    rw [req_q132_1]
    unfold R_q132_1
    (try simp (maxSteps:=999999) (disch:=(first|omega|(simp only [zz,Nat.reduceAdd,Nat.reduceLeDiff];done)|(simp only [zz];omega))) only [↓xa,xb,xl,xy,Int.reduceLT,Int.reduceLE,Int.reduceEq,Nat.reduceAdd,Nat.reduceMul,Nat.reduceLeDiff,setL,bfill,eqV,lookRes])
    refine e_ifd _ _ _ (fun hc => ?_) (fun hc => ?_)
    · rw [if_pos hc, if_neg (by decide)] at hk
      exact hk
    · rw [if_neg hc, if_pos rfl] at hk
      refine sp_Of (by omega) (by omega) ?_
      rw [if_pos (by omega), if_pos (by omega)]
      (try simp (maxSteps:=999999) (disch:=(first|omega|(simp only [zz,Nat.reduceAdd,Nat.reduceLeDiff];done)|(simp only [zz];omega))) only [↓xa,xb,xl,xy,Int.reduceLT,Int.reduceLE,Int.reduceEq,Nat.reduceAdd,Nat.reduceMul,Nat.reduceLeDiff,setL,bfill,eqV,lookRes])
      exact hk
  simp (maxSteps:=999999) (disch:=(first|omega|(simp only [zz,Nat.reduceAdd,Nat.reduceLeDiff];done)|(simp only [zz];omega))) only [↓xa,xb,xl,xy,Int.reduceLT,Int.reduceLE,Int.reduceEq,Nat.reduceAdd,Nat.reduceMul,Nat.reduceLeDiff,setL,bfill,eqV,lookRes, decide_eq_true hme, q1, w1, hr2]
  refine e_ifd _ _ _ (fun hc => ?_) (fun hc => ?_)
  · (try simp (maxSteps:=999999) (disch:=(first|omega|(simp only [zz,Nat.reduceAdd,Nat.reduceLeDiff];done)|(simp only [zz];omega))) only [↓xa,xb,xl,xy,Int.reduceLT,Int.reduceLE,Int.reduceEq,Nat.reduceAdd,Nat.reduceMul,Nat.reduceLeDiff,setL,bfill,eqV,lookRes])
    simp only [hr2, if_pos hc] at hK
    exact next _ _ (by omega) (by omega) hK
  · simp only [hr2, if_neg hc] at hK
    exact next _ _ (by omega) (by omega) hK
end Go.Proofs.Ytdolepapmpcpiaa

namespace Go.Proofs.Ytdolepapmpcpiaa
open Go
set_option linter.unusedSectionVars false
variable [Base]
set_option linter.unusedVariables false
set_option linter.unusedSimpArgs false
set_option maxRecDepth 10000
/-- A function value that tells f of each vote, wherever it is called from a heap that has grown. -/
def Asks (h : Hp) (fv : Value) (f : Vote → Bool) : Prop :=
  ∀ (x : Vote) (h' : Hp) (K : Kont), Ext h h' → (∀ h'', Ext h' h'' → K (.bool (f x)) h'') → oCallV Try.prog fv [voteV x] h' K
theorem Asks.ext {h h' : Hp} {fv : Value} {f : Vote → Bool} (t : Asks h fv f) (x : Ext h h') : Asks h' fv f := fun v h2 K y hk => t v h2 K (x.trans y) hk
def idxI (f : Vote → Bool) : List Vote → Nat → Int
  | [], _ => -1
  | a :: l, i => if f a then i else idxI f l (i + 1)
theorem idxI_none {f : Vote → Bool} : ∀ {l : List Vote} {i : Nat}, idxI f l i = -1 → ∀ x ∈ l, f x = false
  | [], _, _ => by simp
  | a :: l, i, h => by
    unfold idxI at h
    split at h
    · omega
    · rename_i ha
      intro x hx
      cases hx with
      | head => simpa using ha
      | tail _ hx => exact idxI_none h x hx
theorem idxI_some {f : Vote → Bool} : ∀ {l : List Vote} {i : Nat}, idxI f l i ≠ -1 → ∃ k : Nat, idxI f l i = ((i + k : Nat) : Int) ∧ k < l.length ∧ (∀ x ∈ l.take k, f x = false) ∧ f (nth l k) = true
  | [], _, h => absurd rfl h
  | a :: l, i, h => by
    unfold idxI at h ⊢
    by_cases ha : f a = true
    · rw [if_pos ha]
      exact ⟨0, rfl, by simp, by simp, ha⟩
    · rw [if_neg ha] at h ⊢
      obtain ⟨k, h1, h2, h3, h4⟩ := idxI_some h
      refine ⟨k + 1, by rw [h1]; congr 1; omega, by simpa using h2, ?_, h4⟩
      intro x hx
      rw [List.take_succ_cons] at hx
      cases hx with
      | head => simpa using ha
      | tail _ hx => exact h3 x hx
set_option maxHeartbeats 1000000 in
theorem sp_IndexFunc {h : Hp} {a fv : Value} {l : List Vote} {f : Vote → Bool} (hS : Sl h 6 vcells a l) (hl : l.length ≤ 4611686018427387904) (hf : Asks h fv f) {K : Kont} (hK : ∀ h', Ext h h' → K (.int .i64 (idxI f l 0)) h') : C_q11 [a, fv] h K := by
  refine ok_q11 ?_
  unfold G_q11
  simp (maxSteps:=999999) (disch:=(first|omega|(simp only [zz,Nat.reduceAdd,Nat.reduceLeDiff];done)|(simp only [zz];omega))) only [↓xa,xb,xl,xy,Int.reduceLT,Int.reduceLE,Int.reduceEq,Nat.reduceAdd,Nat.reduceMul,Nat.reduceLeDiff,setL,bfill,eqV,lookRes, ↓hS.len']
  refine rule_q11_1 (fun v8 h' => ∃ i : Nat, v8 = .int .i64 i ∧ i ≤ l.length ∧ Ext h h' ∧ idxI f l 0 = idxI f (l.drop i) i) (fun v8 h' => l.length - ival v8) ?_ _ _ _ ⟨0, rfl, Nat.zero_le _, Upd.refl _, rfl⟩
  rintro self v8 d h' ⟨i, rfl, hi, x, hq⟩ hself
  unfold B_q11_1
  have hS' := hS.ext x
  by_cases hlt : i < l.length
  · rw [drop_nth hlt] at hq
    simp (maxSteps:=999999) (disch:=(first|omega|(simp only [zz,Nat.reduceAdd,Nat.reduceLeDiff];done)|(simp only [zz];omega))) only [↓xa,xb,xl,xy,Int.reduceLT,Int.reduceLE,Int.reduceEq,Nat.reduceAdd,Nat.reduceMul,Nat.reduceLeDiff,setL,bfill,eqV,lookRes, decide_eq_true (Int.ofNat_lt.2 hlt), ↓hS'.idx, hS'.row vcells_len]
    refine hf (nth l i) h' _ x ?_
    intro h2 x2
    cases hfi : f (nth l i) with
    | true =>
      (try simp (maxSteps:=999999) (disch:=(first|omega|(simp only [zz,Nat.reduceAdd,Nat.reduceLeDiff];done)|(simp only [zz];omega))) only [↓xa,xb,xl,xy,Int.reduceLT,Int.reduceLE,Int.reduceEq,Nat.reduceAdd,Nat.reduceMul,Nat.reduceLeDiff,setL,bfill,eqV,lookRes])
      have e : idxI f l 0 = i := by rw [hq]; simp [idxI, hfi]
      rw [e] at hK
      exact hK _ (x.trans x2)
    | false =>
      (try simp (maxSteps:=999999) (disch:=(first|omega|(simp only [zz,Nat.reduceAdd,Nat.reduceLeDiff];done)|(simp only [zz];omega))) only [↓xa,xb,xl,xy,Int.reduceLT,Int.reduceLE,Int.reduceEq,Nat.reduceAdd,Nat.reduceMul,Nat.reduceLeDiff,setL,bfill,eqV,lookRes])
      exact hself _ _ _ ⟨i + 1, rfl, hlt, x.trans x2, by rw [hq]; simp [idxI, hfi]⟩ (by simp only [ival_nat, show ((i : Int) + 1) = ((i + 1 : Nat) : Int) from rfl]; omega)
  · simp (maxSteps:=999999) (disch:=(first|omega|(simp only [zz,Nat.reduceAdd,Nat.reduceLeDiff];done)|(simp only [zz];omega))) only [↓xa,xb,xl,xy,Int.reduceLT,Int.reduceLE,Int.reduceEq,Nat.reduceAdd,Nat.reduceMul,Nat.reduceLeDiff,setL,bfill,eqV,lookRes, decide_eq_false (show ¬ (i : Int) < (l.length : Int) by omega)]
    rw [List.drop_eq_nil_of_le (by omega)] at hq
    have e : idxI f l 0 = -1 := by rw [hq]; rfl
    rw [e] at hK
    exact hK _ x
theorem sp_ContainsFunc {h : Hp} {a fv : Value} {l : List Vote} {f : Vote → Bool} (hS : Sl h 6 vcells a l) (hl : l.length ≤ 4611686018427387904) (hf : Asks h fv f) {K : Kont} (hK : ∀ h', Ext h h' → K (.bool (l.any f)) h') : C_q8 [a, fv] h K := by
  refine ok_q8 ?_
  unfold G_q8
  refine sp_IndexFunc hS hl hf ?_
  intro h' x
  (try simp (maxSteps:=999999) (disch:=(first|omega|(simp only [zz,Nat.reduceAdd,Nat.reduceLeDiff];done)|(simp only [zz];omega))) only [↓xa,xb,xl,xy,Int.reduceLT,Int.reduceLE,Int.reduceEq,Nat.reduceAdd,Nat.reduceMul,Nat.reduceLeDiff,setL,bfill,eqV,lookRes])
  refine k_cast (hK _ x) ?_
  congr 1
  by_cases e : idxI f l 0 = -1
  · have h1 := idxI_none e
    rw [e]
    simp only [show ¬ (0 : Int) ≤ -1 by omega, decide_false, List.any_eq_false]
    intro x hx
    simp [h1 x hx]
  · obtain ⟨k, h1, h2, _, h4⟩ := idxI_some e
    rw [h1]
    have : (0 : Int) ≤ ((0 + k : Nat) : Int) := by omega
    simp only [this, decide_true, List.any_eq_true]
    exact ⟨_, nth_mem h2, h4⟩
theorem sp_Clone {h : Hp} (hB : Base.b ≤ h.size) {a : Value} {l : List Vote} (hS : Sl h 6 vcells a l) (hl : l.length ≤ 1048576) {K : Kont} (hK : ∀ v h', Ext h h' → Own h' h.size 6 vcells v l → K v h') : C_q13 [a] h K := by
  refine ok_q13 ?_
  unfold G_q13
  obtain ⟨p, cap, rfl, hcap, e⟩ := hS
  cases p with
  | none =>
    (try simp (maxSteps:=999999) (disch:=(first|omega|(simp only [zz,Nat.reduceAdd,Nat.reduceLeDiff];done)|(simp only [zz];omega))) only [↓xa,xb,xl,xy,Int.reduceLT,Int.reduceLE,Int.reduceEq,Nat.reduceAdd,Nat.reduceMul,Nat.reduceLeDiff,setL,bfill,eqV,lookRes])
    have : l = [] := by
      simp only [srcCells] at e
      split at e
      · rename_i h0; exact List.eq_nil_of_length_eq_zero h0
      · cases e
    subst this
    exact hK _ _ (Upd.refl _) Own.nil
  | some q =>
    (try simp (maxSteps:=999999) (disch:=(first|omega|(simp only [zz,Nat.reduceAdd,Nat.reduceLeDiff];done)|(simp only [zz];omega))) only [↓xa,xb,xl,xy,Int.reduceLT,Int.reduceLE,Int.reduceEq,Nat.reduceAdd,Nat.reduceMul,Nat.reduceLeDiff,setL,bfill,eqV,lookRes])
    have x1 : Ext h (h.push (.cells #[])) := (by repeat' (first|with_reducible (first|exact u0 _|refine u1 ?_ _|refine u2 ?_ _ _ ?_)|exact .inl (by (first|omega|(simp only [zz,Nat.reduceAdd,Nat.reduceLeDiff];done)|(simp only [zz];omega)))|exact .inr rfl|exact .inr (by simp;done)))
    have o : Own (h.push (.cells #[])) h.size 6 vcells (.slice (some ⟨h.size, 0, none⟩) 0 0) [] := .inr ⟨h.size, 0, #[], rfl, Nat.le_refl _, g_push_eq rfl, Nat.le_refl _, rfl, rfl⟩
    refine Own.append o vcells_len vcells_one (x1.hB hB) (by rfl) (Sl.ext ⟨_, cap, rfl, hcap, e⟩ x1) (by simp) (by simp; omega) ?_
    intro v' h' o' u
    exact hK _ _ (x1.ext u (Nat.le_refl _)) o'
theorem setL_drop (vs : List Value) : ∀ (c : Array Value) (i k : Nat), i + vs.length ≤ k → (setL c i vs).toList.drop k = c.toList.drop k := by
  induction vs with
  | nil => intro c i k _; rfl
  | cons v vs ih =>
    intro c i k hk
    simp only [List.length_cons] at hk
    simp only [setL]
    rw [ih _ _ _ (by omega), Array.toList_setIfInBounds, List.drop_set_of_lt (by omega)]
theorem setL_takeLe (vs : List Value) : ∀ (c : Array Value) (i k : Nat), k ≤ i → (setL c i vs).toList.take k = c.toList.take k := by
  induction vs with
  | nil => intro c i k _; rfl
  | cons v vs ih =>
    intro c i k hk
    simp only [setL]
    rw [ih _ _ _ (by omega), Array.toList_setIfInBounds, List.take_set_of_le (by omega)]
set_option maxHeartbeats 2000000 in
theorem sp_DeleteFunc {h : Hp} (hB : Base.b ≤ h.size) {base : Nat} {a fv : Value} {l : List Vote} {f : Vote → Bool} (hO : Own h base 6 vcells a l) (hl : l.length ≤ 1048576) {K : Kont}
    (hf : ∀ h', Upd (fun r => base ≤ r) h h' → Asks h' fv f)
    (hK : ∀ v h', Upd (fun r => base ≤ r) h h' → Own h' base 6 vcells v (l.filter fun x => !f x) → K v h') : C_q10 [a, fv] h K := by
  refine ok_q10 ?_
  unfold G_q10
  refine sp_IndexFunc hO.sl (by omega) (hf h (Upd.refl _)) ?_
  intro h1 x1
  have hO1 := hO.ext x1
  by_cases e : idxI f l 0 = -1
  · simp (maxSteps:=999999) (disch:=(first|omega|(simp only [zz,Nat.reduceAdd,Nat.reduceLeDiff];done)|(simp only [zz];omega))) only [↓xa,xb,xl,xy,Int.reduceLT,Int.reduceLE,Int.reduceEq,Nat.reduceAdd,Nat.reduceMul,Nat.reduceLeDiff,setL,bfill,eqV,lookRes, decide_eq_true e]
    have h2 := idxI_none e
    have : l.filter (fun x => !f x) = l := List.filter_eq_self.2 (fun x hx => by simp [h2 x hx])
    rw [this] at hK
    exact hK _ _ x1.lift hO1
  obtain ⟨k, hk, hkl, hk1, hk2⟩ := idxI_some e
  rw [Nat.zero_add] at hk
  rw [hk]
  rcases hO1 with ⟨rfl, rfl⟩ | ⟨g, cap, c, rfl, hg, hgc, hlc, hcs, hct⟩
  · simp at hkl
  have hk0 : ¬ (k : Int) = -1 := by omega
  simp (maxSteps:=999999) (disch:=(first|omega|(simp only [zz,Nat.reduceAdd,Nat.reduceLeDiff];done)|(simp only [zz];omega))) only [↓xa,xb,xl,xy,Int.reduceLT,Int.reduceLE,Int.reduceEq,Nat.reduceAdd,Nat.reduceMul,Nat.reduceLeDiff,setL,bfill,eqV,lookRes, decide_eq_false hk0]
  refine rule_q10_1 (fun v5 v6 h' => ∃ (i j : Nat) (c' : Array Value), v5 = .int .i64 i ∧ v6 = .int .i64 j ∧ i < j ∧ j ≤ l.length ∧ Upd (fun r => base ≤ r) h h' ∧ h'[g]? = some (.cells c') ∧ c'.size = cap * 6 ∧
      i = ((l.take j).filter fun x => !f x).length ∧ c'.toList.take (i * 6) = ((l.take j).filter fun x => !f x).flatMap vcells ∧ c'.toList.drop (j * 6) = c.toList.drop (j * 6)) (fun v5 v6 h' => l.length - ival v6) ?_ _ _ _ _
    ⟨k, k + 1, c, rfl, rfl, by omega, by omega, x1.lift, hgc, hcs, ?_, ?_, rfl⟩
  rotate_left
  · have h3 : (l.take (k + 1)).filter (fun x => !f x) = l.take k := by
      rw [take_nth hkl, List.filter_append, List.filter_eq_self.2 (fun x hx => by simp [hk1 x hx])]
      simp [hk2]
    rw [h3]; simp; omega
  · have h3 : (l.take (k + 1)).filter (fun x => !f x) = l.take k := by
      rw [take_nth hkl, List.filter_append, List.filter_eq_self.2 (fun x hx => by simp [hk1 x hx])]
      simp [hk2]
    rw [h3]
    have := congrArg (List.take (k * 6)) hct
    rw [List.take_take, Nat.min_eq_left (by omega)] at this
    rw [this]
    have := flat_sub vcells_len l 0 k
    simpa using this
  rintro self v5 v6 d h' ⟨i, j, c', rfl, rfl, hij, hj, u, hg', hcs', hi, hti, htj⟩ hself
  unfold B_q10_1
  have hB' := u.hB hB
  have lg := lt_of_get hg'
  by_cases hlt : j < l.length
  · have hrow : rdN h' g (j * 6) 6 = some (vcells (nth l j)) := by
      rw [rdN_of hg' (by rw [hcs']; omega), htj]
      have h1 : (c.toList.take (l.length * 6)).drop (j * 6) = (l.flatMap vcells).drop (j * 6) := by rw [hct]
      have h2 := flat_part vcells_len l j hlt
      rw [← h1, List.drop_take, List.take_take, Nat.min_eq_left (by omega)] at h2
      rw [h2, nth_get hlt]
    have htk := take_nth hlt
    have e0 : ∀ v : Vote, setL #[.int .i64 0, .int .u64 0, .int .i64 0, .int .i64 0, .int .u64 0, .int .i64 0] 0 (vcells v) = (vcells v).toArray := fun _ => rfl
    simp (maxSteps:=999999) (disch:=(first|omega|(simp only [zz,Nat.reduceAdd,Nat.reduceLeDiff];done)|(simp only [zz];omega))) only [↓xa,xb,xl,xy,Int.reduceLT,Int.reduceLE,Int.reduceEq,Nat.reduceAdd,Nat.reduceMul,Nat.reduceLeDiff,setL,bfill,eqV,lookRes, decide_eq_true (Int.ofNat_lt.2 hlt), hrow, e0, vcells_len, vcells_one]
    refine ⟨by omega, by omega, ?_⟩
    generalize nth l j = x at hrow htk
    have hin : i + 1 ≤ j := hij
    have uH : Upd (fun r => base ≤ r) h (Array.setIfInBounds (h'.push (.cells #[.int .i64 0, .int .u64 0, .int .i64 0, .int .i64 0, .int .u64 0, .int .i64 0])) h'.size (.cells (vcells x).toArray)) := Upd.set (Upd.push u _) _ _ (.inl u.1)
    have hgH : (Array.setIfInBounds (h'.push (.cells #[.int .i64 0, .int .u64 0, .int .i64 0, .int .i64 0, .int .u64 0, .int .i64 0])) h'.size (.cells (vcells x).toArray))[g]? = some (.cells c') := by rw [g_set_ne (by omega), g_push_lt lg]; exact hg'
    have hbH : (Array.setIfInBounds (h'.push (.cells #[.int .i64 0, .int .u64 0, .int .i64 0, .int .i64 0, .int .u64 0, .int .i64 0])) h'.size (.cells (vcells x).toArray))[h'.size]? = some (.cells (vcells x).toArray) := g_set_eq (by simp) rfl
    have lH : (Array.setIfInBounds (h'.push (.cells #[.int .i64 0, .int .u64 0, .int .i64 0, .int .i64 0, .int .u64 0, .int .i64 0])) h'.size (.cells (vcells x).toArray)).size = h'.size + 1 := by simp
    generalize Array.setIfInBounds (h'.push (.cells #[.int .i64 0, .int .u64 0, .int .i64 0, .int .i64 0, .int .u64 0, .int .i64 0])) h'.size (.cells (vcells x).toArray) = H at uH hgH hbH lH ⊢
    have hrb : rdN H h'.size 0 6 = some (vcells x) := rdN_all hbH rfl
    simp (maxSteps:=999999) (disch:=(first|omega|(simp only [zz,Nat.reduceAdd,Nat.reduceLeDiff];done)|(simp only [zz];omega))) only [↓xa,xb,xl,xy,Int.reduceLT,Int.reduceLE,Int.reduceEq,Nat.reduceAdd,Nat.reduceMul,Nat.reduceLeDiff,setL,bfill,eqV,lookRes, hrb]
    refine hf H uH x H _ (Upd.refl _) ?_
    intro H2 y
    have hg2 := y.get hgH id
    have hb2 := y.get hbH id
    have lg2 := lt_of_get hg2
    have u2 : Upd (fun r => base ≤ r) h H2 := uH.trans y.lift
    cases hfx : f x with
    | true =>
      (try simp (maxSteps:=999999) (disch:=(first|omega|(simp only [zz,Nat.reduceAdd,Nat.reduceLeDiff];done)|(simp only [zz];omega))) only [↓xa,xb,xl,xy,Int.reduceLT,Int.reduceLE,Int.reduceEq,Nat.reduceAdd,Nat.reduceMul,Nat.reduceLeDiff,setL,bfill,eqV,lookRes])
      rw [req_q10_2]
      unfold R_q10_2
      (try simp (maxSteps:=999999) (disch:=(first|omega|(simp only [zz,Nat.reduceAdd,Nat.reduceLeDiff];done)|(simp only [zz];omega))) only [↓xa,xb,xl,xy,Int.reduceLT,Int.reduceLE,Int.reduceEq,Nat.reduceAdd,Nat.reduceMul,Nat.reduceLeDiff,setL,bfill,eqV,lookRes])
      have hfl : (l.take (j + 1)).filter (fun x => !f x) = (l.take j).filter (fun x => !f x) := by rw [htk, List.filter_append]; simp [hfx]
      refine hself _ _ _ _ ⟨i, j + 1, c', rfl, rfl, by omega, hlt, u2, hg2, hcs', by rw [hfl]; exact hi, by rw [hfl]; exact hti, ?_⟩ (by simp only [ival_nat, show ((j : Int) + 1) = ((j + 1 : Nat) : Int) from rfl]; omega)
      have := congrArg (List.drop 6) htj
      rw [List.drop_drop, List.drop_drop] at this
      rw [show (j + 1) * 6 = j * 6 + 6 by omega]
      exact this
    | false =>
      have hrb2 : rdN H2 h'.size 0 6 = some (vcells x) := rdN_all hb2 rfl
      simp (maxSteps:=999999) (disch:=(first|omega|(simp only [zz,Nat.reduceAdd,Nat.reduceLeDiff];done)|(simp only [zz];omega))) only [↓xa,xb,xl,xy,Int.reduceLT,Int.reduceLE,Int.reduceEq,Nat.reduceAdd,Nat.reduceMul,Nat.reduceLeDiff,setL,bfill,eqV,lookRes, hrb2, b_blk hg2, List.toList_toArray, vcells_len, vcells_one]
      refine ⟨by omega, by omega, ?_⟩
      refine ⟨by omega, ?_⟩
      rw [req_q10_2]
      unfold R_q10_2
      (try simp (maxSteps:=999999) (disch:=(first|omega|(simp only [zz,Nat.reduceAdd,Nat.reduceLeDiff];done)|(simp only [zz];omega))) only [↓xa,xb,xl,xy,Int.reduceLT,Int.reduceLE,Int.reduceEq,Nat.reduceAdd,Nat.reduceMul,Nat.reduceLeDiff,setL,bfill,eqV,lookRes])
      have hfl : (l.take (j + 1)).filter (fun x => !f x) = (l.take j).filter (fun x => !f x) ++ [x] := by rw [htk, List.filter_append]; simp [hfx]
      refine hself _ _ _ _ ⟨i + 1, j + 1, setL c' (i * 6) (vcells x), rfl, rfl, by omega, hlt, Upd.set u2 _ _ (.inr hg), g_set_eq lg2 rfl, by rw [setL_size]; exact hcs', by rw [hfl]; simp; exact hi, ?_, ?_⟩ (by simp only [ival_nat, show ((j : Int) + 1) = ((j + 1 : Nat) : Int) from rfl]; omega)
      · rw [hfl, List.flatMap_append, ← hti, show (i + 1) * 6 = i * 6 + (vcells x).length by rw [vcells_len]; omega, setL_take _ _ _ (by rw [vcells_len, hcs']; omega)]
        simp
      · rw [setL_drop _ _ _ _ (by rw [vcells_len]; omega)]
        have := congrArg (List.drop 6) htj
        rw [List.drop_drop, List.drop_drop] at this
        rw [show (j + 1) * 6 = j * 6 + 6 by omega]
        exact this
  · have ej : j = l.length := by omega
    subst ej
    rw [List.take_length] at hi hti
    simp (maxSteps:=999999) (disch:=(first|omega|(simp only [zz,Nat.reduceAdd,Nat.reduceLeDiff];done)|(simp only [zz];omega))) only [↓xa,xb,xl,xy,Int.reduceLT,Int.reduceLE,Int.reduceEq,Nat.reduceAdd,Nat.reduceMul,Nat.reduceLeDiff,setL,bfill,eqV,lookRes, decide_eq_false (show ¬ (l.length : Int) < (l.length : Int) by omega)]
    have hci : ¬ cap = i := by omega
    refine ⟨cap, l.length, i, rfl, rfl, fun _ => rfl, bnd_int (by omega) (by omega), ?_⟩
    simp only [if_neg hci, Option.map_some, add0, Nat.zero_add]
    refine ⟨c', hg', by omega, rfl, rfl, ?_⟩
    refine ⟨cap, i, 0, rfl, bnd_int (by omega) (by omega), fun h => rfl, rfl, ?_⟩
    have h0 : (if cap = 0 then some (⟨g, 0, none⟩ : Addr) else Option.map (fun x : Addr => x.add (0 * 6)) (some ⟨g, 0, none⟩)) = some ⟨g, 0, none⟩ := by split <;> rfl
    rw [h0]
    refine hK _ _ (Upd.set u _ _ (.inr hg)) (.inr ⟨g, cap, _, ?_, hg, g_set_eq lg rfl, by omega, by rw [setL_size]; exact hcs', ?_⟩)
    · rw [← hi]; rfl
    · rw [← hi, setL_takeLe _ _ _ _ (Nat.le_refl _), hti]
end Go.Proofs.Ytdolepapmpcpiaa

