/- Lemmas for the theorem of the last text; no condition. -/
import Derived.Test.YtdolepapmpcpiaaLc0
import Derived.Test.YtdolepapmpcpiaaLc1
import Derived.Test.YtdolepapmpcpiaaProg
/- The everyday laws of the seen heap: what a spec's proof rewrites by. -/
namespace Go.Proofs.Ytdolepapmpcpiaa
open Go
set_option linter.unusedSectionVars false
variable [Base]
set_option linter.unusedVariables false
set_option linter.unusedSimpArgs false

def onS {α : Type} (o : Option α) (f : α → Prop) : Prop :=
  match o with
  | some v => f v
  | none => False
theorem onS_some {α : Type} (v : α) (f : α → Prop) : onS (some v) f = f v := id rfl
theorem onS_ex {α : Type} (o : Option α) (f : α → Prop) : (∃ v, o = some v ∧ f v) = onS o f := by
  cases o <;> simp [onS]
@[congr] theorem onS_congr {α : Type} {o o' : Option α} (f : α → Prop) (h : o = o') : onS o f = onS o' f := by rw [h]

/-! What is simplified of an operation: its operands and the heap, not what follows. -/
@[congr] theorem oPick_cg  {c c' : Value} {a a' : Value} {b b' : Value} {h h' : Hp} {K : Kont} (ec : c = c') (ea : a = a') (eb : b = b') (eh : h = h') : oPick c a b h K = oPick c' a' b' h' K := by subst ec; subst ea; subst eb; subst eh; rfl
@[congr] theorem oAlloc_cg {z : Array Value}  {h h' : Hp} {K : Kont}  (eh : h = h') : oAlloc z h K = oAlloc z h' K := by subst eh; rfl
@[congr] theorem oBox_cg  {v v' : Value} {h h' : Hp} {K : Kont} (ev : v = v') (eh : h = h') : oBox v h K = oBox v' h' K := by subst ev; subst eh; rfl
@[congr] theorem oBuild_cg {z : Array Value} {p : List (Nat × Nat × Value)}  {h h' : Hp} {K : Kont}  (eh : h = h') : oBuild z p h K = oBuild z p h' K := by subst eh; rfl
@[congr] theorem oBuildSlice_cg {z : Array Value} {n : Nat} {p : List (Nat × Nat × Value)}  {h h' : Hp} {K : Kont}  (eh : h = h') : oBuildSlice z n p h K = oBuildSlice z n p h' K := by subst eh; rfl
@[congr] theorem oLd1_cg  {x x' : Value} {h h' : Hp} {K : Kont} (ex : x = x') (eh : h = h') : oLd1 x h K = oLd1 x' h' K := by subst ex; subst eh; rfl
@[congr] theorem oLdN_cg {n : Nat} {x x' : Value} {h h' : Hp} {K : Kont} (ex : x = x') (eh : h = h') : oLdN n x h K = oLdN n x' h' K := by subst ex; subst eh; rfl
@[congr] theorem oSt_cg {n : Nat} {x x' : Value} {v v' : Value} {h h' : Hp} {K : Kont} (ex : x = x') (ev : v = v') (eh : h = h') : oSt n x v h K = oSt n x' v' h' K := by subst ex; subst ev; subst eh; rfl
@[congr] theorem oNilCheck_cg  {x x' : Value} {h h' : Hp} {K : Kont} (ex : x = x') (eh : h = h') : oNilCheck x h K = oNilCheck x' h' K := by subst ex; subst eh; rfl
@[congr] theorem oBin_cg {op : BinOp} {x x' : Value} {y y' : Value} {h h' : Hp} {K : Kont} (ex : x = x') (ey : y = y') (eh : h = h') : oBin op x y h K = oBin op x' y' h' K := by subst ex; subst ey; subst eh; rfl
@[congr] theorem oEq_cg {c : Nat} {ne : Bool} {p : Option (List (Nat × TypeDesc))} {x x' : Value} {y y' : Value} {h h' : Hp} {K : Kont} (ex : x = x') (ey : y = y') (eh : h = h') : oEq c ne p x y h K = oEq c ne p x' y' h' K := by subst ex; subst ey; subst eh; rfl
@[congr] theorem oNot_cg  {x x' : Value} {h h' : Hp} {K : Kont} (ex : x = x') (eh : h = h') : oNot x h K = oNot x' h' K := by subst ex; subst eh; rfl
@[congr] theorem oNeg_cg  {x x' : Value} {h h' : Hp} {K : Kont} (ex : x = x') (eh : h = h') : oNeg x h K = oNeg x' h' K := by subst ex; subst eh; rfl
@[congr] theorem oConvInt_cg {k : IntKind} {x x' : Value} {h h' : Hp} {K : Kont} (ex : x = x') (eh : h = h') : oConvInt k x h K = oConvInt k x' h' K := by subst ex; subst eh; rfl
@[congr] theorem oMakeMap_cg   {h h' : Hp} {K : Kont}  (eh : h = h') : oMakeMap h K = oMakeMap h' K := by subst eh; rfl
@[congr] theorem oMakeSlice_cg {sz : Nat} {bytes : Nat} {z : Array Value} {l l' : Value} {c c' : Value} {h h' : Hp} {K : Kont} (el : l = l') (ec : c = c') (eh : h = h') : oMakeSlice sz bytes z l c h K = oMakeSlice sz bytes z l' c' h' K := by subst el; subst ec; subst eh; rfl
@[congr] theorem oFieldAddr_cg {off : Nat} {x x' : Value} {h h' : Hp} {K : Kont} (ex : x = x') (eh : h = h') : oFieldAddr off x h K = oFieldAddr off x' h' K := by subst ex; subst eh; rfl
@[congr] theorem oField_cg {off : Nat} {n : Option Nat} {x x' : Value} {h h' : Hp} {K : Kont} (ex : x = x') (eh : h = h') : oField off n x h K = oField off n x' h' K := by subst ex; subst eh; rfl
@[congr] theorem oIdxS_cg {sz : Nat} {x x' : Value} {i i' : Value} {h h' : Hp} {K : Kont} (ex : x = x') (ei : i = i') (eh : h = h') : oIdxS sz x i h K = oIdxS sz x' i' h' K := by subst ex; subst ei; subst eh; rfl
@[congr] theorem oIdxA_cg {sz : Nat} {len : Nat} {x x' : Value} {i i' : Value} {h h' : Hp} {K : Kont} (ex : x = x') (ei : i = i') (eh : h = h') : oIdxA sz len x i h K = oIdxA sz len x' i' h' K := by subst ex; subst ei; subst eh; rfl
@[congr] theorem oIndexArr_cg {sz : Nat} {len : Nat} {ag : Option Nat} {x x' : Value} {i i' : Value} {h h' : Hp} {K : Kont} (ex : x = x') (ei : i = i') (eh : h = h') : oIndexArr sz len ag x i h K = oIndexArr sz len ag x' i' h' K := by subst ex; subst ei; subst eh; rfl
@[congr] theorem oIndexStr_cg  {x x' : Value} {i i' : Value} {h h' : Hp} {K : Kont} (ex : x = x') (ei : i = i') (eh : h = h') : oIndexStr x i h K = oIndexStr x' i' h' K := by subst ex; subst ei; subst eh; rfl
@[congr] theorem oMapUpdate_cg {d : TypeDesc} {m m' : Value} {k k' : Value} {v v' : Value} {h h' : Hp} {K : Kont} (em : m = m') (ek : k = k') (ev : v = v') (eh : h = h') : oMapUpdate d m k v h K = oMapUpdate d m' k' v' h' K := by subst em; subst ek; subst ev; subst eh; rfl
@[congr] theorem oDelete_cg {d : TypeDesc} {m m' : Value} {k k' : Value} {h h' : Hp} {K : Kont} (em : m = m') (ek : k = k') (eh : h = h') : oDelete d m k h K = oDelete d m' k' h' K := by subst em; subst ek; subst eh; rfl
@[congr] theorem oClearMap_cg  {m m' : Value} {h h' : Hp} {K : Kont} (em : m = m') (eh : h = h') : oClearMap m h K = oClearMap m' h' K := by subst em; subst eh; rfl
@[congr] theorem oClearSlice_cg {sz : Nat} {z : Array Value} {x x' : Value} {h h' : Hp} {K : Kont} (ex : x = x') (eh : h = h') : oClearSlice sz z x h K = oClearSlice sz z x' h' K := by subst ex; subst eh; rfl
@[congr] theorem oLen_cg {c : Nat} {x x' : Value} {h h' : Hp} {K : Kont} (ex : x = x') (eh : h = h') : oLen c x h K = oLen c x' h' K := by subst ex; subst eh; rfl
@[congr] theorem oCap_cg  {x x' : Value} {h h' : Hp} {K : Kont} (ex : x = x') (eh : h = h') : oCap x h K = oCap x' h' K := by subst ex; subst eh; rfl
@[congr] theorem oAppend_cg {sz : Nat} {bytes : Nat} {z : Array Value} {s s' : Value} {x x' : Value} {h h' : Hp} {K : Kont} (es : s = s') (ex : x = x') (eh : h = h') : oAppend sz bytes z s x h K = oAppend sz bytes z s' x' h' K := by subst es; subst ex; subst eh; rfl
@[congr] theorem oCopy_cg {sz : Nat} {d d' : Value} {s s' : Value} {h h' : Hp} {K : Kont} (ed : d = d') (es : s = s') (eh : h = h') : oCopy sz d s h K = oCopy sz d' s' h' K := by subst ed; subst es; subst eh; rfl
@[congr] theorem oSlice_cg {c sz : Nat} {x x' : Value} {lo hi mx : Option Value} {h h' : Hp} {K : Kont} (ex : x = x') (eh : h = h') : oSlice c sz x lo hi mx h K = oSlice c sz x' lo hi mx h' K := by subst ex; subst eh; rfl
@[congr] theorem oLookup_cg {d : TypeDesc} {z m m' k k' : Value} {ok : Bool} {h h' : Hp} {K : Kont} (em : m = m') (ek : k = k') (eh : h = h') : oLookup d z m k ok h K = oLookup d z m' k' ok h' K := by subst em; subst ek; subst eh; rfl
@[congr] theorem oMinMax_cg {mx : Bool} {l l' : List Value} {h h' : Hp} {K : Kont} (el : l = l') (eh : h = h') : oMinMax mx l h K = oMinMax mx l' h' K := by subst el; subst eh; rfl
@[congr] theorem oExtract_cg {x x' : Value} {i : Nat} {h h' : Hp} {K : Kont} (ex : x = x') (eh : h = h') : oExtract x i h K = oExtract x' i h' K := by subst ex; subst eh; rfl
@[congr] theorem oCallV_cg {P : Program} {f f' : Value} {l l' : List Value} {h h' : Hp} {K : Kont} (ef : f = f') (el : l = l') (eh : h = h') : oCallV P f l h K = oCallV P f' l' h' K := by subst ef; subst el; subst eh; rfl
@[congr] theorem oGuard_cg {x x' : Value} {w : Bool} {m : Kont → Prop} {h h' : Hp} {K : Kont} (ex : x = x') (eh : h = h') : oGuard x w m h K = oGuard x' w m h' K := by subst ex; subst eh; rfl
@[congr] theorem oIf_cg {x x' : Value} {a b : Prop} (ex : x = x') : oIf x a b = oIf x' a b := by subst ex; rfl

def asCells : AObj → Option (Array Value)
  | .cells c => some c
  | _ => none
def asMap : AObj → Option (List (Value × Value))
  | .map m => some m
  | _ => none
def cellAt (i : Nat) : AObj → Option Value
  | .cells c => c[i]?
  | .other (.cells c _ _) => c[i]?
  | .old (.cells c _ _) _ _ => c[i]?
  | _ => none
theorem asCells_cells (c : Array Value) : asCells (.cells c) = some c := id rfl
theorem asMap_map (m : List (Value × Value)) : asMap (.map m) = some m := id rfl
theorem cellAt_cells (i : Nat) (c : Array Value) : cellAt i (.cells c) = c[i]? := id rfl
theorem rdC_eq (h : Hp) (b i : Nat) : rdC h b i = (h[b]?).bind (cellAt i) := by
  unfold rdC cellAt
  cases h[b]? with
  | none => rfl
  | some o =>
    cases o with
    | cells c => rfl
    | map m => rfl
    | other o => cases o <;> rfl
    | old o os out => cases o <;> rfl
theorem cells_ex {h : Hp} {b : Nat} {f : Array Value → Prop} : (∃ c, h[b]? = some (.cells c) ∧ f c) = onS ((h[b]?).bind asCells) f := by
  cases h[b]? with
  | none => simp [onS]
  | some o => cases o <;> simp [onS, asCells]
theorem map_ex {h : Hp} {b : Nat} {f : List (Value × Value) → Prop} : (∃ c, h[b]? = some (.map c) ∧ f c) = onS ((h[b]?).bind asMap) f := by
  cases h[b]? with
  | none => simp [onS]
  | some o => cases o <;> simp [onS, asMap]

abbrev pt (b i : Nat) : Value := .pointer (some ⟨b, i, none⟩)

theorem sz : (∀ (h : Hp) (o : AObj), (h.push o).size = h.size + 1) ∧ (∀ (h : Hp) (r : Nat) (o : AObj), (h.setIfInBounds r o).size = h.size) := ⟨fun _ _ => Array.size_push .., fun _ _ _ => Array.size_setIfInBounds ..⟩
theorem lz : (∀ l : List Value, l.toArray.size = l.length) ∧ (∀ (v : Value) (l : List Value), (v :: l).length = l.length + 1) ∧ ([] : List Value).length = 0 := ⟨fun _ => List.size_toArray .., fun _ _ => List.length_cons .., rfl⟩
/-! ### Each operation, at operands that are seen -/
theorem e_pickT (a b : Value) (h : Hp) (K : Kont) : oPick (.bool true) a b h K = K a h := id rfl
theorem e_pickF (a b : Value) (h : Hp) (K : Kont) : oPick (.bool false) a b h K = K b h := id rfl
theorem e_alloc (z : Array Value) (h : Hp) (K : Kont) (hB : Base.b ≤ h.size) : oAlloc z h K = K (pt h.size 0) (h.push (.cells z)) := by unfold oAlloc; simp only [hB, true_and]
theorem e_box (v : Value) (h : Hp) (K : Kont) (hB : Base.b ≤ h.size) : oBox v h K = K (pt h.size 0) (h.push (.cells v.cells)) := by unfold oBox; simp only [hB, true_and]
theorem e_build (z : Array Value) (p : List (Nat × Nat × Value)) (h : Hp) (K : Kont) : oBuild z p h K = onS (bfill z p) (fun cs => K (.agg cs) h) := onS_ex _ _
theorem e_buildSlice (z : Array Value) (n : Nat) (p : List (Nat × Nat × Value)) (h : Hp) (K : Kont) (hB : Base.b ≤ h.size) :
    oBuildSlice z n p h K = onS (bfill z p) (fun cs => K (.slice (some ⟨h.size, 0, none⟩) n n) (h.push (.cells cs))) := by
  unfold oBuildSlice; simp only [hB, true_and]; exact onS_ex _ _
theorem e_ld1 (b i : Nat) (h : Hp) (K : Kont) : oLd1 (.pointer (some ⟨b, i, none⟩)) h K = onS ((h[b]?).bind (cellAt i)) (fun v => K v h) := by
  rw [← rdC_eq]; exact onS_ex _ _
theorem e_ldN (n b i : Nat) (h : Hp) (K : Kont) : oLdN n (.pointer (some ⟨b, i, none⟩)) h K = onS (rdN h b i n) (fun vs => K (.agg vs.toArray) h) := onS_ex _ _
theorem e_st (n b i : Nat) (v : Value) (h : Hp) (K : Kont) : oSt n (.pointer (some ⟨b, i, none⟩)) v h K = onS ((h[b]?).bind asCells) (fun c => v.cells.size = n ∧ i + n ≤ c.size ∧ v.cells.toList.all one = true ∧
    K undef (h.setIfInBounds b (.cells (setL c i v.cells.toList)))) := cells_ex
theorem e_nilCheck (a : Addr) (h : Hp) (K : Kont) : oNilCheck (.pointer (some a)) h K = K (.pointer (some a)) h := id rfl
theorem e_bin (op : BinOp) (x y : Value) (h : Hp) (K : Kont) : oBin op x y h K = onS (binV op x y) (fun v => K v h) := onS_ex _ _
theorem e_eq (c : Nat) (ne : Bool) (p : Option (List (Nat × TypeDesc))) (x y : Value) (h : Hp) (K : Kont) : oEq c ne p x y h K = onS (eqV c p x y) (fun b => K (.bool (if ne then !b else b)) h) := onS_ex _ _
theorem e_not (b : Bool) (h : Hp) (K : Kont) : oNot (.bool b) h K = K (.bool !b) h := id rfl
theorem e_conv (k j : IntKind) (n : Int) (h : Hp) (K : Kont) : oConvInt k (.int j n) h K = K (.int k (k.wrap n)) h := id rfl
theorem e_makeMap (h : Hp) (K : Kont) (hB : Base.b ≤ h.size) : oMakeMap h K = K (.map (some h.size)) (h.push (.map [])) := by unfold oMakeMap; simp only [hB, true_and]
theorem e_fieldAddr (o b i : Nat) (h : Hp) (K : Kont) : oFieldAddr o (.pointer (some ⟨b, i, none⟩)) h K = K (.pointer (some ⟨b, i + o, none⟩)) h := id rfl
theorem e_idxS (sz b o len cap : Nat) (k : IntKind) (n : Int) (h : Hp) (K : Kont) : oIdxS sz (.slice (some ⟨b, o, none⟩) len cap) (.int k n) h K = (0 ≤ n ∧ n < len ∧ K (.pointer (some ⟨b, o + n.toNat * sz, none⟩)) h) := id rfl
theorem e_idxA (sz len b o : Nat) (k : IntKind) (n : Int) (h : Hp) (K : Kont) : oIdxA sz len (.pointer (some ⟨b, o, none⟩)) (.int k n) h K = (0 ≤ n ∧ n < len ∧ K (.pointer (some ⟨b, o + n.toNat * sz, none⟩)) h) := id rfl
theorem e_lookup (d : TypeDesc) (z : Value) (r : Nat) (k : Value) (ok : Bool) (h : Hp) (K : Kont) : oLookup d z (.map (some r)) k ok h K = onS ((h[r]?).bind asMap) (fun kv => onS (kvFind d k kv 0) (fun f => K (lookRes z ok f) h)) := by
  rw [← map_ex]; simp only [oLookup, ← onS_ex]
  apply propext
  constructor
  · rintro ⟨kv, f, h1, h2, h3⟩; exact ⟨kv, h1, f, h2, h3⟩
  · rintro ⟨kv, h1, f, h2, h3⟩; exact ⟨kv, f, h1, h2, h3⟩
theorem e_lookupN (d : TypeDesc) (z k : Value) (ok : Bool) (h : Hp) (K : Kont) : oLookup d z (.map none) k ok h K = K (lookRes z ok none) h := id rfl
theorem e_mapUpdate (d : TypeDesc) (r : Nat) (k v : Value) (h : Hp) (K : Kont) : oMapUpdate d (.map (some r)) k v h K = onS ((h[r]?).bind asMap) (fun kv => onS (kvFind d k kv 0) (fun f => K undef (h.setIfInBounds r (.map (kvPut kv f k v))))) := by
  rw [← map_ex]; simp only [oMapUpdate, ← onS_ex]
  apply propext
  constructor
  · rintro ⟨kv, f, h1, h2, h3⟩; exact ⟨kv, h1, f, h2, h3⟩
  · rintro ⟨kv, h1, f, h2, h3⟩; exact ⟨kv, f, h1, h2, h3⟩
theorem e_delete (d : TypeDesc) (r : Nat) (k : Value) (h : Hp) (K : Kont) : oDelete d (.map (some r)) k h K = onS ((h[r]?).bind asMap) (fun kv => onS (kvFind d k kv 0) (fun f => K (.tuple #[]) (h.setIfInBounds r (.map (match f with | some (i, _) => kv.eraseIdx i | none => kv))))) := by
  rw [← map_ex]; simp only [oDelete, ← onS_ex]
  apply propext
  constructor
  · rintro ⟨kv, f, h1, h2, h3⟩; exact ⟨kv, h1, f, h2, h3⟩
  · rintro ⟨kv, h1, f, h2, h3⟩; exact ⟨kv, f, h1, h2, h3⟩
theorem e_clearMap (r : Nat) (h : Hp) (K : Kont) : oClearMap (.map (some r)) h K = onS ((h[r]?).bind asMap) (fun _ => K (.tuple #[]) (h.setIfInBounds r (.map []))) := map_ex
theorem e_len0 (a : Option Addr) (n c : Nat) (h : Hp) (K : Kont) : oLen 0 (.slice a n c) h K = K (.int .i64 n) h := id rfl
theorem e_len1 (s : ByteArray) (h : Hp) (K : Kont) : oLen 1 (.string s) h K = K (.int .i64 s.size) h := id rfl
theorem e_len2 (r : Nat) (h : Hp) (K : Kont) : oLen 2 (.map (some r)) h K = onS ((h[r]?).bind asMap) (fun kv => K (.int .i64 kv.length) h) := map_ex
theorem e_len2n (h : Hp) (K : Kont) : oLen 2 (.map none) h K = K (.int .i64 0) h := id rfl
theorem e_extract (vs : Array Value) (i : Nat) (h : Hp) (K : Kont) : oExtract (.tuple vs) i h K = onS (vs[i]?) (fun v => K v h) := onS_ex _ _
theorem e_ifT (a b : Prop) : oIf (.bool true) a b = a := id rfl
theorem e_ifF (a b : Prop) : oIf (.bool false) a b = b := id rfl
theorem e_if (c : Bool) (a b : Prop) : oIf (.bool c) a b = ((c = true → a) ∧ (c = false → b)) := by cases c <;> simp [oIf]
theorem e_gTT (m : Kont → Prop) (h : Hp) (K : Kont) : oGuard (.bool true) true m h K = m K := id rfl
theorem e_gFF (m : Kont → Prop) (h : Hp) (K : Kont) : oGuard (.bool false) false m h K = m K := id rfl
theorem e_gTF (m : Kont → Prop) (h : Hp) (K : Kont) : oGuard (.bool true) false m h K = K undef h := id rfl
theorem e_gFT (m : Kont → Prop) (h : Hp) (K : Kont) : oGuard (.bool false) true m h K = K undef h := id rfl
theorem e_hTT (p : Prop) : oGuardH (.bool true) true p = p := id rfl
theorem e_hFF (p : Prop) : oGuardH (.bool false) false p = p := id rfl
theorem e_hTF (p : Prop) : oGuardH (.bool true) false p = True := id rfl
theorem e_hFT (p : Prop) : oGuardH (.bool false) true p = True := id rfl
theorem e_gU (w : Bool) (m : Kont → Prop) (h : Hp) (K : Kont) : oGuard undef w m h K = K undef h := id rfl
theorem e_hU (w : Bool) (p : Prop) : oGuardH undef w p = True := id rfl
theorem e_minmax (mx : Bool) (k k' : IntKind) (a b : Int) (h : Hp) (K : Kont) : oMinMax mx [.int k a, .int k' b] h K = K (.int k (if mx then (if b > a then b else a) else (if b < a then b else a))) h := id rfl
theorem e_field1 (o : Nat) (cs : Array Value) (h : Hp) (K : Kont) : oField o none (.agg cs) h K = onS (cs[o]?) (fun v => K v h) := onS_ex _ _
theorem e_callV (P : Program) (g : FuncId) (a b : Array Value) (l : List Value) (h : Hp) (K : Kont) (he : canEnter P g = true) : oCallV P (.func (.func g) a b) l h K = AC P g (a ++ l.toArray ++ b) h K := by
  simp [oCallV, he]

/-! ### Numbers -/
theorem b_int (op : BinOp) (k : IntKind) (a b : Int) (h1 : op ≠ .shl) (h2 : op ≠ .shr) : binV op (.int k a) (.int k b) = intBin op k a b := by
  cases op <;> simp [binV] <;> first | exact absurd rfl h1 | exact absurd rfl h2
theorem b_add (k : IntKind) (a b : Int) : binV .add (.int k a) (.int k b) = some (.int k (k.wrap (a + b))) := by simp [binV, intBin]
theorem b_sub (k : IntKind) (a b : Int) : binV .sub (.int k a) (.int k b) = some (.int k (k.wrap (a - b))) := by simp [binV, intBin]
theorem b_mul (k : IntKind) (a b : Int) : binV .mul (.int k a) (.int k b) = some (.int k (k.wrap (a * b))) := by simp [binV, intBin]
theorem b_quo (k : IntKind) (a b : Int) (h : b ≠ 0) : binV .quo (.int k a) (.int k b) = some (.int k (k.wrap (a.tdiv b))) := by simp [binV, intBin, h]
theorem b_rem (k : IntKind) (a b : Int) (h : b ≠ 0) : binV .rem (.int k a) (.int k b) = some (.int k (a.tmod b)) := by simp [binV, intBin, h]
theorem b_eql (k : IntKind) (a b : Int) : binV .eql (.int k a) (.int k b) = some (.bool (decide (a = b))) := by simp only [binV, intBin, if_true]; rfl
theorem b_neq (k : IntKind) (a b : Int) : binV .neq (.int k a) (.int k b) = some (.bool (!decide (a = b))) := by simp only [binV, intBin, if_true]; rfl
theorem b_lss (k : IntKind) (a b : Int) : binV .lss (.int k a) (.int k b) = some (.bool (decide (a < b))) := by simp [binV, intBin]
theorem b_leq (k : IntKind) (a b : Int) : binV .leq (.int k a) (.int k b) = some (.bool (decide (a ≤ b))) := by simp [binV, intBin]
theorem b_gtr (k : IntKind) (a b : Int) : binV .gtr (.int k a) (.int k b) = some (.bool (decide (b < a))) := by simp [binV, intBin]
theorem b_geq (k : IntKind) (a b : Int) : binV .geq (.int k a) (.int k b) = some (.bool (decide (b ≤ a))) := by simp [binV, intBin]
theorem wrap_i (n : Int) (h0 : -9223372036854775808 ≤ n) (h1 : n < 9223372036854775808) : IntKind.i64.wrap n = n := by rw [IntKind.wrap_i64]; omega
theorem wrap_u (n : Int) (h0 : 0 ≤ n) (h1 : n < 18446744073709551616) : IntKind.u64.wrap n = n := by
  simp only [IntKind.wrap, IntKind.bits, IntKind.signed, Bool.false_and, Bool.false_eq_true, if_false]
  omega

/-! ### Blocks -/
theorem g_push_lt {h : Hp} {o : AObj} {b : Nat} (hb : b < h.size) : (h.push o)[b]? = h[b]? := by
  rw [Array.getElem?_push, if_neg (by omega)]
theorem g_push_eq {h : Hp} {o : AObj} {b : Nat} (hb : b = h.size) : (h.push o)[b]? = some o := by
  rw [hb]; simp
theorem g_set_eq {h : Hp} {o : AObj} {b r : Nat} (hb : r < h.size) (e : r = b) : (h.setIfInBounds r o)[b]? = some o := by
  subst e; simp [hb]
theorem g_set_ne {h : Hp} {o : AObj} {b r : Nat} (e : r ≠ b) : (h.setIfInBounds r o)[b]? = h[b]? := by
  simp [e]

theorem Upd.refl {S : Nat → Prop} (h : Hp) : Upd S h h := ⟨Nat.le_refl _, fun _ _ _ => rfl⟩
theorem Upd.trans {S : Nat → Prop} {a b c : Hp} (x : Upd S a b) (y : Upd S b c) : Upd S a c :=
  ⟨Nat.le_trans x.1 y.1, fun r hr hs => (y.2 r (Nat.lt_of_lt_of_le hr x.1) hs).trans (x.2 r hr hs)⟩
theorem Upd.mono {S T : Nat → Prop} {a b : Hp} (x : Upd S a b) (h : ∀ r, r < a.size → S r → T r) : Upd T a b := ⟨x.1, fun r hr hs => x.2 r hr (fun h' => hs (h r hr h'))⟩
/-- What turned blocks that are new is nothing. -/
theorem Upd.fresh {S T : Nat → Prop} {a b c : Hp} (x : Upd S a b) (y : Upd T b c) (h : ∀ r, T r → a.size ≤ r ∨ S r) : Upd S a c :=
  ⟨Nat.le_trans x.1 y.1, fun r hr hs => (y.2 r (Nat.lt_of_lt_of_le hr x.1) (fun ht => by rcases h r ht with h | h; omega; exact hs h)).trans (x.2 r hr hs)⟩
theorem Upd.push {S : Nat → Prop} {a b : Hp} (x : Upd S a b) (o : AObj) : Upd S a (b.push o) :=
  ⟨by have := x.1; simp; omega, fun r hr hs => by rw [g_push_lt (Nat.lt_of_lt_of_le hr x.1)]; exact x.2 r hr hs⟩
theorem Upd.set {S : Nat → Prop} {a b : Hp} (x : Upd S a b) (r : Nat) (o : AObj) (h : a.size ≤ r ∨ S r) : Upd S a (b.setIfInBounds r o) :=
  ⟨by have := x.1; simpa using this, fun i hi hs => by
    rw [g_set_ne (by rintro rfl; rcases h with h | h; omega; exact hs h)]
    exact x.2 i hi hs⟩
theorem Upd.get {S : Nat → Prop} {a b : Hp} (x : Upd S a b) {r : Nat} {o : AObj} (h : a[r]? = some o) (hs : ¬ S r) : b[r]? = some o := by
  have hr := (Array.getElem?_eq_some_iff.1 h).1
  rw [x.2 r hr hs]; exact h
theorem Upd.lt {S : Nat → Prop} {a b : Hp} (x : Upd S a b) {r : Nat} (h : r < a.size) : r < b.size := Nat.lt_of_lt_of_le h x.1
theorem lt_of_get {h : Hp} {r : Nat} {o : AObj} (e : h[r]? = some o) : r < h.size := (Array.getElem?_eq_some_iff.1 e).1

end Go.Proofs.Ytdolepapmpcpiaa

/- Maps keyed by whole numbers, as lists of pairs. -/
namespace Go.Proofs.Ytdolepapmpcpiaa
open Go
set_option linter.unusedSectionVars false
variable [Base]
set_option linter.unusedVariables false
set_option linter.unusedSimpArgs false

variable {α β : Type}

def encM (e : α → Value) (m : List (Int × α)) : List (Value × Value) := m.map fun p => (.int .i64 p.1, e p.2)
def mfind : List (Int × α) → Int → Nat → Option (Nat × α)
  | [], _, _ => none
  | (j, x) :: r, i, n => if i = j then some (n, x) else mfind r i (n + 1)
def mget (m : List (Int × α)) (i : Int) : Option α := (mfind m i 0).map (·.2)
def mset (m : List (Int × α)) (i : Int) (x : α) : List (Int × α) :=
  match mfind m i 0 with
  | some (n, _) => m.set n (i, x)
  | none => m ++ [(i, x)]
def mdel (m : List (Int × α)) (i : Int) : List (Int × α) :=
  match mfind m i 0 with
  | some (n, _) => m.eraseIdx n
  | none => m
theorem kvFind_enc (e : α → Value) (i : Int) : ∀ (m : List (Int × α)) (n : Nat), kvFind (.int .i64) (.int .i64 i) (encM e m) n = some ((mfind m i n).map fun p => (p.1, e p.2))
  | [], n => rfl
  | (j, x) :: r, n => by
    have ih := kvFind_enc e i r (n + 1)
    unfold encM at ih
    simp only [encM, List.map_cons, kvFind, Instr.sameNow, if_true, mfind]
    by_cases h : i = j
    · subst h; simp
    · have : (i == j) = false := by simpa using h
      simp only [this, if_neg h]
      exact ih
theorem mfind_get {m : List (Int × α)} {i : Int} : ∀ {n k : Nat} {x : α}, mfind m i n = some (k, x) → n ≤ k ∧ m[k - n]? = some (i, x) := by
  induction m with
  | nil => intro n k x h; simp [mfind] at h
  | cons p r ih =>
    intro n k x h
    obtain ⟨j, y⟩ := p
    simp only [mfind] at h
    split at h
    · rename_i e; cases h; simp [e]
    · obtain ⟨h1, h2⟩ := ih h
      refine ⟨by omega, ?_⟩
      rw [show k - n = (k - (n + 1)) + 1 by omega]
      simpa using h2
theorem mfind_none {m : List (Int × α)} {i : Int} : ∀ {n : Nat}, mfind m i n = none → ∀ p ∈ m, p.1 ≠ i := by
  induction m with
  | nil => intro n _ p hp; cases hp
  | cons q r ih =>
    intro n h p hp
    obtain ⟨j, y⟩ := q
    simp only [mfind] at h
    split at h
    · cases h
    · rename_i hne
      cases hp with
      | head => exact fun e => hne e.symm
      | tail _ hp => exact ih h p hp
theorem kvPut_enc (e : α → Value) (m : List (Int × α)) (i : Int) (x : α) : kvPut (encM e m) ((mfind m i 0).map fun p => (p.1, e p.2)) (.int .i64 i) (e x) = encM e (mset m i x) := by
  unfold kvPut mset encM
  cases h : mfind m i 0 with
  | none => simp
  | some p => obtain ⟨n, y⟩ := p; simp [List.map_set]
theorem kvDel_enc (e : α → Value) (m : List (Int × α)) (i : Int) : (match (mfind m i 0).map (fun p => (p.1, e p.2)) with | some (n, _) => (encM e m).eraseIdx n | none => encM e m) = encM e (mdel m i) := by
  unfold mdel encM
  cases h : mfind m i 0 with
  | none => simp
  | some p => obtain ⟨n, y⟩ := p; simp [List.eraseIdx_eq_take_drop_succ, List.map_take, List.map_drop]
theorem encM_length (e : α → Value) (m : List (Int × α)) : (encM e m).length = m.length := by simp [encM]

/-- No key twice. -/
def keysOk (m : List (Int × α)) : Prop := (m.map (·.1)).Nodup
theorem mfind_shift (m : List (Int × α)) (i : Int) : ∀ (n : Nat), mfind m i n = (mfind m i 0).map fun p => (p.1 + n, p.2) := by
  induction m with
  | nil => intro n; rfl
  | cons q r ih =>
    intro n
    obtain ⟨j, y⟩ := q
    simp only [mfind]
    split
    · simp
    · rw [ih (n + 1), ih (0 + 1)]
      simp only [Option.map_map]
      congr 1
      funext p
      simp only [Function.comp, Prod.mk.injEq, and_true]
      omega
theorem mget_cons (j : Int) (y : α) (r : List (Int × α)) (i : Int) : mget ((j, y) :: r) i = if i = j then some y else mget r i := by
  unfold mget
  simp only [mfind]
  split
  · simp
  · rw [mfind_shift r i (0 + 1)]
    rw [Option.map_map]
    rfl
theorem mget_nil (i : Int) : mget ([] : List (Int × α)) i = none := rfl
theorem mget_append (m r : List (Int × α)) (i : Int) : mget (m ++ r) i = (mget m i).or (mget r i) := by
  induction m with
  | nil => simp [mget_nil]
  | cons q m ih =>
    obtain ⟨j, y⟩ := q
    simp only [List.cons_append, mget_cons, ih]
    split <;> simp
theorem mget_mset (m : List (Int × α)) (i : Int) (x : α) (k : Int) : mget (mset m i x) k = if k = i then some x else mget m k := by
  unfold mset
  cases h : mfind m i 0 with
  | none =>
    simp only [mget_append, mget_cons, mget_nil]
    have hn := mfind_none h
    by_cases hk : k = i
    · subst hk
      have : mget m k = none := by unfold mget; rw [h]; rfl
      simp [this]
    · simp [hk]
  | some p =>
    obtain ⟨n, y⟩ := p
    have gen : ∀ (m : List (Int × α)) (n s : Nat), mfind m i s = some (n, y) → mget (m.set (n - s) (i, x)) k = if k = i then some x else mget m k := by
      intro m
      induction m with
      | nil => intro n s h; simp [mfind] at h
      | cons q r ih =>
        intro n s h
        obtain ⟨j, z⟩ := q
        simp only [mfind] at h
        split at h
        · rename_i e; cases h; subst e
          simp only [Nat.sub_self, List.set_cons_zero, mget_cons]
          split <;> simp_all
        · rename_i e
          obtain ⟨h1, _⟩ := mfind_get h
          have := ih n (s + 1) h
          rw [show n - s = (n - (s + 1)) + 1 by omega]
          simp only [List.set_cons_succ, mget_cons, this]
          by_cases hk : k = i
          · subst hk; simp [e]
          · simp [hk]
    exact gen m n 0 h
theorem keysOk_mset {m : List (Int × α)} (h : keysOk m) (i : Int) (x : α) : keysOk (mset m i x) := by
  unfold mset
  cases hf : mfind m i 0 with
  | none =>
    unfold keysOk at *
    simp only [List.map_append, List.map_cons, List.map_nil]
    rw [List.nodup_append]
    refine ⟨h, by simp, ?_⟩
    intro a ha b hb
    simp only [List.mem_singleton] at hb
    subst hb
    simp only [List.mem_map] at ha
    obtain ⟨p, hp, rfl⟩ := ha
    exact mfind_none hf p hp
  | some p =>
    obtain ⟨n, y⟩ := p
    obtain ⟨_, hg⟩ := mfind_get hf
    unfold keysOk at *
    simp only [List.map_set]
    have : (m.map (·.1)).set n i = m.map (·.1) := by
      apply List.ext_getElem?
      intro j
      rw [List.getElem?_set]
      split
      · rename_i e; subst e
        simp only [Nat.sub_zero] at hg
        have hl := (List.getElem?_eq_some_iff.1 hg).1
        have : m[n] = (i, y) := by rw [List.getElem?_eq_getElem hl] at hg; exact Option.some.inj hg
        simp [hl, this]
      · rfl
    rw [this]
    exact h
theorem mget_mem {m : List (Int × α)} {i : Int} {x : α} (h : mget m i = some x) : (i, x) ∈ m := by
  unfold mget at h
  cases hf : mfind m i 0 with
  | none => simp [hf] at h
  | some p =>
    obtain ⟨n, y⟩ := p
    simp [hf] at h
    subst h
    exact List.mem_of_getElem? (mfind_get hf).2
theorem mget_of_mem {m : List (Int × α)} (hk : keysOk m) {i : Int} {x : α} (h : (i, x) ∈ m) : mget m i = some x := by
  induction m with
  | nil => cases h
  | cons q r ih =>
    obtain ⟨j, y⟩ := q
    unfold keysOk at hk
    simp only [List.map_cons, List.nodup_cons] at hk
    rw [mget_cons]
    cases h with
    | head => simp
    | tail _ h =>
      rw [if_neg, ih hk.2 h]
      rintro rfl
      exact hk.1 (List.mem_map.2 ⟨_, h, rfl⟩)
theorem mset_length (m : List (Int × α)) (i : Int) (x : α) : (mset m i x).length ≤ m.length + 1 := by
  unfold mset
  split <;> simp

end Go.Proofs.Ytdolepapmpcpiaa

/- What functions of the program ask of the seen heap (written by a program of this proof, vgen.py). -/
namespace Go.Proofs.Ytdolepapmpcpiaa
open Go
set_option linter.unusedSectionVars false
variable [Base]
set_option linter.unusedVariables false
set_option maxRecDepth 100000

theorem prog_mixed : Try.prog.follows .mixedOrders = true := by kernel_rfl
abbrev Self := List Value → Hp → Prop
def bodyC (f : Func) : Code := match f.body with | some c => c | none => .skip
def cA : Code → Code | .seq a _ => a | _ => .skip
def cB : Code → Code | .seq _ b => b | _ => .skip
def cT : Code → Code | .cond _ a _ => a | _ => .skip
def cE : Code → Code | .cond _ _ b => b | _ => .skip
def cI : Code → Code | .block _ a => a | .loop a => a | _ => .skip
def cO : Code → Array Oper | .region _ o _ => o | _ => #[]

def C_l11_AcceptPlays (args : List Value) (h : Hp) (K : Kont) : Prop := AC Try.prog 3 args.toArray h K
theorem ent_l11_AcceptPlays : canEnter Try.prog 3 = true := by kernel_rfl
theorem C_l11_AcceptPlays.mono {args : List Value} {h : Hp} {K K' : Kont} (a : C_l11_AcceptPlays args h K) (hk : ∀ v h', K v h' → K' v h') : C_l11_AcceptPlays args h K' := AC.mono a hk
@[congr] theorem C_l11_AcceptPlays_cg {l l' : List Value} {h h' : Hp} {K : Kont} (el : l = l') (eh : h = h') : C_l11_AcceptPlays l h K = C_l11_AcceptPlays l' h' K := by subst el; subst eh; rfl
def C_l11_AcceptRises (args : List Value) (h : Hp) (K : Kont) : Prop := AC Try.prog 4 args.toArray h K
theorem ent_l11_AcceptRises : canEnter Try.prog 4 = true := by kernel_rfl
theorem C_l11_AcceptRises.mono {args : List Value} {h : Hp} {K K' : Kont} (a : C_l11_AcceptRises args h K) (hk : ∀ v h', K v h' → K' v h') : C_l11_AcceptRises args h K' := AC.mono a hk
@[congr] theorem C_l11_AcceptRises_cg {l l' : List Value} {h h' : Hp} {K : Kont} (el : l = l') (eh : h = h') : C_l11_AcceptRises l h K = C_l11_AcceptRises l' h' K := by subst el; subst eh; rfl
def C_l11_AcceptNil (args : List Value) (h : Hp) (K : Kont) : Prop := AC Try.prog 5 args.toArray h K
theorem ent_l11_AcceptNil : canEnter Try.prog 5 = true := by kernel_rfl
theorem C_l11_AcceptNil.mono {args : List Value} {h : Hp} {K K' : Kont} (a : C_l11_AcceptNil args h K) (hk : ∀ v h', K v h' → K' v h') : C_l11_AcceptNil args h K' := AC.mono a hk
@[congr] theorem C_l11_AcceptNil_cg {l l' : List Value} {h h' : Hp} {K : Kont} (el : l = l') (eh : h = h') : C_l11_AcceptNil l h K = C_l11_AcceptNil l' h' K := by subst el; subst eh; rfl
def C_l11_AcceptBest (args : List Value) (h : Hp) (K : Kont) : Prop := AC Try.prog 6 args.toArray h K
theorem ent_l11_AcceptBest : canEnter Try.prog 6 = true := by kernel_rfl
theorem C_l11_AcceptBest.mono {args : List Value} {h : Hp} {K K' : Kont} (a : C_l11_AcceptBest args h K) (hk : ∀ v h', K v h' → K' v h') : C_l11_AcceptBest args h K' := AC.mono a hk
@[congr] theorem C_l11_AcceptBest_cg {l l' : List Value} {h h' : Hp} {K : Kont} (el : l = l') (eh : h = h') : C_l11_AcceptBest l h K = C_l11_AcceptBest l' h' K := by subst el; subst eh; rfl
def C_l13_LeadChooses (args : List Value) (h : Hp) (K : Kont) : Prop := AC Try.prog 7 args.toArray h K
theorem ent_l13_LeadChooses : canEnter Try.prog 7 = true := by kernel_rfl
theorem C_l13_LeadChooses.mono {args : List Value} {h : Hp} {K K' : Kont} (a : C_l13_LeadChooses args h K) (hk : ∀ v h', K v h' → K' v h') : C_l13_LeadChooses args h K' := AC.mono a hk
@[congr] theorem C_l13_LeadChooses_cg {l l' : List Value} {h h' : Hp} {K : Kont} (el : l = l') (eh : h = h') : C_l13_LeadChooses l h K = C_l13_LeadChooses l' h' K := by subst el; subst eh; rfl
def C_l13_LeadPlays (args : List Value) (h : Hp) (K : Kont) : Prop := AC Try.prog 8 args.toArray h K
theorem ent_l13_LeadPlays : canEnter Try.prog 8 = true := by kernel_rfl
theorem C_l13_LeadPlays.mono {args : List Value} {h : Hp} {K K' : Kont} (a : C_l13_LeadPlays args h K) (hk : ∀ v h', K v h' → K' v h') : C_l13_LeadPlays args h K' := AC.mono a hk
@[congr] theorem C_l13_LeadPlays_cg {l l' : List Value} {h h' : Hp} {K : Kont} (el : l = l') (eh : h = h') : C_l13_LeadPlays l h K = C_l13_LeadPlays l' h' K := by subst el; subst eh; rfl
def C_l13_LeadNil (args : List Value) (h : Hp) (K : Kont) : Prop := AC Try.prog 9 args.toArray h K
theorem ent_l13_LeadNil : canEnter Try.prog 9 = true := by kernel_rfl
theorem C_l13_LeadNil.mono {args : List Value} {h : Hp} {K K' : Kont} (a : C_l13_LeadNil args h K) (hk : ∀ v h', K v h' → K' v h') : C_l13_LeadNil args h K' := AC.mono a hk
@[congr] theorem C_l13_LeadNil_cg {l l' : List Value} {h h' : Hp} {K : Kont} (el : l = l') (eh : h = h') : C_l13_LeadNil l h K = C_l13_LeadNil l' h' K := by subst el; subst eh; rfl
def C_l13_LeadSafe (args : List Value) (h : Hp) (K : Kont) : Prop := AC Try.prog 10 args.toArray h K
theorem ent_l13_LeadSafe : canEnter Try.prog 10 = true := by kernel_rfl
theorem C_l13_LeadSafe.mono {args : List Value} {h : Hp} {K K' : Kont} (a : C_l13_LeadSafe args h K) (hk : ∀ v h', K v h' → K' v h') : C_l13_LeadSafe args h K' := AC.mono a hk
@[congr] theorem C_l13_LeadSafe_cg {l l' : List Value} {h h' : Hp} {K : Kont} (el : l = l') (eh : h = h') : C_l13_LeadSafe l h K = C_l13_LeadSafe l' h' K := by subst el; subst eh; rfl
def C_accept_New (args : List Value) (h : Hp) (K : Kont) : Prop := AC Try.prog 11 args.toArray h K
theorem ent_accept_New : canEnter Try.prog 11 = true := by kernel_rfl
theorem C_accept_New.mono {args : List Value} {h : Hp} {K K' : Kont} (a : C_accept_New args h K) (hk : ∀ v h', K v h' → K' v h') : C_accept_New args h K' := AC.mono a hk
@[congr] theorem C_accept_New_cg {l l' : List Value} {h h' : Hp} {K : Kont} (el : l = l') (eh : h = h') : C_accept_New l h K = C_accept_New l' h' K := by subst el; subst eh; rfl
def C_l11_step (args : List Value) (h : Hp) (K : Kont) : Prop := AC Try.prog 12 args.toArray h K
theorem ent_l11_step : canEnter Try.prog 12 = true := by kernel_rfl
theorem C_l11_step.mono {args : List Value} {h : Hp} {K K' : Kont} (a : C_l11_step args h K) (hk : ∀ v h', K v h' → K' v h') : C_l11_step args h K' := AC.mono a hk
@[congr] theorem C_l11_step_cg {l l' : List Value} {h h' : Hp} {K : Kont} (el : l = l') (eh : h = h') : C_l11_step l h K = C_l11_step l' h' K := by subst el; subst eh; rfl
def C_accept_Acceptor_Vote (args : List Value) (h : Hp) (K : Kont) : Prop := AC Try.prog 13 args.toArray h K
theorem ent_accept_Acceptor_Vote : canEnter Try.prog 13 = true := by kernel_rfl
theorem C_accept_Acceptor_Vote.mono {args : List Value} {h : Hp} {K K' : Kont} (a : C_accept_Acceptor_Vote args h K) (hk : ∀ v h', K v h' → K' v h') : C_accept_Acceptor_Vote args h K' := AC.mono a hk
@[congr] theorem C_accept_Acceptor_Vote_cg {l l' : List Value} {h h' : Hp} {K : Kont} (el : l = l') (eh : h = h') : C_accept_Acceptor_Vote l h K = C_accept_Acceptor_Vote l' h' K := by subst el; subst eh; rfl
def C_r11_At (args : List Value) (h : Hp) (K : Kont) : Prop := AC Try.prog 14 args.toArray h K
theorem ent_r11_At : canEnter Try.prog 14 = true := by kernel_rfl
theorem C_r11_At.mono {args : List Value} {h : Hp} {K K' : Kont} (a : C_r11_At args h K) (hk : ∀ v h', K v h' → K' v h') : C_r11_At args h K' := AC.mono a hk
@[congr] theorem C_r11_At_cg {l l' : List Value} {h h' : Hp} {K : Kont} (el : l = l') (eh : h = h') : C_r11_At l h K = C_r11_At l' h' K := by subst el; subst eh; rfl
def C_accept_Acceptor_Promised (args : List Value) (h : Hp) (K : Kont) : Prop := AC Try.prog 15 args.toArray h K
theorem ent_accept_Acceptor_Promised : canEnter Try.prog 15 = true := by kernel_rfl
theorem C_accept_Acceptor_Promised.mono {args : List Value} {h : Hp} {K K' : Kont} (a : C_accept_Acceptor_Promised args h K) (hk : ∀ v h', K v h' → K' v h') : C_accept_Acceptor_Promised args h K' := AC.mono a hk
@[congr] theorem C_accept_Acceptor_Promised_cg {l l' : List Value} {h h' : Hp} {K : Kont} (el : l = l') (eh : h = h') : C_accept_Acceptor_Promised l h K = C_accept_Acceptor_Promised l' h' K := by subst el; subst eh; rfl
def C_accept_Acceptor_Len (args : List Value) (h : Hp) (K : Kont) : Prop := AC Try.prog 16 args.toArray h K
theorem ent_accept_Acceptor_Len : canEnter Try.prog 16 = true := by kernel_rfl
theorem C_accept_Acceptor_Len.mono {args : List Value} {h : Hp} {K K' : Kont} (a : C_accept_Acceptor_Len args h K) (hk : ∀ v h', K v h' → K' v h') : C_accept_Acceptor_Len args h K' := AC.mono a hk
@[congr] theorem C_accept_Acceptor_Len_cg {l l' : List Value} {h h' : Hp} {K : Kont} (el : l = l') (eh : h = h') : C_accept_Acceptor_Len l h K = C_accept_Acceptor_Len l' h' K := by subst el; subst eh; rfl
def C_r10_SameVotes (args : List Value) (h : Hp) (K : Kont) : Prop := AC Try.prog 17 args.toArray h K
theorem ent_r10_SameVotes : canEnter Try.prog 17 = true := by kernel_rfl
theorem C_r10_SameVotes.mono {args : List Value} {h : Hp} {K K' : Kont} (a : C_r10_SameVotes args h K) (hk : ∀ v h', K v h' → K' v h') : C_r10_SameVotes args h K' := AC.mono a hk
@[congr] theorem C_r10_SameVotes_cg {l l' : List Value} {h h' : Hp} {K : Kont} (el : l = l') (eh : h = h') : C_r10_SameVotes l h K = C_r10_SameVotes l' h' K := by subst el; subst eh; rfl
def C_accept_Acceptor_Votes (args : List Value) (h : Hp) (K : Kont) : Prop := AC Try.prog 18 args.toArray h K
theorem ent_accept_Acceptor_Votes : canEnter Try.prog 18 = true := by kernel_rfl
theorem C_accept_Acceptor_Votes.mono {args : List Value} {h : Hp} {K K' : Kont} (a : C_accept_Acceptor_Votes args h K) (hk : ∀ v h', K v h' → K' v h') : C_accept_Acceptor_Votes args h K' := AC.mono a hk
@[congr] theorem C_accept_Acceptor_Votes_cg {l l' : List Value} {h h' : Hp} {K : Kont} (el : l = l') (eh : h = h') : C_accept_Acceptor_Votes l h K = C_accept_Acceptor_Votes l' h' K := by subst el; subst eh; rfl
def C_r11_From (args : List Value) (h : Hp) (K : Kont) : Prop := AC Try.prog 19 args.toArray h K
theorem ent_r11_From : canEnter Try.prog 19 = true := by kernel_rfl
theorem C_r11_From.mono {args : List Value} {h : Hp} {K K' : Kont} (a : C_r11_From args h K) (hk : ∀ v h', K v h' → K' v h') : C_r11_From args h K' := AC.mono a hk
@[congr] theorem C_r11_From_cg {l l' : List Value} {h h' : Hp} {K : Kont} (el : l = l') (eh : h = h') : C_r11_From l h K = C_r11_From l' h' K := by subst el; subst eh; rfl
def C_l11_awake (args : List Value) (h : Hp) (K : Kont) : Prop := AC Try.prog 20 args.toArray h K
theorem ent_l11_awake : canEnter Try.prog 20 = true := by kernel_rfl
theorem C_l11_awake.mono {args : List Value} {h : Hp} {K K' : Kont} (a : C_l11_awake args h K) (hk : ∀ v h', K v h' → K' v h') : C_l11_awake args h K' := AC.mono a hk
@[congr] theorem C_l11_awake_cg {l l' : List Value} {h h' : Hp} {K : Kont} (el : l = l') (eh : h = h') : C_l11_awake l h K = C_l11_awake l' h' K := by subst el; subst eh; rfl
def C_accept_Acceptor_Prepare (args : List Value) (h : Hp) (K : Kont) : Prop := AC Try.prog 21 args.toArray h K
theorem ent_accept_Acceptor_Prepare : canEnter Try.prog 21 = true := by kernel_rfl
theorem C_accept_Acceptor_Prepare.mono {args : List Value} {h : Hp} {K K' : Kont} (a : C_accept_Acceptor_Prepare args h K) (hk : ∀ v h', K v h' → K' v h') : C_accept_Acceptor_Prepare args h K' := AC.mono a hk
@[congr] theorem C_accept_Acceptor_Prepare_cg {l l' : List Value} {h h' : Hp} {K : Kont} (el : l = l') (eh : h = h') : C_accept_Acceptor_Prepare l h K = C_accept_Acceptor_Prepare l' h' K := by subst el; subst eh; rfl
def C_accept_Acceptor_Accept (args : List Value) (h : Hp) (K : Kont) : Prop := AC Try.prog 22 args.toArray h K
theorem ent_accept_Acceptor_Accept : canEnter Try.prog 22 = true := by kernel_rfl
theorem C_accept_Acceptor_Accept.mono {args : List Value} {h : Hp} {K K' : Kont} (a : C_accept_Acceptor_Accept args h K) (hk : ∀ v h', K v h' → K' v h') : C_accept_Acceptor_Accept args h K' := AC.mono a hk
@[congr] theorem C_accept_Acceptor_Accept_cg {l l' : List Value} {h h' : Hp} {K : Kont} (el : l = l') (eh : h = h') : C_accept_Acceptor_Accept l h K = C_accept_Acceptor_Accept l' h' K := by subst el; subst eh; rfl
def C_accept_Best (args : List Value) (h : Hp) (K : Kont) : Prop := AC Try.prog 23 args.toArray h K
theorem ent_accept_Best : canEnter Try.prog 23 = true := by kernel_rfl
theorem C_accept_Best.mono {args : List Value} {h : Hp} {K K' : Kont} (a : C_accept_Best args h K) (hk : ∀ v h', K v h' → K' v h') : C_accept_Best args h K' := AC.mono a hk
@[congr] theorem C_accept_Best_cg {l l' : List Value} {h h' : Hp} {K : Kont} (el : l = l') (eh : h = h') : C_accept_Best l h K = C_accept_Best l' h' K := by subst el; subst eh; rfl
def C_r11_Best (args : List Value) (h : Hp) (K : Kont) : Prop := AC Try.prog 24 args.toArray h K
theorem ent_r11_Best : canEnter Try.prog 24 = true := by kernel_rfl
theorem C_r11_Best.mono {args : List Value} {h : Hp} {K K' : Kont} (a : C_r11_Best args h K) (hk : ∀ v h', K v h' → K' v h') : C_r11_Best args h K' := AC.mono a hk
@[congr] theorem C_r11_Best_cg {l l' : List Value} {h h' : Hp} {K : Kont} (el : l = l') (eh : h = h') : C_r11_Best l h K = C_r11_Best l' h' K := by subst el; subst eh; rfl
def C_r13_Right (args : List Value) (h : Hp) (K : Kont) : Prop := AC Try.prog 25 args.toArray h K
theorem ent_r13_Right : canEnter Try.prog 25 = true := by kernel_rfl
theorem C_r13_Right.mono {args : List Value} {h : Hp} {K K' : Kont} (a : C_r13_Right args h K) (hk : ∀ v h', K v h' → K' v h') : C_r13_Right args h K' := AC.mono a hk
@[congr] theorem C_r13_Right_cg {l l' : List Value} {h h' : Hp} {K : Kont} (el : l = l') (eh : h = h') : C_r13_Right l h K = C_r13_Right l' h' K := by subst el; subst eh; rfl
def C_l13_awake (args : List Value) (h : Hp) (K : Kont) : Prop := AC Try.prog 26 args.toArray h K
theorem ent_l13_awake : canEnter Try.prog 26 = true := by kernel_rfl
theorem C_l13_awake.mono {args : List Value} {h : Hp} {K K' : Kont} (a : C_l13_awake args h K) (hk : ∀ v h', K v h' → K' v h') : C_l13_awake args h K' := AC.mono a hk
@[congr] theorem C_l13_awake_cg {l l' : List Value} {h h' : Hp} {K : Kont} (el : l = l') (eh : h = h') : C_l13_awake l h K = C_l13_awake l' h' K := by subst el; subst eh; rfl
def C_lead_New (args : List Value) (h : Hp) (K : Kont) : Prop := AC Try.prog 27 args.toArray h K
theorem ent_lead_New : canEnter Try.prog 27 = true := by kernel_rfl
theorem C_lead_New.mono {args : List Value} {h : Hp} {K K' : Kont} (a : C_lead_New args h K) (hk : ∀ v h', K v h' → K' v h') : C_lead_New args h K' := AC.mono a hk
@[congr] theorem C_lead_New_cg {l l' : List Value} {h h' : Hp} {K : Kont} (el : l = l') (eh : h = h') : C_lead_New l h K = C_lead_New l' h' K := by subst el; subst eh; rfl
def C_lead_Lead_Start (args : List Value) (h : Hp) (K : Kont) : Prop := AC Try.prog 28 args.toArray h K
theorem ent_lead_Lead_Start : canEnter Try.prog 28 = true := by kernel_rfl
theorem C_lead_Lead_Start.mono {args : List Value} {h : Hp} {K K' : Kont} (a : C_lead_Lead_Start args h K) (hk : ∀ v h', K v h' → K' v h') : C_lead_Lead_Start args h K' := AC.mono a hk
@[congr] theorem C_lead_Lead_Start_cg {l l' : List Value} {h h' : Hp} {K : Kont} (el : l = l') (eh : h = h') : C_lead_Lead_Start l h K = C_lead_Lead_Start l' h' K := by subst el; subst eh; rfl
def C_lead_Lead_Promise (args : List Value) (h : Hp) (K : Kont) : Prop := AC Try.prog 29 args.toArray h K
theorem ent_lead_Lead_Promise : canEnter Try.prog 29 = true := by kernel_rfl
theorem C_lead_Lead_Promise.mono {args : List Value} {h : Hp} {K K' : Kont} (a : C_lead_Lead_Promise args h K) (hk : ∀ v h', K v h' → K' v h') : C_lead_Lead_Promise args h K' := AC.mono a hk
@[congr] theorem C_lead_Lead_Promise_cg {l l' : List Value} {h h' : Hp} {K : Kont} (el : l = l') (eh : h = h') : C_lead_Lead_Promise l h K = C_lead_Lead_Promise l' h' K := by subst el; subst eh; rfl
def C_lead_Lead_Next (args : List Value) (h : Hp) (K : Kont) : Prop := AC Try.prog 30 args.toArray h K
theorem ent_lead_Lead_Next : canEnter Try.prog 30 = true := by kernel_rfl
theorem C_lead_Lead_Next.mono {args : List Value} {h : Hp} {K K' : Kont} (a : C_lead_Lead_Next args h K) (hk : ∀ v h', K v h' → K' v h') : C_lead_Lead_Next args h K' := AC.mono a hk
@[congr] theorem C_lead_Lead_Next_cg {l l' : List Value} {h h' : Hp} {K : Kont} (el : l = l') (eh : h = h') : C_lead_Lead_Next l h K = C_lead_Lead_Next l' h' K := by subst el; subst eh; rfl
def C_lead_Lead_Propose (args : List Value) (h : Hp) (K : Kont) : Prop := AC Try.prog 31 args.toArray h K
theorem ent_lead_Lead_Propose : canEnter Try.prog 31 = true := by kernel_rfl
theorem C_lead_Lead_Propose.mono {args : List Value} {h : Hp} {K K' : Kont} (a : C_lead_Lead_Propose args h K) (hk : ∀ v h', K v h' → K' v h') : C_lead_Lead_Propose args h K' := AC.mono a hk
@[congr] theorem C_lead_Lead_Propose_cg {l l' : List Value} {h h' : Hp} {K : Kont} (el : l = l') (eh : h = h') : C_lead_Lead_Propose l h K = C_lead_Lead_Propose l' h' K := by subst el; subst eh; rfl
def C_lead_Lead_Accepted (args : List Value) (h : Hp) (K : Kont) : Prop := AC Try.prog 32 args.toArray h K
theorem ent_lead_Lead_Accepted : canEnter Try.prog 32 = true := by kernel_rfl
theorem C_lead_Lead_Accepted.mono {args : List Value} {h : Hp} {K K' : Kont} (a : C_lead_Lead_Accepted args h K) (hk : ∀ v h', K v h' → K' v h') : C_lead_Lead_Accepted args h K' := AC.mono a hk
@[congr] theorem C_lead_Lead_Accepted_cg {l l' : List Value} {h h' : Hp} {K : Kont} (el : l = l') (eh : h = h') : C_lead_Lead_Accepted l h K = C_lead_Lead_Accepted l' h' K := by subst el; subst eh; rfl
def C_lead_Lead_Open (args : List Value) (h : Hp) (K : Kont) : Prop := AC Try.prog 33 args.toArray h K
theorem ent_lead_Lead_Open : canEnter Try.prog 33 = true := by kernel_rfl
theorem C_lead_Lead_Open.mono {args : List Value} {h : Hp} {K K' : Kont} (a : C_lead_Lead_Open args h K) (hk : ∀ v h', K v h' → K' v h') : C_lead_Lead_Open args h K' := AC.mono a hk
@[congr] theorem C_lead_Lead_Open_cg {l l' : List Value} {h h' : Hp} {K : Kont} (el : l = l') (eh : h = h') : C_lead_Lead_Open l h K = C_lead_Lead_Open l' h' K := by subst el; subst eh; rfl
def C_l13_step (args : List Value) (h : Hp) (K : Kont) : Prop := AC Try.prog 34 args.toArray h K
theorem ent_l13_step : canEnter Try.prog 34 = true := by kernel_rfl
theorem C_l13_step.mono {args : List Value} {h : Hp} {K K' : Kont} (a : C_l13_step args h K) (hk : ∀ v h', K v h' → K' v h') : C_l13_step args h K' := AC.mono a hk
@[congr] theorem C_l13_step_cg {l l' : List Value} {h h' : Hp} {K : Kont} (el : l = l') (eh : h = h') : C_l13_step l h K = C_l13_step l' h' K := by subst el; subst eh; rfl
def C_lead_Lead_State (args : List Value) (h : Hp) (K : Kont) : Prop := AC Try.prog 35 args.toArray h K
theorem ent_lead_Lead_State : canEnter Try.prog 35 = true := by kernel_rfl
theorem C_lead_Lead_State.mono {args : List Value} {h : Hp} {K K' : Kont} (a : C_lead_Lead_State args h K) (hk : ∀ v h', K v h' → K' v h') : C_lead_Lead_State args h K' := AC.mono a hk
@[congr] theorem C_lead_Lead_State_cg {l l' : List Value} {h h' : Hp} {K : Kont} (el : l = l') (eh : h = h') : C_lead_Lead_State l h K = C_lead_Lead_State l' h' K := by subst el; subst eh; rfl
def C_lead_Lead_Ballot (args : List Value) (h : Hp) (K : Kont) : Prop := AC Try.prog 36 args.toArray h K
theorem ent_lead_Lead_Ballot : canEnter Try.prog 36 = true := by kernel_rfl
theorem C_lead_Lead_Ballot.mono {args : List Value} {h : Hp} {K K' : Kont} (a : C_lead_Lead_Ballot args h K) (hk : ∀ v h', K v h' → K' v h') : C_lead_Lead_Ballot args h K' := AC.mono a hk
@[congr] theorem C_lead_Lead_Ballot_cg {l l' : List Value} {h h' : Hp} {K : Kont} (el : l = l') (eh : h = h') : C_lead_Lead_Ballot l h K = C_lead_Lead_Ballot l' h' K := by subst el; subst eh; rfl
def C_lead_Lead_From (args : List Value) (h : Hp) (K : Kont) : Prop := AC Try.prog 37 args.toArray h K
theorem ent_lead_Lead_From : canEnter Try.prog 37 = true := by kernel_rfl
theorem C_lead_Lead_From.mono {args : List Value} {h : Hp} {K K' : Kont} (a : C_lead_Lead_From args h K) (hk : ∀ v h', K v h' → K' v h') : C_lead_Lead_From args h K' := AC.mono a hk
@[congr] theorem C_lead_Lead_From_cg {l l' : List Value} {h h' : Hp} {K : Kont} (el : l = l') (eh : h = h') : C_lead_Lead_From l h K = C_lead_Lead_From l' h' K := by subst el; subst eh; rfl
def C_r13_Open (args : List Value) (h : Hp) (K : Kont) : Prop := AC Try.prog 38 args.toArray h K
theorem ent_r13_Open : canEnter Try.prog 38 = true := by kernel_rfl
theorem C_r13_Open.mono {args : List Value} {h : Hp} {K K' : Kont} (a : C_r13_Open args h K) (hk : ∀ v h', K v h' → K' v h') : C_r13_Open args h K' := AC.mono a hk
@[congr] theorem C_r13_Open_cg {l l' : List Value} {h h' : Hp} {K : Kont} (el : l = l') (eh : h = h') : C_r13_Open l h K = C_r13_Open l' h' K := by subst el; subst eh; rfl
def C_lead_Lead_Refuse (args : List Value) (h : Hp) (K : Kont) : Prop := AC Try.prog 39 args.toArray h K
theorem ent_lead_Lead_Refuse : canEnter Try.prog 39 = true := by kernel_rfl
theorem C_lead_Lead_Refuse.mono {args : List Value} {h : Hp} {K K' : Kont} (a : C_lead_Lead_Refuse args h K) (hk : ∀ v h', K v h' → K' v h') : C_lead_Lead_Refuse args h K' := AC.mono a hk
@[congr] theorem C_lead_Lead_Refuse_cg {l l' : List Value} {h h' : Hp} {K : Kont} (el : l = l') (eh : h = h') : C_lead_Lead_Refuse l h K = C_lead_Lead_Refuse l' h' K := by subst el; subst eh; rfl
def C_l13_Talk_hear (args : List Value) (h : Hp) (K : Kont) : Prop := AC Try.prog 40 args.toArray h K
theorem ent_l13_Talk_hear : canEnter Try.prog 40 = true := by kernel_rfl
theorem C_l13_Talk_hear.mono {args : List Value} {h : Hp} {K K' : Kont} (a : C_l13_Talk_hear args h K) (hk : ∀ v h', K v h' → K' v h') : C_l13_Talk_hear args h K' := AC.mono a hk
@[congr] theorem C_l13_Talk_hear_cg {l l' : List Value} {h h' : Hp} {K : Kont} (el : l = l') (eh : h = h') : C_l13_Talk_hear l h K = C_l13_Talk_hear l' h' K := by subst el; subst eh; rfl
def C_l13_Talk_toAll (args : List Value) (h : Hp) (K : Kont) : Prop := AC Try.prog 41 args.toArray h K
theorem ent_l13_Talk_toAll : canEnter Try.prog 41 = true := by kernel_rfl
theorem C_l13_Talk_toAll.mono {args : List Value} {h : Hp} {K K' : Kont} (a : C_l13_Talk_toAll args h K) (hk : ∀ v h', K v h' → K' v h') : C_l13_Talk_toAll args h K' := AC.mono a hk
@[congr] theorem C_l13_Talk_toAll_cg {l l' : List Value} {h h' : Hp} {K : Kont} (el : l = l') (eh : h = h') : C_l13_Talk_toAll l h K = C_l13_Talk_toAll l' h' K := by subst el; subst eh; rfl
def C_r11_Prepare (args : List Value) (h : Hp) (K : Kont) : Prop := AC Try.prog 42 args.toArray h K
theorem ent_r11_Prepare : canEnter Try.prog 42 = true := by kernel_rfl
theorem C_r11_Prepare.mono {args : List Value} {h : Hp} {K K' : Kont} (a : C_r11_Prepare args h K) (hk : ∀ v h', K v h' → K' v h') : C_r11_Prepare args h K' := AC.mono a hk
@[congr] theorem C_r11_Prepare_cg {l l' : List Value} {h h' : Hp} {K : Kont} (el : l = l') (eh : h = h') : C_r11_Prepare l h K = C_r11_Prepare l' h' K := by subst el; subst eh; rfl
def C_r11_Accept (args : List Value) (h : Hp) (K : Kont) : Prop := AC Try.prog 43 args.toArray h K
theorem ent_r11_Accept : canEnter Try.prog 43 = true := by kernel_rfl
theorem C_r11_Accept.mono {args : List Value} {h : Hp} {K K' : Kont} (a : C_r11_Accept args h K) (hk : ∀ v h', K v h' → K' v h') : C_r11_Accept args h K' := AC.mono a hk
@[congr] theorem C_r11_Accept_cg {l l' : List Value} {h h' : Hp} {K : Kont} (el : l = l') (eh : h = h') : C_r11_Accept l h K = C_r11_Accept l' h' K := by subst el; subst eh; rfl
def C_accept_rising (args : List Value) (h : Hp) (K : Kont) : Prop := AC Try.prog 44 args.toArray h K
theorem ent_accept_rising : canEnter Try.prog 44 = true := by kernel_rfl
theorem C_accept_rising.mono {args : List Value} {h : Hp} {K K' : Kont} (a : C_accept_rising args h K) (hk : ∀ v h', K v h' → K' v h') : C_accept_rising args h K' := AC.mono a hk
@[congr] theorem C_accept_rising_cg {l l' : List Value} {h h' : Hp} {K : Kont} (el : l = l') (eh : h = h') : C_accept_rising l h K = C_accept_rising l' h' K := by subst el; subst eh; rfl
def C_ballot_Is (args : List Value) (h : Hp) (K : Kont) : Prop := AC Try.prog 45 args.toArray h K
theorem ent_ballot_Is : canEnter Try.prog 45 = true := by kernel_rfl
theorem C_ballot_Is.mono {args : List Value} {h : Hp} {K K' : Kont} (a : C_ballot_Is args h K) (hk : ∀ v h', K v h' → K' v h') : C_ballot_Is args h K' := AC.mono a hk
@[congr] theorem C_ballot_Is_cg {l l' : List Value} {h h' : Hp} {K : Kont} (el : l = l') (eh : h = h') : C_ballot_Is l h K = C_ballot_Is l' h' K := by subst el; subst eh; rfl
def C_cmds_Check (args : List Value) (h : Hp) (K : Kont) : Prop := AC Try.prog 46 args.toArray h K
theorem ent_cmds_Check : canEnter Try.prog 46 = true := by kernel_rfl
theorem C_cmds_Check.mono {args : List Value} {h : Hp} {K K' : Kont} (a : C_cmds_Check args h K) (hk : ∀ v h', K v h' → K' v h') : C_cmds_Check args h K' := AC.mono a hk
@[congr] theorem C_cmds_Check_cg {l l' : List Value} {h h' : Hp} {K : Kont} (el : l = l') (eh : h = h') : C_cmds_Check l h K = C_cmds_Check l' h' K := by subst el; subst eh; rfl
def C_slices_Min_Sint_int (args : List Value) (h : Hp) (K : Kont) : Prop := AC Try.prog 47 args.toArray h K
theorem ent_slices_Min_Sint_int : canEnter Try.prog 47 = true := by kernel_rfl
theorem C_slices_Min_Sint_int.mono {args : List Value} {h : Hp} {K K' : Kont} (a : C_slices_Min_Sint_int args h K) (hk : ∀ v h', K v h' → K' v h') : C_slices_Min_Sint_int args h K' := AC.mono a hk
@[congr] theorem C_slices_Min_Sint_int_cg {l l' : List Value} {h h' : Hp} {K : Kont} (el : l = l') (eh : h = h') : C_slices_Min_Sint_int l h K = C_slices_Min_Sint_int l' h' K := by subst el; subst eh; rfl
def C_slices_Collect_int (args : List Value) (h : Hp) (K : Kont) : Prop := AC Try.prog 48 args.toArray h K
theorem ent_slices_Collect_int : canEnter Try.prog 48 = true := by kernel_rfl
theorem C_slices_Collect_int.mono {args : List Value} {h : Hp} {K K' : Kont} (a : C_slices_Collect_int args h K) (hk : ∀ v h', K v h' → K' v h') : C_slices_Collect_int args h K' := AC.mono a hk
@[congr] theorem C_slices_Collect_int_cg {l l' : List Value} {h h' : Hp} {K : Kont} (el : l = l') (eh : h = h') : C_slices_Collect_int l h K = C_slices_Collect_int l' h' K := by subst el; subst eh; rfl
def C_maps_Keys_map_int_api_Vote_int_api_Vote (args : List Value) (h : Hp) (K : Kont) : Prop := AC Try.prog 49 args.toArray h K
theorem ent_maps_Keys_map_int_api_Vote_int_api_Vote : canEnter Try.prog 49 = true := by kernel_rfl
theorem C_maps_Keys_map_int_api_Vote_int_api_Vote.mono {args : List Value} {h : Hp} {K K' : Kont} (a : C_maps_Keys_map_int_api_Vote_int_api_Vote args h K) (hk : ∀ v h', K v h' → K' v h') : C_maps_Keys_map_int_api_Vote_int_api_Vote args h K' := AC.mono a hk
@[congr] theorem C_maps_Keys_map_int_api_Vote_int_api_Vote_cg {l l' : List Value} {h h' : Hp} {K : Kont} (el : l = l') (eh : h = h') : C_maps_Keys_map_int_api_Vote_int_api_Vote l h K = C_maps_Keys_map_int_api_Vote_int_api_Vote l' h' K := by subst el; subst eh; rfl
def C_r11_Put (args : List Value) (h : Hp) (K : Kont) : Prop := AC Try.prog 50 args.toArray h K
theorem ent_r11_Put : canEnter Try.prog 50 = true := by kernel_rfl
theorem C_r11_Put.mono {args : List Value} {h : Hp} {K K' : Kont} (a : C_r11_Put args h K) (hk : ∀ v h', K v h' → K' v h') : C_r11_Put args h K' := AC.mono a hk
@[congr] theorem C_r11_Put_cg {l l' : List Value} {h h' : Hp} {K : Kont} (el : l = l') (eh : h = h') : C_r11_Put l h K = C_r11_Put l' h' K := by subst el; subst eh; rfl
def C_ballot_Next (args : List Value) (h : Hp) (K : Kont) : Prop := AC Try.prog 51 args.toArray h K
theorem ent_ballot_Next : canEnter Try.prog 51 = true := by kernel_rfl
theorem C_ballot_Next.mono {args : List Value} {h : Hp} {K K' : Kont} (a : C_ballot_Next args h K) (hk : ∀ v h', K v h' → K' v h') : C_ballot_Next args h K' := AC.mono a hk
@[congr] theorem C_ballot_Next_cg {l l' : List Value} {h h' : Hp} {K : Kont} (el : l = l') (eh : h = h') : C_ballot_Next l h K = C_ballot_Next l' h' K := by subst el; subst eh; rfl
def C_lead_Lead_is (args : List Value) (h : Hp) (K : Kont) : Prop := AC Try.prog 52 args.toArray h K
theorem ent_lead_Lead_is : canEnter Try.prog 52 = true := by kernel_rfl
theorem C_lead_Lead_is.mono {args : List Value} {h : Hp} {K K' : Kont} (a : C_lead_Lead_is args h K) (hk : ∀ v h', K v h' → K' v h') : C_lead_Lead_is args h K' := AC.mono a hk
@[congr] theorem C_lead_Lead_is_cg {l l' : List Value} {h h' : Hp} {K : Kont} (el : l = l') (eh : h = h') : C_lead_Lead_is l h K = C_lead_Lead_is l' h' K := by subst el; subst eh; rfl
def C_lead_Lead_master (args : List Value) (h : Hp) (K : Kont) : Prop := AC Try.prog 53 args.toArray h K
theorem ent_lead_Lead_master : canEnter Try.prog 53 = true := by kernel_rfl
theorem C_lead_Lead_master.mono {args : List Value} {h : Hp} {K K' : Kont} (a : C_lead_Lead_master args h K) (hk : ∀ v h', K v h' → K' v h') : C_lead_Lead_master args h K' := AC.mono a hk
@[congr] theorem C_lead_Lead_master_cg {l l' : List Value} {h h' : Hp} {K : Kont} (el : l = l') (eh : h = h') : C_lead_Lead_master l h K = C_lead_Lead_master l' h' K := by subst el; subst eh; rfl
def C_slices_DeleteFunc_Sapi_Vote_api_Vote (args : List Value) (h : Hp) (K : Kont) : Prop := AC Try.prog 54 args.toArray h K
theorem ent_slices_DeleteFunc_Sapi_Vote_api_Vote : canEnter Try.prog 54 = true := by kernel_rfl
theorem C_slices_DeleteFunc_Sapi_Vote_api_Vote.mono {args : List Value} {h : Hp} {K K' : Kont} (a : C_slices_DeleteFunc_Sapi_Vote_api_Vote args h K) (hk : ∀ v h', K v h' → K' v h') : C_slices_DeleteFunc_Sapi_Vote_api_Vote args h K' := AC.mono a hk
@[congr] theorem C_slices_DeleteFunc_Sapi_Vote_api_Vote_cg {l l' : List Value} {h h' : Hp} {K : Kont} (el : l = l') (eh : h = h') : C_slices_DeleteFunc_Sapi_Vote_api_Vote l h K = C_slices_DeleteFunc_Sapi_Vote_api_Vote l' h' K := by subst el; subst eh; rfl
def C_slices_Clone_Sapi_Vote_api_Vote (args : List Value) (h : Hp) (K : Kont) : Prop := AC Try.prog 55 args.toArray h K
theorem ent_slices_Clone_Sapi_Vote_api_Vote : canEnter Try.prog 55 = true := by kernel_rfl
theorem C_slices_Clone_Sapi_Vote_api_Vote.mono {args : List Value} {h : Hp} {K K' : Kont} (a : C_slices_Clone_Sapi_Vote_api_Vote args h K) (hk : ∀ v h', K v h' → K' v h') : C_slices_Clone_Sapi_Vote_api_Vote args h K' := AC.mono a hk
@[congr] theorem C_slices_Clone_Sapi_Vote_api_Vote_cg {l l' : List Value} {h h' : Hp} {K : Kont} (el : l = l') (eh : h = h') : C_slices_Clone_Sapi_Vote_api_Vote l h K = C_slices_Clone_Sapi_Vote_api_Vote l' h' K := by subst el; subst eh; rfl
def C_lead_Lead_Promise_c1 (args : List Value) (h : Hp) (K : Kont) : Prop := AC Try.prog 56 args.toArray h K
theorem ent_lead_Lead_Promise_c1 : canEnter Try.prog 56 = true := by kernel_rfl
theorem C_lead_Lead_Promise_c1.mono {args : List Value} {h : Hp} {K K' : Kont} (a : C_lead_Lead_Promise_c1 args h K) (hk : ∀ v h', K v h' → K' v h') : C_lead_Lead_Promise_c1 args h K' := AC.mono a hk
@[congr] theorem C_lead_Lead_Promise_c1_cg {l l' : List Value} {h h' : Hp} {K : Kont} (el : l = l') (eh : h = h') : C_lead_Lead_Promise_c1 l h K = C_lead_Lead_Promise_c1 l' h' K := by subst el; subst eh; rfl
def C_ballot_With (args : List Value) (h : Hp) (K : Kont) : Prop := AC Try.prog 57 args.toArray h K
theorem ent_ballot_With : canEnter Try.prog 57 = true := by kernel_rfl
theorem C_ballot_With.mono {args : List Value} {h : Hp} {K K' : Kont} (a : C_ballot_With args h K) (hk : ∀ v h', K v h' → K' v h') : C_ballot_With args h K' := AC.mono a hk
@[congr] theorem C_ballot_With_cg {l l' : List Value} {h h' : Hp} {K : Kont} (el : l = l') (eh : h = h') : C_ballot_With l h K = C_ballot_With l' h' K := by subst el; subst eh; rfl
def C_maps_Keys_map_int_Sapi_Vote_int_Sapi_Vote (args : List Value) (h : Hp) (K : Kont) : Prop := AC Try.prog 58 args.toArray h K
theorem ent_maps_Keys_map_int_Sapi_Vote_int_Sapi_Vote : canEnter Try.prog 58 = true := by kernel_rfl
theorem C_maps_Keys_map_int_Sapi_Vote_int_Sapi_Vote.mono {args : List Value} {h : Hp} {K K' : Kont} (a : C_maps_Keys_map_int_Sapi_Vote_int_Sapi_Vote args h K) (hk : ∀ v h', K v h' → K' v h') : C_maps_Keys_map_int_Sapi_Vote_int_Sapi_Vote args h K' := AC.mono a hk
@[congr] theorem C_maps_Keys_map_int_Sapi_Vote_int_Sapi_Vote_cg {l l' : List Value} {h h' : Hp} {K : Kont} (el : l = l') (eh : h = h') : C_maps_Keys_map_int_Sapi_Vote_int_Sapi_Vote l h K = C_maps_Keys_map_int_Sapi_Vote_int_Sapi_Vote l' h' K := by subst el; subst eh; rfl
def C_ballot_Enough (args : List Value) (h : Hp) (K : Kont) : Prop := AC Try.prog 59 args.toArray h K
theorem ent_ballot_Enough : canEnter Try.prog 59 = true := by kernel_rfl
theorem C_ballot_Enough.mono {args : List Value} {h : Hp} {K K' : Kont} (a : C_ballot_Enough args h K) (hk : ∀ v h', K v h' → K' v h') : C_ballot_Enough args h K' := AC.mono a hk
@[congr] theorem C_ballot_Enough_cg {l l' : List Value} {h h' : Hp} {K : Kont} (el : l = l') (eh : h = h') : C_ballot_Enough l h K = C_ballot_Enough l' h' K := by subst el; subst eh; rfl
def C_lead_Lead_fill (args : List Value) (h : Hp) (K : Kont) : Prop := AC Try.prog 60 args.toArray h K
theorem ent_lead_Lead_fill : canEnter Try.prog 60 = true := by kernel_rfl
theorem C_lead_Lead_fill.mono {args : List Value} {h : Hp} {K K' : Kont} (a : C_lead_Lead_fill args h K) (hk : ∀ v h', K v h' → K' v h') : C_lead_Lead_fill args h K' := AC.mono a hk
@[congr] theorem C_lead_Lead_fill_cg {l l' : List Value} {h h' : Hp} {K : Kont} (el : l = l') (eh : h = h') : C_lead_Lead_fill l h K = C_lead_Lead_fill l' h' K := by subst el; subst eh; rfl
def C_lead_Lead_proposed (args : List Value) (h : Hp) (K : Kont) : Prop := AC Try.prog 61 args.toArray h K
theorem ent_lead_Lead_proposed : canEnter Try.prog 61 = true := by kernel_rfl
theorem C_lead_Lead_proposed.mono {args : List Value} {h : Hp} {K K' : Kont} (a : C_lead_Lead_proposed args h K) (hk : ∀ v h', K v h' → K' v h') : C_lead_Lead_proposed args h K' := AC.mono a hk
@[congr] theorem C_lead_Lead_proposed_cg {l l' : List Value} {h h' : Hp} {K : Kont} (el : l = l') (eh : h = h') : C_lead_Lead_proposed l h K = C_lead_Lead_proposed l' h' K := by subst el; subst eh; rfl
def C_lead_Lead_vote (args : List Value) (h : Hp) (K : Kont) : Prop := AC Try.prog 62 args.toArray h K
theorem ent_lead_Lead_vote : canEnter Try.prog 62 = true := by kernel_rfl
theorem C_lead_Lead_vote.mono {args : List Value} {h : Hp} {K K' : Kont} (a : C_lead_Lead_vote args h K) (hk : ∀ v h', K v h' → K' v h') : C_lead_Lead_vote args h K' := AC.mono a hk
@[congr] theorem C_lead_Lead_vote_cg {l l' : List Value} {h h' : Hp} {K : Kont} (el : l = l') (eh : h = h') : C_lead_Lead_vote l h K = C_lead_Lead_vote l' h' K := by subst el; subst eh; rfl
def C_lead_Lead_lay (args : List Value) (h : Hp) (K : Kont) : Prop := AC Try.prog 63 args.toArray h K
theorem ent_lead_Lead_lay : canEnter Try.prog 63 = true := by kernel_rfl
theorem C_lead_Lead_lay.mono {args : List Value} {h : Hp} {K K' : Kont} (a : C_lead_Lead_lay args h K) (hk : ∀ v h', K v h' → K' v h') : C_lead_Lead_lay args h K' := AC.mono a hk
@[congr] theorem C_lead_Lead_lay_cg {l l' : List Value} {h h' : Hp} {K : Kont} (el : l = l') (eh : h = h') : C_lead_Lead_lay l h K = C_lead_Lead_lay l' h' K := by subst el; subst eh; rfl
def C_slices_Sorted_int (args : List Value) (h : Hp) (K : Kont) : Prop := AC Try.prog 64 args.toArray h K
theorem ent_slices_Sorted_int : canEnter Try.prog 64 = true := by kernel_rfl
theorem C_slices_Sorted_int.mono {args : List Value} {h : Hp} {K K' : Kont} (a : C_slices_Sorted_int args h K) (hk : ∀ v h', K v h' → K' v h') : C_slices_Sorted_int args h K' := AC.mono a hk
@[congr] theorem C_slices_Sorted_int_cg {l l' : List Value} {h h' : Hp} {K : Kont} (el : l = l') (eh : h = h') : C_slices_Sorted_int l h K = C_slices_Sorted_int l' h' K := by subst el; subst eh; rfl
def C_maps_Keys_map_int_lead_proposal_int_lead_proposal (args : List Value) (h : Hp) (K : Kont) : Prop := AC Try.prog 65 args.toArray h K
theorem ent_maps_Keys_map_int_lead_proposal_int_lead_proposal : canEnter Try.prog 65 = true := by kernel_rfl
theorem C_maps_Keys_map_int_lead_proposal_int_lead_proposal.mono {args : List Value} {h : Hp} {K K' : Kont} (a : C_maps_Keys_map_int_lead_proposal_int_lead_proposal args h K) (hk : ∀ v h', K v h' → K' v h') : C_maps_Keys_map_int_lead_proposal_int_lead_proposal args h K' := AC.mono a hk
@[congr] theorem C_maps_Keys_map_int_lead_proposal_int_lead_proposal_cg {l l' : List Value} {h h' : Hp} {K : Kont} (el : l = l') (eh : h = h') : C_maps_Keys_map_int_lead_proposal_int_lead_proposal l h K = C_maps_Keys_map_int_lead_proposal_int_lead_proposal l' h' K := by subst el; subst eh; rfl
def C_r13_Start (args : List Value) (h : Hp) (K : Kont) : Prop := AC Try.prog 66 args.toArray h K
theorem ent_r13_Start : canEnter Try.prog 66 = true := by kernel_rfl
theorem C_r13_Start.mono {args : List Value} {h : Hp} {K K' : Kont} (a : C_r13_Start args h K) (hk : ∀ v h', K v h' → K' v h') : C_r13_Start args h K' := AC.mono a hk
@[congr] theorem C_r13_Start_cg {l l' : List Value} {h h' : Hp} {K : Kont} (el : l = l') (eh : h = h') : C_r13_Start l h K = C_r13_Start l' h' K := by subst el; subst eh; rfl
def C_r13_Promise (args : List Value) (h : Hp) (K : Kont) : Prop := AC Try.prog 67 args.toArray h K
theorem ent_r13_Promise : canEnter Try.prog 67 = true := by kernel_rfl
theorem C_r13_Promise.mono {args : List Value} {h : Hp} {K K' : Kont} (a : C_r13_Promise args h K) (hk : ∀ v h', K v h' → K' v h') : C_r13_Promise args h K' := AC.mono a hk
@[congr] theorem C_r13_Promise_cg {l l' : List Value} {h h' : Hp} {K : Kont} (el : l = l') (eh : h = h') : C_r13_Promise l h K = C_r13_Promise l' h' K := by subst el; subst eh; rfl
def C_r13_Propose (args : List Value) (h : Hp) (K : Kont) : Prop := AC Try.prog 68 args.toArray h K
theorem ent_r13_Propose : canEnter Try.prog 68 = true := by kernel_rfl
theorem C_r13_Propose.mono {args : List Value} {h : Hp} {K K' : Kont} (a : C_r13_Propose args h K) (hk : ∀ v h', K v h' → K' v h') : C_r13_Propose args h K' := AC.mono a hk
@[congr] theorem C_r13_Propose_cg {l l' : List Value} {h h' : Hp} {K : Kont} (el : l = l') (eh : h = h') : C_r13_Propose l h K = C_r13_Propose l' h' K := by subst el; subst eh; rfl
def C_r13_Accepted (args : List Value) (h : Hp) (K : Kont) : Prop := AC Try.prog 69 args.toArray h K
theorem ent_r13_Accepted : canEnter Try.prog 69 = true := by kernel_rfl
theorem C_r13_Accepted.mono {args : List Value} {h : Hp} {K K' : Kont} (a : C_r13_Accepted args h K) (hk : ∀ v h', K v h' → K' v h') : C_r13_Accepted args h K' := AC.mono a hk
@[congr] theorem C_r13_Accepted_cg {l l' : List Value} {h h' : Hp} {K : Kont} (el : l = l') (eh : h = h') : C_r13_Accepted l h K = C_r13_Accepted l' h' K := by subst el; subst eh; rfl
def C_r13_Refuse (args : List Value) (h : Hp) (K : Kont) : Prop := AC Try.prog 70 args.toArray h K
theorem ent_r13_Refuse : canEnter Try.prog 70 = true := by kernel_rfl
theorem C_r13_Refuse.mono {args : List Value} {h : Hp} {K K' : Kont} (a : C_r13_Refuse args h K) (hk : ∀ v h', K v h' → K' v h') : C_r13_Refuse args h K' := AC.mono a hk
@[congr] theorem C_r13_Refuse_cg {l l' : List Value} {h h' : Hp} {K : Kont} (el : l = l') (eh : h = h') : C_r13_Refuse l h K = C_r13_Refuse l' h' K := by subst el; subst eh; rfl
def C_l13_Talk_choose (args : List Value) (h : Hp) (K : Kont) : Prop := AC Try.prog 71 args.toArray h K
theorem ent_l13_Talk_choose : canEnter Try.prog 71 = true := by kernel_rfl
theorem C_l13_Talk_choose.mono {args : List Value} {h : Hp} {K K' : Kont} (a : C_l13_Talk_choose args h K) (hk : ∀ v h', K v h' → K' v h') : C_l13_Talk_choose args h K' := AC.mono a hk
@[congr] theorem C_l13_Talk_choose_cg {l l' : List Value} {h h' : Hp} {K : Kont} (el : l = l') (eh : h = h') : C_l13_Talk_choose l h K = C_l13_Talk_choose l' h' K := by subst el; subst eh; rfl
def C_r07_Is (args : List Value) (h : Hp) (K : Kont) : Prop := AC Try.prog 72 args.toArray h K
theorem ent_r07_Is : canEnter Try.prog 72 = true := by kernel_rfl
theorem C_r07_Is.mono {args : List Value} {h : Hp} {K K' : Kont} (a : C_r07_Is args h K) (hk : ∀ v h', K v h' → K' v h') : C_r07_Is args h K' := AC.mono a hk
@[congr] theorem C_r07_Is_cg {l l' : List Value} {h h' : Hp} {K : Kont} (el : l = l') (eh : h = h') : C_r07_Is l h K = C_r07_Is l' h' K := by subst el; subst eh; rfl
def C_r08_Check (args : List Value) (h : Hp) (K : Kont) : Prop := AC Try.prog 73 args.toArray h K
theorem ent_r08_Check : canEnter Try.prog 73 = true := by kernel_rfl
theorem C_r08_Check.mono {args : List Value} {h : Hp} {K K' : Kont} (a : C_r08_Check args h K) (hk : ∀ v h', K v h' → K' v h') : C_r08_Check args h K' := AC.mono a hk
@[congr] theorem C_r08_Check_cg {l l' : List Value} {h h' : Hp} {K : Kont} (el : l = l') (eh : h = h') : C_r08_Check l h K = C_r08_Check l' h' K := by subst el; subst eh; rfl
def C_ballot_master (args : List Value) (h : Hp) (K : Kont) : Prop := AC Try.prog 74 args.toArray h K
theorem ent_ballot_master : canEnter Try.prog 74 = true := by kernel_rfl
theorem C_ballot_master.mono {args : List Value} {h : Hp} {K K' : Kont} (a : C_ballot_master args h K) (hk : ∀ v h', K v h' → K' v h') : C_ballot_master args h K' := AC.mono a hk
@[congr] theorem C_ballot_master_cg {l l' : List Value} {h h' : Hp} {K : Kont} (el : l = l') (eh : h = h') : C_ballot_master l h K = C_ballot_master l' h' K := by subst el; subst eh; rfl
def C_ballot_Of (args : List Value) (h : Hp) (K : Kont) : Prop := AC Try.prog 77 args.toArray h K
theorem ent_ballot_Of : canEnter Try.prog 77 = true := by kernel_rfl
theorem C_ballot_Of.mono {args : List Value} {h : Hp} {K K' : Kont} (a : C_ballot_Of args h K) (hk : ∀ v h', K v h' → K' v h') : C_ballot_Of args h K' := AC.mono a hk
@[congr] theorem C_ballot_Of_cg {l l' : List Value} {h h' : Hp} {K : Kont} (el : l = l') (eh : h = h') : C_ballot_Of l h K = C_ballot_Of l' h' K := by subst el; subst eh; rfl
def C_slices_IndexFunc_Sapi_Vote_api_Vote (args : List Value) (h : Hp) (K : Kont) : Prop := AC Try.prog 78 args.toArray h K
theorem ent_slices_IndexFunc_Sapi_Vote_api_Vote : canEnter Try.prog 78 = true := by kernel_rfl
theorem C_slices_IndexFunc_Sapi_Vote_api_Vote.mono {args : List Value} {h : Hp} {K K' : Kont} (a : C_slices_IndexFunc_Sapi_Vote_api_Vote args h K) (hk : ∀ v h', K v h' → K' v h') : C_slices_IndexFunc_Sapi_Vote_api_Vote args h K' := AC.mono a hk
@[congr] theorem C_slices_IndexFunc_Sapi_Vote_api_Vote_cg {l l' : List Value} {h h' : Hp} {K : Kont} (el : l = l') (eh : h = h') : C_slices_IndexFunc_Sapi_Vote_api_Vote l h K = C_slices_IndexFunc_Sapi_Vote_api_Vote l' h' K := by subst el; subst eh; rfl
def C_ballot_member (args : List Value) (h : Hp) (K : Kont) : Prop := AC Try.prog 79 args.toArray h K
theorem ent_ballot_member : canEnter Try.prog 79 = true := by kernel_rfl
theorem C_ballot_member.mono {args : List Value} {h : Hp} {K K' : Kont} (a : C_ballot_member args h K) (hk : ∀ v h', K v h' → K' v h') : C_ballot_member args h K' := AC.mono a hk
@[congr] theorem C_ballot_member_cg {l l' : List Value} {h h' : Hp} {K : Kont} (el : l = l') (eh : h = h') : C_ballot_member l h K = C_ballot_member l' h' K := by subst el; subst eh; rfl
def C_ballot_Count (args : List Value) (h : Hp) (K : Kont) : Prop := AC Try.prog 81 args.toArray h K
theorem ent_ballot_Count : canEnter Try.prog 81 = true := by kernel_rfl
theorem C_ballot_Count.mono {args : List Value} {h : Hp} {K K' : Kont} (a : C_ballot_Count args h K) (hk : ∀ v h', K v h' → K' v h') : C_ballot_Count args h K' := AC.mono a hk
@[congr] theorem C_ballot_Count_cg {l l' : List Value} {h h' : Hp} {K : Kont} (el : l = l') (eh : h = h') : C_ballot_Count l h K = C_ballot_Count l' h' K := by subst el; subst eh; rfl
def C_ballot_Quorum (args : List Value) (h : Hp) (K : Kont) : Prop := AC Try.prog 82 args.toArray h K
theorem ent_ballot_Quorum : canEnter Try.prog 82 = true := by kernel_rfl
theorem C_ballot_Quorum.mono {args : List Value} {h : Hp} {K K' : Kont} (a : C_ballot_Quorum args h K) (hk : ∀ v h', K v h' → K' v h') : C_ballot_Quorum args h K' := AC.mono a hk
@[congr] theorem C_ballot_Quorum_cg {l l' : List Value} {h h' : Hp} {K : Kont} (el : l = l') (eh : h = h') : C_ballot_Quorum l h K = C_ballot_Quorum l' h' K := by subst el; subst eh; rfl
def C_lead_Lead_all (args : List Value) (h : Hp) (K : Kont) : Prop := AC Try.prog 83 args.toArray h K
theorem ent_lead_Lead_all : canEnter Try.prog 83 = true := by kernel_rfl
theorem C_lead_Lead_all.mono {args : List Value} {h : Hp} {K K' : Kont} (a : C_lead_Lead_all args h K) (hk : ∀ v h', K v h' → K' v h') : C_lead_Lead_all args h K' := AC.mono a hk
@[congr] theorem C_lead_Lead_all_cg {l l' : List Value} {h h' : Hp} {K : Kont} (el : l = l') (eh : h = h') : C_lead_Lead_all l h K = C_lead_Lead_all l' h' K := by subst el; subst eh; rfl
def C_slices_ContainsFunc_Sapi_Vote_api_Vote (args : List Value) (h : Hp) (K : Kont) : Prop := AC Try.prog 84 args.toArray h K
theorem ent_slices_ContainsFunc_Sapi_Vote_api_Vote : canEnter Try.prog 84 = true := by kernel_rfl
theorem C_slices_ContainsFunc_Sapi_Vote_api_Vote.mono {args : List Value} {h : Hp} {K K' : Kont} (a : C_slices_ContainsFunc_Sapi_Vote_api_Vote args h K) (hk : ∀ v h', K v h' → K' v h') : C_slices_ContainsFunc_Sapi_Vote_api_Vote args h K' := AC.mono a hk
@[congr] theorem C_slices_ContainsFunc_Sapi_Vote_api_Vote_cg {l l' : List Value} {h h' : Hp} {K : Kont} (el : l = l') (eh : h = h') : C_slices_ContainsFunc_Sapi_Vote_api_Vote l h K = C_slices_ContainsFunc_Sapi_Vote_api_Vote l' h' K := by subst el; subst eh; rfl
def C_lead_Lead_proposed_c1 (args : List Value) (h : Hp) (K : Kont) : Prop := AC Try.prog 85 args.toArray h K
theorem ent_lead_Lead_proposed_c1 : canEnter Try.prog 85 = true := by kernel_rfl
theorem C_lead_Lead_proposed_c1.mono {args : List Value} {h : Hp} {K K' : Kont} (a : C_lead_Lead_proposed_c1 args h K) (hk : ∀ v h', K v h' → K' v h') : C_lead_Lead_proposed_c1 args h K' := AC.mono a hk
@[congr] theorem C_lead_Lead_proposed_c1_cg {l l' : List Value} {h h' : Hp} {K : Kont} (el : l = l') (eh : h = h') : C_lead_Lead_proposed_c1 l h K = C_lead_Lead_proposed_c1 l' h' K := by subst el; subst eh; rfl
def C_r07_Next (args : List Value) (h : Hp) (K : Kont) : Prop := AC Try.prog 88 args.toArray h K
theorem ent_r07_Next : canEnter Try.prog 88 = true := by kernel_rfl
theorem C_r07_Next.mono {args : List Value} {h : Hp} {K K' : Kont} (a : C_r07_Next args h K) (hk : ∀ v h', K v h' → K' v h') : C_r07_Next args h K' := AC.mono a hk
@[congr] theorem C_r07_Next_cg {l l' : List Value} {h h' : Hp} {K : Kont} (el : l = l') (eh : h = h') : C_r07_Next l h K = C_r07_Next l' h' K := by subst el; subst eh; rfl
def C_r04_Has (args : List Value) (h : Hp) (K : Kont) : Prop := AC Try.prog 89 args.toArray h K
theorem ent_r04_Has : canEnter Try.prog 89 = true := by kernel_rfl
theorem C_r04_Has.mono {args : List Value} {h : Hp} {K K' : Kont} (a : C_r04_Has args h K) (hk : ∀ v h', K v h' → K' v h') : C_r04_Has args h K' := AC.mono a hk
@[congr] theorem C_r04_Has_cg {l l' : List Value} {h h' : Hp} {K : Kont} (el : l = l') (eh : h = h') : C_r04_Has l h K = C_r04_Has l' h' K := by subst el; subst eh; rfl
def C_r13_enough (args : List Value) (h : Hp) (K : Kont) : Prop := AC Try.prog 90 args.toArray h K
theorem ent_r13_enough : canEnter Try.prog 90 = true := by kernel_rfl
theorem C_r13_enough.mono {args : List Value} {h : Hp} {K K' : Kont} (a : C_r13_enough args h K) (hk : ∀ v h', K v h' → K' v h') : C_r13_enough args h K' := AC.mono a hk
@[congr] theorem C_r13_enough_cg {l l' : List Value} {h h' : Hp} {K : Kont} (el : l = l') (eh : h = h') : C_r13_enough l h K = C_r13_enough l' h' K := by subst el; subst eh; rfl
def C_r13_rising (args : List Value) (h : Hp) (K : Kont) : Prop := AC Try.prog 91 args.toArray h K
theorem ent_r13_rising : canEnter Try.prog 91 = true := by kernel_rfl
theorem C_r13_rising.mono {args : List Value} {h : Hp} {K K' : Kont} (a : C_r13_rising args h K) (hk : ∀ v h', K v h' → K' v h') : C_r13_rising args h K' := AC.mono a hk
@[congr] theorem C_r13_rising_cg {l l' : List Value} {h h' : Hp} {K : Kont} (el : l = l') (eh : h = h') : C_r13_rising l h K = C_r13_rising l' h' K := by subst el; subst eh; rfl
def C_r04_With (args : List Value) (h : Hp) (K : Kont) : Prop := AC Try.prog 92 args.toArray h K
theorem ent_r04_With : canEnter Try.prog 92 = true := by kernel_rfl
theorem C_r04_With.mono {args : List Value} {h : Hp} {K K' : Kont} (a : C_r04_With args h K) (hk : ∀ v h', K v h' → K' v h') : C_r04_With args h K' := AC.mono a hk
@[congr] theorem C_r04_With_cg {l l' : List Value} {h h' : Hp} {K : Kont} (el : l = l') (eh : h = h') : C_r04_With l h K = C_r04_With l' h' K := by subst el; subst eh; rfl
def C_r07_Of (args : List Value) (h : Hp) (K : Kont) : Prop := AC Try.prog 93 args.toArray h K
theorem ent_r07_Of : canEnter Try.prog 93 = true := by kernel_rfl
theorem C_r07_Of.mono {args : List Value} {h : Hp} {K K' : Kont} (a : C_r07_Of args h K) (hk : ∀ v h', K v h' → K' v h') : C_r07_Of args h K' := AC.mono a hk
@[congr] theorem C_r07_Of_cg {l l' : List Value} {h h' : Hp} {K : Kont} (el : l = l') (eh : h = h') : C_r07_Of l h K = C_r07_Of l' h' K := by subst el; subst eh; rfl
def C_math_bits_OnesCount64 (args : List Value) (h : Hp) (K : Kont) : Prop := AC Try.prog 94 args.toArray h K
theorem ent_math_bits_OnesCount64 : canEnter Try.prog 94 = true := by kernel_rfl
theorem C_math_bits_OnesCount64.mono {args : List Value} {h : Hp} {K K' : Kont} (a : C_math_bits_OnesCount64 args h K) (hk : ∀ v h', K v h' → K' v h') : C_math_bits_OnesCount64 args h K' := AC.mono a hk
@[congr] theorem C_math_bits_OnesCount64_cg {l l' : List Value} {h h' : Hp} {K : Kont} (el : l = l') (eh : h = h') : C_math_bits_OnesCount64 l h K = C_math_bits_OnesCount64 l' h' K := by subst el; subst eh; rfl
def C_r07_Master (args : List Value) (h : Hp) (K : Kont) : Prop := AC Try.prog 97 args.toArray h K
theorem ent_r07_Master : canEnter Try.prog 97 = true := by kernel_rfl
theorem C_r07_Master.mono {args : List Value} {h : Hp} {K K' : Kont} (a : C_r07_Master args h K) (hk : ∀ v h', K v h' → K' v h') : C_r07_Master args h K' := AC.mono a hk
@[congr] theorem C_r07_Master_cg {l l' : List Value} {h h' : Hp} {K : Kont} (el : l = l') (eh : h = h') : C_r07_Master l h K = C_r07_Master l' h' K := by subst el; subst eh; rfl
def C_r07_Enough (args : List Value) (h : Hp) (K : Kont) : Prop := AC Try.prog 98 args.toArray h K
theorem ent_r07_Enough : canEnter Try.prog 98 = true := by kernel_rfl
theorem C_r07_Enough.mono {args : List Value} {h : Hp} {K K' : Kont} (a : C_r07_Enough args h K) (hk : ∀ v h', K v h' → K' v h') : C_r07_Enough args h K' := AC.mono a hk
@[congr] theorem C_r07_Enough_cg {l l' : List Value} {h h' : Hp} {K : Kont} (el : l = l') (eh : h = h') : C_r07_Enough l h K = C_r07_Enough l' h' K := by subst el; subst eh; rfl
def C_r07_Set (args : List Value) (h : Hp) (K : Kont) : Prop := AC Try.prog 99 args.toArray h K
theorem ent_r07_Set : canEnter Try.prog 99 = true := by kernel_rfl
theorem C_r07_Set.mono {args : List Value} {h : Hp} {K K' : Kont} (a : C_r07_Set args h K) (hk : ∀ v h', K v h' → K' v h') : C_r07_Set args h K' := AC.mono a hk
@[congr] theorem C_r07_Set_cg {l l' : List Value} {h h' : Hp} {K : Kont} (el : l = l') (eh : h = h') : C_r07_Set l h K = C_r07_Set l' h' K := by subst el; subst eh; rfl
def C_r07_Has (args : List Value) (h : Hp) (K : Kont) : Prop := AC Try.prog 111 args.toArray h K
theorem ent_r07_Has : canEnter Try.prog 111 = true := by kernel_rfl
theorem C_r07_Has.mono {args : List Value} {h : Hp} {K K' : Kont} (a : C_r07_Has args h K) (hk : ∀ v h', K v h' → K' v h') : C_r07_Has args h K' := AC.mono a hk
@[congr] theorem C_r07_Has_cg {l l' : List Value} {h h' : Hp} {K : Kont} (el : l = l') (eh : h = h') : C_r07_Has l h K = C_r07_Has l' h' K := by subst el; subst eh; rfl
def C_r07_Quorum (args : List Value) (h : Hp) (K : Kont) : Prop := AC Try.prog 112 args.toArray h K
theorem ent_r07_Quorum : canEnter Try.prog 112 = true := by kernel_rfl
theorem C_r07_Quorum.mono {args : List Value} {h : Hp} {K K' : Kont} (a : C_r07_Quorum args h K) (hk : ∀ v h', K v h' → K' v h') : C_r07_Quorum args h K' := AC.mono a hk
@[congr] theorem C_r07_Quorum_cg {l l' : List Value} {h h' : Hp} {K : Kont} (el : l = l') (eh : h = h') : C_r07_Quorum l h K = C_r07_Quorum l' h' K := by subst el; subst eh; rfl

end Go.Proofs.Ytdolepapmpcpiaa

/- What functions of the program ask of the seen heap (written by a program of this proof, vgen.py). -/
namespace Go.Proofs.Ytdolepapmpcpiaa
open Go
set_option linter.unusedSectionVars false
variable [Base]
set_option linter.unusedVariables false
set_option maxRecDepth 100000

end Go.Proofs.Ytdolepapmpcpiaa

/- What functions of the program ask of the seen heap (written by a program of this proof, vgen.py). -/
namespace Go.Proofs.Ytdolepapmpcpiaa
open Go
set_option linter.unusedSectionVars false
variable [Base]
set_option linter.unusedVariables false
set_option maxRecDepth 100000

/-! ### catenary/catenarylaw11.AcceptNil: function 5 -/
def O_l11_AcceptNil : Od := []
def G_l11_AcceptNil (a0 : Value) (h : Hp) (K : Kont) : Prop :=
  oBox a0 h fun t1 h1 =>
  oFieldAddr 1 t1 h1 fun t10 h2 =>
  oLd1 t10 h2 fun t11 h3 =>
  oFieldAddr 2 t1 h3 fun t12 h4 =>
  oLd1 t12 h4 fun t13 h5 =>
  C_accept_Acceptor_Prepare [(Value.pointer none), t11, t13] h5 fun t14 h6 =>
  oExtract t14 0 h6 fun t15 h7 =>
  oExtract t14 1 h7 fun t16 h8 =>
  oFieldAddr 2 t1 h8 fun t19 h9 =>
  oLd1 t19 h9 fun t20 h10 =>
  C_accept_Acceptor_Vote [(Value.pointer none), t20] h10 fun t21 h11 =>
  oExtract t21 0 h11 fun t22 h12 =>
  oExtract t21 1 h12 fun t23 h13 =>
  oAlloc #[.int .i64 0, .int .u64 0, .int .i64 0, .int .i64 0, .int .u64 0, .int .i64 0] h13 fun t6 h14 =>
  oSt 6 t6 t22 h14 fun _ h15 =>
  oLen 0 t15 h15 fun t25 h16 =>
  oBin .eql t25 (Value.int .i64 0) h16 fun t26 h17 =>
  oGuard t26 true (fun K => K t16 h17) h17 fun t28 h18 =>
  oGuard t26 true (fun K => oBin .eql t28 (Value.int .i64 2) h18 K) h18 fun t29 h19 =>
  oPick t26 t29 (Value.bool false) h19 fun t30 h20 =>
  oGuard t30 true (fun K => K (Value.pointer none) h20) h20 fun t32 h21 =>
  oGuard t30 true (fun K => oFieldAddr 1 t1 h21 K) h21 fun t33 h22 =>
  oGuard t30 true (fun K => oLd1 t33 h22 K) h22 fun t34 h23 =>
  oGuard t30 true (fun K => oFieldAddr 2 t1 h23 K) h23 fun t35 h24 =>
  oGuard t30 true (fun K => oLd1 t35 h24 K) h24 fun t36 h25 =>
  oGuard t30 true (fun K => oFieldAddr 3 t1 h25 K) h25 fun t37 h26 =>
  oGuard t30 true (fun K => oLdN 4 t37 h26 K) h26 fun t38 h27 =>
  oGuard t30 true (fun K => C_accept_Acceptor_Accept [t32, t34, t36, t38] h27 K) h27 fun t39 h28 =>
  oGuard t30 true (fun K => oBin .eql t39 (Value.int .i64 2) h28 K) h28 fun t40 h29 =>
  oPick t30 t40 (Value.bool false) h29 fun t41 h30 =>
  oGuard t41 true (fun K => K (Value.pointer none) h30) h30 fun t43 h31 =>
  oGuard t41 true (fun K => C_accept_Acceptor_Promised [t43] h31 K) h31 fun t44 h32 =>
  oGuard t41 true (fun K => oBin .eql t44 (Value.int .u64 0) h32 K) h32 fun t45 h33 =>
  oPick t41 t45 (Value.bool false) h33 fun t46 h34 =>
  oGuard t46 true (fun K => oLdN 6 t6 h34 K) h34 fun t48 h35 =>
  oGuard t46 true (fun K => oBuild #[.int .i64 0, .int .u64 0, .int .i64 0, .int .i64 0, .int .u64 0, .int .i64 0] [] h35 K) h35 fun t49 h36 =>
  oGuard t46 true (fun K => oEq 4 false (some [(0, (.int .i64)), (1, (.int .u64)), (2, (.int .i64)), (3, (.int .i64)), (4, (.int .u64)), (5, (.int .i64))]) t48 t49 h36 K) h36 fun t50 h37 =>
  oPick t46 t50 (Value.bool false) h37 fun t51 h38 =>
  oGuard t51 true (fun K => K t23 h38) h38 fun t53 h39 =>
  oGuard t51 true (fun K => oNot t53 h39 K) h39 fun t54 h40 =>
  oPick t51 t54 (Value.bool false) h40 fun t55 h41 =>
  oGuard t55 true (fun K => K (Value.pointer none) h41) h41 fun t57 h42 =>
  oGuard t55 true (fun K => oFieldAddr 2 t1 h42 K) h42 fun t58 h43 =>
  oGuard t55 true (fun K => oLd1 t58 h43 K) h43 fun t59 h44 =>
  oGuard t55 true (fun K => C_accept_Acceptor_Votes [t57, t59] h44 K) h44 fun t60 h45 =>
  oGuard t55 true (fun K => oLen 0 t60 h45 K) h45 fun t61 h46 =>
  oGuard t55 true (fun K => oBin .eql t61 (Value.int .i64 0) h46 K) h46 fun t62 h47 =>
  oPick t55 t62 (Value.bool false) h47 fun t63 h48 =>
  oGuard t63 true (fun K => K (Value.pointer none) h48) h48 fun t65 h49 =>
  oGuard t63 true (fun K => C_accept_Acceptor_Len [t65] h49 K) h49 fun t66 h50 =>
  oGuard t63 true (fun K => oBin .eql t66 (Value.int .i64 0) h50 K) h50 fun t67 h51 =>
  oPick t63 t67 (Value.bool false) h51 fun t68 h52 =>
  oGuard t68 true (fun K => C_l11_awake [] h52 K) h52 fun t70 h53 =>
  oPick t68 t70 (Value.bool false) h53 fun t71 h54 =>
  K t71 h54
def E0_l11_AcceptNil (a0 : Value) : List Value := [a0, undef, undef, undef, undef, undef, undef, undef, undef, undef, undef, undef, undef, undef, undef, undef, undef, undef, undef, undef, undef, undef, undef, undef, undef, undef, undef, undef, undef, undef, undef, undef, undef, undef, undef, undef, undef, undef, undef, undef, undef, undef, undef, undef, undef, undef, undef, undef, undef, undef, undef, undef, undef, undef, undef, undef, undef, undef, undef, undef, undef, undef, undef, undef, undef, undef, undef, undef, undef, undef, undef, undef]
def X_l11_AcceptNil (Qv : Post) (a0 : Value) (h : Hp) : Prop :=
  oBox a0 h fun t1 h1 =>
  oFieldAddr 1 t1 h1 fun t10 h2 =>
  oLd1 t10 h2 fun t11 h3 =>
  oFieldAddr 2 t1 h3 fun t12 h4 =>
  oLd1 t12 h4 fun t13 h5 =>
  C_accept_Acceptor_Prepare [(Value.pointer none), t11, t13] h5 fun t14 h6 =>
  oExtract t14 0 h6 fun t15 h7 =>
  oExtract t14 1 h7 fun t16 h8 =>
  oFieldAddr 2 t1 h8 fun t19 h9 =>
  oLd1 t19 h9 fun t20 h10 =>
  C_accept_Acceptor_Vote [(Value.pointer none), t20] h10 fun t21 h11 =>
  oExtract t21 0 h11 fun t22 h12 =>
  oExtract t21 1 h12 fun t23 h13 =>
  oAlloc #[.int .i64 0, .int .u64 0, .int .i64 0, .int .i64 0, .int .u64 0, .int .i64 0] h13 fun t6 h14 =>
  oSt 6 t6 t22 h14 fun _ h15 =>
  oLen 0 t15 h15 fun t25 h16 =>
  oBin .eql t25 (Value.int .i64 0) h16 fun t26 h17 =>
  oGuard t26 true (fun K => K t16 h17) h17 fun t28 h18 =>
  oGuard t26 true (fun K => oBin .eql t28 (Value.int .i64 2) h18 K) h18 fun t29 h19 =>
  oPick t26 t29 (Value.bool false) h19 fun t30 h20 =>
  oGuard t30 true (fun K => K (Value.pointer none) h20) h20 fun t32 h21 =>
  oGuard t30 true (fun K => oFieldAddr 1 t1 h21 K) h21 fun t33 h22 =>
  oGuard t30 true (fun K => oLd1 t33 h22 K) h22 fun t34 h23 =>
  oGuard t30 true (fun K => oFieldAddr 2 t1 h23 K) h23 fun t35 h24 =>
  oGuard t30 true (fun K => oLd1 t35 h24 K) h24 fun t36 h25 =>
  oGuard t30 true (fun K => oFieldAddr 3 t1 h25 K) h25 fun t37 h26 =>
  oGuard t30 true (fun K => oLdN 4 t37 h26 K) h26 fun t38 h27 =>
  oGuard t30 true (fun K => C_accept_Acceptor_Accept [t32, t34, t36, t38] h27 K) h27 fun t39 h28 =>
  oGuard t30 true (fun K => oBin .eql t39 (Value.int .i64 2) h28 K) h28 fun t40 h29 =>
  oPick t30 t40 (Value.bool false) h29 fun t41 h30 =>
  oGuard t41 true (fun K => K (Value.pointer none) h30) h30 fun t43 h31 =>
  oGuard t41 true (fun K => C_accept_Acceptor_Promised [t43] h31 K) h31 fun t44 h32 =>
  oGuard t41 true (fun K => oBin .eql t44 (Value.int .u64 0) h32 K) h32 fun t45 h33 =>
  oPick t41 t45 (Value.bool false) h33 fun t46 h34 =>
  oGuard t46 true (fun K => oLdN 6 t6 h34 K) h34 fun t48 h35 =>
  oGuard t46 true (fun K => oBuild #[.int .i64 0, .int .u64 0, .int .i64 0, .int .i64 0, .int .u64 0, .int .i64 0] [] h35 K) h35 fun t49 h36 =>
  oGuard t46 true (fun K => oEq 4 false (some [(0, (.int .i64)), (1, (.int .u64)), (2, (.int .i64)), (3, (.int .i64)), (4, (.int .u64)), (5, (.int .i64))]) t48 t49 h36 K) h36 fun t50 h37 =>
  oPick t46 t50 (Value.bool false) h37 fun t51 h38 =>
  oGuard t51 true (fun K => K t23 h38) h38 fun t53 h39 =>
  oGuard t51 true (fun K => oNot t53 h39 K) h39 fun t54 h40 =>
  oPick t51 t54 (Value.bool false) h40 fun t55 h41 =>
  oGuard t55 true (fun K => K (Value.pointer none) h41) h41 fun t57 h42 =>
  oGuard t55 true (fun K => oFieldAddr 2 t1 h42 K) h42 fun t58 h43 =>
  oGuard t55 true (fun K => oLd1 t58 h43 K) h43 fun t59 h44 =>
  oGuard t55 true (fun K => C_accept_Acceptor_Votes [t57, t59] h44 K) h44 fun t60 h45 =>
  oGuard t55 true (fun K => oLen 0 t60 h45 K) h45 fun t61 h46 =>
  oGuard t55 true (fun K => oBin .eql t61 (Value.int .i64 0) h46 K) h46 fun t62 h47 =>
  oPick t55 t62 (Value.bool false) h47 fun t63 h48 =>
  oGuard t63 true (fun K => K (Value.pointer none) h48) h48 fun t65 h49 =>
  oGuard t63 true (fun K => C_accept_Acceptor_Len [t65] h49 K) h49 fun t66 h50 =>
  oGuard t63 true (fun K => oBin .eql t66 (Value.int .i64 0) h50 K) h50 fun t67 h51 =>
  oPick t63 t67 (Value.bool false) h51 fun t68 h52 =>
  oGuard t68 true (fun K => C_l11_awake [] h52 K) h52 fun t70 h53 =>
  oPick t68 t70 (Value.bool false) h53 fun t71 h54 =>
  Qv .ret (ul (E0_l11_AcceptNil a0) [(1, t1), (2, t71), (3, (Value.pointer none)), (4, t15), (5, t16), (6, t6), (7, t23), (8, t14), (9, (Value.pointer none)), (10, t10), (11, t11), (12, t12), (13, t13), (14, t14), (15, t15), (16, t16), (17, t21), (18, (Value.pointer none)), (19, t19), (20, t20), (21, t21), (22, t22), (23, t23), (24, t15), (25, t25), (26, t26), (27, t26), (28, t28), (29, t29), (30, t30), (31, t30), (32, t32), (33, t33), (34, t34), (35, t35), (36, t36), (37, t37), (38, t38), (39, t39), (40, t40), (41, t41), (42, t41), (43, t43), (44, t44), (45, t45), (46, t46), (47, t46), (48, t48), (49, t49), (50, t50), (51, t51), (52, t51), (53, t53), (54, t54), (55, t55), (56, t55), (57, t57), (58, t58), (59, t59), (60, t60), (61, t61), (62, t62), (63, t63), (64, t63), (65, t65), (66, t66), (67, t67), (68, t68), (69, t68), (70, t70), (71, t71)]) h54
theorem ga_l11_AcceptNil (Qv : Post) (a0 : Value) (h : Hp) : aw Try.prog O_l11_AcceptNil (bodyC Try.f5) Qv (E0_l11_AcceptNil a0) h = X_l11_AcceptNil Qv a0 h := by kernel_rfl
theorem gb_l11_AcceptNil (a0 : Value) (h : Hp) (K : Kont) : X_l11_AcceptNil (qTop Try.prog Try.f5 K) a0 h = G_l11_AcceptNil a0 h K := by kernel_rfl
theorem gc_l11_AcceptNil (a0 : Value) (h : Hp) (K : Kont) : abody Try.prog O_l11_AcceptNil Try.f5 (bodyC Try.f5) [a0] h K = aw Try.prog O_l11_AcceptNil (bodyC Try.f5) (qTop Try.prog Try.f5 K) (E0_l11_AcceptNil a0) h := by kernel_rfl
theorem eq_l11_AcceptNil (a0 : Value) (h : Hp) (K : Kont) : abody Try.prog O_l11_AcceptNil Try.f5 (bodyC Try.f5) [a0] h K = G_l11_AcceptNil a0 h K := (gc_l11_AcceptNil a0 h K).trans ((ga_l11_AcceptNil _ a0 h).trans (gb_l11_AcceptNil a0 h K))
theorem ok_l11_AcceptNil {a0 : Value} {h : Hp} {K : Kont} (hk : G_l11_AcceptNil a0 h K) : C_l11_AcceptNil [a0] h K := ac_of_body prog_mixed (fn := Try.f5) Try.func5 (c := bodyC Try.f5) (by kernel_rfl) ((eq_l11_AcceptNil a0 h K).mpr hk)

end Go.Proofs.Ytdolepapmpcpiaa

