/- The everyday laws of the seen heap: what a spec's proof rewrites by. -/
import Derived.Test.YtdolepapmpcpiaaVCode3
namespace Go.Proofs.Ytdolepapmpcpiaa
open Go
set_option linter.unusedSectionVars false
variable [Base]
set_option linter.unusedVariables false
set_option linter.unusedSimpArgs false

def onS {α : Type} (o : Option α) (f : α → Prop) : Prop :=
  match o with
  | some v => f v
  | none => False
theorem onS_some {α : Type} (v : α) (f : α → Prop) : onS (some v) f = f v := id rfl
theorem onS_ex {α : Type} (o : Option α) (f : α → Prop) : (∃ v, o = some v ∧ f v) = onS o f := by
  cases o <;> simp [onS]
@[congr] theorem onS_congr {α : Type} {o o' : Option α} (f : α → Prop) (h : o = o') : onS o f = onS o' f := by rw [h]

/-! What is simplified of an operation: its operands and the heap, not what follows. -/
@[congr] theorem oPick_cg  {c c' : Value} {a a' : Value} {b b' : Value} {h h' : Hp} {K : Kont} (ec : c = c') (ea : a = a') (eb : b = b') (eh : h = h') : oPick c a b h K = oPick c' a' b' h' K := by subst ec; subst ea; subst eb; subst eh; rfl
@[congr] theorem oAlloc_cg {z : Array Value}  {h h' : Hp} {K : Kont}  (eh : h = h') : oAlloc z h K = oAlloc z h' K := by subst eh; rfl
@[congr] theorem oBox_cg  {v v' : Value} {h h' : Hp} {K : Kont} (ev : v = v') (eh : h = h') : oBox v h K = oBox v' h' K := by subst ev; subst eh; rfl
@[congr] theorem oBuild_cg {z : Array Value} {p : List (Nat × Nat × Value)}  {h h' : Hp} {K : Kont}  (eh : h = h') : oBuild z p h K = oBuild z p h' K := by subst eh; rfl
@[congr] theorem oBuildSlice_cg {z : Array Value} {n : Nat} {p : List (Nat × Nat × Value)}  {h h' : Hp} {K : Kont}  (eh : h = h') : oBuildSlice z n p h K = oBuildSlice z n p h' K := by subst eh; rfl
@[congr] theorem oLd1_cg  {x x' : Value} {h h' : Hp} {K : Kont} (ex : x = x') (eh : h = h') : oLd1 x h K = oLd1 x' h' K := by subst ex; subst eh; rfl
@[congr] theorem oLdN_cg {n : Nat} {x x' : Value} {h h' : Hp} {K : Kont} (ex : x = x') (eh : h = h') : oLdN n x h K = oLdN n x' h' K := by subst ex; subst eh; rfl
@[congr] theorem oSt_cg {n : Nat} {x x' : Value} {v v' : Value} {h h' : Hp} {K : Kont} (ex : x = x') (ev : v = v') (eh : h = h') : oSt n x v h K = oSt n x' v' h' K := by subst ex; subst ev; subst eh; rfl
@[congr] theorem oNilCheck_cg  {x x' : Value} {h h' : Hp} {K : Kont} (ex : x = x') (eh : h = h') : oNilCheck x h K = oNilCheck x' h' K := by subst ex; subst eh; rfl
@[congr] theorem oBin_cg {op : BinOp} {x x' : Value} {y y' : Value} {h h' : Hp} {K : Kont} (ex : x = x') (ey : y = y') (eh : h = h') : oBin op x y h K = oBin op x' y' h' K := by subst ex; subst ey; subst eh; rfl
@[congr] theorem oEq_cg {c : Nat} {ne : Bool} {p : Option (List (Nat × TypeDesc))} {x x' : Value} {y y' : Value} {h h' : Hp} {K : Kont} (ex : x = x') (ey : y = y') (eh : h = h') : oEq c ne p x y h K = oEq c ne p x' y' h' K := by subst ex; subst ey; subst eh; rfl
@[congr] theorem oNot_cg  {x x' : Value} {h h' : Hp} {K : Kont} (ex : x = x') (eh : h = h') : oNot x h K = oNot x' h' K := by subst ex; subst eh; rfl
@[congr] theorem oNeg_cg  {x x' : Value} {h h' : Hp} {K : Kont} (ex : x = x') (eh : h = h') : oNeg x h K = oNeg x' h' K := by subst ex; subst eh; rfl
@[congr] theorem oConvInt_cg {k : IntKind} {x x' : Value} {h h' : Hp} {K : Kont} (ex : x = x') (eh : h = h') : oConvInt k x h K = oConvInt k x' h' K := by subst ex; subst eh; rfl
@[congr] theorem oMakeMap_cg   {h h' : Hp} {K : Kont}  (eh : h = h') : oMakeMap h K = oMakeMap h' K := by subst eh; rfl
@[congr] theorem oMakeSlice_cg {sz : Nat} {bytes : Nat} {z : Array Value} {l l' : Value} {c c' : Value} {h h' : Hp} {K : Kont} (el : l = l') (ec : c = c') (eh : h = h') : oMakeSlice sz bytes z l c h K = oMakeSlice sz bytes z l' c' h' K := by subst el; subst ec; subst eh; rfl
@[congr] theorem oFieldAddr_cg {off : Nat} {x x' : Value} {h h' : Hp} {K : Kont} (ex : x = x') (eh : h = h') : oFieldAddr off x h K = oFieldAddr off x' h' K := by subst ex; subst eh; rfl
@[congr] theorem oField_cg {off : Nat} {n : Option Nat} {x x' : Value} {h h' : Hp} {K : Kont} (ex : x = x') (eh : h = h') : oField off n x h K = oField off n x' h' K := by subst ex; subst eh; rfl
@[congr] theorem oIdxS_cg {sz : Nat} {x x' : Value} {i i' : Value} {h h' : Hp} {K : Kont} (ex : x = x') (ei : i = i') (eh : h = h') : oIdxS sz x i h K = oIdxS sz x' i' h' K := by subst ex; subst ei; subst eh; rfl
@[congr] theorem oIdxA_cg {sz : Nat} {len : Nat} {x x' : Value} {i i' : Value} {h h' : Hp} {K : Kont} (ex : x = x') (ei : i = i') (eh : h = h') : oIdxA sz len x i h K = oIdxA sz len x' i' h' K := by subst ex; subst ei; subst eh; rfl
@[congr] theorem oIndexArr_cg {sz : Nat} {len : Nat} {ag : Option Nat} {x x' : Value} {i i' : Value} {h h' : Hp} {K : Kont} (ex : x = x') (ei : i = i') (eh : h = h') : oIndexArr sz len ag x i h K = oIndexArr sz len ag x' i' h' K := by subst ex; subst ei; subst eh; rfl
@[congr] theorem oIndexStr_cg  {x x' : Value} {i i' : Value} {h h' : Hp} {K : Kont} (ex : x = x') (ei : i = i') (eh : h = h') : oIndexStr x i h K = oIndexStr x' i' h' K := by subst ex; subst ei; subst eh; rfl
@[congr] theorem oMapUpdate_cg {d : TypeDesc} {m m' : Value} {k k' : Value} {v v' : Value} {h h' : Hp} {K : Kont} (em : m = m') (ek : k = k') (ev : v = v') (eh : h = h') : oMapUpdate d m k v h K = oMapUpdate d m' k' v' h' K := by subst em; subst ek; subst ev; subst eh; rfl
@[congr] theorem oDelete_cg {d : TypeDesc} {m m' : Value} {k k' : Value} {h h' : Hp} {K : Kont} (em : m = m') (ek : k = k') (eh : h = h') : oDelete d m k h K = oDelete d m' k' h' K := by subst em; subst ek; subst eh; rfl
@[congr] theorem oClearMap_cg  {m m' : Value} {h h' : Hp} {K : Kont} (em : m = m') (eh : h = h') : oClearMap m h K = oClearMap m' h' K := by subst em; subst eh; rfl
@[congr] theorem oClearSlice_cg {sz : Nat} {z : Array Value} {x x' : Value} {h h' : Hp} {K : Kont} (ex : x = x') (eh : h = h') : oClearSlice sz z x h K = oClearSlice sz z x' h' K := by subst ex; subst eh; rfl
@[congr] theorem oLen_cg {c : Nat} {x x' : Value} {h h' : Hp} {K : Kont} (ex : x = x') (eh : h = h') : oLen c x h K = oLen c x' h' K := by subst ex; subst eh; rfl
@[congr] theorem oCap_cg  {x x' : Value} {h h' : Hp} {K : Kont} (ex : x = x') (eh : h = h') : oCap x h K = oCap x' h' K := by subst ex; subst eh; rfl
@[congr] theorem oAppend_cg {sz : Nat} {bytes : Nat} {z : Array Value} {s s' : Value} {x x' : Value} {h h' : Hp} {K : Kont} (es : s = s') (ex : x = x') (eh : h = h') : oAppend sz bytes z s x h K = oAppend sz bytes z s' x' h' K := by subst es; subst ex; subst eh; rfl
@[congr] theorem oCopy_cg {sz : Nat} {d d' : Value} {s s' : Value} {h h' : Hp} {K : Kont} (ed : d = d') (es : s = s') (eh : h = h') : oCopy sz d s h K = oCopy sz d' s' h' K := by subst ed; subst es; subst eh; rfl
@[congr] theorem oSlice_cg {c sz : Nat} {x x' : Value} {lo hi mx : Option Value} {h h' : Hp} {K : Kont} (ex : x = x') (eh : h = h') : oSlice c sz x lo hi mx h K = oSlice c sz x' lo hi mx h' K := by subst ex; subst eh; rfl
@[congr] theorem oLookup_cg {d : TypeDesc} {z m m' k k' : Value} {ok : Bool} {h h' : Hp} {K : Kont} (em : m = m') (ek : k = k') (eh : h = h') : oLookup d z m k ok h K = oLookup d z m' k' ok h' K := by subst em; subst ek; subst eh; rfl
@[congr] theorem oMinMax_cg {mx : Bool} {l l' : List Value} {h h' : Hp} {K : Kont} (el : l = l') (eh : h = h') : oMinMax mx l h K = oMinMax mx l' h' K := by subst el; subst eh; rfl
@[congr] theorem oExtract_cg {x x' : Value} {i : Nat} {h h' : Hp} {K : Kont} (ex : x = x') (eh : h = h') : oExtract x i h K = oExtract x' i h' K := by subst ex; subst eh; rfl
@[congr] theorem oCallV_cg {P : Program} {f f' : Value} {l l' : List Value} {h h' : Hp} {K : Kont} (ef : f = f') (el : l = l') (eh : h = h') : oCallV P f l h K = oCallV P f' l' h' K := by subst ef; subst el; subst eh; rfl
@[congr] theorem oGuard_cg {x x' : Value} {w : Bool} {m : Kont → Prop} {h h' : Hp} {K : Kont} (ex : x = x') (eh : h = h') : oGuard x w m h K = oGuard x' w m h' K := by subst ex; subst eh; rfl
@[congr] theorem oIf_cg {x x' : Value} {a b : Prop} (ex : x = x') : oIf x a b = oIf x' a b := by subst ex; rfl

def asCells : AObj → Option (Array Value)
  | .cells c => some c
  | _ => none
def asMap : AObj → Option (List (Value × Value))
  | .map m => some m
  | _ => none
def cellAt (i : Nat) : AObj → Option Value
  | .cells c => c[i]?
  | .other (.cells c _ _) => c[i]?
  | .old (.cells c _ _) _ _ => c[i]?
  | _ => none
theorem asCells_cells (c : Array Value) : asCells (.cells c) = some c := id rfl
theorem asMap_map (m : List (Value × Value)) : asMap (.map m) = some m := id rfl
theorem cellAt_cells (i : Nat) (c : Array Value) : cellAt i (.cells c) = c[i]? := id rfl
theorem rdC_eq (h : Hp) (b i : Nat) : rdC h b i = (h[b]?).bind (cellAt i) := by
  unfold rdC cellAt
  cases h[b]? with
  | none => rfl
  | some o =>
    cases o with
    | cells c => rfl
    | map m => rfl
    | other o => cases o <;> rfl
    | old o os out => cases o <;> rfl
theorem cells_ex {h : Hp} {b : Nat} {f : Array Value → Prop} : (∃ c, h[b]? = some (.cells c) ∧ f c) = onS ((h[b]?).bind asCells) f := by
  cases h[b]? with
  | none => simp [onS]
  | some o => cases o <;> simp [onS, asCells]
theorem map_ex {h : Hp} {b : Nat} {f : List (Value × Value) → Prop} : (∃ c, h[b]? = some (.map c) ∧ f c) = onS ((h[b]?).bind asMap) f := by
  cases h[b]? with
  | none => simp [onS]
  | some o => cases o <;> simp [onS, asMap]

abbrev pt (b i : Nat) : Value := .pointer (some ⟨b, i, none⟩)

/-! ### Each operation, at operands that are seen -/
theorem e_pickT (a b : Value) (h : Hp) (K : Kont) : oPick (.bool true) a b h K = K a h := id rfl
theorem e_pickF (a b : Value) (h : Hp) (K : Kont) : oPick (.bool false) a b h K = K b h := id rfl
theorem e_alloc (z : Array Value) (h : Hp) (K : Kont) (hB : Base.b ≤ h.size) : oAlloc z h K = K (pt h.size 0) (h.push (.cells z)) := by unfold oAlloc; simp only [hB, true_and]
theorem e_box (v : Value) (h : Hp) (K : Kont) (hB : Base.b ≤ h.size) : oBox v h K = K (pt h.size 0) (h.push (.cells v.cells)) := by unfold oBox; simp only [hB, true_and]
theorem e_build (z : Array Value) (p : List (Nat × Nat × Value)) (h : Hp) (K : Kont) : oBuild z p h K = onS (bfill z p) (fun cs => K (.agg cs) h) := onS_ex _ _
theorem e_buildSlice (z : Array Value) (n : Nat) (p : List (Nat × Nat × Value)) (h : Hp) (K : Kont) (hB : Base.b ≤ h.size) :
    oBuildSlice z n p h K = onS (bfill z p) (fun cs => K (.slice (some ⟨h.size, 0, none⟩) n n) (h.push (.cells cs))) := by
  unfold oBuildSlice; simp only [hB, true_and]; exact onS_ex _ _
theorem e_ld1 (b i : Nat) (h : Hp) (K : Kont) : oLd1 (.pointer (some ⟨b, i, none⟩)) h K = onS ((h[b]?).bind (cellAt i)) (fun v => K v h) := by
  rw [← rdC_eq]; exact onS_ex _ _
theorem e_ldN (n b i : Nat) (h : Hp) (K : Kont) : oLdN n (.pointer (some ⟨b, i, none⟩)) h K = onS (rdN h b i n) (fun vs => K (.agg vs.toArray) h) := onS_ex _ _
theorem e_st (n b i : Nat) (v : Value) (h : Hp) (K : Kont) : oSt n (.pointer (some ⟨b, i, none⟩)) v h K = onS ((h[b]?).bind asCells) (fun c => v.cells.size = n ∧ i + n ≤ c.size ∧ v.cells.toList.all one = true ∧
    K undef (h.setIfInBounds b (.cells (setL c i v.cells.toList)))) := cells_ex
theorem e_nilCheck (a : Addr) (h : Hp) (K : Kont) : oNilCheck (.pointer (some a)) h K = K (.pointer (some a)) h := id rfl
theorem e_bin (op : BinOp) (x y : Value) (h : Hp) (K : Kont) : oBin op x y h K = onS (binV op x y) (fun v => K v h) := onS_ex _ _
theorem e_eq (c : Nat) (ne : Bool) (p : Option (List (Nat × TypeDesc))) (x y : Value) (h : Hp) (K : Kont) : oEq c ne p x y h K = onS (eqV c p x y) (fun b => K (.bool (if ne then !b else b)) h) := onS_ex _ _
theorem e_not (b : Bool) (h : Hp) (K : Kont) : oNot (.bool b) h K = K (.bool !b) h := id rfl
theorem e_conv (k j : IntKind) (n : Int) (h : Hp) (K : Kont) : oConvInt k (.int j n) h K = K (.int k (k.wrap n)) h := id rfl
theorem e_makeMap (h : Hp) (K : Kont) (hB : Base.b ≤ h.size) : oMakeMap h K = K (.map (some h.size)) (h.push (.map [])) := by unfold oMakeMap; simp only [hB, true_and]
theorem e_fieldAddr (o b i : Nat) (h : Hp) (K : Kont) : oFieldAddr o (.pointer (some ⟨b, i, none⟩)) h K = K (.pointer (some ⟨b, i + o, none⟩)) h := id rfl
theorem e_idxS (sz b o len cap : Nat) (k : IntKind) (n : Int) (h : Hp) (K : Kont) : oIdxS sz (.slice (some ⟨b, o, none⟩) len cap) (.int k n) h K = (0 ≤ n ∧ n < len ∧ K (.pointer (some ⟨b, o + n.toNat * sz, none⟩)) h) := id rfl
theorem e_idxA (sz len b o : Nat) (k : IntKind) (n : Int) (h : Hp) (K : Kont) : oIdxA sz len (.pointer (some ⟨b, o, none⟩)) (.int k n) h K = (0 ≤ n ∧ n < len ∧ K (.pointer (some ⟨b, o + n.toNat * sz, none⟩)) h) := id rfl
theorem e_lookup (d : TypeDesc) (z : Value) (r : Nat) (k : Value) (ok : Bool) (h : Hp) (K : Kont) : oLookup d z (.map (some r)) k ok h K = onS ((h[r]?).bind asMap) (fun kv => onS (kvFind d k kv 0) (fun f => K (lookRes z ok f) h)) := by
  rw [← map_ex]; simp only [oLookup, ← onS_ex]
  apply propext
  constructor
  · rintro ⟨kv, f, h1, h2, h3⟩; exact ⟨kv, h1, f, h2, h3⟩
  · rintro ⟨kv, h1, f, h2, h3⟩; exact ⟨kv, f, h1, h2, h3⟩
theorem e_lookupN (d : TypeDesc) (z k : Value) (ok : Bool) (h : Hp) (K : Kont) : oLookup d z (.map none) k ok h K = K (lookRes z ok none) h := id rfl
theorem e_mapUpdate (d : TypeDesc) (r : Nat) (k v : Value) (h : Hp) (K : Kont) : oMapUpdate d (.map (some r)) k v h K = onS ((h[r]?).bind asMap) (fun kv => onS (kvFind d k kv 0) (fun f => K undef (h.setIfInBounds r (.map (kvPut kv f k v))))) := by
  rw [← map_ex]; simp only [oMapUpdate, ← onS_ex]
  apply propext
  constructor
  · rintro ⟨kv, f, h1, h2, h3⟩; exact ⟨kv, h1, f, h2, h3⟩
  · rintro ⟨kv, h1, f, h2, h3⟩; exact ⟨kv, f, h1, h2, h3⟩
theorem e_delete (d : TypeDesc) (r : Nat) (k : Value) (h : Hp) (K : Kont) : oDelete d (.map (some r)) k h K = onS ((h[r]?).bind asMap) (fun kv => onS (kvFind d k kv 0) (fun f => K (.tuple #[]) (h.setIfInBounds r (.map (match f with | some (i, _) => kv.eraseIdx i | none => kv))))) := by
  rw [← map_ex]; simp only [oDelete, ← onS_ex]
  apply propext
  constructor
  · rintro ⟨kv, f, h1, h2, h3⟩; exact ⟨kv, h1, f, h2, h3⟩
  · rintro ⟨kv, h1, f, h2, h3⟩; exact ⟨kv, f, h1, h2, h3⟩
theorem e_clearMap (r : Nat) (h : Hp) (K : Kont) : oClearMap (.map (some r)) h K = onS ((h[r]?).bind asMap) (fun _ => K (.tuple #[]) (h.setIfInBounds r (.map []))) := map_ex
theorem e_len0 (a : Option Addr) (n c : Nat) (h : Hp) (K : Kont) : oLen 0 (.slice a n c) h K = K (.int .i64 n) h := id rfl
theorem e_len1 (s : ByteArray) (h : Hp) (K : Kont) : oLen 1 (.string s) h K = K (.int .i64 s.size) h := id rfl
theorem e_len2 (r : Nat) (h : Hp) (K : Kont) : oLen 2 (.map (some r)) h K = onS ((h[r]?).bind asMap) (fun kv => K (.int .i64 kv.length) h) := map_ex
theorem e_len2n (h : Hp) (K : Kont) : oLen 2 (.map none) h K = K (.int .i64 0) h := id rfl
theorem e_extract (vs : Array Value) (i : Nat) (h : Hp) (K : Kont) : oExtract (.tuple vs) i h K = onS (vs[i]?) (fun v => K v h) := onS_ex _ _
theorem e_ifT (a b : Prop) : oIf (.bool true) a b = a := id rfl
theorem e_ifF (a b : Prop) : oIf (.bool false) a b = b := id rfl
theorem e_if (c : Bool) (a b : Prop) : oIf (.bool c) a b = ((c = true → a) ∧ (c = false → b)) := by cases c <;> simp [oIf]
theorem e_gTT (m : Kont → Prop) (h : Hp) (K : Kont) : oGuard (.bool true) true m h K = m K := id rfl
theorem e_gFF (m : Kont → Prop) (h : Hp) (K : Kont) : oGuard (.bool false) false m h K = m K := id rfl
theorem e_gTF (m : Kont → Prop) (h : Hp) (K : Kont) : oGuard (.bool true) false m h K = K undef h := id rfl
theorem e_gFT (m : Kont → Prop) (h : Hp) (K : Kont) : oGuard (.bool false) true m h K = K undef h := id rfl
theorem e_hTT (p : Prop) : oGuardH (.bool true) true p = p := id rfl
theorem e_hFF (p : Prop) : oGuardH (.bool false) false p = p := id rfl
theorem e_hTF (p : Prop) : oGuardH (.bool true) false p = True := id rfl
theorem e_hFT (p : Prop) : oGuardH (.bool false) true p = True := id rfl
theorem e_gU (w : Bool) (m : Kont → Prop) (h : Hp) (K : Kont) : oGuard undef w m h K = K undef h := id rfl
theorem e_hU (w : Bool) (p : Prop) : oGuardH undef w p = True := id rfl
theorem e_minmax (mx : Bool) (k k' : IntKind) (a b : Int) (h : Hp) (K : Kont) : oMinMax mx [.int k a, .int k' b] h K = K (.int k (if mx then (if b > a then b else a) else (if b < a then b else a))) h := id rfl
theorem e_field1 (o : Nat) (cs : Array Value) (h : Hp) (K : Kont) : oField o none (.agg cs) h K = onS (cs[o]?) (fun v => K v h) := onS_ex _ _
theorem e_callV (P : Program) (g : FuncId) (a b : Array Value) (l : List Value) (h : Hp) (K : Kont) (he : canEnter P g = true) : oCallV P (.func (.func g) a b) l h K = AC P g (a ++ l.toArray ++ b) h K := by
  simp [oCallV, he]

/-! ### Numbers -/
theorem b_int (op : BinOp) (k : IntKind) (a b : Int) (h1 : op ≠ .shl) (h2 : op ≠ .shr) : binV op (.int k a) (.int k b) = intBin op k a b := by
  cases op <;> simp [binV] <;> first | exact absurd rfl h1 | exact absurd rfl h2
theorem b_add (k : IntKind) (a b : Int) : binV .add (.int k a) (.int k b) = some (.int k (k.wrap (a + b))) := by simp [binV, intBin]
theorem b_sub (k : IntKind) (a b : Int) : binV .sub (.int k a) (.int k b) = some (.int k (k.wrap (a - b))) := by simp [binV, intBin]
theorem b_mul (k : IntKind) (a b : Int) : binV .mul (.int k a) (.int k b) = some (.int k (k.wrap (a * b))) := by simp [binV, intBin]
theorem b_quo (k : IntKind) (a b : Int) (h : b ≠ 0) : binV .quo (.int k a) (.int k b) = some (.int k (k.wrap (a.tdiv b))) := by simp [binV, intBin, h]
theorem b_rem (k : IntKind) (a b : Int) (h : b ≠ 0) : binV .rem (.int k a) (.int k b) = some (.int k (a.tmod b)) := by simp [binV, intBin, h]
theorem b_eql (k : IntKind) (a b : Int) : binV .eql (.int k a) (.int k b) = some (.bool (decide (a = b))) := by simp only [binV, intBin, if_true]; rfl
theorem b_neq (k : IntKind) (a b : Int) : binV .neq (.int k a) (.int k b) = some (.bool (!decide (a = b))) := by simp only [binV, intBin, if_true]; rfl
theorem b_lss (k : IntKind) (a b : Int) : binV .lss (.int k a) (.int k b) = some (.bool (decide (a < b))) := by simp [binV, intBin]
theorem b_leq (k : IntKind) (a b : Int) : binV .leq (.int k a) (.int k b) = some (.bool (decide (a ≤ b))) := by simp [binV, intBin]
theorem b_gtr (k : IntKind) (a b : Int) : binV .gtr (.int k a) (.int k b) = some (.bool (decide (b < a))) := by simp [binV, intBin]
theorem b_geq (k : IntKind) (a b : Int) : binV .geq (.int k a) (.int k b) = some (.bool (decide (b ≤ a))) := by simp [binV, intBin]
theorem wrap_i (n : Int) (h0 : -9223372036854775808 ≤ n) (h1 : n < 9223372036854775808) : IntKind.i64.wrap n = n := by rw [IntKind.wrap_i64]; omega
theorem wrap_u (n : Int) (h0 : 0 ≤ n) (h1 : n < 18446744073709551616) : IntKind.u64.wrap n = n := by
  simp only [IntKind.wrap, IntKind.bits, IntKind.signed, Bool.false_and, Bool.false_eq_true, if_false]
  omega

/-! ### Blocks -/
theorem g_push_lt {h : Hp} {o : AObj} {b : Nat} (hb : b < h.size) : (h.push o)[b]? = h[b]? := by
  rw [Array.getElem?_push, if_neg (by omega)]
theorem g_push_eq {h : Hp} {o : AObj} {b : Nat} (hb : b = h.size) : (h.push o)[b]? = some o := by
  rw [hb]; simp
theorem g_set_eq {h : Hp} {o : AObj} {b r : Nat} (hb : r < h.size) (e : r = b) : (h.setIfInBounds r o)[b]? = some o := by
  subst e; simp [hb]
theorem g_set_ne {h : Hp} {o : AObj} {b r : Nat} (e : r ≠ b) : (h.setIfInBounds r o)[b]? = h[b]? := by
  simp [e]

theorem Upd.refl {S : Nat → Prop} (h : Hp) : Upd S h h := ⟨Nat.le_refl _, fun _ _ _ => rfl⟩
theorem Upd.trans {S : Nat → Prop} {a b c : Hp} (x : Upd S a b) (y : Upd S b c) : Upd S a c :=
  ⟨Nat.le_trans x.1 y.1, fun r hr hs => (y.2 r (Nat.lt_of_lt_of_le hr x.1) hs).trans (x.2 r hr hs)⟩
theorem Upd.mono {S T : Nat → Prop} {a b : Hp} (x : Upd S a b) (h : ∀ r, r < a.size → S r → T r) : Upd T a b := ⟨x.1, fun r hr hs => x.2 r hr (fun h' => hs (h r hr h'))⟩
/-- What turned blocks that are new is nothing. -/
theorem Upd.fresh {S T : Nat → Prop} {a b c : Hp} (x : Upd S a b) (y : Upd T b c) (h : ∀ r, T r → a.size ≤ r ∨ S r) : Upd S a c :=
  ⟨Nat.le_trans x.1 y.1, fun r hr hs => (y.2 r (Nat.lt_of_lt_of_le hr x.1) (fun ht => by rcases h r ht with h | h; omega; exact hs h)).trans (x.2 r hr hs)⟩
theorem Upd.push {S : Nat → Prop} {a b : Hp} (x : Upd S a b) (o : AObj) : Upd S a (b.push o) :=
  ⟨by have := x.1; simp; omega, fun r hr hs => by rw [g_push_lt (Nat.lt_of_lt_of_le hr x.1)]; exact x.2 r hr hs⟩
theorem Upd.set {S : Nat → Prop} {a b : Hp} (x : Upd S a b) (r : Nat) (o : AObj) (h : a.size ≤ r ∨ S r) : Upd S a (b.setIfInBounds r o) :=
  ⟨by have := x.1; simpa using this, fun i hi hs => by
    rw [g_set_ne (by rintro rfl; rcases h with h | h; omega; exact hs h)]
    exact x.2 i hi hs⟩
theorem Upd.get {S : Nat → Prop} {a b : Hp} (x : Upd S a b) {r : Nat} {o : AObj} (h : a[r]? = some o) (hs : ¬ S r) : b[r]? = some o := by
  have hr := (Array.getElem?_eq_some_iff.1 h).1
  rw [x.2 r hr hs]; exact h
theorem Upd.lt {S : Nat → Prop} {a b : Hp} (x : Upd S a b) {r : Nat} (h : r < a.size) : r < b.size := Nat.lt_of_lt_of_le h x.1
theorem lt_of_get {h : Hp} {r : Nat} {o : AObj} (e : h[r]? = some o) : r < h.size := (Array.getElem?_eq_some_iff.1 e).1

end Go.Proofs.Ytdolepapmpcpiaa
