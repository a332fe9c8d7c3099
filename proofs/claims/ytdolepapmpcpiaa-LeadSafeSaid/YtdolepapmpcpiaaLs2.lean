/- Lemmas for the theorem of the last text; no condition. -/
import Derived.Test.YtdolepapmpcpiaaLs0
import Derived.Test.YtdolepapmpcpiaaLs1
import Derived.Test.YtdolepapmpcpiaaProg
namespace Go.Proofs.Ytdolepapmpcpiaa
open Go
set_option linter.unusedSectionVars false
variable [Base]
set_option linter.unusedVariables false
set_option linter.unusedSimpArgs false
def onS {α : Type} (o : Option α) (f : α → Prop) : Prop :=
  match o with
  | some v => f v
  | none => False
theorem onS_some {α : Type} (v : α) (f : α → Prop) : onS (some v) f = f v := id rfl
theorem onS_ex {α : Type} (o : Option α) (f : α → Prop) : (∃ v, o = some v ∧ f v) = onS o f := by
  cases o <;> simp [onS]
@[congr] theorem onS_congr {α : Type} {o o' : Option α} (f : α → Prop) (h : o = o') : onS o f = onS o' f := by rw [h]
@[congr] theorem oPick_cg  {c c' : Value} {a a' : Value} {b b' : Value} {h h' : Hp} {K : Kont} (ec : c = c') (ea : a = a') (eb : b = b') (eh : h = h') : oPick c a b h K = oPick c' a' b' h' K := by subst ec; subst ea; subst eb; subst eh; rfl
@[congr] theorem oAlloc_cg {z : Array Value}  {h h' : Hp} {K : Kont}  (eh : h = h') : oAlloc z h K = oAlloc z h' K := by subst eh; rfl
@[congr] theorem oBox_cg  {v v' : Value} {h h' : Hp} {K : Kont} (ev : v = v') (eh : h = h') : oBox v h K = oBox v' h' K := by subst ev; subst eh; rfl
@[congr] theorem oBuild_cg {z : Array Value} {p : List (Nat × Nat × Value)}  {h h' : Hp} {K : Kont}  (eh : h = h') : oBuild z p h K = oBuild z p h' K := by subst eh; rfl
@[congr] theorem oBuildSlice_cg {z : Array Value} {n : Nat} {p : List (Nat × Nat × Value)}  {h h' : Hp} {K : Kont}  (eh : h = h') : oBuildSlice z n p h K = oBuildSlice z n p h' K := by subst eh; rfl
@[congr] theorem oLd1_cg  {x x' : Value} {h h' : Hp} {K : Kont} (ex : x = x') (eh : h = h') : oLd1 x h K = oLd1 x' h' K := by subst ex; subst eh; rfl
@[congr] theorem oLdN_cg {n : Nat} {x x' : Value} {h h' : Hp} {K : Kont} (ex : x = x') (eh : h = h') : oLdN n x h K = oLdN n x' h' K := by subst ex; subst eh; rfl
@[congr] theorem oSt_cg {n : Nat} {x x' : Value} {v v' : Value} {h h' : Hp} {K : Kont} (ex : x = x') (ev : v = v') (eh : h = h') : oSt n x v h K = oSt n x' v' h' K := by subst ex; subst ev; subst eh; rfl
@[congr] theorem oNilCheck_cg  {x x' : Value} {h h' : Hp} {K : Kont} (ex : x = x') (eh : h = h') : oNilCheck x h K = oNilCheck x' h' K := by subst ex; subst eh; rfl
@[congr] theorem oBin_cg {op : BinOp} {x x' : Value} {y y' : Value} {h h' : Hp} {K : Kont} (ex : x = x') (ey : y = y') (eh : h = h') : oBin op x y h K = oBin op x' y' h' K := by subst ex; subst ey; subst eh; rfl
@[congr] theorem oEq_cg {c : Nat} {ne : Bool} {p : Option (List (Nat × TypeDesc))} {x x' : Value} {y y' : Value} {h h' : Hp} {K : Kont} (ex : x = x') (ey : y = y') (eh : h = h') : oEq c ne p x y h K = oEq c ne p x' y' h' K := by subst ex; subst ey; subst eh; rfl
@[congr] theorem oNot_cg  {x x' : Value} {h h' : Hp} {K : Kont} (ex : x = x') (eh : h = h') : oNot x h K = oNot x' h' K := by subst ex; subst eh; rfl
@[congr] theorem oNeg_cg  {x x' : Value} {h h' : Hp} {K : Kont} (ex : x = x') (eh : h = h') : oNeg x h K = oNeg x' h' K := by subst ex; subst eh; rfl
@[congr] theorem oConvInt_cg {k : IntKind} {x x' : Value} {h h' : Hp} {K : Kont} (ex : x = x') (eh : h = h') : oConvInt k x h K = oConvInt k x' h' K := by subst ex; subst eh; rfl
@[congr] theorem oMakeMap_cg   {h h' : Hp} {K : Kont}  (eh : h = h') : oMakeMap h K = oMakeMap h' K := by subst eh; rfl
@[congr] theorem oMakeSlice_cg {sz : Nat} {bytes : Nat} {z : Array Value} {l l' : Value} {c c' : Value} {h h' : Hp} {K : Kont} (el : l = l') (ec : c = c') (eh : h = h') : oMakeSlice sz bytes z l c h K = oMakeSlice sz bytes z l' c' h' K := by subst el; subst ec; subst eh; rfl
@[congr] theorem oFieldAddr_cg {off : Nat} {x x' : Value} {h h' : Hp} {K : Kont} (ex : x = x') (eh : h = h') : oFieldAddr off x h K = oFieldAddr off x' h' K := by subst ex; subst eh; rfl
@[congr] theorem oField_cg {off : Nat} {n : Option Nat} {x x' : Value} {h h' : Hp} {K : Kont} (ex : x = x') (eh : h = h') : oField off n x h K = oField off n x' h' K := by subst ex; subst eh; rfl
@[congr] theorem oIdxS_cg {sz : Nat} {x x' : Value} {i i' : Value} {h h' : Hp} {K : Kont} (ex : x = x') (ei : i = i') (eh : h = h') : oIdxS sz x i h K = oIdxS sz x' i' h' K := by subst ex; subst ei; subst eh; rfl
@[congr] theorem oIdxA_cg {sz : Nat} {len : Nat} {x x' : Value} {i i' : Value} {h h' : Hp} {K : Kont} (ex : x = x') (ei : i = i') (eh : h = h') : oIdxA sz len x i h K = oIdxA sz len x' i' h' K := by subst ex; subst ei; subst eh; rfl
@[congr] theorem oIndexArr_cg {sz : Nat} {len : Nat} {ag : Option Nat} {x x' : Value} {i i' : Value} {h h' : Hp} {K : Kont} (ex : x = x') (ei : i = i') (eh : h = h') : oIndexArr sz len ag x i h K = oIndexArr sz len ag x' i' h' K := by subst ex; subst ei; subst eh; rfl
@[congr] theorem oIndexStr_cg  {x x' : Value} {i i' : Value} {h h' : Hp} {K : Kont} (ex : x = x') (ei : i = i') (eh : h = h') : oIndexStr x i h K = oIndexStr x' i' h' K := by subst ex; subst ei; subst eh; rfl
@[congr] theorem oMapUpdate_cg {d : TypeDesc} {m m' : Value} {k k' : Value} {v v' : Value} {h h' : Hp} {K : Kont} (em : m = m') (ek : k = k') (ev : v = v') (eh : h = h') : oMapUpdate d m k v h K = oMapUpdate d m' k' v' h' K := by subst em; subst ek; subst ev; subst eh; rfl
@[congr] theorem oDelete_cg {d : TypeDesc} {m m' : Value} {k k' : Value} {h h' : Hp} {K : Kont} (em : m = m') (ek : k = k') (eh : h = h') : oDelete d m k h K = oDelete d m' k' h' K := by subst em; subst ek; subst eh; rfl
@[congr] theorem oClearMap_cg  {m m' : Value} {h h' : Hp} {K : Kont} (em : m = m') (eh : h = h') : oClearMap m h K = oClearMap m' h' K := by subst em; subst eh; rfl
@[congr] theorem oClearSlice_cg {sz : Nat} {z : Array Value} {x x' : Value} {h h' : Hp} {K : Kont} (ex : x = x') (eh : h = h') : oClearSlice sz z x h K = oClearSlice sz z x' h' K := by subst ex; subst eh; rfl
@[congr] theorem oLen_cg {c : Nat} {x x' : Value} {h h' : Hp} {K : Kont} (ex : x = x') (eh : h = h') : oLen c x h K = oLen c x' h' K := by subst ex; subst eh; rfl
@[congr] theorem oCap_cg  {x x' : Value} {h h' : Hp} {K : Kont} (ex : x = x') (eh : h = h') : oCap x h K = oCap x' h' K := by subst ex; subst eh; rfl
@[congr] theorem oAppend_cg {sz : Nat} {bytes : Nat} {z : Array Value} {s s' : Value} {x x' : Value} {h h' : Hp} {K : Kont} (es : s = s') (ex : x = x') (eh : h = h') : oAppend sz bytes z s x h K = oAppend sz bytes z s' x' h' K := by subst es; subst ex; subst eh; rfl
@[congr] theorem oCopy_cg {sz : Nat} {d d' : Value} {s s' : Value} {h h' : Hp} {K : Kont} (ed : d = d') (es : s = s') (eh : h = h') : oCopy sz d s h K = oCopy sz d' s' h' K := by subst ed; subst es; subst eh; rfl
@[congr] theorem oSlice_cg {c sz : Nat} {x x' : Value} {lo hi mx : Option Value} {h h' : Hp} {K : Kont} (ex : x = x') (eh : h = h') : oSlice c sz x lo hi mx h K = oSlice c sz x' lo hi mx h' K := by subst ex; subst eh; rfl
@[congr] theorem oLookup_cg {d : TypeDesc} {z m m' k k' : Value} {ok : Bool} {h h' : Hp} {K : Kont} (em : m = m') (ek : k = k') (eh : h = h') : oLookup d z m k ok h K = oLookup d z m' k' ok h' K := by subst em; subst ek; subst eh; rfl
@[congr] theorem oMinMax_cg {mx : Bool} {l l' : List Value} {h h' : Hp} {K : Kont} (el : l = l') (eh : h = h') : oMinMax mx l h K = oMinMax mx l' h' K := by subst el; subst eh; rfl
@[congr] theorem oExtract_cg {x x' : Value} {i : Nat} {h h' : Hp} {K : Kont} (ex : x = x') (eh : h = h') : oExtract x i h K = oExtract x' i h' K := by subst ex; subst eh; rfl
@[congr] theorem oCallV_cg {P : Program} {f f' : Value} {l l' : List Value} {h h' : Hp} {K : Kont} (ef : f = f') (el : l = l') (eh : h = h') : oCallV P f l h K = oCallV P f' l' h' K := by subst ef; subst el; subst eh; rfl
@[congr] theorem oGuard_cg {x x' : Value} {w : Bool} {m : Kont → Prop} {h h' : Hp} {K : Kont} (ex : x = x') (eh : h = h') : oGuard x w m h K = oGuard x' w m h' K := by subst ex; subst eh; rfl
@[congr] theorem oIf_cg {x x' : Value} {a b : Prop} (ex : x = x') : oIf x a b = oIf x' a b := by subst ex; rfl
def asCells : AObj → Option (Array Value)
  | .cells c => some c
  | _ => none
def asMap : AObj → Option (List (Value × Value))
  | .map m => some m
  | _ => none
def cellAt (i : Nat) : AObj → Option Value
  | .cells c => c[i]?
  | .other (.cells c _ _) => c[i]?
  | .old (.cells c _ _) _ _ => c[i]?
  | _ => none
theorem asCells_cells (c : Array Value) : asCells (.cells c) = some c := id rfl
theorem asMap_map (m : List (Value × Value)) : asMap (.map m) = some m := id rfl
theorem cellAt_cells (i : Nat) (c : Array Value) : cellAt i (.cells c) = c[i]? := id rfl
theorem rdC_eq (h : Hp) (b i : Nat) : rdC h b i = (h[b]?).bind (cellAt i) := by
  unfold rdC cellAt
  cases h[b]? with
  | none => rfl
  | some o =>
    cases o with
    | cells c => rfl
    | map m => rfl
    | other o => cases o <;> rfl
    | old o os out => cases o <;> rfl
theorem cells_ex {h : Hp} {b : Nat} {f : Array Value → Prop} : (∃ c, h[b]? = some (.cells c) ∧ f c) = onS ((h[b]?).bind asCells) f := by
  cases h[b]? with
  | none => simp [onS]
  | some o => cases o <;> simp [onS, asCells]
theorem map_ex {h : Hp} {b : Nat} {f : List (Value × Value) → Prop} : (∃ c, h[b]? = some (.map c) ∧ f c) = onS ((h[b]?).bind asMap) f := by
  cases h[b]? with
  | none => simp [onS]
  | some o => cases o <;> simp [onS, asMap]
abbrev pt (b i : Nat) : Value := .pointer (some ⟨b, i, none⟩)
theorem sz : (∀ (h : Hp) (o : AObj), (h.push o).size = h.size + 1) ∧ (∀ (h : Hp) (r : Nat) (o : AObj), (h.setIfInBounds r o).size = h.size) := ⟨fun _ _ => Array.size_push .., fun _ _ _ => Array.size_setIfInBounds ..⟩
theorem lz : (∀ l : List Value, l.toArray.size = l.length) ∧ (∀ (v : Value) (l : List Value), (v :: l).length = l.length + 1) ∧ ([] : List Value).length = 0 := ⟨fun _ => List.size_toArray .., fun _ _ => List.length_cons .., rfl⟩
theorem zz : type_of% (And.intro sz (And.intro lz Nat.le_refl)) := And.intro sz (And.intro lz Nat.le_refl)
theorem e_pickT (a b : Value) (h : Hp) (K : Kont) : oPick (.bool true) a b h K = K a h := id rfl
theorem e_pickF (a b : Value) (h : Hp) (K : Kont) : oPick (.bool false) a b h K = K b h := id rfl
theorem e_alloc (z : Array Value) (h : Hp) (K : Kont) (hB : Base.b ≤ h.size) : oAlloc z h K = K (pt h.size 0) (h.push (.cells z)) := by unfold oAlloc; simp only [hB, true_and]
theorem e_box (v : Value) (h : Hp) (K : Kont) (hB : Base.b ≤ h.size) : oBox v h K = K (pt h.size 0) (h.push (.cells v.cells)) := by unfold oBox; simp only [hB, true_and]
theorem e_build (z : Array Value) (p : List (Nat × Nat × Value)) (h : Hp) (K : Kont) : oBuild z p h K = onS (bfill z p) (fun cs => K (.agg cs) h) := onS_ex _ _
theorem e_buildSlice (z : Array Value) (n : Nat) (p : List (Nat × Nat × Value)) (h : Hp) (K : Kont) (hB : Base.b ≤ h.size) :
    oBuildSlice z n p h K = onS (bfill z p) (fun cs => K (.slice (some ⟨h.size, 0, none⟩) n n) (h.push (.cells cs))) := by
  unfold oBuildSlice; simp only [hB, true_and]; exact onS_ex _ _
theorem e_ld1 (b i : Nat) (h : Hp) (K : Kont) : oLd1 (.pointer (some ⟨b, i, none⟩)) h K = onS ((h[b]?).bind (cellAt i)) (fun v => K v h) := by
  rw [← rdC_eq]; exact onS_ex _ _
theorem e_ldN (n b i : Nat) (h : Hp) (K : Kont) : oLdN n (.pointer (some ⟨b, i, none⟩)) h K = onS (rdN h b i n) (fun vs => K (.agg vs.toArray) h) := onS_ex _ _
theorem e_st (n b i : Nat) (v : Value) (h : Hp) (K : Kont) : oSt n (.pointer (some ⟨b, i, none⟩)) v h K = onS ((h[b]?).bind asCells) (fun c => v.cells.size = n ∧ i + n ≤ c.size ∧ v.cells.toList.all one = true ∧
    K undef (h.setIfInBounds b (.cells (setL c i v.cells.toList)))) := cells_ex
theorem e_nilCheck (a : Addr) (h : Hp) (K : Kont) : oNilCheck (.pointer (some a)) h K = K (.pointer (some a)) h := id rfl
theorem e_bin (op : BinOp) (x y : Value) (h : Hp) (K : Kont) : oBin op x y h K = onS (binV op x y) (fun v => K v h) := onS_ex _ _
theorem e_eq (c : Nat) (ne : Bool) (p : Option (List (Nat × TypeDesc))) (x y : Value) (h : Hp) (K : Kont) : oEq c ne p x y h K = onS (eqV c p x y) (fun b => K (.bool (if ne then !b else b)) h) := onS_ex _ _
theorem e_not (b : Bool) (h : Hp) (K : Kont) : oNot (.bool b) h K = K (.bool !b) h := id rfl
theorem e_conv (k j : IntKind) (n : Int) (h : Hp) (K : Kont) : oConvInt k (.int j n) h K = K (.int k (k.wrap n)) h := id rfl
theorem e_makeMap (h : Hp) (K : Kont) (hB : Base.b ≤ h.size) : oMakeMap h K = K (.map (some h.size)) (h.push (.map [])) := by unfold oMakeMap; simp only [hB, true_and]
theorem e_fieldAddr (o b i : Nat) (h : Hp) (K : Kont) : oFieldAddr o (.pointer (some ⟨b, i, none⟩)) h K = K (.pointer (some ⟨b, i + o, none⟩)) h := id rfl
theorem e_idxS (sz b o len cap : Nat) (k : IntKind) (n : Int) (h : Hp) (K : Kont) : oIdxS sz (.slice (some ⟨b, o, none⟩) len cap) (.int k n) h K = (0 ≤ n ∧ n < len ∧ K (.pointer (some ⟨b, o + n.toNat * sz, none⟩)) h) := id rfl
theorem e_idxA (sz len b o : Nat) (k : IntKind) (n : Int) (h : Hp) (K : Kont) : oIdxA sz len (.pointer (some ⟨b, o, none⟩)) (.int k n) h K = (0 ≤ n ∧ n < len ∧ K (.pointer (some ⟨b, o + n.toNat * sz, none⟩)) h) := id rfl
theorem e_lookup (d : TypeDesc) (z : Value) (r : Nat) (k : Value) (ok : Bool) (h : Hp) (K : Kont) : oLookup d z (.map (some r)) k ok h K = onS ((h[r]?).bind asMap) (fun kv => onS (kvFind d k kv 0) (fun f => K (lookRes z ok f) h)) := by
  rw [← map_ex]; simp only [oLookup, ← onS_ex]
  apply propext
  constructor
  · rintro ⟨kv, f, h1, h2, h3⟩; exact ⟨kv, h1, f, h2, h3⟩
  · rintro ⟨kv, h1, f, h2, h3⟩; exact ⟨kv, f, h1, h2, h3⟩
theorem e_lookupN (d : TypeDesc) (z k : Value) (ok : Bool) (h : Hp) (K : Kont) : oLookup d z (.map none) k ok h K = K (lookRes z ok none) h := id rfl
theorem e_mapUpdate (d : TypeDesc) (r : Nat) (k v : Value) (h : Hp) (K : Kont) : oMapUpdate d (.map (some r)) k v h K = onS ((h[r]?).bind asMap) (fun kv => onS (kvFind d k kv 0) (fun f => K undef (h.setIfInBounds r (.map (kvPut kv f k v))))) := by
  rw [← map_ex]; simp only [oMapUpdate, ← onS_ex]
  apply propext
  constructor
  · rintro ⟨kv, f, h1, h2, h3⟩; exact ⟨kv, h1, f, h2, h3⟩
  · rintro ⟨kv, h1, f, h2, h3⟩; exact ⟨kv, f, h1, h2, h3⟩
theorem e_delete (d : TypeDesc) (r : Nat) (k : Value) (h : Hp) (K : Kont) : oDelete d (.map (some r)) k h K = onS ((h[r]?).bind asMap) (fun kv => onS (kvFind d k kv 0) (fun f => K (.tuple #[]) (h.setIfInBounds r (.map (match f with | some (i, _) => kv.eraseIdx i | none => kv))))) := by
  rw [← map_ex]; simp only [oDelete, ← onS_ex]
  apply propext
  constructor
  · rintro ⟨kv, f, h1, h2, h3⟩; exact ⟨kv, h1, f, h2, h3⟩
  · rintro ⟨kv, h1, f, h2, h3⟩; exact ⟨kv, f, h1, h2, h3⟩
theorem e_clearMap (r : Nat) (h : Hp) (K : Kont) : oClearMap (.map (some r)) h K = onS ((h[r]?).bind asMap) (fun _ => K (.tuple #[]) (h.setIfInBounds r (.map []))) := map_ex
theorem e_len0 (a : Option Addr) (n c : Nat) (h : Hp) (K : Kont) : oLen 0 (.slice a n c) h K = K (.int .i64 n) h := id rfl
theorem e_len1 (s : ByteArray) (h : Hp) (K : Kont) : oLen 1 (.string s) h K = K (.int .i64 s.size) h := id rfl
theorem e_len2 (r : Nat) (h : Hp) (K : Kont) : oLen 2 (.map (some r)) h K = onS ((h[r]?).bind asMap) (fun kv => K (.int .i64 kv.length) h) := map_ex
theorem e_len2n (h : Hp) (K : Kont) : oLen 2 (.map none) h K = K (.int .i64 0) h := id rfl
theorem e_extract (vs : Array Value) (i : Nat) (h : Hp) (K : Kont) : oExtract (.tuple vs) i h K = onS (vs[i]?) (fun v => K v h) := onS_ex _ _
theorem e_ifT (a b : Prop) : oIf (.bool true) a b = a := id rfl
theorem e_ifF (a b : Prop) : oIf (.bool false) a b = b := id rfl
theorem e_gTT (m : Kont → Prop) (h : Hp) (K : Kont) : oGuard (.bool true) true m h K = m K := id rfl
theorem e_gFF (m : Kont → Prop) (h : Hp) (K : Kont) : oGuard (.bool false) false m h K = m K := id rfl
theorem e_gTF (m : Kont → Prop) (h : Hp) (K : Kont) : oGuard (.bool true) false m h K = K undef h := id rfl
theorem e_gFT (m : Kont → Prop) (h : Hp) (K : Kont) : oGuard (.bool false) true m h K = K undef h := id rfl
theorem e_hTT (p : Prop) : oGuardH (.bool true) true p = p := id rfl
theorem e_hFF (p : Prop) : oGuardH (.bool false) false p = p := id rfl
theorem e_hTF (p : Prop) : oGuardH (.bool true) false p = True := id rfl
theorem e_hFT (p : Prop) : oGuardH (.bool false) true p = True := id rfl
theorem e_gU (w : Bool) (m : Kont → Prop) (h : Hp) (K : Kont) : oGuard undef w m h K = K undef h := id rfl
theorem e_hU (w : Bool) (p : Prop) : oGuardH undef w p = True := id rfl
theorem e_minmax (mx : Bool) (k k' : IntKind) (a b : Int) (h : Hp) (K : Kont) : oMinMax mx [.int k a, .int k' b] h K = K (.int k (if mx then (if b > a then b else a) else (if b < a then b else a))) h := id rfl
theorem e_field1 (o : Nat) (cs : Array Value) (h : Hp) (K : Kont) : oField o none (.agg cs) h K = onS (cs[o]?) (fun v => K v h) := onS_ex _ _
theorem e_callV (P : Program) (g : FuncId) (a b : Array Value) (l : List Value) (h : Hp) (K : Kont) (he : canEnter P g = true) : oCallV P (.func (.func g) a b) l h K = AC P g (a ++ l.toArray ++ b) h K := by
  simp [oCallV, he]
theorem b_add (k : IntKind) (a b : Int) : binV .add (.int k a) (.int k b) = some (.int k (k.wrap (a + b))) := by simp [binV, intBin]
theorem b_sub (k : IntKind) (a b : Int) : binV .sub (.int k a) (.int k b) = some (.int k (k.wrap (a - b))) := by simp [binV, intBin]
theorem b_mul (k : IntKind) (a b : Int) : binV .mul (.int k a) (.int k b) = some (.int k (k.wrap (a * b))) := by simp [binV, intBin]
theorem b_quo (k : IntKind) (a b : Int) (h : b ≠ 0) : binV .quo (.int k a) (.int k b) = some (.int k (k.wrap (a.tdiv b))) := by simp [binV, intBin, h]
theorem b_rem (k : IntKind) (a b : Int) (h : b ≠ 0) : binV .rem (.int k a) (.int k b) = some (.int k (a.tmod b)) := by simp [binV, intBin, h]
theorem b_eql (k : IntKind) (a b : Int) : binV .eql (.int k a) (.int k b) = some (.bool (decide (a = b))) := by simp only [binV, intBin, if_true]; rfl
theorem b_neq (k : IntKind) (a b : Int) : binV .neq (.int k a) (.int k b) = some (.bool (!decide (a = b))) := by simp only [binV, intBin, if_true]; rfl
theorem b_lss (k : IntKind) (a b : Int) : binV .lss (.int k a) (.int k b) = some (.bool (decide (a < b))) := by simp [binV, intBin]
theorem b_leq (k : IntKind) (a b : Int) : binV .leq (.int k a) (.int k b) = some (.bool (decide (a ≤ b))) := by simp [binV, intBin]
theorem b_gtr (k : IntKind) (a b : Int) : binV .gtr (.int k a) (.int k b) = some (.bool (decide (b < a))) := by simp [binV, intBin]
theorem b_geq (k : IntKind) (a b : Int) : binV .geq (.int k a) (.int k b) = some (.bool (decide (b ≤ a))) := by simp [binV, intBin]
theorem wrap_i (n : Int) (h0 : -9223372036854775808 ≤ n) (h1 : n < 9223372036854775808) : IntKind.i64.wrap n = n := by rw [IntKind.wrap_i64]; omega
theorem wrap_u (n : Int) (h0 : 0 ≤ n) (h1 : n < 18446744073709551616) : IntKind.u64.wrap n = n := by
  simp only [IntKind.wrap, IntKind.bits, IntKind.signed, Bool.false_and, Bool.false_eq_true, if_false]
  omega
theorem g_push_lt {h : Hp} {o : AObj} {b : Nat} (hb : b < h.size) : (h.push o)[b]? = h[b]? := by
  rw [Array.getElem?_push, if_neg (by omega)]
theorem g_push_eq {h : Hp} {o : AObj} {b : Nat} (hb : b = h.size) : (h.push o)[b]? = some o := by
  rw [hb]; simp
theorem g_set_eq {h : Hp} {o : AObj} {b r : Nat} (hb : r < h.size) (e : r = b) : (h.setIfInBounds r o)[b]? = some o := by
  subst e; simp [hb]
theorem g_set_ne {h : Hp} {o : AObj} {b r : Nat} (e : r ≠ b) : (h.setIfInBounds r o)[b]? = h[b]? := by
  simp [e]
theorem Upd.refl {S : Nat → Prop} (h : Hp) : Upd S h h := ⟨Nat.le_refl _, fun _ _ _ => rfl⟩
theorem Upd.trans {S : Nat → Prop} {a b c : Hp} (x : Upd S a b) (y : Upd S b c) : Upd S a c :=
  ⟨Nat.le_trans x.1 y.1, fun r hr hs => (y.2 r (Nat.lt_of_lt_of_le hr x.1) hs).trans (x.2 r hr hs)⟩
theorem Upd.mono {S T : Nat → Prop} {a b : Hp} (x : Upd S a b) (h : ∀ r, r < a.size → S r → T r) : Upd T a b := ⟨x.1, fun r hr hs => x.2 r hr (fun h' => hs (h r hr h'))⟩
/-- What turned blocks that are new is nothing. -/
theorem Upd.fresh {S T : Nat → Prop} {a b c : Hp} (x : Upd S a b) (y : Upd T b c) (h : ∀ r, T r → a.size ≤ r ∨ S r) : Upd S a c :=
  ⟨Nat.le_trans x.1 y.1, fun r hr hs => (y.2 r (Nat.lt_of_lt_of_le hr x.1) (fun ht => by rcases h r ht with h | h; omega; exact hs h)).trans (x.2 r hr hs)⟩
theorem Upd.push {S : Nat → Prop} {a b : Hp} (x : Upd S a b) (o : AObj) : Upd S a (b.push o) :=
  ⟨by have := x.1; simp; omega, fun r hr hs => by rw [g_push_lt (Nat.lt_of_lt_of_le hr x.1)]; exact x.2 r hr hs⟩
theorem Upd.set {S : Nat → Prop} {a b : Hp} (x : Upd S a b) (r : Nat) (o : AObj) (h : a.size ≤ r ∨ S r) : Upd S a (b.setIfInBounds r o) :=
  ⟨by have := x.1; simpa using this, fun i hi hs => by
    rw [g_set_ne (by rintro rfl; rcases h with h | h; omega; exact hs h)]
    exact x.2 i hi hs⟩
theorem u0 {S : Nat → Prop} (h : Hp) : Upd S h h := Upd.refl h
theorem u1 {S : Nat → Prop} {a b : Hp} (x : Upd S a b) (o : AObj) : Upd S a (b.push o) := Upd.push x o
theorem u2 {S : Nat → Prop} {a b : Hp} (x : Upd S a b) (r : Nat) (o : AObj) (h : a.size ≤ r ∨ S r) : Upd S a (b.setIfInBounds r o) := Upd.set x r o h
theorem Upd.get {S : Nat → Prop} {a b : Hp} (x : Upd S a b) {r : Nat} {o : AObj} (h : a[r]? = some o) (hs : ¬ S r) : b[r]? = some o := by
  have hr := (Array.getElem?_eq_some_iff.1 h).1
  rw [x.2 r hr hs]; exact h
theorem Upd.lt {S : Nat → Prop} {a b : Hp} (x : Upd S a b) {r : Nat} (h : r < a.size) : r < b.size := Nat.lt_of_lt_of_le h x.1
theorem lt_of_get {h : Hp} {r : Nat} {o : AObj} (e : h[r]? = some o) : r < h.size := (Array.getElem?_eq_some_iff.1 e).1
end Go.Proofs.Ytdolepapmpcpiaa

namespace Go.Proofs.Ytdolepapmpcpiaa
open Go
set_option linter.unusedSectionVars false
variable [Base]
set_option linter.unusedVariables false
set_option linter.unusedSimpArgs false
variable {α β : Type}
def encM (e : α → Value) (m : List (Int × α)) : List (Value × Value) := m.map fun p => (.int .i64 p.1, e p.2)
def mfind : List (Int × α) → Int → Nat → Option (Nat × α)
  | [], _, _ => none
  | (j, x) :: r, i, n => if i = j then some (n, x) else mfind r i (n + 1)
def mget (m : List (Int × α)) (i : Int) : Option α := (mfind m i 0).map (·.2)
def mset (m : List (Int × α)) (i : Int) (x : α) : List (Int × α) :=
  match mfind m i 0 with
  | some (n, _) => m.set n (i, x)
  | none => m ++ [(i, x)]
def mdel (m : List (Int × α)) (i : Int) : List (Int × α) :=
  match mfind m i 0 with
  | some (n, _) => m.eraseIdx n
  | none => m
theorem kvFind_enc (e : α → Value) (i : Int) : ∀ (m : List (Int × α)) (n : Nat), kvFind (.int .i64) (.int .i64 i) (encM e m) n = some ((mfind m i n).map fun p => (p.1, e p.2))
  | [], n => rfl
  | (j, x) :: r, n => by
    have ih := kvFind_enc e i r (n + 1)
    unfold encM at ih
    simp only [encM, List.map_cons, kvFind, Instr.sameNow, if_true, mfind]
    by_cases h : i = j
    · subst h; simp
    · have : (i == j) = false := by simpa using h
      simp only [this, if_neg h]
      exact ih
theorem mfind_get {m : List (Int × α)} {i : Int} : ∀ {n k : Nat} {x : α}, mfind m i n = some (k, x) → n ≤ k ∧ m[k - n]? = some (i, x) := by
  induction m with
  | nil => intro n k x h; simp [mfind] at h
  | cons p r ih =>
    intro n k x h
    obtain ⟨j, y⟩ := p
    simp only [mfind] at h
    split at h
    · rename_i e; cases h; simp [e]
    · obtain ⟨h1, h2⟩ := ih h
      refine ⟨by omega, ?_⟩
      rw [show k - n = (k - (n + 1)) + 1 by omega]
      simpa using h2
theorem mfind_none {m : List (Int × α)} {i : Int} : ∀ {n : Nat}, mfind m i n = none → ∀ p ∈ m, p.1 ≠ i := by
  induction m with
  | nil => intro n _ p hp; cases hp
  | cons q r ih =>
    intro n h p hp
    obtain ⟨j, y⟩ := q
    simp only [mfind] at h
    split at h
    · cases h
    · rename_i hne
      cases hp with
      | head => exact fun e => hne e.symm
      | tail _ hp => exact ih h p hp
theorem kvPut_enc (e : α → Value) (m : List (Int × α)) (i : Int) (x : α) : kvPut (encM e m) ((mfind m i 0).map fun p => (p.1, e p.2)) (.int .i64 i) (e x) = encM e (mset m i x) := by
  unfold kvPut mset encM
  cases h : mfind m i 0 with
  | none => simp
  | some p => obtain ⟨n, y⟩ := p; simp [List.map_set]
theorem kvDel_enc (e : α → Value) (m : List (Int × α)) (i : Int) : (match (mfind m i 0).map (fun p => (p.1, e p.2)) with | some (n, _) => (encM e m).eraseIdx n | none => encM e m) = encM e (mdel m i) := by
  unfold mdel encM
  cases h : mfind m i 0 with
  | none => simp
  | some p => obtain ⟨n, y⟩ := p; simp [List.eraseIdx_eq_take_drop_succ, List.map_take, List.map_drop]
theorem encM_length (e : α → Value) (m : List (Int × α)) : (encM e m).length = m.length := by simp [encM]
/-- No key twice. -/
def keysOk (m : List (Int × α)) : Prop := (m.map (·.1)).Nodup
theorem mfind_shift (m : List (Int × α)) (i : Int) : ∀ (n : Nat), mfind m i n = (mfind m i 0).map fun p => (p.1 + n, p.2) := by
  induction m with
  | nil => intro n; rfl
  | cons q r ih =>
    intro n
    obtain ⟨j, y⟩ := q
    simp only [mfind]
    split
    · simp
    · rw [ih (n + 1), ih (0 + 1)]
      simp only [Option.map_map]
      congr 1
      funext p
      simp only [Function.comp, Prod.mk.injEq, and_true]
      omega
theorem mget_cons (j : Int) (y : α) (r : List (Int × α)) (i : Int) : mget ((j, y) :: r) i = if i = j then some y else mget r i := by
  unfold mget
  simp only [mfind]
  split
  · simp
  · rw [mfind_shift r i (0 + 1)]
    rw [Option.map_map]
    rfl
theorem mget_nil (i : Int) : mget ([] : List (Int × α)) i = none := rfl
theorem mget_append (m r : List (Int × α)) (i : Int) : mget (m ++ r) i = (mget m i).or (mget r i) := by
  induction m with
  | nil => simp [mget_nil]
  | cons q m ih =>
    obtain ⟨j, y⟩ := q
    simp only [List.cons_append, mget_cons, ih]
    split <;> simp
theorem mget_mset (m : List (Int × α)) (i : Int) (x : α) (k : Int) : mget (mset m i x) k = if k = i then some x else mget m k := by
  unfold mset
  cases h : mfind m i 0 with
  | none =>
    simp only [mget_append, mget_cons, mget_nil]
    have hn := mfind_none h
    by_cases hk : k = i
    · subst hk
      have : mget m k = none := by unfold mget; rw [h]; rfl
      simp [this]
    · simp [hk]
  | some p =>
    obtain ⟨n, y⟩ := p
    have gen : ∀ (m : List (Int × α)) (n s : Nat), mfind m i s = some (n, y) → mget (m.set (n - s) (i, x)) k = if k = i then some x else mget m k := by
      intro m
      induction m with
      | nil => intro n s h; simp [mfind] at h
      | cons q r ih =>
        intro n s h
        obtain ⟨j, z⟩ := q
        simp only [mfind] at h
        split at h
        · rename_i e; cases h; subst e
          simp only [Nat.sub_self, List.set_cons_zero, mget_cons]
          split <;> simp_all
        · rename_i e
          obtain ⟨h1, _⟩ := mfind_get h
          have := ih n (s + 1) h
          rw [show n - s = (n - (s + 1)) + 1 by omega]
          simp only [List.set_cons_succ, mget_cons, this]
          by_cases hk : k = i
          · subst hk; simp [e]
          · simp [hk]
    exact gen m n 0 h
theorem keysOk_mset {m : List (Int × α)} (h : keysOk m) (i : Int) (x : α) : keysOk (mset m i x) := by
  unfold mset
  cases hf : mfind m i 0 with
  | none =>
    unfold keysOk at *
    simp only [List.map_append, List.map_cons, List.map_nil]
    rw [List.nodup_append]
    refine ⟨h, by simp, ?_⟩
    intro a ha b hb
    simp only [List.mem_singleton] at hb
    subst hb
    simp only [List.mem_map] at ha
    obtain ⟨p, hp, rfl⟩ := ha
    exact mfind_none hf p hp
  | some p =>
    obtain ⟨n, y⟩ := p
    obtain ⟨_, hg⟩ := mfind_get hf
    unfold keysOk at *
    simp only [List.map_set]
    have : (m.map (·.1)).set n i = m.map (·.1) := by
      apply List.ext_getElem?
      intro j
      rw [List.getElem?_set]
      split
      · rename_i e; subst e
        simp only [Nat.sub_zero] at hg
        have hl := (List.getElem?_eq_some_iff.1 hg).1
        have : m[n] = (i, y) := by rw [List.getElem?_eq_getElem hl] at hg; exact Option.some.inj hg
        simp [hl, this]
      · rfl
    rw [this]
    exact h
theorem mget_mem {m : List (Int × α)} {i : Int} {x : α} (h : mget m i = some x) : (i, x) ∈ m := by
  unfold mget at h
  cases hf : mfind m i 0 with
  | none => simp [hf] at h
  | some p =>
    obtain ⟨n, y⟩ := p
    simp [hf] at h
    subst h
    exact List.mem_of_getElem? (mfind_get hf).2
theorem mget_of_mem {m : List (Int × α)} (hk : keysOk m) {i : Int} {x : α} (h : (i, x) ∈ m) : mget m i = some x := by
  induction m with
  | nil => cases h
  | cons q r ih =>
    obtain ⟨j, y⟩ := q
    unfold keysOk at hk
    simp only [List.map_cons, List.nodup_cons] at hk
    rw [mget_cons]
    cases h with
    | head => simp
    | tail _ h =>
      rw [if_neg, ih hk.2 h]
      rintro rfl
      exact hk.1 (List.mem_map.2 ⟨_, h, rfl⟩)
theorem mset_length (m : List (Int × α)) (i : Int) (x : α) : (mset m i x).length ≤ m.length + 1 := by
  unfold mset
  split <;> simp
end Go.Proofs.Ytdolepapmpcpiaa

namespace Go.Proofs.Ytdolepapmpcpiaa
open Go
set_option linter.unusedSectionVars false
variable [Base]
set_option linter.unusedVariables false
set_option maxRecDepth 100000
theorem prog_mixed : Try.prog.follows .mixedOrders = true := by kernel_rfl
abbrev Self := List Value → Hp → Prop
def bodyC (f : Func) : Code := match f.body with | some c => c | none => .skip
def cA : Code → Code | .seq a _ => a | _ => .skip
def cB : Code → Code | .seq _ b => b | _ => .skip
def cT : Code → Code | .cond _ a _ => a | _ => .skip
def cE : Code → Code | .cond _ _ b => b | _ => .skip
def cI : Code → Code | .block _ a => a | .loop a => a | _ => .skip
def C_q77 (args : List Value) (h : Hp) (K : Kont) : Prop := AC Try.prog 3 args.toArray h K
theorem C_q77.mono {args : List Value} {h : Hp} {K K' : Kont} (a : C_q77 args h K) (hk : ∀ v h', K v h' → K' v h') : C_q77 args h K' := AC.mono a hk
@[congr] theorem C_q43 {l l' : List Value} {h h' : Hp} {K : Kont} (el : l = l') (eh : h = h') : C_q77 l h K = C_q77 l' h' K := by subst el; subst eh; rfl
def C_q78 (args : List Value) (h : Hp) (K : Kont) : Prop := AC Try.prog 4 args.toArray h K
theorem C_q78.mono {args : List Value} {h : Hp} {K K' : Kont} (a : C_q78 args h K) (hk : ∀ v h', K v h' → K' v h') : C_q78 args h K' := AC.mono a hk
@[congr] theorem C_q44 {l l' : List Value} {h h' : Hp} {K : Kont} (el : l = l') (eh : h = h') : C_q78 l h K = C_q78 l' h' K := by subst el; subst eh; rfl
def C_q107 (args : List Value) (h : Hp) (K : Kont) : Prop := AC Try.prog 5 args.toArray h K
theorem C_q107.mono {args : List Value} {h : Hp} {K K' : Kont} (a : C_q107 args h K) (hk : ∀ v h', K v h' → K' v h') : C_q107 args h K' := AC.mono a hk
@[congr] theorem C_q67 {l l' : List Value} {h h' : Hp} {K : Kont} (el : l = l') (eh : h = h') : C_q107 l h K = C_q107 l' h' K := by subst el; subst eh; rfl
def C_q89 (args : List Value) (h : Hp) (K : Kont) : Prop := AC Try.prog 6 args.toArray h K
theorem C_q89.mono {args : List Value} {h : Hp} {K K' : Kont} (a : C_q89 args h K) (hk : ∀ v h', K v h' → K' v h') : C_q89 args h K' := AC.mono a hk
@[congr] theorem C_q52 {l l' : List Value} {h h' : Hp} {K : Kont} (el : l = l') (eh : h = h') : C_q89 l h K = C_q89 l' h' K := by subst el; subst eh; rfl
def C_q79 (args : List Value) (h : Hp) (K : Kont) : Prop := AC Try.prog 7 args.toArray h K
theorem C_q79.mono {args : List Value} {h : Hp} {K K' : Kont} (a : C_q79 args h K) (hk : ∀ v h', K v h' → K' v h') : C_q79 args h K' := AC.mono a hk
@[congr] theorem C_q45 {l l' : List Value} {h h' : Hp} {K : Kont} (el : l = l') (eh : h = h') : C_q79 l h K = C_q79 l' h' K := by subst el; subst eh; rfl
def C_q108 (args : List Value) (h : Hp) (K : Kont) : Prop := AC Try.prog 8 args.toArray h K
theorem C_q108.mono {args : List Value} {h : Hp} {K K' : Kont} (a : C_q108 args h K) (hk : ∀ v h', K v h' → K' v h') : C_q108 args h K' := AC.mono a hk
@[congr] theorem C_q68 {l l' : List Value} {h h' : Hp} {K : Kont} (el : l = l') (eh : h = h') : C_q108 l h K = C_q108 l' h' K := by subst el; subst eh; rfl
def C_q135 (args : List Value) (h : Hp) (K : Kont) : Prop := AC Try.prog 9 args.toArray h K
theorem C_q135.mono {args : List Value} {h : Hp} {K K' : Kont} (a : C_q135 args h K) (hk : ∀ v h', K v h' → K' v h') : C_q135 args h K' := AC.mono a hk
@[congr] theorem C_q90 {l l' : List Value} {h h' : Hp} {K : Kont} (el : l = l') (eh : h = h') : C_q135 l h K = C_q135 l' h' K := by subst el; subst eh; rfl
def C_q124 (args : List Value) (h : Hp) (K : Kont) : Prop := AC Try.prog 10 args.toArray h K
theorem C_q124.mono {args : List Value} {h : Hp} {K K' : Kont} (a : C_q124 args h K) (hk : ∀ v h', K v h' → K' v h') : C_q124 args h K' := AC.mono a hk
@[congr] theorem C_q80 {l l' : List Value} {h h' : Hp} {K : Kont} (el : l = l') (eh : h = h') : C_q124 l h K = C_q124 l' h' K := by subst el; subst eh; rfl
def C_q146 (args : List Value) (h : Hp) (K : Kont) : Prop := AC Try.prog 11 args.toArray h K
theorem C_q146.mono {args : List Value} {h : Hp} {K K' : Kont} (a : C_q146 args h K) (hk : ∀ v h', K v h' → K' v h') : C_q146 args h K' := AC.mono a hk
@[congr] theorem C_q100 {l l' : List Value} {h h' : Hp} {K : Kont} (el : l = l') (eh : h = h') : C_q146 l h K = C_q146 l' h' K := by subst el; subst eh; rfl
def C_q169 (args : List Value) (h : Hp) (K : Kont) : Prop := AC Try.prog 12 args.toArray h K
theorem C_q169.mono {args : List Value} {h : Hp} {K K' : Kont} (a : C_q169 args h K) (hk : ∀ v h', K v h' → K' v h') : C_q169 args h K' := AC.mono a hk
@[congr] theorem C_q134 {l l' : List Value} {h h' : Hp} {K : Kont} (el : l = l') (eh : h = h') : C_q169 l h K = C_q169 l' h' K := by subst el; subst eh; rfl
def C_q33 (args : List Value) (h : Hp) (K : Kont) : Prop := AC Try.prog 13 args.toArray h K
theorem C_q33.mono {args : List Value} {h : Hp} {K K' : Kont} (a : C_q33 args h K) (hk : ∀ v h', K v h' → K' v h') : C_q33 args h K' := AC.mono a hk
@[congr] theorem C_q22 {l l' : List Value} {h h' : Hp} {K : Kont} (el : l = l') (eh : h = h') : C_q33 l h K = C_q33 l' h' K := by subst el; subst eh; rfl
def C_q183 (args : List Value) (h : Hp) (K : Kont) : Prop := AC Try.prog 14 args.toArray h K
theorem C_q183.mono {args : List Value} {h : Hp} {K K' : Kont} (a : C_q183 args h K) (hk : ∀ v h', K v h' → K' v h') : C_q183 args h K' := AC.mono a hk
@[congr] theorem C_q166 {l l' : List Value} {h h' : Hp} {K : Kont} (el : l = l') (eh : h = h') : C_q183 l h K = C_q183 l' h' K := by subst el; subst eh; rfl
def C_q17 (args : List Value) (h : Hp) (K : Kont) : Prop := AC Try.prog 15 args.toArray h K
theorem C_q17.mono {args : List Value} {h : Hp} {K K' : Kont} (a : C_q17 args h K) (hk : ∀ v h', K v h' → K' v h') : C_q17 args h K' := AC.mono a hk
@[congr] theorem C_q14 {l l' : List Value} {h h' : Hp} {K : Kont} (el : l = l') (eh : h = h') : C_q17 l h K = C_q17 l' h' K := by subst el; subst eh; rfl
def C_q38 (args : List Value) (h : Hp) (K : Kont) : Prop := AC Try.prog 16 args.toArray h K
theorem C_q38.mono {args : List Value} {h : Hp} {K K' : Kont} (a : C_q38 args h K) (hk : ∀ v h', K v h' → K' v h') : C_q38 args h K' := AC.mono a hk
@[congr] theorem C_q25 {l l' : List Value} {h h' : Hp} {K : Kont} (el : l = l') (eh : h = h') : C_q38 l h K = C_q38 l' h' K := by subst el; subst eh; rfl
def C_q115 (args : List Value) (h : Hp) (K : Kont) : Prop := AC Try.prog 17 args.toArray h K
theorem C_q115.mono {args : List Value} {h : Hp} {K K' : Kont} (a : C_q115 args h K) (hk : ∀ v h', K v h' → K' v h') : C_q115 args h K' := AC.mono a hk
@[congr] theorem C_q75 {l l' : List Value} {h h' : Hp} {K : Kont} (el : l = l') (eh : h = h') : C_q115 l h K = C_q115 l' h' K := by subst el; subst eh; rfl
def C_q27 (args : List Value) (h : Hp) (K : Kont) : Prop := AC Try.prog 18 args.toArray h K
theorem C_q27.mono {args : List Value} {h : Hp} {K K' : Kont} (a : C_q27 args h K) (hk : ∀ v h', K v h' → K' v h') : C_q27 args h K' := AC.mono a hk
@[congr] theorem C_q18 {l l' : List Value} {h h' : Hp} {K : Kont} (el : l = l') (eh : h = h') : C_q27 l h K = C_q27 l' h' K := by subst el; subst eh; rfl
def C_q175 (args : List Value) (h : Hp) (K : Kont) : Prop := AC Try.prog 19 args.toArray h K
theorem C_q175.mono {args : List Value} {h : Hp} {K K' : Kont} (a : C_q175 args h K) (hk : ∀ v h', K v h' → K' v h') : C_q175 args h K' := AC.mono a hk
@[congr] theorem C_q141 {l l' : List Value} {h h' : Hp} {K : Kont} (el : l = l') (eh : h = h') : C_q175 l h K = C_q175 l' h' K := by subst el; subst eh; rfl
def C_q161 (args : List Value) (h : Hp) (K : Kont) : Prop := AC Try.prog 20 args.toArray h K
theorem C_q161.mono {args : List Value} {h : Hp} {K K' : Kont} (a : C_q161 args h K) (hk : ∀ v h', K v h' → K' v h') : C_q161 args h K' := AC.mono a hk
@[congr] theorem C_q123 {l l' : List Value} {h h' : Hp} {K : Kont} (el : l = l') (eh : h = h') : C_q161 l h K = C_q161 l' h' K := by subst el; subst eh; rfl
def C_q21 (args : List Value) (h : Hp) (K : Kont) : Prop := AC Try.prog 21 args.toArray h K
theorem C_q21.mono {args : List Value} {h : Hp} {K K' : Kont} (a : C_q21 args h K) (hk : ∀ v h', K v h' → K' v h') : C_q21 args h K' := AC.mono a hk
@[congr] theorem C_q15 {l l' : List Value} {h h' : Hp} {K : Kont} (el : l = l') (eh : h = h') : C_q21 l h K = C_q21 l' h' K := by subst el; subst eh; rfl
def C_q24 (args : List Value) (h : Hp) (K : Kont) : Prop := AC Try.prog 22 args.toArray h K
theorem C_q24.mono {args : List Value} {h : Hp} {K K' : Kont} (a : C_q24 args h K) (hk : ∀ v h', K v h' → K' v h') : C_q24 args h K' := AC.mono a hk
@[congr] theorem C_q16 {l l' : List Value} {h h' : Hp} {K : Kont} (el : l = l') (eh : h = h') : C_q24 l h K = C_q24 l' h' K := by subst el; subst eh; rfl
def C_q131 (args : List Value) (h : Hp) (K : Kont) : Prop := AC Try.prog 23 args.toArray h K
theorem C_q131.mono {args : List Value} {h : Hp} {K K' : Kont} (a : C_q131 args h K) (hk : ∀ v h', K v h' → K' v h') : C_q131 args h K' := AC.mono a hk
@[congr] theorem C_q86 {l l' : List Value} {h h' : Hp} {K : Kont} (el : l = l') (eh : h = h') : C_q131 l h K = C_q131 l' h' K := by subst el; subst eh; rfl
def C_q174 (args : List Value) (h : Hp) (K : Kont) : Prop := AC Try.prog 24 args.toArray h K
theorem C_q174.mono {args : List Value} {h : Hp} {K K' : Kont} (a : C_q174 args h K) (hk : ∀ v h', K v h' → K' v h') : C_q174 args h K' := AC.mono a hk
@[congr] theorem C_q140 {l l' : List Value} {h h' : Hp} {K : Kont} (el : l = l') (eh : h = h') : C_q174 l h K = C_q174 l' h' K := by subst el; subst eh; rfl
def C_q167 (args : List Value) (h : Hp) (K : Kont) : Prop := AC Try.prog 25 args.toArray h K
theorem C_q167.mono {args : List Value} {h : Hp} {K K' : Kont} (a : C_q167 args h K) (hk : ∀ v h', K v h' → K' v h') : C_q167 args h K' := AC.mono a hk
@[congr] theorem C_q129 {l l' : List Value} {h h' : Hp} {K : Kont} (el : l = l') (eh : h = h') : C_q167 l h K = C_q167 l' h' K := by subst el; subst eh; rfl
def C_q162 (args : List Value) (h : Hp) (K : Kont) : Prop := AC Try.prog 26 args.toArray h K
theorem C_q162.mono {args : List Value} {h : Hp} {K K' : Kont} (a : C_q162 args h K) (hk : ∀ v h', K v h' → K' v h') : C_q162 args h K' := AC.mono a hk
@[congr] theorem C_q125 {l l' : List Value} {h h' : Hp} {K : Kont} (el : l = l') (eh : h = h') : C_q162 l h K = C_q162 l' h' K := by subst el; subst eh; rfl
def C_q171 (args : List Value) (h : Hp) (K : Kont) : Prop := AC Try.prog 27 args.toArray h K
theorem C_q171.mono {args : List Value} {h : Hp} {K K' : Kont} (a : C_q171 args h K) (hk : ∀ v h', K v h' → K' v h') : C_q171 args h K' := AC.mono a hk
@[congr] theorem C_q137 {l l' : List Value} {h h' : Hp} {K : Kont} (el : l = l') (eh : h = h') : C_q171 l h K = C_q171 l' h' K := by subst el; subst eh; rfl
def C_q82 (args : List Value) (h : Hp) (K : Kont) : Prop := AC Try.prog 28 args.toArray h K
theorem C_q82.mono {args : List Value} {h : Hp} {K K' : Kont} (a : C_q82 args h K) (hk : ∀ v h', K v h' → K' v h') : C_q82 args h K' := AC.mono a hk
@[congr] theorem C_q48 {l l' : List Value} {h h' : Hp} {K : Kont} (el : l = l') (eh : h = h') : C_q82 l h K = C_q82 l' h' K := by subst el; subst eh; rfl
def C_q57 (args : List Value) (h : Hp) (K : Kont) : Prop := AC Try.prog 29 args.toArray h K
theorem C_q57.mono {args : List Value} {h : Hp} {K K' : Kont} (a : C_q57 args h K) (hk : ∀ v h', K v h' → K' v h') : C_q57 args h K' := AC.mono a hk
@[congr] theorem C_q35 {l l' : List Value} {h h' : Hp} {K : Kont} (el : l = l') (eh : h = h') : C_q57 l h K = C_q57 l' h' K := by subst el; subst eh; rfl
def C_q93 (args : List Value) (h : Hp) (K : Kont) : Prop := AC Try.prog 30 args.toArray h K
theorem C_q93.mono {args : List Value} {h : Hp} {K K' : Kont} (a : C_q93 args h K) (hk : ∀ v h', K v h' → K' v h') : C_q93 args h K' := AC.mono a hk
@[congr] theorem C_q55 {l l' : List Value} {h h' : Hp} {K : Kont} (el : l = l') (eh : h = h') : C_q93 l h K = C_q93 l' h' K := by subst el; subst eh; rfl
def C_q58 (args : List Value) (h : Hp) (K : Kont) : Prop := AC Try.prog 31 args.toArray h K
theorem C_q58.mono {args : List Value} {h : Hp} {K K' : Kont} (a : C_q58 args h K) (hk : ∀ v h', K v h' → K' v h') : C_q58 args h K' := AC.mono a hk
@[congr] theorem C_q36 {l l' : List Value} {h h' : Hp} {K : Kont} (el : l = l') (eh : h = h') : C_q58 l h K = C_q58 l' h' K := by subst el; subst eh; rfl
def C_q47 (args : List Value) (h : Hp) (K : Kont) : Prop := AC Try.prog 32 args.toArray h K
theorem C_q47.mono {args : List Value} {h : Hp} {K K' : Kont} (a : C_q47 args h K) (hk : ∀ v h', K v h' → K' v h') : C_q47 args h K' := AC.mono a hk
@[congr] theorem C_q28 {l l' : List Value} {h h' : Hp} {K : Kont} (el : l = l') (eh : h = h') : C_q47 l h K = C_q47 l' h' K := by subst el; subst eh; rfl
def C_q94 (args : List Value) (h : Hp) (K : Kont) : Prop := AC Try.prog 33 args.toArray h K
theorem C_q94.mono {args : List Value} {h : Hp} {K K' : Kont} (a : C_q94 args h K) (hk : ∀ v h', K v h' → K' v h') : C_q94 args h K' := AC.mono a hk
@[congr] theorem C_q56 {l l' : List Value} {h h' : Hp} {K : Kont} (el : l = l') (eh : h = h') : C_q94 l h K = C_q94 l' h' K := by subst el; subst eh; rfl
def C_q170 (args : List Value) (h : Hp) (K : Kont) : Prop := AC Try.prog 34 args.toArray h K
theorem C_q170.mono {args : List Value} {h : Hp} {K K' : Kont} (a : C_q170 args h K) (hk : ∀ v h', K v h' → K' v h') : C_q170 args h K' := AC.mono a hk
@[congr] theorem C_q136 {l l' : List Value} {h h' : Hp} {K : Kont} (el : l = l') (eh : h = h') : C_q170 l h K = C_q170 l' h' K := by subst el; subst eh; rfl
def C_q83 (args : List Value) (h : Hp) (K : Kont) : Prop := AC Try.prog 35 args.toArray h K
theorem C_q83.mono {args : List Value} {h : Hp} {K K' : Kont} (a : C_q83 args h K) (hk : ∀ v h', K v h' → K' v h') : C_q83 args h K' := AC.mono a hk
@[congr] theorem C_q49 {l l' : List Value} {h h' : Hp} {K : Kont} (el : l = l') (eh : h = h') : C_q83 l h K = C_q83 l' h' K := by subst el; subst eh; rfl
def C_q70 (args : List Value) (h : Hp) (K : Kont) : Prop := AC Try.prog 36 args.toArray h K
theorem C_q70.mono {args : List Value} {h : Hp} {K K' : Kont} (a : C_q70 args h K) (hk : ∀ v h', K v h' → K' v h') : C_q70 args h K' := AC.mono a hk
@[congr] theorem C_q39 {l l' : List Value} {h h' : Hp} {K : Kont} (el : l = l') (eh : h = h') : C_q70 l h K = C_q70 l' h' K := by subst el; subst eh; rfl
def C_q92 (args : List Value) (h : Hp) (K : Kont) : Prop := AC Try.prog 37 args.toArray h K
theorem C_q92.mono {args : List Value} {h : Hp} {K K' : Kont} (a : C_q92 args h K) (hk : ∀ v h', K v h' → K' v h') : C_q92 args h K' := AC.mono a hk
@[congr] theorem C_q54 {l l' : List Value} {h h' : Hp} {K : Kont} (el : l = l') (eh : h = h') : C_q92 l h K = C_q92 l' h' K := by subst el; subst eh; rfl
def C_q176 (args : List Value) (h : Hp) (K : Kont) : Prop := AC Try.prog 38 args.toArray h K
theorem C_q176.mono {args : List Value} {h : Hp} {K K' : Kont} (a : C_q176 args h K) (hk : ∀ v h', K v h' → K' v h') : C_q176 args h K' := AC.mono a hk
@[congr] theorem C_q143 {l l' : List Value} {h h' : Hp} {K : Kont} (el : l = l') (eh : h = h') : C_q176 l h K = C_q176 l' h' K := by subst el; subst eh; rfl
def C_q71 (args : List Value) (h : Hp) (K : Kont) : Prop := AC Try.prog 39 args.toArray h K
theorem C_q71.mono {args : List Value} {h : Hp} {K K' : Kont} (a : C_q71 args h K) (hk : ∀ v h', K v h' → K' v h') : C_q71 args h K' := AC.mono a hk
@[congr] theorem C_q40 {l l' : List Value} {h h' : Hp} {K : Kont} (el : l = l') (eh : h = h') : C_q71 l h K = C_q71 l' h' K := by subst el; subst eh; rfl
def C_q109 (args : List Value) (h : Hp) (K : Kont) : Prop := AC Try.prog 40 args.toArray h K
theorem C_q109.mono {args : List Value} {h : Hp} {K K' : Kont} (a : C_q109 args h K) (hk : ∀ v h', K v h' → K' v h') : C_q109 args h K' := AC.mono a hk
@[congr] theorem C_q69 {l l' : List Value} {h h' : Hp} {K : Kont} (el : l = l') (eh : h = h') : C_q109 l h K = C_q109 l' h' K := by subst el; subst eh; rfl
def C_q91 (args : List Value) (h : Hp) (K : Kont) : Prop := AC Try.prog 41 args.toArray h K
theorem C_q91.mono {args : List Value} {h : Hp} {K K' : Kont} (a : C_q91 args h K) (hk : ∀ v h', K v h' → K' v h') : C_q91 args h K' := AC.mono a hk
@[congr] theorem C_q53 {l l' : List Value} {h h' : Hp} {K : Kont} (el : l = l') (eh : h = h') : C_q91 l h K = C_q91 l' h' K := by subst el; subst eh; rfl
def C_q142 (args : List Value) (h : Hp) (K : Kont) : Prop := AC Try.prog 42 args.toArray h K
theorem C_q142.mono {args : List Value} {h : Hp} {K K' : Kont} (a : C_q142 args h K) (hk : ∀ v h', K v h' → K' v h') : C_q142 args h K' := AC.mono a hk
@[congr] theorem C_q97 {l l' : List Value} {h h' : Hp} {K : Kont} (el : l = l') (eh : h = h') : C_q142 l h K = C_q142 l' h' K := by subst el; subst eh; rfl
def C_q154 (args : List Value) (h : Hp) (K : Kont) : Prop := AC Try.prog 43 args.toArray h K
theorem C_q154.mono {args : List Value} {h : Hp} {K K' : Kont} (a : C_q154 args h K) (hk : ∀ v h', K v h' → K' v h') : C_q154 args h K' := AC.mono a hk
@[congr] theorem C_q116 {l l' : List Value} {h h' : Hp} {K : Kont} (el : l = l') (eh : h = h') : C_q154 l h K = C_q154 l' h' K := by subst el; subst eh; rfl
def C_q101 (args : List Value) (h : Hp) (K : Kont) : Prop := AC Try.prog 44 args.toArray h K
theorem C_q101.mono {args : List Value} {h : Hp} {K K' : Kont} (a : C_q101 args h K) (hk : ∀ v h', K v h' → K' v h') : C_q101 args h K' := AC.mono a hk
@[congr] theorem C_q62 {l l' : List Value} {h h' : Hp} {K : Kont} (el : l = l') (eh : h = h') : C_q101 l h K = C_q101 l' h' K := by subst el; subst eh; rfl
def C_q159 (args : List Value) (h : Hp) (K : Kont) : Prop := AC Try.prog 45 args.toArray h K
theorem C_q159.mono {args : List Value} {h : Hp} {K K' : Kont} (a : C_q159 args h K) (hk : ∀ v h', K v h' → K' v h') : C_q159 args h K' := AC.mono a hk
@[congr] theorem C_q121 {l l' : List Value} {h h' : Hp} {K : Kont} (el : l = l') (eh : h = h') : C_q159 l h K = C_q159 l' h' K := by subst el; subst eh; rfl
def C_q147 (args : List Value) (h : Hp) (K : Kont) : Prop := AC Try.prog 46 args.toArray h K
theorem C_q147.mono {args : List Value} {h : Hp} {K K' : Kont} (a : C_q147 args h K) (hk : ∀ v h', K v h' → K' v h') : C_q147 args h K' := AC.mono a hk
@[congr] theorem C_q106 {l l' : List Value} {h h' : Hp} {K : Kont} (el : l = l') (eh : h = h') : C_q147 l h K = C_q147 l' h' K := by subst el; subst eh; rfl
def C_q42 (args : List Value) (h : Hp) (K : Kont) : Prop := AC Try.prog 47 args.toArray h K
theorem C_q42.mono {args : List Value} {h : Hp} {K K' : Kont} (a : C_q42 args h K) (hk : ∀ v h', K v h' → K' v h') : C_q42 args h K' := AC.mono a hk
@[congr] theorem C_q26 {l l' : List Value} {h h' : Hp} {K : Kont} (el : l = l') (eh : h = h') : C_q42 l h K = C_q42 l' h' K := by subst el; subst eh; rfl
def C_q51 (args : List Value) (h : Hp) (K : Kont) : Prop := AC Try.prog 48 args.toArray h K
theorem C_q51.mono {args : List Value} {h : Hp} {K K' : Kont} (a : C_q51 args h K) (hk : ∀ v h', K v h' → K' v h') : C_q51 args h K' := AC.mono a hk
@[congr] theorem C_q32 {l l' : List Value} {h h' : Hp} {K : Kont} (el : l = l') (eh : h = h') : C_q51 l h K = C_q51 l' h' K := by subst el; subst eh; rfl
def C_q6 (args : List Value) (h : Hp) (K : Kont) : Prop := AC Try.prog 49 args.toArray h K
theorem C_q6.mono {args : List Value} {h : Hp} {K K' : Kont} (a : C_q6 args h K) (hk : ∀ v h', K v h' → K' v h') : C_q6 args h K' := AC.mono a hk
@[congr] theorem C_q3 {l l' : List Value} {h h' : Hp} {K : Kont} (el : l = l') (eh : h = h') : C_q6 l h K = C_q6 l' h' K := by subst el; subst eh; rfl
def C_q180 (args : List Value) (h : Hp) (K : Kont) : Prop := AC Try.prog 50 args.toArray h K
theorem C_q180.mono {args : List Value} {h : Hp} {K K' : Kont} (a : C_q180 args h K) (hk : ∀ v h', K v h' → K' v h') : C_q180 args h K' := AC.mono a hk
@[congr] theorem C_q155 {l l' : List Value} {h h' : Hp} {K : Kont} (el : l = l') (eh : h = h') : C_q180 l h K = C_q180 l' h' K := by subst el; subst eh; rfl
def C_q132 (args : List Value) (h : Hp) (K : Kont) : Prop := AC Try.prog 51 args.toArray h K
theorem C_q132.mono {args : List Value} {h : Hp} {K K' : Kont} (a : C_q132 args h K) (hk : ∀ v h', K v h' → K' v h') : C_q132 args h K' := AC.mono a hk
@[congr] theorem C_q87 {l l' : List Value} {h h' : Hp} {K : Kont} (el : l = l') (eh : h = h') : C_q132 l h K = C_q132 l' h' K := by subst el; subst eh; rfl
def C_q126 (args : List Value) (h : Hp) (K : Kont) : Prop := AC Try.prog 52 args.toArray h K
theorem C_q126.mono {args : List Value} {h : Hp} {K K' : Kont} (a : C_q126 args h K) (hk : ∀ v h', K v h' → K' v h') : C_q126 args h K' := AC.mono a hk
@[congr] theorem C_q84 {l l' : List Value} {h h' : Hp} {K : Kont} (el : l = l') (eh : h = h') : C_q126 l h K = C_q126 l' h' K := by subst el; subst eh; rfl
def C_q74 (args : List Value) (h : Hp) (K : Kont) : Prop := AC Try.prog 53 args.toArray h K
theorem C_q74.mono {args : List Value} {h : Hp} {K K' : Kont} (a : C_q74 args h K) (hk : ∀ v h', K v h' → K' v h') : C_q74 args h K' := AC.mono a hk
@[congr] theorem C_q41 {l l' : List Value} {h h' : Hp} {K : Kont} (el : l = l') (eh : h = h') : C_q74 l h K = C_q74 l' h' K := by subst el; subst eh; rfl
def C_q10 (args : List Value) (h : Hp) (K : Kont) : Prop := AC Try.prog 54 args.toArray h K
theorem C_q10.mono {args : List Value} {h : Hp} {K K' : Kont} (a : C_q10 args h K) (hk : ∀ v h', K v h' → K' v h') : C_q10 args h K' := AC.mono a hk
@[congr] theorem C_q7 {l l' : List Value} {h h' : Hp} {K : Kont} (el : l = l') (eh : h = h') : C_q10 l h K = C_q10 l' h' K := by subst el; subst eh; rfl
def C_q13 (args : List Value) (h : Hp) (K : Kont) : Prop := AC Try.prog 55 args.toArray h K
theorem C_q13.mono {args : List Value} {h : Hp} {K K' : Kont} (a : C_q13 args h K) (hk : ∀ v h', K v h' → K' v h') : C_q13 args h K' := AC.mono a hk
@[congr] theorem C_q12 {l l' : List Value} {h h' : Hp} {K : Kont} (el : l = l') (eh : h = h') : C_q13 l h K = C_q13 l' h' K := by subst el; subst eh; rfl
def C_q34 (args : List Value) (h : Hp) (K : Kont) : Prop := AC Try.prog 56 args.toArray h K
theorem ent_q34 : canEnter Try.prog 56 = true := by kernel_rfl
theorem C_q34.mono {args : List Value} {h : Hp} {K K' : Kont} (a : C_q34 args h K) (hk : ∀ v h', K v h' → K' v h') : C_q34 args h K' := AC.mono a hk
@[congr] theorem C_q23 {l l' : List Value} {h h' : Hp} {K : Kont} (el : l = l') (eh : h = h') : C_q34 l h K = C_q34 l' h' K := by subst el; subst eh; rfl
def C_q133 (args : List Value) (h : Hp) (K : Kont) : Prop := AC Try.prog 57 args.toArray h K
theorem C_q133.mono {args : List Value} {h : Hp} {K K' : Kont} (a : C_q133 args h K) (hk : ∀ v h', K v h' → K' v h') : C_q133 args h K' := AC.mono a hk
@[congr] theorem C_q88 {l l' : List Value} {h h' : Hp} {K : Kont} (el : l = l') (eh : h = h') : C_q133 l h K = C_q133 l' h' K := by subst el; subst eh; rfl
def C_q4 (args : List Value) (h : Hp) (K : Kont) : Prop := AC Try.prog 58 args.toArray h K
theorem C_q4.mono {args : List Value} {h : Hp} {K K' : Kont} (a : C_q4 args h K) (hk : ∀ v h', K v h' → K' v h') : C_q4 args h K' := AC.mono a hk
@[congr] theorem C_q2 {l l' : List Value} {h h' : Hp} {K : Kont} (el : l = l') (eh : h = h') : C_q4 l h K = C_q4 l' h' K := by subst el; subst eh; rfl
def C_q102 (args : List Value) (h : Hp) (K : Kont) : Prop := AC Try.prog 59 args.toArray h K
theorem C_q102.mono {args : List Value} {h : Hp} {K K' : Kont} (a : C_q102 args h K) (hk : ∀ v h', K v h' → K' v h') : C_q102 args h K' := AC.mono a hk
@[congr] theorem C_q63 {l l' : List Value} {h h' : Hp} {K : Kont} (el : l = l') (eh : h = h') : C_q102 l h K = C_q102 l' h' K := by subst el; subst eh; rfl
def C_q95 (args : List Value) (h : Hp) (K : Kont) : Prop := AC Try.prog 60 args.toArray h K
theorem C_q95.mono {args : List Value} {h : Hp} {K K' : Kont} (a : C_q95 args h K) (hk : ∀ v h', K v h' → K' v h') : C_q95 args h K' := AC.mono a hk
@[congr] theorem C_q59 {l l' : List Value} {h h' : Hp} {K : Kont} (el : l = l') (eh : h = h') : C_q95 l h K = C_q95 l' h' K := by subst el; subst eh; rfl
def C_q50 (args : List Value) (h : Hp) (K : Kont) : Prop := AC Try.prog 61 args.toArray h K
theorem C_q50.mono {args : List Value} {h : Hp} {K K' : Kont} (a : C_q50 args h K) (hk : ∀ v h', K v h' → K' v h') : C_q50 args h K' := AC.mono a hk
@[congr] theorem C_q30 {l l' : List Value} {h h' : Hp} {K : Kont} (el : l = l') (eh : h = h') : C_q50 l h K = C_q50 l' h' K := by subst el; subst eh; rfl
def C_q96 (args : List Value) (h : Hp) (K : Kont) : Prop := AC Try.prog 62 args.toArray h K
theorem C_q96.mono {args : List Value} {h : Hp} {K K' : Kont} (a : C_q96 args h K) (hk : ∀ v h', K v h' → K' v h') : C_q96 args h K' := AC.mono a hk
@[congr] theorem C_q60 {l l' : List Value} {h h' : Hp} {K : Kont} (el : l = l') (eh : h = h') : C_q96 l h K = C_q96 l' h' K := by subst el; subst eh; rfl
def C_q111 (args : List Value) (h : Hp) (K : Kont) : Prop := AC Try.prog 63 args.toArray h K
theorem C_q111.mono {args : List Value} {h : Hp} {K K' : Kont} (a : C_q111 args h K) (hk : ∀ v h', K v h' → K' v h') : C_q111 args h K' := AC.mono a hk
@[congr] theorem C_q73 {l l' : List Value} {h h' : Hp} {K : Kont} (el : l = l') (eh : h = h') : C_q111 l h K = C_q111 l' h' K := by subst el; subst eh; rfl
def C_q61 (args : List Value) (h : Hp) (K : Kont) : Prop := AC Try.prog 64 args.toArray h K
theorem C_q61.mono {args : List Value} {h : Hp} {K K' : Kont} (a : C_q61 args h K) (hk : ∀ v h', K v h' → K' v h') : C_q61 args h K' := AC.mono a hk
@[congr] theorem C_q37 {l l' : List Value} {h h' : Hp} {K : Kont} (el : l = l') (eh : h = h') : C_q61 l h K = C_q61 l' h' K := by subst el; subst eh; rfl
def C_q1 (args : List Value) (h : Hp) (K : Kont) : Prop := AC Try.prog 65 args.toArray h K
theorem C_q1.mono {args : List Value} {h : Hp} {K K' : Kont} (a : C_q1 args h K) (hk : ∀ v h', K v h' → K' v h') : C_q1 args h K' := AC.mono a hk
@[congr] theorem C_q0 {l l' : List Value} {h h' : Hp} {K : Kont} (el : l = l') (eh : h = h') : C_q1 l h K = C_q1 l' h' K := by subst el; subst eh; rfl
def C_q168 (args : List Value) (h : Hp) (K : Kont) : Prop := AC Try.prog 66 args.toArray h K
theorem C_q168.mono {args : List Value} {h : Hp} {K K' : Kont} (a : C_q168 args h K) (hk : ∀ v h', K v h' → K' v h') : C_q168 args h K' := AC.mono a hk
@[congr] theorem C_q130 {l l' : List Value} {h h' : Hp} {K : Kont} (el : l = l') (eh : h = h') : C_q168 l h K = C_q168 l' h' K := by subst el; subst eh; rfl
def C_q144 (args : List Value) (h : Hp) (K : Kont) : Prop := AC Try.prog 67 args.toArray h K
theorem C_q144.mono {args : List Value} {h : Hp} {K K' : Kont} (a : C_q144 args h K) (hk : ∀ v h', K v h' → K' v h') : C_q144 args h K' := AC.mono a hk
@[congr] theorem C_q98 {l l' : List Value} {h h' : Hp} {K : Kont} (el : l = l') (eh : h = h') : C_q144 l h K = C_q144 l' h' K := by subst el; subst eh; rfl
def C_q145 (args : List Value) (h : Hp) (K : Kont) : Prop := AC Try.prog 68 args.toArray h K
theorem C_q145.mono {args : List Value} {h : Hp} {K K' : Kont} (a : C_q145 args h K) (hk : ∀ v h', K v h' → K' v h') : C_q145 args h K' := AC.mono a hk
@[congr] theorem C_q99 {l l' : List Value} {h h' : Hp} {K : Kont} (el : l = l') (eh : h = h') : C_q145 l h K = C_q145 l' h' K := by subst el; subst eh; rfl
def C_q128 (args : List Value) (h : Hp) (K : Kont) : Prop := AC Try.prog 69 args.toArray h K
theorem C_q128.mono {args : List Value} {h : Hp} {K K' : Kont} (a : C_q128 args h K) (hk : ∀ v h', K v h' → K' v h') : C_q128 args h K' := AC.mono a hk
@[congr] theorem C_q85 {l l' : List Value} {h h' : Hp} {K : Kont} (el : l = l') (eh : h = h') : C_q128 l h K = C_q128 l' h' K := by subst el; subst eh; rfl
def C_q156 (args : List Value) (h : Hp) (K : Kont) : Prop := AC Try.prog 70 args.toArray h K
theorem C_q156.mono {args : List Value} {h : Hp} {K K' : Kont} (a : C_q156 args h K) (hk : ∀ v h', K v h' → K' v h') : C_q156 args h K' := AC.mono a hk
@[congr] theorem C_q117 {l l' : List Value} {h h' : Hp} {K : Kont} (el : l = l') (eh : h = h') : C_q156 l h K = C_q156 l' h' K := by subst el; subst eh; rfl
def C_q81 (args : List Value) (h : Hp) (K : Kont) : Prop := AC Try.prog 71 args.toArray h K
theorem C_q81.mono {args : List Value} {h : Hp} {K K' : Kont} (a : C_q81 args h K) (hk : ∀ v h', K v h' → K' v h') : C_q81 args h K' := AC.mono a hk
@[congr] theorem C_q46 {l l' : List Value} {h h' : Hp} {K : Kont} (el : l = l') (eh : h = h') : C_q81 l h K = C_q81 l' h' K := by subst el; subst eh; rfl
def C_q181 (args : List Value) (h : Hp) (K : Kont) : Prop := AC Try.prog 72 args.toArray h K
theorem C_q181.mono {args : List Value} {h : Hp} {K K' : Kont} (a : C_q181 args h K) (hk : ∀ v h', K v h' → K' v h') : C_q181 args h K' := AC.mono a hk
@[congr] theorem C_q163 {l l' : List Value} {h h' : Hp} {K : Kont} (el : l = l') (eh : h = h') : C_q181 l h K = C_q181 l' h' K := by subst el; subst eh; rfl
def C_q165 (args : List Value) (h : Hp) (K : Kont) : Prop := AC Try.prog 73 args.toArray h K
theorem C_q165.mono {args : List Value} {h : Hp} {K K' : Kont} (a : C_q165 args h K) (hk : ∀ v h', K v h' → K' v h') : C_q165 args h K' := AC.mono a hk
@[congr] theorem C_q127 {l l' : List Value} {h h' : Hp} {K : Kont} (el : l = l') (eh : h = h') : C_q165 l h K = C_q165 l' h' K := by subst el; subst eh; rfl
def C_q104 (args : List Value) (h : Hp) (K : Kont) : Prop := AC Try.prog 74 args.toArray h K
theorem C_q104.mono {args : List Value} {h : Hp} {K K' : Kont} (a : C_q104 args h K) (hk : ∀ v h', K v h' → K' v h') : C_q104 args h K' := AC.mono a hk
@[congr] theorem C_q65 {l l' : List Value} {h h' : Hp} {K : Kont} (el : l = l') (eh : h = h') : C_q104 l h K = C_q104 l' h' K := by subst el; subst eh; rfl
def C_q160 (args : List Value) (h : Hp) (K : Kont) : Prop := AC Try.prog 77 args.toArray h K
theorem C_q160.mono {args : List Value} {h : Hp} {K K' : Kont} (a : C_q160 args h K) (hk : ∀ v h', K v h' → K' v h') : C_q160 args h K' := AC.mono a hk
@[congr] theorem C_q122 {l l' : List Value} {h h' : Hp} {K : Kont} (el : l = l') (eh : h = h') : C_q160 l h K = C_q160 l' h' K := by subst el; subst eh; rfl
def C_q11 (args : List Value) (h : Hp) (K : Kont) : Prop := AC Try.prog 78 args.toArray h K
theorem C_q11.mono {args : List Value} {h : Hp} {K K' : Kont} (a : C_q11 args h K) (hk : ∀ v h', K v h' → K' v h') : C_q11 args h K' := AC.mono a hk
@[congr] theorem C_q9 {l l' : List Value} {h h' : Hp} {K : Kont} (el : l = l') (eh : h = h') : C_q11 l h K = C_q11 l' h' K := by subst el; subst eh; rfl
def C_q105 (args : List Value) (h : Hp) (K : Kont) : Prop := AC Try.prog 79 args.toArray h K
theorem C_q105.mono {args : List Value} {h : Hp} {K K' : Kont} (a : C_q105 args h K) (hk : ∀ v h', K v h' → K' v h') : C_q105 args h K' := AC.mono a hk
@[congr] theorem C_q66 {l l' : List Value} {h h' : Hp} {K : Kont} (el : l = l') (eh : h = h') : C_q105 l h K = C_q105 l' h' K := by subst el; subst eh; rfl
def C_q120 (args : List Value) (h : Hp) (K : Kont) : Prop := AC Try.prog 81 args.toArray h K
theorem C_q120.mono {args : List Value} {h : Hp} {K K' : Kont} (a : C_q120 args h K) (hk : ∀ v h', K v h' → K' v h') : C_q120 args h K' := AC.mono a hk
@[congr] theorem C_q76 {l l' : List Value} {h h' : Hp} {K : Kont} (el : l = l') (eh : h = h') : C_q120 l h K = C_q120 l' h' K := by subst el; subst eh; rfl
def C_q103 (args : List Value) (h : Hp) (K : Kont) : Prop := AC Try.prog 82 args.toArray h K
theorem C_q103.mono {args : List Value} {h : Hp} {K K' : Kont} (a : C_q103 args h K) (hk : ∀ v h', K v h' → K' v h') : C_q103 args h K' := AC.mono a hk
@[congr] theorem C_q64 {l l' : List Value} {h h' : Hp} {K : Kont} (el : l = l') (eh : h = h') : C_q103 l h K = C_q103 l' h' K := by subst el; subst eh; rfl
def C_q110 (args : List Value) (h : Hp) (K : Kont) : Prop := AC Try.prog 83 args.toArray h K
theorem C_q110.mono {args : List Value} {h : Hp} {K K' : Kont} (a : C_q110 args h K) (hk : ∀ v h', K v h' → K' v h') : C_q110 args h K' := AC.mono a hk
@[congr] theorem C_q72 {l l' : List Value} {h h' : Hp} {K : Kont} (el : l = l') (eh : h = h') : C_q110 l h K = C_q110 l' h' K := by subst el; subst eh; rfl
def C_q8 (args : List Value) (h : Hp) (K : Kont) : Prop := AC Try.prog 84 args.toArray h K
theorem C_q8.mono {args : List Value} {h : Hp} {K K' : Kont} (a : C_q8 args h K) (hk : ∀ v h', K v h' → K' v h') : C_q8 args h K' := AC.mono a hk
@[congr] theorem C_q5 {l l' : List Value} {h h' : Hp} {K : Kont} (el : l = l') (eh : h = h') : C_q8 l h K = C_q8 l' h' K := by subst el; subst eh; rfl
def C_q29 (args : List Value) (h : Hp) (K : Kont) : Prop := AC Try.prog 85 args.toArray h K
theorem ent_q29 : canEnter Try.prog 85 = true := by kernel_rfl
theorem C_q29.mono {args : List Value} {h : Hp} {K K' : Kont} (a : C_q29 args h K) (hk : ∀ v h', K v h' → K' v h') : C_q29 args h K' := AC.mono a hk
@[congr] theorem C_q19 {l l' : List Value} {h h' : Hp} {K : Kont} (el : l = l') (eh : h = h') : C_q29 l h K = C_q29 l' h' K := by subst el; subst eh; rfl
def C_q173 (args : List Value) (h : Hp) (K : Kont) : Prop := AC Try.prog 88 args.toArray h K
theorem C_q173.mono {args : List Value} {h : Hp} {K K' : Kont} (a : C_q173 args h K) (hk : ∀ v h', K v h' → K' v h') : C_q173 args h K' := AC.mono a hk
@[congr] theorem C_q139 {l l' : List Value} {h h' : Hp} {K : Kont} (el : l = l') (eh : h = h') : C_q173 l h K = C_q173 l' h' K := by subst el; subst eh; rfl
def C_q177 (args : List Value) (h : Hp) (K : Kont) : Prop := AC Try.prog 89 args.toArray h K
theorem C_q177.mono {args : List Value} {h : Hp} {K K' : Kont} (a : C_q177 args h K) (hk : ∀ v h', K v h' → K' v h') : C_q177 args h K' := AC.mono a hk
@[congr] theorem C_q148 {l l' : List Value} {h h' : Hp} {K : Kont} (el : l = l') (eh : h = h') : C_q177 l h K = C_q177 l' h' K := by subst el; subst eh; rfl
def C_q157 (args : List Value) (h : Hp) (K : Kont) : Prop := AC Try.prog 90 args.toArray h K
theorem C_q157.mono {args : List Value} {h : Hp} {K K' : Kont} (a : C_q157 args h K) (hk : ∀ v h', K v h' → K' v h') : C_q157 args h K' := AC.mono a hk
@[congr] theorem C_q118 {l l' : List Value} {h h' : Hp} {K : Kont} (el : l = l') (eh : h = h') : C_q157 l h K = C_q157 l' h' K := by subst el; subst eh; rfl
def C_q158 (args : List Value) (h : Hp) (K : Kont) : Prop := AC Try.prog 91 args.toArray h K
theorem C_q158.mono {args : List Value} {h : Hp} {K K' : Kont} (a : C_q158 args h K) (hk : ∀ v h', K v h' → K' v h') : C_q158 args h K' := AC.mono a hk
@[congr] theorem C_q119 {l l' : List Value} {h h' : Hp} {K : Kont} (el : l = l') (eh : h = h') : C_q158 l h K = C_q158 l' h' K := by subst el; subst eh; rfl
def C_q172 (args : List Value) (h : Hp) (K : Kont) : Prop := AC Try.prog 92 args.toArray h K
theorem C_q172.mono {args : List Value} {h : Hp} {K K' : Kont} (a : C_q172 args h K) (hk : ∀ v h', K v h' → K' v h') : C_q172 args h K' := AC.mono a hk
@[congr] theorem C_q138 {l l' : List Value} {h h' : Hp} {K : Kont} (el : l = l') (eh : h = h') : C_q172 l h K = C_q172 l' h' K := by subst el; subst eh; rfl
def C_q182 (args : List Value) (h : Hp) (K : Kont) : Prop := AC Try.prog 93 args.toArray h K
theorem C_q182.mono {args : List Value} {h : Hp} {K K' : Kont} (a : C_q182 args h K) (hk : ∀ v h', K v h' → K' v h') : C_q182 args h K' := AC.mono a hk
@[congr] theorem C_q164 {l l' : List Value} {h h' : Hp} {K : Kont} (el : l = l') (eh : h = h') : C_q182 l h K = C_q182 l' h' K := by subst el; subst eh; rfl
def C_q31 (args : List Value) (h : Hp) (K : Kont) : Prop := AC Try.prog 94 args.toArray h K
theorem C_q31.mono {args : List Value} {h : Hp} {K K' : Kont} (a : C_q31 args h K) (hk : ∀ v h', K v h' → K' v h') : C_q31 args h K' := AC.mono a hk
@[congr] theorem C_q20 {l l' : List Value} {h h' : Hp} {K : Kont} (el : l = l') (eh : h = h') : C_q31 l h K = C_q31 l' h' K := by subst el; subst eh; rfl
def C_q151 (args : List Value) (h : Hp) (K : Kont) : Prop := AC Try.prog 97 args.toArray h K
theorem C_q151.mono {args : List Value} {h : Hp} {K K' : Kont} (a : C_q151 args h K) (hk : ∀ v h', K v h' → K' v h') : C_q151 args h K' := AC.mono a hk
@[congr] theorem C_q113 {l l' : List Value} {h h' : Hp} {K : Kont} (el : l = l') (eh : h = h') : C_q151 l h K = C_q151 l' h' K := by subst el; subst eh; rfl
def C_q149 (args : List Value) (h : Hp) (K : Kont) : Prop := AC Try.prog 98 args.toArray h K
theorem C_q149.mono {args : List Value} {h : Hp} {K K' : Kont} (a : C_q149 args h K) (hk : ∀ v h', K v h' → K' v h') : C_q149 args h K' := AC.mono a hk
@[congr] theorem C_q112 {l l' : List Value} {h h' : Hp} {K : Kont} (el : l = l') (eh : h = h') : C_q149 l h K = C_q149 l' h' K := by subst el; subst eh; rfl
def C_q179 (args : List Value) (h : Hp) (K : Kont) : Prop := AC Try.prog 99 args.toArray h K
theorem C_q179.mono {args : List Value} {h : Hp} {K K' : Kont} (a : C_q179 args h K) (hk : ∀ v h', K v h' → K' v h') : C_q179 args h K' := AC.mono a hk
@[congr] theorem C_q153 {l l' : List Value} {h h' : Hp} {K : Kont} (el : l = l') (eh : h = h') : C_q179 l h K = C_q179 l' h' K := by subst el; subst eh; rfl
def C_q178 (args : List Value) (h : Hp) (K : Kont) : Prop := AC Try.prog 111 args.toArray h K
theorem C_q178.mono {args : List Value} {h : Hp} {K K' : Kont} (a : C_q178 args h K) (hk : ∀ v h', K v h' → K' v h') : C_q178 args h K' := AC.mono a hk
@[congr] theorem C_q150 {l l' : List Value} {h h' : Hp} {K : Kont} (el : l = l') (eh : h = h') : C_q178 l h K = C_q178 l' h' K := by subst el; subst eh; rfl
def C_q152 (args : List Value) (h : Hp) (K : Kont) : Prop := AC Try.prog 112 args.toArray h K
theorem C_q152.mono {args : List Value} {h : Hp} {K K' : Kont} (a : C_q152 args h K) (hk : ∀ v h', K v h' → K' v h') : C_q152 args h K' := AC.mono a hk
@[congr] theorem C_q114 {l l' : List Value} {h h' : Hp} {K : Kont} (el : l = l') (eh : h = h') : C_q152 l h K = C_q152 l' h' K := by subst el; subst eh; rfl
end Go.Proofs.Ytdolepapmpcpiaa

namespace Go.Proofs.Ytdolepapmpcpiaa
open Go
set_option linter.unusedSectionVars false
variable [Base]
set_option linter.unusedVariables false
set_option maxRecDepth 100000
end Go.Proofs.Ytdolepapmpcpiaa

namespace Go.Proofs.Ytdolepapmpcpiaa
open Go
set_option linter.unusedSectionVars false
variable [Base]
set_option linter.unusedVariables false
set_option maxRecDepth 100000
def O_q78 : Od := [(8, (.one 0 true (.one 1 true (.one 2 true (.one 3 true (.one 4 true (.one 5 true (.one 6 true (.one 7 true (.one 8 true (.one 9 true (.one 10 true (.one 11 false .nil))))))))))))), (9, (.one 0 true (.one 1 true (.one 2 true (.one 3 true (.one 4 true (.one 5 true (.one 6 true (.one 7 true (.one 8 true (.one 9 true (.one 10 true (.one 11 true (.one 12 true (.one 13 true (.one 14 true (.one 15 true (.one 16 false .nil)))))))))))))))))), (16, (.one 0 true (.one 1 true (.one 2 true (.one 3 true (.one 4 true (.one 5 true (.one 6 true (.one 7 true (.one 8 true (.one 9 true (.one 10 true (.one 11 true (.one 12 true (.one 13 true (.one 14 true (.one 15 true (.one 16 true (.one 17 true (.one 18 true (.one 19 true (.one 20 true (.one 21 true (.one 22 true (.one 23 true (.one 24 true (.one 25 true (.one 26 true (.one 27 true (.one 28 false (.one 29 true (.one 30 true (.one 31 true (.one 32 true .nil))))))))))))))))))))))))))))))))))]
noncomputable def K_q78_0 : Code := (cI (cB (cA (cB (cB (bodyC Try.f4))))))
noncomputable def K_q78_1 : Code := (cB (cB (cB (bodyC Try.f4))))
def Q_q78_0 (K : Kont) : Post := qSeq (aw Try.prog O_q78 K_q78_1 (qTop Try.prog Try.f4 K)) (qTop Try.prog Try.f4 K)
def Q_q78_1 (K : Kont) : Post := qBlk 0 (Q_q78_0 K)
def E_q78_1 (v0 v3 v4 : Value) (d : Nat → Value) : List Value := [v0, d 1, d 2, v3, v4, d 5, d 6, d 7, d 8, d 9, d 10, d 11, d 12, d 13, d 14, d 15, d 16, d 17, d 18, d 19, d 20, d 21, d 22, d 23, d 24, d 25, d 26, d 27, d 28, d 29, d 30, d 31, d 32, d 33, d 34, d 35, d 36, d 37, d 38, d 39, d 40, d 41, d 42, d 43, d 44, d 45, d 46, d 47, d 48, d 49, d 50, d 51, d 52, d 53, d 54, d 55, d 56, d 57, d 58, d 59, d 60, d 61, d 62, d 63, d 64, d 65, d 66, d 67, d 68, d 69, d 70, d 71, d 72, d 73, d 74, d 75, d 76, d 77, d 78, d 79, d 80, d 81, d 82, d 83, d 84, d 85, d 86, d 87, d 88, d 89, d 90, d 91, d 92, d 93, d 94, d 95, d 96, d 97, d 98, d 99, d 100, d 101, d 102, d 103, d 104, d 105, d 106, d 107, d 108, d 109, d 110, d 111, d 112, d 113]
def G_q78_1 (K : Kont) (v0 v3 v4 : Value) (d : Nat → Value) (h : Hp) : Prop := aw Try.prog O_q78 K_q78_0 (Q_q78_1 K) (E_q78_1 v0 v3 v4 d) h
def Q_q78_2 (K : Kont) (s0 : Self) : Post := qSeq s0 (Q_q78_1 K)
noncomputable def K_q78_2 : Code := (cI (cI (cB (cA (cB (cB (bodyC Try.f4)))))))
noncomputable def K_q78_3 : Code := (cB (cB (cB (cI (cA (cB (cI (cI (cB (cA (cB (cB (bodyC Try.f4)))))))))))))
noncomputable def K_q78_4 : Code := (cB (cB (cI (cI (cB (cA (cB (cB (bodyC Try.f4)))))))))
def Q_q78_3 (K : Kont) (s0 : Self) : Post := qSeq (aw Try.prog O_q78 K_q78_4 (Q_q78_2 K s0)) (Q_q78_2 K s0)
def Q_q78_4 (K : Kont) (s0 : Self) : Post := qBlk 1 (Q_q78_3 K s0)
def E_q78_2 (v0 v3 v4 v5 v6 : Value) (d : Nat → Value) : List Value := [v0, d 1, d 2, v3, v4, v5, v6, d 7, d 8, d 9, d 10, d 11, d 12, d 13, d 14, d 15, d 16, d 17, d 18, d 19, d 20, d 21, d 22, d 23, d 24, d 25, d 26, d 27, d 28, d 29, d 30, d 31, d 32, d 33, d 34, d 35, d 36, d 37, d 38, d 39, d 40, d 41, d 42, d 43, d 44, d 45, d 46, d 47, d 48, d 49, d 50, d 51, d 52, d 53, d 54, d 55, d 56, d 57, d 58, d 59, d 60, d 61, d 62, d 63, d 64, d 65, d 66, d 67, d 68, d 69, d 70, d 71, d 72, d 73, d 74, d 75, d 76, d 77, d 78, d 79, d 80, d 81, d 82, d 83, d 84, d 85, d 86, d 87, d 88, d 89, d 90, d 91, d 92, d 93, d 94, d 95, d 96, d 97, d 98, d 99, d 100, d 101, d 102, d 103, d 104, d 105, d 106, d 107, d 108, d 109, d 110, d 111, d 112, d 113]
def G_q78_2 (K : Kont) (s0 : Self) (v0 v3 v4 v5 v6 : Value) (d : Nat → Value) (h : Hp) : Prop := aw Try.prog O_q78 K_q78_3 (Q_q78_4 K s0) (E_q78_2 v0 v3 v4 v5 v6 d) h
noncomputable def K_q78_5 : Code := (cB (cI (cI (cB (cA (cB (cB (bodyC Try.f4))))))))
noncomputable def K_q78_6 : Code := (cI (cB (cB (cB (cB (cB (cI (cA (cB (cI (cI (cB (cA (cB (cB (bodyC Try.f4))))))))))))))))
def Q_q78_5 (K : Kont) (s0 : Self) : Post := qBlk 2 (Q_q78_4 K s0)
def E_q78_3 (v0 v3 v4 v5 v6 v7 : Value) (d : Nat → Value) : List Value := [v0, d 1, d 2, v3, v4, v5, v6, v7, d 8, d 9, d 10, d 11, d 12, d 13, d 14, d 15, d 16, d 17, d 18, d 19, d 20, d 21, d 22, d 23, d 24, d 25, d 26, d 27, d 28, d 29, d 30, d 31, d 32, d 33, d 34, d 35, d 36, d 37, d 38, d 39, d 40, d 41, d 42, d 43, d 44, d 45, d 46, d 47, d 48, d 49, d 50, d 51, d 52, d 53, d 54, d 55, d 56, d 57, d 58, d 59, d 60, d 61, d 62, d 63, d 64, d 65, d 66, d 67, d 68, d 69, d 70, d 71, d 72, d 73, d 74, d 75, d 76, d 77, d 78, d 79, d 80, d 81, d 82, d 83, d 84, d 85, d 86, d 87, d 88, d 89, d 90, d 91, d 92, d 93, d 94, d 95, d 96, d 97, d 98, d 99, d 100, d 101, d 102, d 103, d 104, d 105, d 106, d 107, d 108, d 109, d 110, d 111, d 112, d 113]
def G_q78_3 (K : Kont) (s0 : Self) (v0 v3 v4 v5 v6 v7 : Value) (d : Nat → Value) (h : Hp) : Prop := aw Try.prog O_q78 K_q78_6 (Q_q78_5 K s0) (E_q78_3 v0 v3 v4 v5 v6 v7 d) h
noncomputable def K_q78_7 : Code := (cB (cB (cB (cB (cI (cA (cB (cI (cI (cB (cA (cB (cB (bodyC Try.f4))))))))))))))
def Q_q78_6 (K : Kont) (s0 : Self) (s1 : Self) : Post := qSeq s1 (Q_q78_5 K s0)
noncomputable def K_q78_8 : Code := (cI (cI (cB (cB (cB (cB (cB (cI (cA (cB (cI (cI (cB (cA (cB (cB (bodyC Try.f4)))))))))))))))))
noncomputable def K_q78_9 : Code := (cB (cB (cI (cI (cB (cB (cB (cB (cB (cI (cA (cB (cI (cI (cB (cA (cB (cB (bodyC Try.f4)))))))))))))))))))
noncomputable def K_q78_10 : Code := (cB (cI (cI (cB (cB (cB (cB (cB (cI (cA (cB (cI (cI (cB (cA (cB (cB (bodyC Try.f4))))))))))))))))))
def G_q78 (a0 : Value) (h : Hp) (K : Kont) : Prop :=
  C_q146 [] h fun t10 h1 =>
  G_q78_1 K a0 t10 (Value.int .i64 0) (ud [(2, (Value.bool false)), (10, t10)] dz) h1
def E0_q78 (a0 : Value) : List Value := [a0, undef, undef, undef, undef, undef, undef, undef, undef, undef, undef, undef, undef, undef, undef, undef, undef, undef, undef, undef, undef, undef, undef, undef, undef, undef, undef, undef, undef, undef, undef, undef, undef, undef, undef, undef, undef, undef, undef, undef, undef, undef, undef, undef, undef, undef, undef, undef, undef, undef, undef, undef, undef, undef, undef, undef, undef, undef, undef, undef, undef, undef, undef, undef, undef, undef, undef, undef, undef, undef, undef, undef, undef, undef, undef, undef, undef, undef, undef, undef, undef, undef, undef, undef, undef, undef, undef, undef, undef, undef, undef, undef, undef, undef, undef, undef, undef, undef, undef, undef, undef, undef, undef, undef, undef, undef, undef, undef, undef, undef, undef, undef, undef, undef]
def X_q78 (Qv : Post) (a0 : Value) (h : Hp) : Prop :=
  C_q146 [] h fun t10 h1 =>
  aw Try.prog O_q78 K_q78_0 (qBlk 0 (qSeq (aw Try.prog O_q78 K_q78_1 Qv) Qv)) (ul (E0_q78 a0) [(2, (Value.bool false)), (3, t10), (4, (Value.int .i64 0)), (10, t10)]) h1
theorem ga_q78 (Qv : Post) (a0 : Value) (h : Hp) : aw Try.prog O_q78 (bodyC Try.f4) Qv (E0_q78 a0) h = X_q78 Qv a0 h := by kernel_rfl
theorem gb_q78 (a0 : Value) (h : Hp) (K : Kont) : X_q78 (qTop Try.prog Try.f4 K) a0 h = G_q78 a0 h K := by kernel_rfl
theorem gc_q78 (a0 : Value) (h : Hp) (K : Kont) : abody Try.prog O_q78 Try.f4 (bodyC Try.f4) [a0] h K = aw Try.prog O_q78 (bodyC Try.f4) (qTop Try.prog Try.f4 K) (E0_q78 a0) h := by kernel_rfl
theorem eq_q78 (a0 : Value) (h : Hp) (K : Kont) : abody Try.prog O_q78 Try.f4 (bodyC Try.f4) [a0] h K = G_q78 a0 h K := (gc_q78 a0 h K).trans ((ga_q78 _ a0 h).trans (gb_q78 a0 h K))
theorem ok_q78 {a0 : Value} {h : Hp} {K : Kont} (hk : G_q78 a0 h K) : C_q78 [a0] h K := ac_of_body prog_mixed (fn := Try.f4) Try.func4 (c := bodyC Try.f4) (by kernel_rfl) ((eq_q78 a0 h K).mpr hk)
def B_q78_1 (K : Kont) (s0 : Self) (v0 v3 v4 : Value) (d : Nat → Value) (h : Hp) : Prop :=
  oLen 0 v0 h fun t13 h1 =>
  oBin .lss v4 t13 h1 fun t14 h2 =>
  oGuard t14 true (fun K => K v4 h2) h2 fun t16 h3 =>
  oGuard t14 true (fun K => oBin .lss t16 (Value.int .i64 60) h3 K) h3 fun t17 h4 =>
  oPick t14 t17 (Value.bool false) h4 fun t18 h5 =>
  oIf t18
  (C_q17 [v3] h5 fun t22 h6 =>
  C_q27 [v3, (Value.int .i64 0)] h6 fun t24 h7 =>
  oIdxS 7 v0 v4 h7 fun t27 h8 =>
  oFieldAddr 0 t27 h8 fun t28 h9 =>
  oLd1 t28 h9 fun t29 h10 =>
  oBin .eql t29 (Value.int .i64 0) h10 fun t30 h11 =>
  oIf t30
  (oIdxS 7 v0 v4 h11 fun t34 h12 =>
  oFieldAddr 1 t34 h12 fun t35 h13 =>
  oLd1 t35 h13 fun t36 h14 =>
  oIdxS 7 v0 v4 h14 fun t39 h15 =>
  oFieldAddr 2 t39 h15 fun t40 h16 =>
  oLd1 t40 h16 fun t41 h17 =>
  C_q21 [v3, t36, t41] h17 fun t42 h18 =>
  (True) ∧
  G_q78_2 K s0 v0 v3 v4 t22 t24 (ud [(11, v4), (12, v0), (13, t13), (14, t14), (15, t14), (16, t16), (17, t17), (18, t18), (21, v3), (22, t22), (23, v3), (24, t24), (25, v0), (26, v4), (27, t27), (28, t28), (29, t29), (30, t30), (31, v3), (32, v0), (33, v4), (34, t34), (35, t35), (36, t36), (37, v0), (38, v4), (39, t39), (40, t40), (41, t41), (42, t42)] d) h18)
  (oIdxS 7 v0 v4 h11 fun t46 h19 =>
  oFieldAddr 1 t46 h19 fun t47 h20 =>
  oLd1 t47 h20 fun t48 h21 =>
  oIdxS 7 v0 v4 h21 fun t51 h22 =>
  oFieldAddr 2 t51 h22 fun t52 h23 =>
  oLd1 t52 h23 fun t53 h24 =>
  oIdxS 7 v0 v4 h24 fun t56 h25 =>
  oFieldAddr 3 t56 h25 fun t57 h26 =>
  oLdN 4 t57 h26 fun t58 h27 =>
  C_q24 [v3, t48, t53, t58] h27 fun t59 h28 =>
  (True) ∧
  G_q78_2 K s0 v0 v3 v4 t22 t24 (ud [(11, v4), (12, v0), (13, t13), (14, t14), (15, t14), (16, t16), (17, t17), (18, t18), (21, v3), (22, t22), (23, v3), (24, t24), (25, v0), (26, v4), (27, t27), (28, t28), (29, t29), (30, t30), (43, v3), (44, v0), (45, v4), (46, t46), (47, t47), (48, t48), (49, v0), (50, v4), (51, t51), (52, t52), (53, t53), (54, v0), (55, v4), (56, t56), (57, t57), (58, t58), (59, t59)] d) h28))
  (C_q161 [] h5 fun t113 h29 =>
  K t113 h29)
def X_q78_1 (Qv : Post) (v0 v3 v4 : Value) (d : Nat → Value) (h : Hp) : Prop :=
  oLen 0 v0 h fun t13 h1 =>
  oBin .lss v4 t13 h1 fun t14 h2 =>
  oGuard t14 true (fun K => K v4 h2) h2 fun t16 h3 =>
  oGuard t14 true (fun K => oBin .lss t16 (Value.int .i64 60) h3 K) h3 fun t17 h4 =>
  oPick t14 t17 (Value.bool false) h4 fun t18 h5 =>
  oIf t18
  (C_q17 [v3] h5 fun t22 h6 =>
  C_q27 [v3, (Value.int .i64 0)] h6 fun t24 h7 =>
  oIdxS 7 v0 v4 h7 fun t27 h8 =>
  oFieldAddr 0 t27 h8 fun t28 h9 =>
  oLd1 t28 h9 fun t29 h10 =>
  oBin .eql t29 (Value.int .i64 0) h10 fun t30 h11 =>
  oIf t30
  (oIdxS 7 v0 v4 h11 fun t34 h12 =>
  oFieldAddr 1 t34 h12 fun t35 h13 =>
  oLd1 t35 h13 fun t36 h14 =>
  oIdxS 7 v0 v4 h14 fun t39 h15 =>
  oFieldAddr 2 t39 h15 fun t40 h16 =>
  oLd1 t40 h16 fun t41 h17 =>
  C_q21 [v3, t36, t41] h17 fun t42 h18 =>
  (True) ∧
  (qSeq (aw Try.prog O_q78 K_q78_3 (qBlk 1 (qSeq (aw Try.prog O_q78 K_q78_4 Qv) Qv))) (qBlk 1 (qSeq (aw Try.prog O_q78 K_q78_4 Qv) Qv))) .normal (ul (E_q78_1 v0 v3 v4 d) [(5, t22), (6, t24), (11, v4), (12, v0), (13, t13), (14, t14), (15, t14), (16, t16), (17, t17), (18, t18), (21, v3), (22, t22), (23, v3), (24, t24), (25, v0), (26, v4), (27, t27), (28, t28), (29, t29), (30, t30), (31, v3), (32, v0), (33, v4), (34, t34), (35, t35), (36, t36), (37, v0), (38, v4), (39, t39), (40, t40), (41, t41), (42, t42)]) h18)
  (oIdxS 7 v0 v4 h11 fun t46 h19 =>
  oFieldAddr 1 t46 h19 fun t47 h20 =>
  oLd1 t47 h20 fun t48 h21 =>
  oIdxS 7 v0 v4 h21 fun t51 h22 =>
  oFieldAddr 2 t51 h22 fun t52 h23 =>
  oLd1 t52 h23 fun t53 h24 =>
  oIdxS 7 v0 v4 h24 fun t56 h25 =>
  oFieldAddr 3 t56 h25 fun t57 h26 =>
  oLdN 4 t57 h26 fun t58 h27 =>
  C_q24 [v3, t48, t53, t58] h27 fun t59 h28 =>
  (True) ∧
  (qSeq (aw Try.prog O_q78 K_q78_3 (qBlk 1 (qSeq (aw Try.prog O_q78 K_q78_4 Qv) Qv))) (qBlk 1 (qSeq (aw Try.prog O_q78 K_q78_4 Qv) Qv))) .normal (ul (E_q78_1 v0 v3 v4 d) [(5, t22), (6, t24), (11, v4), (12, v0), (13, t13), (14, t14), (15, t14), (16, t16), (17, t17), (18, t18), (21, v3), (22, t22), (23, v3), (24, t24), (25, v0), (26, v4), (27, t27), (28, t28), (29, t29), (30, t30), (43, v3), (44, v0), (45, v4), (46, t46), (47, t47), (48, t48), (49, v0), (50, v4), (51, t51), (52, t52), (53, t53), (54, v0), (55, v4), (56, t56), (57, t57), (58, t58), (59, t59)]) h28))
  ((qSeq (aw Try.prog O_q78 K_q78_5 Qv) Qv) (.exit 0) (ul (E_q78_1 v0 v3 v4 d) [(11, v4), (12, v0), (13, t13), (14, t14), (15, t14), (16, t16), (17, t17), (18, t18)]) h5)
theorem ga_q78_1 (Qv : Post) (v0 v3 v4 : Value) (d : Nat → Value) (h : Hp) : aw Try.prog O_q78 K_q78_2 Qv (E_q78_1 v0 v3 v4 d) h = X_q78_1 Qv v0 v3 v4 d h := by kernel_rfl
theorem gb_q78_1 (K : Kont) (s0 : Self) (v0 v3 v4 : Value) (d : Nat → Value) (h : Hp) : X_q78_1 (Q_q78_2 K s0) v0 v3 v4 d h = B_q78_1 K s0 v0 v3 v4 d h := by kernel_rfl
theorem beq_q78_1 (K : Kont) (s0 : Self) (v0 v3 v4 : Value) (d : Nat → Value) (h : Hp) : aw Try.prog O_q78 K_q78_2 (Q_q78_2 K s0) (E_q78_1 v0 v3 v4 d) h = B_q78_1 K s0 v0 v3 v4 d h := (ga_q78_1 _ v0 v3 v4 d h).trans (gb_q78_1 K s0 v0 v3 v4 d h)
theorem rule_q78_1 {K : Kont} {v0 v3 : Value} (Inv : Value → Hp → Prop) (μ : Value → Hp → Nat)
    (step : ∀ (s0 : Self) (v4 : Value) (d : Nat → Value) (h : Hp), Inv v4 h → (∀ (v4' : Value) (d' : Nat → Value) (h' : Hp), Inv v4' h' → μ v4' h' < μ v4 h → s0 (E_q78_1 v0 v3 v4' d') h') → B_q78_1 K s0 v0 v3 v4 d h) (v4 : Value) (d : Nat → Value) (h : Hp) (hi : Inv v4 h) : G_q78_1 K v0 v3 v4 d h :=
  oLoop_rule (α := Value × (Nat → Value)) (fun x => E_q78_1 v0 v3 x.1 x.2) (fun x h => Inv x.1 h) (fun x h => μ x.1 h)
    (fun self x h hx hs => (beq_q78_1 K self v0 v3 x.1 x.2 h).mpr (step self x.1 x.2 h hx (fun v4' d' h' h1 h2 => hs ⟨v4', d'⟩ h' h1 h2))) ⟨v4, d⟩ h hi
def R_q78_2 (K : Kont) (s0 : Self) (v0 v3 v4 v5 v6 : Value) (d : Nat → Value) (h : Hp) : Prop :=
  C_q17 [v3] h fun t61 h1 =>
  oBin .lss t61 v5 h1 fun t63 h2 =>
  oIf t63
  (K (Value.bool false) h2)
  (G_q78_3 K s0 v0 v3 v4 v5 v6 (Value.int .i64 0) (ud [(60, v3), (61, t61), (62, v5), (63, t63)] d) h2)
def X_q78_2 (Qv : Post) (v0 v3 v4 v5 v6 : Value) (d : Nat → Value) (h : Hp) : Prop :=
  C_q17 [v3] h fun t61 h1 =>
  oBin .lss t61 v5 h1 fun t63 h2 =>
  oIf t63
  ((qSeq (aw Try.prog O_q78 K_q78_7 Qv) Qv) .ret (ul (E_q78_2 v0 v3 v4 v5 v6 d) [(2, (Value.bool false)), (60, v3), (61, t61), (62, v5), (63, t63)]) h2)
  (aw Try.prog O_q78 K_q78_6 (qBlk 2 Qv) (ul (E_q78_2 v0 v3 v4 v5 v6 d) [(7, (Value.int .i64 0)), (60, v3), (61, t61), (62, v5), (63, t63)]) h2)
theorem ga_q78_2 (Qv : Post) (v0 v3 v4 v5 v6 : Value) (d : Nat → Value) (h : Hp) : aw Try.prog O_q78 K_q78_3 Qv (E_q78_2 v0 v3 v4 v5 v6 d) h = X_q78_2 Qv v0 v3 v4 v5 v6 d h := by kernel_rfl
theorem gb_q78_2 (K : Kont) (s0 : Self) (v0 v3 v4 v5 v6 : Value) (d : Nat → Value) (h : Hp) : X_q78_2 (Q_q78_4 K s0) v0 v3 v4 v5 v6 d h = R_q78_2 K s0 v0 v3 v4 v5 v6 d h := by kernel_rfl
theorem req_q78_2 (K : Kont) (s0 : Self) (v0 v3 v4 v5 v6 : Value) (d : Nat → Value) (h : Hp) : G_q78_2 K s0 v0 v3 v4 v5 v6 d h = R_q78_2 K s0 v0 v3 v4 v5 v6 d h := (ga_q78_2 _ v0 v3 v4 v5 v6 d h).trans (gb_q78_2 K s0 v0 v3 v4 v5 v6 d h)
def B_q78_3 (K : Kont) (s0 : Self) (s1 : Self) (v0 v3 v4 v5 v6 v7 : Value) (d : Nat → Value) (h : Hp) : Prop :=
  oLen 0 v6 h fun t66 h1 =>
  oBin .lss v7 t66 h1 fun t67 h2 =>
  oIf t67
  (oIdxS 6 v6 v7 h2 fun t74 h3 =>
  oFieldAddr 0 t74 h3 fun t75 h4 =>
  oLd1 t75 h4 fun t76 h5 =>
  C_q33 [v3, t76] h5 fun t77 h6 =>
  oExtract t77 0 h6 fun t78 h7 =>
  oExtract t77 1 h7 fun t79 h8 =>
  oAlloc #[.int .i64 0, .int .u64 0, .int .i64 0, .int .i64 0, .int .u64 0, .int .i64 0] h8 fun t8 h9 =>
  oSt 6 t8 t78 h9 fun _ h10 =>
  oNot t79 h10 fun t81 h11 =>
  oGuard t81 false (fun K => oLdN 6 t8 h11 K) h11 fun t83 h12 =>
  oGuard t81 false (fun K => K v6 h12) h12 fun t84 h13 =>
  oGuard t81 false (fun K => K v7 h13) h13 fun t85 h14 =>
  oGuard t81 false (fun K => oIdxS 6 t84 t85 h14 K) h14 fun t86 h15 =>
  oGuard t81 false (fun K => oLdN 6 t86 h15 K) h15 fun t87 h16 =>
  oGuard t81 false (fun K => oEq 4 true (some [(0, (.int .i64)), (1, (.int .u64)), (2, (.int .i64)), (3, (.int .i64)), (4, (.int .u64)), (5, (.int .i64))]) t83 t87 h16 K) h16 fun t88 h17 =>
  oGuard t81 false (fun K => K t88 h17) h17 fun t89 h18 =>
  oGuard t89 true (fun K => oFieldAddr 1 t8 h18 K) h18 fun t90 h19 =>
  oGuard t89 true (fun K => oLd1 t90 h19 K) h19 fun t91 h20 =>
  oGuard t89 true (fun K => K v6 h20) h20 fun t92 h21 =>
  oGuard t89 true (fun K => K v7 h21) h21 fun t93 h22 =>
  oGuard t89 true (fun K => oIdxS 6 t92 t93 h22 K) h22 fun t94 h23 =>
  oGuard t89 true (fun K => oFieldAddr 1 t94 h23 K) h23 fun t95 h24 =>
  oGuard t89 true (fun K => oLd1 t95 h24 K) h24 fun t96 h25 =>
  oGuard t89 true (fun K => oBin .lss t91 t96 h25 K) h25 fun t97 h26 =>
  oGuard t89 true (fun K => K t97 h26) h26 fun t98 h27 =>
  oGuard t98 false (fun K => oFieldAddr 1 t8 h27 K) h27 fun t99 h28 =>
  oGuard t98 false (fun K => oLd1 t99 h28 K) h28 fun t100 h29 =>
  oGuard t98 false (fun K => K v5 h29) h29 fun t101 h30 =>
  oGuard t98 false (fun K => oBin .lss t100 t101 h30 K) h30 fun t102 h31 =>
  oGuard t89 true (fun K => oPick t98 (Value.bool true) t102 h31 K) h31 fun t103 h32 =>
  oGuard t89 true (fun K => K t103 h32) h32 fun t104 h33 =>
  oGuard t104 false (fun K => oFieldAddr 1 t8 h33 K) h33 fun t105 h34 =>
  oGuard t104 false (fun K => oLd1 t105 h34 K) h34 fun t106 h35 =>
  oGuard t104 false (fun K => K v3 h35) h35 fun t107 h36 =>
  oGuard t104 false (fun K => C_q17 [t107] h36 K) h36 fun t108 h37 =>
  ((oGuardH t104 false (oLd1 t105 h36 (fun v' _ => v' = t106)) → oGuardH t104 false (oLd1 t105 h37 (fun v' _ => v' = t106))) ∧ (oGuardH t98 false (oLd1 t99 h36 (fun v' _ => v' = t100)) → oGuardH t98 false (oLd1 t99 h37 (fun v' _ => v' = t100))) ∧ (oGuardH t89 true (oLd1 t95 h36 (fun v' _ => v' = t96)) → oGuardH t89 true (oLd1 t95 h37 (fun v' _ => v' = t96))) ∧ (oGuardH t89 true (oLd1 t90 h36 (fun v' _ => v' = t91)) → oGuardH t89 true (oLd1 t90 h37 (fun v' _ => v' = t91))) ∧ (oGuardH t81 false (oLdN 6 t86 h36 (fun v' _ => v' = t87)) → oGuardH t81 false (oLdN 6 t86 h37 (fun v' _ => v' = t87))) ∧ (oGuardH t81 false (oLdN 6 t8 h36 (fun v' _ => v' = t83)) → oGuardH t81 false (oLdN 6 t8 h37 (fun v' _ => v' = t83))) ∧ True) ∧
  oGuard t104 false (fun K => oBin .gtr t106 t108 h37 K) h37 fun t109 h38 =>
  oGuard t89 true (fun K => oPick t104 (Value.bool true) t109 h38 K) h38 fun t110 h39 =>
  oGuard t81 false (fun K => oPick t89 t110 (Value.bool false) h39 K) h39 fun t111 h40 =>
  oPick t81 (Value.bool true) t111 h40 fun t112 h41 =>
  oIf t112
  (K (Value.bool false) h41)
  (oBin .add v7 (Value.int .i64 1) h41 fun t69 h42 =>
  s1 (E_q78_3 v0 v3 v4 v5 v6 t69 (ud [(8, t8), (9, t79), (64, v7), (65, v6), (66, t66), (67, t67), (68, v7), (69, t69), (70, t77), (71, v3), (72, v6), (73, v7), (74, t74), (75, t75), (76, t76), (77, t77), (78, t78), (79, t79), (80, t79), (81, t81), (82, t81), (83, t83), (84, t84), (85, t85), (86, t86), (87, t87), (88, t88), (89, t89), (90, t90), (91, t91), (92, t92), (93, t93), (94, t94), (95, t95), (96, t96), (97, t97), (98, t98), (99, t99), (100, t100), (101, t101), (102, t102), (103, t103), (104, t104), (105, t105), (106, t106), (107, t107), (108, t108), (109, t109), (110, t110), (111, t111), (112, t112)] d)) h42))
  (oBin .add v4 (Value.int .i64 1) h2 fun t20 h43 =>
  s0 (E_q78_1 v0 v3 t20 (ud [(5, v5), (6, v6), (7, v7), (19, v4), (20, t20), (64, v7), (65, v6), (66, t66), (67, t67)] d)) h43)
def X_q78_3 (Qv : Post) (v0 v3 v4 v5 v6 v7 : Value) (d : Nat → Value) (h : Hp) : Prop :=
  oLen 0 v6 h fun t66 h1 =>
  oBin .lss v7 t66 h1 fun t67 h2 =>
  oIf t67
  (oIdxS 6 v6 v7 h2 fun t74 h3 =>
  oFieldAddr 0 t74 h3 fun t75 h4 =>
  oLd1 t75 h4 fun t76 h5 =>
  C_q33 [v3, t76] h5 fun t77 h6 =>
  oExtract t77 0 h6 fun t78 h7 =>
  oExtract t77 1 h7 fun t79 h8 =>
  oAlloc #[.int .i64 0, .int .u64 0, .int .i64 0, .int .i64 0, .int .u64 0, .int .i64 0] h8 fun t8 h9 =>
  oSt 6 t8 t78 h9 fun _ h10 =>
  oNot t79 h10 fun t81 h11 =>
  oGuard t81 false (fun K => oLdN 6 t8 h11 K) h11 fun t83 h12 =>
  oGuard t81 false (fun K => K v6 h12) h12 fun t84 h13 =>
  oGuard t81 false (fun K => K v7 h13) h13 fun t85 h14 =>
  oGuard t81 false (fun K => oIdxS 6 t84 t85 h14 K) h14 fun t86 h15 =>
  oGuard t81 false (fun K => oLdN 6 t86 h15 K) h15 fun t87 h16 =>
  oGuard t81 false (fun K => oEq 4 true (some [(0, (.int .i64)), (1, (.int .u64)), (2, (.int .i64)), (3, (.int .i64)), (4, (.int .u64)), (5, (.int .i64))]) t83 t87 h16 K) h16 fun t88 h17 =>
  oGuard t81 false (fun K => K t88 h17) h17 fun t89 h18 =>
  oGuard t89 true (fun K => oFieldAddr 1 t8 h18 K) h18 fun t90 h19 =>
  oGuard t89 true (fun K => oLd1 t90 h19 K) h19 fun t91 h20 =>
  oGuard t89 true (fun K => K v6 h20) h20 fun t92 h21 =>
  oGuard t89 true (fun K => K v7 h21) h21 fun t93 h22 =>
  oGuard t89 true (fun K => oIdxS 6 t92 t93 h22 K) h22 fun t94 h23 =>
  oGuard t89 true (fun K => oFieldAddr 1 t94 h23 K) h23 fun t95 h24 =>
  oGuard t89 true (fun K => oLd1 t95 h24 K) h24 fun t96 h25 =>
  oGuard t89 true (fun K => oBin .lss t91 t96 h25 K) h25 fun t97 h26 =>
  oGuard t89 true (fun K => K t97 h26) h26 fun t98 h27 =>
  oGuard t98 false (fun K => oFieldAddr 1 t8 h27 K) h27 fun t99 h28 =>
  oGuard t98 false (fun K => oLd1 t99 h28 K) h28 fun t100 h29 =>
  oGuard t98 false (fun K => K v5 h29) h29 fun t101 h30 =>
  oGuard t98 false (fun K => oBin .lss t100 t101 h30 K) h30 fun t102 h31 =>
  oGuard t89 true (fun K => oPick t98 (Value.bool true) t102 h31 K) h31 fun t103 h32 =>
  oGuard t89 true (fun K => K t103 h32) h32 fun t104 h33 =>
  oGuard t104 false (fun K => oFieldAddr 1 t8 h33 K) h33 fun t105 h34 =>
  oGuard t104 false (fun K => oLd1 t105 h34 K) h34 fun t106 h35 =>
  oGuard t104 false (fun K => K v3 h35) h35 fun t107 h36 =>
  oGuard t104 false (fun K => C_q17 [t107] h36 K) h36 fun t108 h37 =>
  ((oGuardH t104 false (oLd1 t105 h36 (fun v' _ => v' = t106)) → oGuardH t104 false (oLd1 t105 h37 (fun v' _ => v' = t106))) ∧ (oGuardH t98 false (oLd1 t99 h36 (fun v' _ => v' = t100)) → oGuardH t98 false (oLd1 t99 h37 (fun v' _ => v' = t100))) ∧ (oGuardH t89 true (oLd1 t95 h36 (fun v' _ => v' = t96)) → oGuardH t89 true (oLd1 t95 h37 (fun v' _ => v' = t96))) ∧ (oGuardH t89 true (oLd1 t90 h36 (fun v' _ => v' = t91)) → oGuardH t89 true (oLd1 t90 h37 (fun v' _ => v' = t91))) ∧ (oGuardH t81 false (oLdN 6 t86 h36 (fun v' _ => v' = t87)) → oGuardH t81 false (oLdN 6 t86 h37 (fun v' _ => v' = t87))) ∧ (oGuardH t81 false (oLdN 6 t8 h36 (fun v' _ => v' = t83)) → oGuardH t81 false (oLdN 6 t8 h37 (fun v' _ => v' = t83))) ∧ True) ∧
  oGuard t104 false (fun K => oBin .gtr t106 t108 h37 K) h37 fun t109 h38 =>
  oGuard t89 true (fun K => oPick t104 (Value.bool true) t109 h38 K) h38 fun t110 h39 =>
  oGuard t81 false (fun K => oPick t89 t110 (Value.bool false) h39 K) h39 fun t111 h40 =>
  oPick t81 (Value.bool true) t111 h40 fun t112 h41 =>
  oIf t112
  ((qBlk 3 (qSeq (aw Try.prog O_q78 K_q78_9 Qv) Qv)) .ret (ul (E_q78_3 v0 v3 v4 v5 v6 v7 d) [(2, (Value.bool false)), (8, t8), (9, t79), (64, v7), (65, v6), (66, t66), (67, t67), (70, t77), (71, v3), (72, v6), (73, v7), (74, t74), (75, t75), (76, t76), (77, t77), (78, t78), (79, t79), (80, t79), (81, t81), (82, t81), (83, t83), (84, t84), (85, t85), (86, t86), (87, t87), (88, t88), (89, t89), (90, t90), (91, t91), (92, t92), (93, t93), (94, t94), (95, t95), (96, t96), (97, t97), (98, t98), (99, t99), (100, t100), (101, t101), (102, t102), (103, t103), (104, t104), (105, t105), (106, t106), (107, t107), (108, t108), (109, t109), (110, t110), (111, t111), (112, t112)]) h41)
  (oBin .add v7 (Value.int .i64 1) h41 fun t69 h42 =>
  Qv .normal (ul (E_q78_3 v0 v3 v4 v5 v6 v7 d) [(7, t69), (8, t8), (9, t79), (64, v7), (65, v6), (66, t66), (67, t67), (68, v7), (69, t69), (70, t77), (71, v3), (72, v6), (73, v7), (74, t74), (75, t75), (76, t76), (77, t77), (78, t78), (79, t79), (80, t79), (81, t81), (82, t81), (83, t83), (84, t84), (85, t85), (86, t86), (87, t87), (88, t88), (89, t89), (90, t90), (91, t91), (92, t92), (93, t93), (94, t94), (95, t95), (96, t96), (97, t97), (98, t98), (99, t99), (100, t100), (101, t101), (102, t102), (103, t103), (104, t104), (105, t105), (106, t106), (107, t107), (108, t108), (109, t109), (110, t110), (111, t111), (112, t112)]) h42))
  ((qSeq (aw Try.prog O_q78 K_q78_10 Qv) Qv) (.exit 2) (ul (E_q78_3 v0 v3 v4 v5 v6 v7 d) [(64, v7), (65, v6), (66, t66), (67, t67)]) h2)
theorem ga_q78_3 (Qv : Post) (v0 v3 v4 v5 v6 v7 : Value) (d : Nat → Value) (h : Hp) : aw Try.prog O_q78 K_q78_8 Qv (E_q78_3 v0 v3 v4 v5 v6 v7 d) h = X_q78_3 Qv v0 v3 v4 v5 v6 v7 d h := by kernel_rfl
theorem gb_q78_3 (K : Kont) (s0 : Self) (s1 : Self) (v0 v3 v4 v5 v6 v7 : Value) (d : Nat → Value) (h : Hp) : X_q78_3 (Q_q78_6 K s0 s1) v0 v3 v4 v5 v6 v7 d h = B_q78_3 K s0 s1 v0 v3 v4 v5 v6 v7 d h := by kernel_rfl
theorem beq_q78_3 (K : Kont) (s0 : Self) (s1 : Self) (v0 v3 v4 v5 v6 v7 : Value) (d : Nat → Value) (h : Hp) : aw Try.prog O_q78 K_q78_8 (Q_q78_6 K s0 s1) (E_q78_3 v0 v3 v4 v5 v6 v7 d) h = B_q78_3 K s0 s1 v0 v3 v4 v5 v6 v7 d h := (ga_q78_3 _ v0 v3 v4 v5 v6 v7 d h).trans (gb_q78_3 K s0 s1 v0 v3 v4 v5 v6 v7 d h)
theorem rule_q78_3 {K : Kont} {s0 : Self} {v0 v3 v4 v5 v6 : Value} (Inv : Value → Hp → Prop) (μ : Value → Hp → Nat)
    (step : ∀ (s1 : Self) (v7 : Value) (d : Nat → Value) (h : Hp), Inv v7 h → (∀ (v7' : Value) (d' : Nat → Value) (h' : Hp), Inv v7' h' → μ v7' h' < μ v7 h → s1 (E_q78_3 v0 v3 v4 v5 v6 v7' d') h') → B_q78_3 K s0 s1 v0 v3 v4 v5 v6 v7 d h) (v7 : Value) (d : Nat → Value) (h : Hp) (hi : Inv v7 h) : G_q78_3 K s0 v0 v3 v4 v5 v6 v7 d h :=
  oLoop_rule (α := Value × (Nat → Value)) (fun x => E_q78_3 v0 v3 v4 v5 v6 x.1 x.2) (fun x h => Inv x.1 h) (fun x h => μ x.1 h)
    (fun self x h hx hs => (beq_q78_3 K s0 self v0 v3 v4 v5 v6 x.1 x.2 h).mpr (step self x.1 x.2 h hx (fun v7' d' h' h1 h2 => hs ⟨v7', d'⟩ h' h1 h2))) ⟨v7, d⟩ h hi
end Go.Proofs.Ytdolepapmpcpiaa

namespace Go.Proofs.Ytdolepapmpcpiaa
open Go
set_option linter.unusedSectionVars false
variable [Base]
set_option linter.unusedVariables false
set_option maxRecDepth 100000
end Go.Proofs.Ytdolepapmpcpiaa

