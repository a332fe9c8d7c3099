/- What each operation of the translation does to the seen heap, told forwards ('what must hold before, that K holds behind'), and that the model does it. -/
import Derived.Test.YtdolepapmpcpiaaVRun
import Derived.Laws.StructEq
namespace Go.Proofs.Ytdolepapmpcpiaa
open Go Go.MapKept
set_option linter.unusedSectionVars false
variable [Base]
set_option linter.unusedVariables false
set_option linter.unusedSimpArgs false

abbrev Kont := Value → Hp → Prop

/-- Called in whatever world that is seen as h, function f answers, and K holds of its answer and of the heap behind. -/
def AC (P : Program) (f : FuncId) (args : Array Value) (h : Hp) (K : Kont) : Prop :=
  ∀ w, hv w = h → Calls P f args w fun e w' => ∃ v, e = .returned v ∧ K v (hv w')

theorem AC.mono {P : Program} {f : FuncId} {args : Array Value} {h : Hp} {K K' : Kont} (a : AC P f args h K) (hk : ∀ v h', K v h' → K' v h') : AC P f args h K' :=
  fun w hw => (a w hw).mono fun e w' ⟨v, he, hv⟩ => ⟨v, he, hk _ _ hv⟩

def canEnter (P : Program) (f : FuncId) : Bool :=
  match P.funcs[f]? with
  | some fn => fn.body.isSome && !(fn.name == "runtime.NumGoroutine")
  | none => false

def OpOk (P : Program) (r : Result Next) (K : Kont) : Prop :=
  match r with
  | .ok (.value v) w' => K v (hv w')
  | .ok .skip w' => K undef (hv w')
  | .ok (.enter f args) w' => AC P f args (hv w') K
  | _ => False

/-! ### The operations -/

def oPick (c a b : Value) (h : Hp) (K : Kont) : Prop :=
  match c with
  | .bool true => K a h
  | .bool false => K b h
  | _ => False
def oAlloc (z : Array Value) (h : Hp) (K : Kont) : Prop := Base.b ≤ h.size ∧ K (.pointer (some ⟨h.size, 0, none⟩)) (h.push (.cells z))
def oBox (v : Value) (h : Hp) (K : Kont) : Prop := Base.b ≤ h.size ∧ K (.pointer (some ⟨h.size, 0, none⟩)) (h.push (.cells v.cells))
/-- Parts are laid into cells: where, how many cells, what. -/
def bfill (cs : Array Value) : List (Nat × Nat × Value) → Option (Array Value)
  | [] => some cs
  | (off, sz, v) :: r => if v.cells.size = sz ∧ off + sz ≤ cs.size then bfill (setL cs off v.cells.toList) r else none
def oBuild (z : Array Value) (parts : List (Nat × Nat × Value)) (h : Hp) (K : Kont) : Prop := ∃ cs, bfill z parts = some cs ∧ K (.agg cs) h
def oBuildSlice (z : Array Value) (len : Nat) (parts : List (Nat × Nat × Value)) (h : Hp) (K : Kont) : Prop :=
  ∃ cs, bfill z parts = some cs ∧ Base.b ≤ h.size ∧ K (.slice (some ⟨h.size, 0, none⟩) len len) (h.push (.cells cs))
def oLd1 (x : Value) (h : Hp) (K : Kont) : Prop :=
  match x with
  | .pointer (some ⟨b, i, none⟩) => ∃ v, rdC h b i = some v ∧ K v h
  | _ => False
def oLdN (n : Nat) (x : Value) (h : Hp) (K : Kont) : Prop :=
  match x with
  | .pointer (some ⟨b, i, none⟩) => ∃ vs, rdN h b i n = some vs ∧ K (.agg vs.toArray) h
  | _ => False
def oSt (n : Nat) (x v : Value) (h : Hp) (K : Kont) : Prop :=
  match x with
  | .pointer (some ⟨b, i, none⟩) => ∃ c, h[b]? = some (.cells c) ∧ v.cells.size = n ∧ i + n ≤ c.size ∧ v.cells.toList.all one = true ∧
      K undef (h.setIfInBounds b (.cells (setL c i v.cells.toList)))
  | _ => False
def oNilCheck (x : Value) (h : Hp) (K : Kont) : Prop :=
  match x with
  | .pointer (some _) | .func (.func _) _ _ | .iface _ _ => K x h
  | _ => False
def intBin (op : BinOp) (k : IntKind) (a b : Int) : Option Value :=
  match op with
  | .add => some (.int k (k.wrap (a + b)))
  | .sub => some (.int k (k.wrap (a - b)))
  | .mul => some (.int k (k.wrap (a * b)))
  | .quo => if b = 0 then none else some (.int k (k.wrap (a.tdiv b)))
  | .rem => if b = 0 then none else some (.int k (a.tmod b))
  | .and => some (.int k (k.wrap (BitVec.ofInt k.bits a &&& BitVec.ofInt k.bits b).toNat))
  | .or => some (.int k (k.wrap (BitVec.ofInt k.bits a ||| BitVec.ofInt k.bits b).toNat))
  | .xor => some (.int k (k.wrap (BitVec.ofInt k.bits a ^^^ BitVec.ofInt k.bits b).toNat))
  | .andNot => some (.int k (k.wrap (BitVec.ofInt k.bits a &&& ~~~BitVec.ofInt k.bits b).toNat))
  | .eql => some (.bool (a == b))
  | .neq => some (.bool (a != b))
  | .lss => some (.bool (decide (a < b)))
  | .leq => some (.bool (decide (a ≤ b)))
  | .gtr => some (.bool (decide (a > b)))
  | .geq => some (.bool (decide (a ≥ b)))
  | _ => none
def strBin (op : BinOp) (a b : ByteArray) : Option Value :=
  match op with
  | .add => if a.size + b.size ≤ 9223372036854775807 then some (.string (a ++ b)) else none
  | .eql => some (.bool (a.toList == b.toList))
  | .neq => some (.bool (!(a.toList == b.toList)))
  | .lss => some (.bool (Op.bytesLess a.toList b.toList))
  | _ => none
def binV (op : BinOp) (x y : Value) : Option Value :=
  match x, y with
  | .int k a, .int k' b =>
    match op with
    | .shl => if b < 0 then none else some (.int k (k.wrap (a * 2 ^ (min b.toNat k.bits))))
    | .shr => if b < 0 then none else some (.int k (a.fdiv (2 ^ (min b.toNat k.bits))))
    | _ => if k = k' then intBin op k a b else none
  | .string a, .string b => strBin op a b
  | _, _ => none
def oBin (op : BinOp) (x y : Value) (h : Hp) (K : Kont) : Prop := ∃ v, binV op x y = some v ∧ K v h
def eqL : List (Nat × TypeDesc) → List Value → List Value → Option Bool
  | [], _, _ => some true
  | (i, d) :: r, xs, ys =>
    match xs[i]?, ys[i]? with
    | some a, some b =>
      match Instr.sameNow d a b with
      | some true => eqL r xs ys
      | some false => some false
      | none => none
    | _, _ => none
/-- '==' of two values that are no numbers and no texts; c: of which class (bool, pointer, slice, map, struct). -/
def eqV (c : Nat) (p : Option (List (Nat × TypeDesc))) (x y : Value) : Option Bool :=
  match c, x, y with
  | 0, .bool a, .bool b => some (a == b)
  | 1, .pointer a, .pointer none => some a.isNone
  | 1, .pointer none, .pointer b => some b.isNone
  | 2, .slice a _ _, .slice none _ _ => some a.isNone
  | 3, .map a, .map none => some a.isNone
  | 4, .agg xs, .agg ys => p.bind fun p => eqL p xs.toList ys.toList
  | _, _, _ => none
def oEq (c : Nat) (neq : Bool) (p : Option (List (Nat × TypeDesc))) (x y : Value) (h : Hp) (K : Kont) : Prop :=
  ∃ b, eqV c p x y = some b ∧ K (.bool (if neq then !b else b)) h
def oNot (x : Value) (h : Hp) (K : Kont) : Prop :=
  match x with
  | .bool b => K (.bool !b) h
  | _ => False
def oNeg (x : Value) (h : Hp) (K : Kont) : Prop :=
  match x with
  | .int k a => K (.int k (k.wrap (0 - a))) h
  | _ => False
def oConvInt (k : IntKind) (x : Value) (h : Hp) (K : Kont) : Prop :=
  match x with
  | .int _ n => K (.int k (k.wrap n)) h
  | _ => False
def oMakeMap (h : Hp) (K : Kont) : Prop := Base.b ≤ h.size ∧ K (.map (some h.size)) (h.push (.map []))
def oMakeSlice (sz bytes : Nat) (z : Array Value) (l c : Value) (h : Hp) (K : Kont) : Prop :=
  match l, c with
  | .int _ l, .int _ c => 0 ≤ l ∧ l ≤ c ∧ (bytes : Int) * c ≤ 281474976710656 ∧ c ≤ 9223372036854775807 ∧ Base.b ≤ h.size ∧
      K (.slice (some ⟨h.size, 0, none⟩) l.toNat c.toNat) (h.push (.cells (madeCells z (c.toNat * sz))))
  | _, _ => False
def bnd (v : Option Value) (dflt most : Nat) : Option Nat :=
  match v with
  | none => some dflt
  | some (.int _ i) => if 0 ≤ i ∧ i ≤ most then some i.toNat else none
  | _ => none
def oSlice (c : Nat) (sz : Nat) (x : Value) (lo hi mx : Option Value) (h : Hp) (K : Kont) : Prop :=
  match c, x with
  | 0, .slice a len cap => ∃ m hh l, bnd mx cap cap = some m ∧ bnd hi len m = some hh ∧ (hi = none → mx = none) ∧ bnd lo 0 hh = some l ∧
      K (.slice (if m = l then a else a.map (·.add (l * sz))) (hh - l) (m - l)) h
  | 1, .string s => ∃ hh l, bnd hi s.size s.size = some hh ∧ mx = none ∧ bnd lo 0 hh = some l ∧ K (.string (s.extract l hh)) h
  | _, _ => False
def oFieldAddr (off : Nat) (x : Value) (h : Hp) (K : Kont) : Prop :=
  match x with
  | .pointer (some ⟨b, i, none⟩) => K (.pointer (some ⟨b, i + off, none⟩)) h
  | _ => False
def partV (cs : Array Value) (off : Nat) (n : Option Nat) : Option Value :=
  match n with
  | none => cs[off]?
  | some n => some (.agg (cs.extract off (off + n)))
def oField (off : Nat) (n : Option Nat) (x : Value) (h : Hp) (K : Kont) : Prop :=
  match x with
  | .agg cs => ∃ v, partV cs off n = some v ∧ K v h
  | _ => False
def oIdxS (sz : Nat) (x i : Value) (h : Hp) (K : Kont) : Prop :=
  match x, i with
  | .slice (some ⟨b, o, none⟩) len _, .int _ n => 0 ≤ n ∧ n < len ∧ K (.pointer (some ⟨b, o + n.toNat * sz, none⟩)) h
  | _, _ => False
def oIdxA (sz len : Nat) (x i : Value) (h : Hp) (K : Kont) : Prop :=
  match x, i with
  | .pointer (some ⟨b, o, none⟩), .int _ n => 0 ≤ n ∧ n < len ∧ K (.pointer (some ⟨b, o + n.toNat * sz, none⟩)) h
  | _, _ => False
def oIndexArr (sz len : Nat) (ag : Option Nat) (x i : Value) (h : Hp) (K : Kont) : Prop :=
  match x, i with
  | .agg cs, .int _ n => 0 ≤ n ∧ n < len ∧ ∃ v, partV cs (n.toNat * sz) ag = some v ∧ K v h
  | _, _ => False
def oIndexStr (x i : Value) (h : Hp) (K : Kont) : Prop :=
  match x, i with
  | .string s, .int _ n => 0 ≤ n ∧ ∃ c, s[n.toNat]? = some c ∧ K (.int .u8 c.toNat) h
  | _, _ => False
def lookRes (z : Value) (ok : Bool) (f : Option (Nat × Value)) : Value :=
  match f with
  | some (_, v) => if ok then .tuple #[v, .bool true] else v
  | none => if ok then .tuple #[z, .bool false] else z
def oLookup (d : TypeDesc) (z : Value) (m k : Value) (ok : Bool) (h : Hp) (K : Kont) : Prop :=
  match m with
  | .map none => K (lookRes z ok none) h
  | .map (some r) => ∃ kv f, h[r]? = some (.map kv) ∧ kvFind d k kv 0 = some f ∧ K (lookRes z ok f) h
  | _ => False
def oMapUpdate (d : TypeDesc) (m k v : Value) (h : Hp) (K : Kont) : Prop :=
  match m with
  | .map (some r) => ∃ kv f, h[r]? = some (.map kv) ∧ kvFind d k kv 0 = some f ∧ K undef (h.setIfInBounds r (.map (kvPut kv f k v)))
  | _ => False
def oDelete (d : TypeDesc) (m k : Value) (h : Hp) (K : Kont) : Prop :=
  match m with
  | .map (some r) => ∃ kv f, h[r]? = some (.map kv) ∧ kvFind d k kv 0 = some f ∧
      K (.tuple #[]) (h.setIfInBounds r (.map (match f with | some (i, _) => kv.eraseIdx i | none => kv)))
  | _ => False
def oClearMap (m : Value) (h : Hp) (K : Kont) : Prop :=
  match m with
  | .map none => K (.tuple #[]) h
  | .map (some r) => ∃ kv, h[r]? = some (.map kv) ∧ K (.tuple #[]) (h.setIfInBounds r (.map []))
  | _ => False
def oClearSlice (sz : Nat) (z : Array Value) (x : Value) (h : Hp) (K : Kont) : Prop :=
  match x with
  | .slice none _ _ => K (.tuple #[]) h
  | .slice (some ⟨b, i, none⟩) n _ => ∃ c, h[b]? = some (.cells c) ∧ i + n * sz ≤ c.size ∧ z.size = sz ∧ z.toList.all one = true ∧
      K (.tuple #[]) (h.setIfInBounds b (.cells (setL c i (Builtin.zeroCells z n).toList)))
  | _ => False
def oLen (c : Nat) (x : Value) (h : Hp) (K : Kont) : Prop :=
  match c, x with
  | 0, .slice _ n _ => K (.int .i64 n) h
  | 1, .string s => K (.int .i64 s.size) h
  | 2, .map none => K (.int .i64 0) h
  | 2, .map (some r) => ∃ kv, h[r]? = some (.map kv) ∧ K (.int .i64 kv.length) h
  | _, _ => False
def oCap (x : Value) (h : Hp) (K : Kont) : Prop :=
  match x with
  | .slice _ _ c => K (.int .i64 c) h
  | _ => False
/-- The cells of a slice or a text, and how many elements. -/
def srcCells (sz : Nat) (x : Value) (h : Hp) : Option (Nat × List Value) :=
  match x with
  | .slice none n _ => if n = 0 then some (0, []) else none
  | .slice (some ⟨b, i, none⟩) n _ => (rdN h b i (n * sz)).map fun l => (n, l)
  | .slice (some ⟨_, _, some _⟩) n _ => if n = 0 then some (0, []) else none
  | .string s => if sz = 1 then some (s.size, s.data.toList.map fun c => .int .u8 c.toNat) else none
  | _ => none
def oAppend (sz bytes : Nat) (z : Array Value) (s x : Value) (h : Hp) (K : Kont) : Prop :=
  match s with
  | .slice base n cap => ∃ m vs, srcCells sz x h = some (m, vs) ∧
      (n + m ≤ cap → (vs = [] ∧ K (.slice base (n + m) cap) h) ∨
        (∃ b i c, base = some ⟨b, i, none⟩ ∧ h[b]? = some (.cells c) ∧ i + n * sz + vs.length ≤ c.size ∧ vs.all one = true ∧
          K (.slice base (n + m) cap) (h.setIfInBounds b (.cells (setL c (i + n * sz) vs))))) ∧
      (cap < n + m → ∃ old, srcCells sz s h = some (n, old) ∧ (n + m) * bytes ≤ 140737488355328 ∧ Base.b ≤ h.size ∧
        ∀ nc, n + m ≤ nc → K (.slice (some ⟨h.size, 0, none⟩) (n + m) nc) (h.push (.cells (old.toArray ++ vs.toArray ++ Builtin.zeroCells z (nc - (n + m))))))
  | _ => False
def oCopy (sz : Nat) (d s : Value) (h : Hp) (K : Kont) : Prop :=
  match d with
  | .slice none n _ => n = 0 ∧ (∃ m vs, srcCells sz s h = some (m, vs)) ∧ K (.int .i64 0) h
  | .slice (some ⟨b, i, none⟩) n _ => ∃ m vs c, srcCells sz s h = some (m, vs) ∧ h[b]? = some (.cells c) ∧ i + n * sz ≤ c.size ∧ vs.all one = true ∧
      K (.int .i64 (min m n : Nat)) (h.setIfInBounds b (.cells (setL c i (vs.take (min m n * sz)))))
  | _ => False
def oMinMax (mx : Bool) (args : List Value) (h : Hp) (K : Kont) : Prop :=
  match args with
  | [.int k a, .int k' b] => K (.int k (if mx then (if b > a then b else a) else (if b < a then b else a))) h
  | _ => False
def oExtract (x : Value) (i : Nat) (h : Hp) (K : Kont) : Prop :=
  match x with
  | .tuple vs => ∃ v, vs[i]? = some v ∧ K v h
  | _ => False
/-- A function value is called. -/
def oCallV (P : Program) (f : Value) (args : List Value) (h : Hp) (K : Kont) : Prop :=
  match f with
  | .func (.func g) fst cap => canEnter P g = true ∧ AC P g (fst ++ args.toArray ++ cap) h K
  | _ => False

end Go.Proofs.Ytdolepapmpcpiaa
