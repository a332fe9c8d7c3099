/- A row of a law, out of what its function does in the seen heap. No function in sight. -/
import Derived.Test.YtdolepapmpcpiaaVFlat
import Derived.Test.YtdolepapmpcpiaaVSl
import Derived.HandedShaped
import Derived.JoinedOf
import Derived.JoinedAt
namespace Go.Proofs.Ytdolepapmpcpiaa
open Go
open Go.ChangeShapes Go.WideShapes Go.RowKit
set_option linter.unusedVariables false
set_option linter.unusedSectionVars false

theorem trodAll_stays {H : Type} {enc : TypeId × Value → H} {P : Program} (hl : laidOutB P = true) {W W' : World} (hbl : ∀ r, r < W.heap.size → W'.heap[r]? = W.heap[r]?) {sp : Nat → Bool} : ∀ {ts : List TypeId} {vs : List Value} {ds : List (DataW H)} {ps : List MemPlace},
    (∀ t ∈ ts, P.readableRec t = true ∧ t < P.types.size) → DataW.TrodAll enc P W 0 (fun _ => true) true ts vs ds ps → (∀ p ∈ ps, p.block < W.heap.size) → (∀ p ∈ ps, sp p.block = true) → DataW.TrodAll enc P W' 0 sp true ts vs ds ps
  | [], [], [], _, _, h, _, _ => h
  | _ :: _, _ :: _, _ :: _, _, ht, ⟨p, q, h1, h2, e⟩, hlt, hs =>
    ⟨p, q, WideElems.Trod_stays hl (ht _ (List.mem_cons_self ..)).1 (ht _ (List.mem_cons_self ..)).2 h1 (fun x hx => by
        have hx' := hlt x (by rw [e]; exact List.mem_append_left _ hx)
        cases x with
        | cell b o => exact World.cell?_of_block (w := W) (hbl b hx')
        | map b => exact hbl b hx') (fun x hx => hs x (by rw [e]; exact List.mem_append_left _ hx)),
      trodAll_stays hl hbl (fun t h => ht t (List.mem_cons_of_mem _ h)) h2 (fun x hx => hlt x (by rw [e]; exact List.mem_append_right _ hx)) (fun x hx => hs x (by rw [e]; exact List.mem_append_right _ hx)), e⟩

/-- What a law's function does, called on whatever arguments: true, and nothing that lay has turned. -/
def LawDoes {H : Type} (enc : TypeId × Value → H) (P : Program) (f : FuncId) (fn : Func) : Prop :=
  ∀ (W : World) (base : Nat) (args : Array Value) (ds : List (DataW H)) (ps : List MemPlace), 0 < W.heap.size → (∀ p ∈ ps, p.block < W.heap.size) →
    (∀ (j : Nat) (t : TypeId) (v : Value), fn.params[j]? = some t → args[j]? = some v → Value.okWide P W .any base t v) →
    DataW.TrodAll enc P W 0 (fun _ => true) true fn.params.toList args.toList ds ps →
    @AC ⟨W.heap.size⟩ P f args (@hv ⟨W.heap.size⟩ W) (fun v h' => v = .bool true ∧ @Ext (@hv ⟨W.heap.size⟩ W) h')

theorem trodAll_len {H : Type} {enc : TypeId × Value → H} {P : Program} {W : World} {b : Nat} {sp : Nat → Bool} {hd : Bool} : ∀ {ts : List TypeId} {vs : List Value} {ds : List (DataW H)} {ps : List MemPlace}, DataW.TrodAll enc P W b sp hd ts vs ds ps → ds.length = ts.length
  | [], [], [], _, _ => rfl
  | _ :: _, _ :: _, _ :: _, _, ⟨_, _, _, h, _⟩ => by simp [trodAll_len h]
  | [], _ :: _, _, _, h => h.elim
  | [], [], _ :: _, _, h => h.elim
  | _ :: _, [], _, _, h => h.elim
  | _ :: _, _ :: _, [], _, h => h.elim

theorem lifted_law {C : Checked} {os : Os} {f : FuncId} {fn : Func} {s : ChangeSpec} {H : Type} {enc : TypeId × Value → H} {conds : List PathCond} {apart fresh handsOn again : Bool} {tb : TypeId} (own : ownKnob C.prog.godebug = none) (started : os.Started)
    (noInit : C.prog.inits.idxOf? f = none) (hfn : C.prog.funcs[f]? = some fn)
    (witness : ∃ (w : World) (tape : Tape) (i : Input), w.os = os ∧ (w.forCall tape i).Shaped C.prog ∧ i.vars = [] ∧ Input.okWide C.prog (w.forCall tape i) .any w.heap.size f i ∧
      s.pre6 enc C.prog fn conds apart (w.forCall tape i).memory i.args ∧ ({} : Assume).holds C.prog (lone (Frame.enter C.prog f i.args .normal) [] (w.forCall tape i)))
    (hv0 : s.vars = []) (hr : fn.resultTypes = #[tb]) (hbool : C.prog.underlying tb = some .bool)
    (hsfn : ∀ ds : List (DataW H), ds.length = fn.params.toList.length → s.fn H ds = { results := [.lit (.bool true)], args := ds })
    (hl : laidOutB C.prog = true) (hrd : (fn.params.toList.all fun t => C.prog.readableRec t && decide (t < C.prog.types.size)) = true)
    (hg : decide (C.prog.globals.size < (begin C.prog (fun _ _ => 0) default).world.heap.size) = true)
    (law : LawDoes enc C.prog f fn) :
    ReturnsInHanded {} C os f .any (s.pre6 enc C.prog fn conds apart) (s.post enc C.prog fn apart fresh handsOn again) := by
  refine returnsInHanded_of_change_shaped own started noInit hfn witness ?_
  intro W base args ds gs before hval hW _ _ hshape _
  have hW' := hW
  obtain ⟨p, q, hA, hV, rfl, _, _⟩ := hW
  rw [hv0] at hV
  obtain ⟨rfl, rfl⟩ := trodVars_none hV
  have h0 : 0 < W.heap.size := by
    obtain ⟨_, h2⟩ := hshape
    obtain ⟨o, _, ho, _⟩ := h2 C.prog.globals.size (Nat.le_refl _) (of_decide_eq_true hg)
    exact Nat.lt_of_le_of_lt (Nat.zero_le _) (Array.getElem?_eq_some_iff.1 ho).1
  have hlt : ∀ x ∈ p, x.block < W.heap.size := fun x hx => by simpa using hW'.lt x (by simpa using hx)
  refine Calls.mono (law W base args ds p h0 hlt hval hA W rfl) ?_
  rintro e W' ⟨v, rfl, rfl, hx⟩
  obtain ⟨h1, h2, h3, h4⟩ := same_of_ext h0 hx
  refine ⟨_, rfl, post_law hW' hv0 hr hbool (by rw [List.append_nil]; exact hsfn ds (trodAll_len hA)) h1 h2 h3 h4 ?_⟩
  intro sp hsp
  rw [List.append_nil]
  refine trodAll_stays hl h4 ?_ hA hlt (fun x hx => hsp x (by simpa using hx))
  intro t ht
  have := List.all_eq_true.1 hrd t ht
  simpa using this

end Go.Proofs.Ytdolepapmpcpiaa
