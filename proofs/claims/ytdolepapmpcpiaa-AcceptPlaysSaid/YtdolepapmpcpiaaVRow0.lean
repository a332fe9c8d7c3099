/- Part VRow0 of the proof: lemmas on what the functions do in the seen heap; no condition. -/
import Derived.Test.YtdolepapmpcpiaaVSpec
import Derived.RowKit3
import Derived.HandedShaped
import Derived.ReadAgain
import Derived.Carry
import Derived.ChangeSame
import Derived.ChangeShapes
import Derived.Deep.Onto
import Derived.RowKit
namespace Go.Proofs.Ytdolepapmpcpiaa
open Go
set_option linter.unusedSectionVars false

/-- What is seen whole below the base has not turned. -/
theorem same_of_ext {W W' : World} (h0 : 0 < W.heap.size) (x : @Ext (@hv ⟨W.heap.size⟩ W) (@hv ⟨W.heap.size⟩ W')) :
    W'.os = W.os ∧ W'.output = W.output ∧ W.heap.size ≤ W'.heap.size ∧ ∀ r, r < W.heap.size → W'.heap[r]? = W.heap[r]? := by
  letI : Base := ⟨W.heap.size⟩
  have hs : W.heap.size ≤ W'.heap.size := by have := x.1; simpa [hv_size] using this
  have key : ∀ r, r < W.heap.size → W'.heap[r]? = W.heap[r]? ∧ W'.os = W.os ∧ W'.output = W.output := by
    intro r hr
    have := x.2 r (by simpa [hv_size] using hr) id
    rw [hv_get, hv_get] at this
    obtain ⟨o, ho⟩ : ∃ o, W.heap[r]? = some o := ⟨_, Array.getElem?_eq_getElem hr⟩
    obtain ⟨o', ho'⟩ : ∃ o, W'.heap[r]? = some o := ⟨_, Array.getElem?_eq_getElem (Nat.lt_of_lt_of_le hr hs)⟩
    rw [ho, ho'] at this
    simp only [Option.map_some, Option.some.injEq, see, if_pos hr, show r < Base.b from hr, if_true, AObj.old.injEq] at this
    rw [ho, ho', this.1]
    exact ⟨rfl, this.2.1, this.2.2⟩
  exact ⟨(key 0 h0).2.1, (key 0 h0).2.2, hs, fun r hr => (key r hr).1⟩
open Go.ChangeShapes Go.WideShapes Go.RowKit
/-- A law's function hands back true; what it was handed reads as it did. -/
theorem post_law {H : Type} {enc : TypeId × Value → H} {P : Program} {f : Func} {s : ChangeSpec} {apart fresh handsOn again : Bool} {W W' : World} {args : Array Value} {ds gs : List (DataW H)} {before : List MemPlace} {tb : TypeId}
    (hW : DataW.Whole enc P f.params.toList s.vars apart W args.toList ds gs before) (hv0 : s.vars = []) (hr : f.resultTypes = #[tb]) (hbool : P.underlying tb = some .bool)
    (hfn : s.fn H (ds ++ gs) = { results := [.lit (.bool true)], args := ds }) (hos : W'.os = W.os) (hout : W'.output = W.output) (hsz : W.heap.size ≤ W'.heap.size) (hbl : ∀ r, r < W.heap.size → W'.heap[r]? = W.heap[r]?)
    (hargs : ∀ sp : Nat → Bool, (∀ p ∈ before, sp p.block = true) → DataW.TrodAll enc P W' 0 sp true f.params.toList args.toList ds before) :
    s.post enc P f apart fresh handsOn again W args (.bool true) W' := by
  have hold : ∀ p ∈ before, (fun b => decide (b < W.heap.size)) p.block = true := fun p hp => by simpa using hW.lt p hp
  have hk : W.keptBut W' (· ∈ before) := World.keptBut.congr (World.keptBut_refl W _) hos hout hbl
  have hres : ∀ (b : Nat) (sp : Nat → Bool) (hd : Bool), DataW.TrodAll enc P W' b sp hd f.resultTypes.toList ((Value.bool true).resultList f.resultTypes.size) (s.fn H (ds ++ gs)).results [] := by
    intro b sp hd
    rw [hfn, hr]
    exact trodAll_mk1 (shut_bool hbool true)
  have hargs' : ∀ sp : Nat → Bool, (∀ p ∈ before, sp p.block = true) → DataW.TrodAll enc P W' 0 sp true f.params.toList args.toList (s.fn H (ds ++ gs)).args before := by
    rw [hfn]; exact hargs
  have hvars : ∀ sp : Nat → Bool, DataW.TrodVars enc P W' sp s.vars (s.fn H (ds ++ gs)).vars [] := by
    intro sp
    rw [hfn, hv0]
    exact rfl
  have hok : ∀ (j : Nat) (t : TypeId) (r : Value), f.resultTypes[j]? = some t → ((Value.bool true).resultList f.resultTypes.size)[j]? = some r → Value.okWide P W' .any 0 t r := by
    exact ok_one hr rfl (okWide_bool_mk hbool true)
  refine ⟨ds, gs, before, [], before, [], hW, hres _ _ _, hargs' _ hold, hvars _, World.keptBut_mono (fun p hp => ⟨hp, .inr (.inl hp)⟩) hk, fun _ => ?_⟩
  have hlt := hW.lt
  obtain ⟨_, _, _, _, _, hz, hn⟩ := hW
  refine ⟨hok, _, _, ([] ++ before) ++ [], ⟨[] ++ before, [], trodAll_append (hargs' _ (fun _ _ => rfl)) (hres _ _ _), hvars _, rfl, ?_, ?_⟩, ?_⟩
  · intro b off hp
    have hp' : MemPlace.cell b off ∈ before := by simpa using hp
    have : b < W.heap.size := hlt _ hp'
    rw [World.frozen?_of_block (w := W) (hbl b this)]
    exact hz b off hp'
  · intro ha
    simpa using hn ha
  · intro p hp _
    simpa using hp

end Go.Proofs.Ytdolepapmpcpiaa
