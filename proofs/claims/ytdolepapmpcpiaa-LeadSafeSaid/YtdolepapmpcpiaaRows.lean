/-
  No cell of these rows narrows 'for every input' (looked for: loops, veiled, ifaces, maps, wideKeys, modest, calm, conditions, laid).
  DERIVED. THE GIVEN ROWS OF THIS SEAT. 8 by the template 'for every input the law returns true; each argument reads behind the call as it read before'; 0 by the template 'total and deterministic' (their statements: YtdolepapmpcpiaaTotals.lean).
  GIVEN WITH THE SEED: the statements are not yours to turn. If you find one false, say at which input.
  Laid BY PROGRAM, IN A SANDBOX (cutbox-rows.mjs): the forced cells as the released guide's own fill.sh prints them over the translation d3f2bf59b24377f6… (all of the seat's roots in one cut). By AI agents, Wed Nov 11 2026. No macro, syntax, notation, axiom, sorry.
-/
import Derived.Test.YtdolepapmpcpiaaChecked
import GoSem.Claim
import GoSem.ClaimJoined
import GoSem.ClaimMapViews
import Derived.JoinedTies
import Derived.KernelRfl
namespace Go.Proofs.Ytdolepapmpcpiaa
/- THE CELL 'sum', in the pinned program and in every row, IS THE sha256 OF THE DUMP (.gsa) THAT YtdolepapmpcpiaaProg.lean LOADS. Nothing in Lean hashes anything: it is a label: what it is worth is what the hold of that sum in a sandbox is worth. -/
noncomputable def Try.pinned : Pinned := { name := "ytdolepapmpcpiaa", sum := "d3f2bf59b24377f61070a68676f46bbc5323419e649733c64a2fd11cd53eef13", checked := Try.checked }
namespace Rows
def none {H : Type} : Left H := { results := [], args := [] }

/-- 'catenarylaw11.AcceptPlays': WHATEVER THE INPUT: true; the input reads as it did. -/
def acceptPlaysSpec : ChangeSpec := { name := "acceptPlays", fn := fun _ => fun
  | [d1, d2] => { results := [.lit (.bool true)], args := [d1, d2] }
  | _ => none }
def acceptPlaysRow : OpenClaim := { program := "ytdolepapmpcpiaa", sum := "d3f2bf59b24377f61070a68676f46bbc5323419e649733c64a2fd11cd53eef13", func := "catenary/catenarylaw11.AcceptPlays", spec := "acceptPlays", unfollowed := true, recurses := true, apart := false }
def AcceptPlaysSaid : Prop := acceptPlaysRow.holds Try.pinned (OpenSpec.ofChange acceptPlaysSpec)

/-- ITS FALSE NEIGHBOUR: 'it returns false'. Refute it at one input. -/
def acceptPlaysWrong : ChangeSpec := { name := "acceptPlays", fn := fun _ => fun
  | [d1, d2] => { results := [.lit (.bool false)], args := [d1, d2] }
  | _ => none }
def AcceptPlaysWrongFalsely : Prop := acceptPlaysRow.holds Try.pinned (OpenSpec.ofChange acceptPlaysWrong)

/-- 'catenarylaw11.AcceptRises': WHATEVER THE INPUT: true; the input reads as it did. -/
def acceptRisesSpec : ChangeSpec := { name := "acceptRises", fn := fun _ => fun
  | [d] => { results := [.lit (.bool true)], args := [d] }
  | _ => none }
def acceptRisesRow : OpenClaim := { program := "ytdolepapmpcpiaa", sum := "d3f2bf59b24377f61070a68676f46bbc5323419e649733c64a2fd11cd53eef13", func := "catenary/catenarylaw11.AcceptRises", spec := "acceptRises", unfollowed := true, recurses := true, apart := false }
def AcceptRisesSaid : Prop := acceptRisesRow.holds Try.pinned (OpenSpec.ofChange acceptRisesSpec)

/-- ITS FALSE NEIGHBOUR: 'it returns false'. Refute it at one input. -/
def acceptRisesWrong : ChangeSpec := { name := "acceptRises", fn := fun _ => fun
  | [d] => { results := [.lit (.bool false)], args := [d] }
  | _ => none }
def AcceptRisesWrongFalsely : Prop := acceptRisesRow.holds Try.pinned (OpenSpec.ofChange acceptRisesWrong)

/-- 'catenarylaw11.AcceptNil': WHATEVER THE INPUT: true; the input reads as it did. -/
def acceptNilSpec : ChangeSpec := { name := "acceptNil", fn := fun _ => fun
  | [d] => { results := [.lit (.bool true)], args := [d] }
  | _ => none }
def acceptNilRow : OpenClaim := { program := "ytdolepapmpcpiaa", sum := "d3f2bf59b24377f61070a68676f46bbc5323419e649733c64a2fd11cd53eef13", func := "catenary/catenarylaw11.AcceptNil", spec := "acceptNil", unfollowed := true, recurses := true, apart := false }
def AcceptNilSaid : Prop := acceptNilRow.holds Try.pinned (OpenSpec.ofChange acceptNilSpec)

/-- ITS FALSE NEIGHBOUR: 'it returns false'. Refute it at one input. -/
def acceptNilWrong : ChangeSpec := { name := "acceptNil", fn := fun _ => fun
  | [d] => { results := [.lit (.bool false)], args := [d] }
  | _ => none }
def AcceptNilWrongFalsely : Prop := acceptNilRow.holds Try.pinned (OpenSpec.ofChange acceptNilWrong)

/-- 'catenarylaw11.AcceptBest': WHATEVER THE INPUT: true; the input reads as it did. -/
def acceptBestSpec : ChangeSpec := { name := "acceptBest", fn := fun _ => fun
  | [d] => { results := [.lit (.bool true)], args := [d] }
  | _ => none }
def acceptBestRow : OpenClaim := { program := "ytdolepapmpcpiaa", sum := "d3f2bf59b24377f61070a68676f46bbc5323419e649733c64a2fd11cd53eef13", func := "catenary/catenarylaw11.AcceptBest", spec := "acceptBest", unfollowed := true, recurses := true, apart := false }
def AcceptBestSaid : Prop := acceptBestRow.holds Try.pinned (OpenSpec.ofChange acceptBestSpec)

/-- ITS FALSE NEIGHBOUR: 'it returns false'. Refute it at one input. -/
def acceptBestWrong : ChangeSpec := { name := "acceptBest", fn := fun _ => fun
  | [d] => { results := [.lit (.bool false)], args := [d] }
  | _ => none }
def AcceptBestWrongFalsely : Prop := acceptBestRow.holds Try.pinned (OpenSpec.ofChange acceptBestWrong)

/-- 'catenarylaw13.LeadChooses': WHATEVER THE INPUT: true; the input reads as it did. -/
def leadChoosesSpec : ChangeSpec := { name := "leadChooses", fn := fun _ => fun
  | [d1, d2, d3] => { results := [.lit (.bool true)], args := [d1, d2, d3] }
  | _ => none }
def leadChoosesRow : OpenClaim := { program := "ytdolepapmpcpiaa", sum := "d3f2bf59b24377f61070a68676f46bbc5323419e649733c64a2fd11cd53eef13", func := "catenary/catenarylaw13.LeadChooses", spec := "leadChooses", unfollowed := true, recurses := true, apart := false }
def LeadChoosesSaid : Prop := leadChoosesRow.holds Try.pinned (OpenSpec.ofChange leadChoosesSpec)

/-- ITS FALSE NEIGHBOUR: 'it returns false'. Refute it at one input. -/
def leadChoosesWrong : ChangeSpec := { name := "leadChooses", fn := fun _ => fun
  | [d1, d2, d3] => { results := [.lit (.bool false)], args := [d1, d2, d3] }
  | _ => none }
def LeadChoosesWrongFalsely : Prop := leadChoosesRow.holds Try.pinned (OpenSpec.ofChange leadChoosesWrong)

/-- 'catenarylaw13.LeadPlays': WHATEVER THE INPUT: true; the input reads as it did. -/
def leadPlaysSpec : ChangeSpec := { name := "leadPlays", fn := fun _ => fun
  | [d1, d2, d3] => { results := [.lit (.bool true)], args := [d1, d2, d3] }
  | _ => none }
def leadPlaysRow : OpenClaim := { program := "ytdolepapmpcpiaa", sum := "d3f2bf59b24377f61070a68676f46bbc5323419e649733c64a2fd11cd53eef13", func := "catenary/catenarylaw13.LeadPlays", spec := "leadPlays", unfollowed := true, recurses := true, apart := false }
def LeadPlaysSaid : Prop := leadPlaysRow.holds Try.pinned (OpenSpec.ofChange leadPlaysSpec)

/-- ITS FALSE NEIGHBOUR: 'it returns false'. Refute it at one input. -/
def leadPlaysWrong : ChangeSpec := { name := "leadPlays", fn := fun _ => fun
  | [d1, d2, d3] => { results := [.lit (.bool false)], args := [d1, d2, d3] }
  | _ => none }
def LeadPlaysWrongFalsely : Prop := leadPlaysRow.holds Try.pinned (OpenSpec.ofChange leadPlaysWrong)

/-- 'catenarylaw13.LeadNil': WHATEVER THE INPUT: true; the input reads as it did. -/
def leadNilSpec : ChangeSpec := { name := "leadNil", fn := fun _ => fun
  | [d] => { results := [.lit (.bool true)], args := [d] }
  | _ => none }
def leadNilRow : OpenClaim := { program := "ytdolepapmpcpiaa", sum := "d3f2bf59b24377f61070a68676f46bbc5323419e649733c64a2fd11cd53eef13", func := "catenary/catenarylaw13.LeadNil", spec := "leadNil", unfollowed := true, recurses := true, apart := false }
def LeadNilSaid : Prop := leadNilRow.holds Try.pinned (OpenSpec.ofChange leadNilSpec)

/-- ITS FALSE NEIGHBOUR: 'it returns false'. Refute it at one input. -/
def leadNilWrong : ChangeSpec := { name := "leadNil", fn := fun _ => fun
  | [d] => { results := [.lit (.bool false)], args := [d] }
  | _ => none }
def LeadNilWrongFalsely : Prop := leadNilRow.holds Try.pinned (OpenSpec.ofChange leadNilWrong)

/-- 'catenarylaw13.LeadSafe': WHATEVER THE INPUT: true; the input reads as it did. -/
def leadSafeSpec : ChangeSpec := { name := "leadSafe", fn := fun _ => fun
  | [d1, d2] => { results := [.lit (.bool true)], args := [d1, d2] }
  | _ => none }
def leadSafeRow : OpenClaim := { program := "ytdolepapmpcpiaa", sum := "d3f2bf59b24377f61070a68676f46bbc5323419e649733c64a2fd11cd53eef13", func := "catenary/catenarylaw13.LeadSafe", spec := "leadSafe", unfollowed := true, recurses := true, apart := false }
def LeadSafeSaid : Prop := leadSafeRow.holds Try.pinned (OpenSpec.ofChange leadSafeSpec)

/-- ITS FALSE NEIGHBOUR: 'it returns false'. Refute it at one input. -/
def leadSafeWrong : ChangeSpec := { name := "leadSafe", fn := fun _ => fun
  | [d1, d2] => { results := [.lit (.bool false)], args := [d1, d2] }
  | _ => none }
def LeadSafeWrongFalsely : Prop := leadSafeRow.holds Try.pinned (OpenSpec.ofChange leadSafeWrong)

/- THE SECOND FORM. 'bulk': how many values and letters a reading holds, each counted each time it is reached (what is shared counts as often as it is met; a slice's spare places count too). A statement '..UptoSaid' is the law's where the arguments, and the package variables that the reading takes, are together of bulk at most 1048576: NARROWER than '..Said'. Prove '..Said' where nothing that the law and all that it calls make is longer than what came in: it says more and counts as full. Else prove '..UptoSaid'. A law counts once. -/
mutual
def uptoBulk {H : Type} : DataW H → Nat
  | .lit (.string bytes) => bytes.length + 1
  | .lit _ => 1
  | .nil => 1
  | .ptr d => uptoBulk d + 1
  | .slice elems spare => uptoBulkAll elems + uptoBulkAll spare + 1
  | .agg parts => uptoBulkAll parts + 1
  | .iface _ d => uptoBulk d + 1
  | .map entries => uptoBulkEntries entries + 1
  | .held _ => 1
def uptoBulkAll {H : Type} : List (DataW H) → Nat
  | [] => 0
  | d :: r => uptoBulk d + uptoBulkAll r
def uptoBulkEntries {H : Type} : List (Lit × DataW H) → Nat
  | [] => 0
  | x :: r => uptoBulkEntry x + uptoBulkEntries r
def uptoBulkEntry {H : Type} : Lit × DataW H → Nat
  | (.string bytes, d) => bytes.length + uptoBulk d + 1
  | (_, d) => uptoBulk d + 1
 end
def uptoSmall : (H : Type) → List (DataW H) → Bool := fun _ ds => decide (uptoBulkAll ds ≤ 1048576)
def OpenSpec.upto (s : _root_.Go.ChangeSpec) : _root_.Go.OpenSpec := { _root_.Go.OpenSpec.ofChange s with cond := some uptoSmall }

/-- 'catenarylaw11.AcceptPlays', WHERE WHAT IT READS IS OF BULK AT MOST 1048576: true; the input reads as it did. -/
def acceptPlaysUptoRow : OpenClaim := { program := "ytdolepapmpcpiaa", sum := "d3f2bf59b24377f61070a68676f46bbc5323419e649733c64a2fd11cd53eef13", func := "catenary/catenarylaw11.AcceptPlays", spec := "acceptPlays", unfollowed := true, recurses := true, apart := false, narrowed := true }
def AcceptPlaysUptoSaid : Prop := acceptPlaysUptoRow.holds Try.pinned (OpenSpec.upto acceptPlaysSpec)

/-- 'catenarylaw11.AcceptRises', WHERE WHAT IT READS IS OF BULK AT MOST 1048576: true; the input reads as it did. -/
def acceptRisesUptoRow : OpenClaim := { program := "ytdolepapmpcpiaa", sum := "d3f2bf59b24377f61070a68676f46bbc5323419e649733c64a2fd11cd53eef13", func := "catenary/catenarylaw11.AcceptRises", spec := "acceptRises", unfollowed := true, recurses := true, apart := false, narrowed := true }
def AcceptRisesUptoSaid : Prop := acceptRisesUptoRow.holds Try.pinned (OpenSpec.upto acceptRisesSpec)

/-- 'catenarylaw11.AcceptNil', WHERE WHAT IT READS IS OF BULK AT MOST 1048576: true; the input reads as it did. -/
def acceptNilUptoRow : OpenClaim := { program := "ytdolepapmpcpiaa", sum := "d3f2bf59b24377f61070a68676f46bbc5323419e649733c64a2fd11cd53eef13", func := "catenary/catenarylaw11.AcceptNil", spec := "acceptNil", unfollowed := true, recurses := true, apart := false, narrowed := true }
def AcceptNilUptoSaid : Prop := acceptNilUptoRow.holds Try.pinned (OpenSpec.upto acceptNilSpec)

/-- 'catenarylaw11.AcceptBest', WHERE WHAT IT READS IS OF BULK AT MOST 1048576: true; the input reads as it did. -/
def acceptBestUptoRow : OpenClaim := { program := "ytdolepapmpcpiaa", sum := "d3f2bf59b24377f61070a68676f46bbc5323419e649733c64a2fd11cd53eef13", func := "catenary/catenarylaw11.AcceptBest", spec := "acceptBest", unfollowed := true, recurses := true, apart := false, narrowed := true }
def AcceptBestUptoSaid : Prop := acceptBestUptoRow.holds Try.pinned (OpenSpec.upto acceptBestSpec)

/-- 'catenarylaw13.LeadChooses', WHERE WHAT IT READS IS OF BULK AT MOST 1048576: true; the input reads as it did. -/
def leadChoosesUptoRow : OpenClaim := { program := "ytdolepapmpcpiaa", sum := "d3f2bf59b24377f61070a68676f46bbc5323419e649733c64a2fd11cd53eef13", func := "catenary/catenarylaw13.LeadChooses", spec := "leadChooses", unfollowed := true, recurses := true, apart := false, narrowed := true }
def LeadChoosesUptoSaid : Prop := leadChoosesUptoRow.holds Try.pinned (OpenSpec.upto leadChoosesSpec)

/-- 'catenarylaw13.LeadPlays', WHERE WHAT IT READS IS OF BULK AT MOST 1048576: true; the input reads as it did. -/
def leadPlaysUptoRow : OpenClaim := { program := "ytdolepapmpcpiaa", sum := "d3f2bf59b24377f61070a68676f46bbc5323419e649733c64a2fd11cd53eef13", func := "catenary/catenarylaw13.LeadPlays", spec := "leadPlays", unfollowed := true, recurses := true, apart := false, narrowed := true }
def LeadPlaysUptoSaid : Prop := leadPlaysUptoRow.holds Try.pinned (OpenSpec.upto leadPlaysSpec)

/-- 'catenarylaw13.LeadNil', WHERE WHAT IT READS IS OF BULK AT MOST 1048576: true; the input reads as it did. -/
def leadNilUptoRow : OpenClaim := { program := "ytdolepapmpcpiaa", sum := "d3f2bf59b24377f61070a68676f46bbc5323419e649733c64a2fd11cd53eef13", func := "catenary/catenarylaw13.LeadNil", spec := "leadNil", unfollowed := true, recurses := true, apart := false, narrowed := true }
def LeadNilUptoSaid : Prop := leadNilUptoRow.holds Try.pinned (OpenSpec.upto leadNilSpec)

/-- 'catenarylaw13.LeadSafe', WHERE WHAT IT READS IS OF BULK AT MOST 1048576: true; the input reads as it did. -/
def leadSafeUptoRow : OpenClaim := { program := "ytdolepapmpcpiaa", sum := "d3f2bf59b24377f61070a68676f46bbc5323419e649733c64a2fd11cd53eef13", func := "catenary/catenarylaw13.LeadSafe", spec := "leadSafe", unfollowed := true, recurses := true, apart := false, narrowed := true }
def LeadSafeUptoSaid : Prop := leadSafeUptoRow.holds Try.pinned (OpenSpec.upto leadSafeSpec)

end Rows
end Go.Proofs.Ytdolepapmpcpiaa
