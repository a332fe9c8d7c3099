/- What functions of the program ask of the seen heap (written by a program of this proof, vgen.py). -/
import Derived.Test.YtdolepapmpcpiaaVCode3
import Derived.Test.YtdolepapmpcpiaaProg
namespace Go.Proofs.Ytdolepapmpcpiaa
open Go
set_option linter.unusedSectionVars false
variable [Base]
set_option linter.unusedVariables false
set_option maxRecDepth 100000

theorem prog_mixed : Try.prog.follows .mixedOrders = true := by kernel_rfl
abbrev Self := List Value → Hp → Prop
def bodyC (f : Func) : Code := match f.body with | some c => c | none => .skip
def cA : Code → Code | .seq a _ => a | _ => .skip
def cB : Code → Code | .seq _ b => b | _ => .skip
def cT : Code → Code | .cond _ a _ => a | _ => .skip
def cE : Code → Code | .cond _ _ b => b | _ => .skip
def cI : Code → Code | .block _ a => a | .loop a => a | _ => .skip
def cO : Code → Array Oper | .region _ o _ => o | _ => #[]

def C_catenarylaw11_AcceptPlays (args : List Value) (h : Hp) (K : Kont) : Prop := AC Try.prog 3 args.toArray h K
theorem ent_catenarylaw11_AcceptPlays : canEnter Try.prog 3 = true := by kernel_rfl
theorem C_catenarylaw11_AcceptPlays.mono {args : List Value} {h : Hp} {K K' : Kont} (a : C_catenarylaw11_AcceptPlays args h K) (hk : ∀ v h', K v h' → K' v h') : C_catenarylaw11_AcceptPlays args h K' := AC.mono a hk
@[congr] theorem C_catenarylaw11_AcceptPlays_cg {l l' : List Value} {h h' : Hp} {K : Kont} (el : l = l') (eh : h = h') : C_catenarylaw11_AcceptPlays l h K = C_catenarylaw11_AcceptPlays l' h' K := by subst el; subst eh; rfl
def C_catenarylaw11_AcceptRises (args : List Value) (h : Hp) (K : Kont) : Prop := AC Try.prog 4 args.toArray h K
theorem ent_catenarylaw11_AcceptRises : canEnter Try.prog 4 = true := by kernel_rfl
theorem C_catenarylaw11_AcceptRises.mono {args : List Value} {h : Hp} {K K' : Kont} (a : C_catenarylaw11_AcceptRises args h K) (hk : ∀ v h', K v h' → K' v h') : C_catenarylaw11_AcceptRises args h K' := AC.mono a hk
@[congr] theorem C_catenarylaw11_AcceptRises_cg {l l' : List Value} {h h' : Hp} {K : Kont} (el : l = l') (eh : h = h') : C_catenarylaw11_AcceptRises l h K = C_catenarylaw11_AcceptRises l' h' K := by subst el; subst eh; rfl
def C_catenarylaw11_AcceptNil (args : List Value) (h : Hp) (K : Kont) : Prop := AC Try.prog 5 args.toArray h K
theorem ent_catenarylaw11_AcceptNil : canEnter Try.prog 5 = true := by kernel_rfl
theorem C_catenarylaw11_AcceptNil.mono {args : List Value} {h : Hp} {K K' : Kont} (a : C_catenarylaw11_AcceptNil args h K) (hk : ∀ v h', K v h' → K' v h') : C_catenarylaw11_AcceptNil args h K' := AC.mono a hk
@[congr] theorem C_catenarylaw11_AcceptNil_cg {l l' : List Value} {h h' : Hp} {K : Kont} (el : l = l') (eh : h = h') : C_catenarylaw11_AcceptNil l h K = C_catenarylaw11_AcceptNil l' h' K := by subst el; subst eh; rfl
def C_catenarylaw11_AcceptBest (args : List Value) (h : Hp) (K : Kont) : Prop := AC Try.prog 6 args.toArray h K
theorem ent_catenarylaw11_AcceptBest : canEnter Try.prog 6 = true := by kernel_rfl
theorem C_catenarylaw11_AcceptBest.mono {args : List Value} {h : Hp} {K K' : Kont} (a : C_catenarylaw11_AcceptBest args h K) (hk : ∀ v h', K v h' → K' v h') : C_catenarylaw11_AcceptBest args h K' := AC.mono a hk
@[congr] theorem C_catenarylaw11_AcceptBest_cg {l l' : List Value} {h h' : Hp} {K : Kont} (el : l = l') (eh : h = h') : C_catenarylaw11_AcceptBest l h K = C_catenarylaw11_AcceptBest l' h' K := by subst el; subst eh; rfl
def C_accept_New (args : List Value) (h : Hp) (K : Kont) : Prop := AC Try.prog 11 args.toArray h K
theorem ent_accept_New : canEnter Try.prog 11 = true := by kernel_rfl
theorem C_accept_New.mono {args : List Value} {h : Hp} {K K' : Kont} (a : C_accept_New args h K) (hk : ∀ v h', K v h' → K' v h') : C_accept_New args h K' := AC.mono a hk
@[congr] theorem C_accept_New_cg {l l' : List Value} {h h' : Hp} {K : Kont} (el : l = l') (eh : h = h') : C_accept_New l h K = C_accept_New l' h' K := by subst el; subst eh; rfl
def C_catenarylaw11_step (args : List Value) (h : Hp) (K : Kont) : Prop := AC Try.prog 12 args.toArray h K
theorem ent_catenarylaw11_step : canEnter Try.prog 12 = true := by kernel_rfl
theorem C_catenarylaw11_step.mono {args : List Value} {h : Hp} {K K' : Kont} (a : C_catenarylaw11_step args h K) (hk : ∀ v h', K v h' → K' v h') : C_catenarylaw11_step args h K' := AC.mono a hk
@[congr] theorem C_catenarylaw11_step_cg {l l' : List Value} {h h' : Hp} {K : Kont} (el : l = l') (eh : h = h') : C_catenarylaw11_step l h K = C_catenarylaw11_step l' h' K := by subst el; subst eh; rfl
def C_accept_Acceptor_Vote (args : List Value) (h : Hp) (K : Kont) : Prop := AC Try.prog 13 args.toArray h K
theorem ent_accept_Acceptor_Vote : canEnter Try.prog 13 = true := by kernel_rfl
theorem C_accept_Acceptor_Vote.mono {args : List Value} {h : Hp} {K K' : Kont} (a : C_accept_Acceptor_Vote args h K) (hk : ∀ v h', K v h' → K' v h') : C_accept_Acceptor_Vote args h K' := AC.mono a hk
@[congr] theorem C_accept_Acceptor_Vote_cg {l l' : List Value} {h h' : Hp} {K : Kont} (el : l = l') (eh : h = h') : C_accept_Acceptor_Vote l h K = C_accept_Acceptor_Vote l' h' K := by subst el; subst eh; rfl
def C_catenaryref11_At (args : List Value) (h : Hp) (K : Kont) : Prop := AC Try.prog 14 args.toArray h K
theorem ent_catenaryref11_At : canEnter Try.prog 14 = true := by kernel_rfl
theorem C_catenaryref11_At.mono {args : List Value} {h : Hp} {K K' : Kont} (a : C_catenaryref11_At args h K) (hk : ∀ v h', K v h' → K' v h') : C_catenaryref11_At args h K' := AC.mono a hk
@[congr] theorem C_catenaryref11_At_cg {l l' : List Value} {h h' : Hp} {K : Kont} (el : l = l') (eh : h = h') : C_catenaryref11_At l h K = C_catenaryref11_At l' h' K := by subst el; subst eh; rfl
def C_accept_Acceptor_Promised (args : List Value) (h : Hp) (K : Kont) : Prop := AC Try.prog 15 args.toArray h K
theorem ent_accept_Acceptor_Promised : canEnter Try.prog 15 = true := by kernel_rfl
theorem C_accept_Acceptor_Promised.mono {args : List Value} {h : Hp} {K K' : Kont} (a : C_accept_Acceptor_Promised args h K) (hk : ∀ v h', K v h' → K' v h') : C_accept_Acceptor_Promised args h K' := AC.mono a hk
@[congr] theorem C_accept_Acceptor_Promised_cg {l l' : List Value} {h h' : Hp} {K : Kont} (el : l = l') (eh : h = h') : C_accept_Acceptor_Promised l h K = C_accept_Acceptor_Promised l' h' K := by subst el; subst eh; rfl
def C_accept_Acceptor_Len (args : List Value) (h : Hp) (K : Kont) : Prop := AC Try.prog 16 args.toArray h K
theorem ent_accept_Acceptor_Len : canEnter Try.prog 16 = true := by kernel_rfl
theorem C_accept_Acceptor_Len.mono {args : List Value} {h : Hp} {K K' : Kont} (a : C_accept_Acceptor_Len args h K) (hk : ∀ v h', K v h' → K' v h') : C_accept_Acceptor_Len args h K' := AC.mono a hk
@[congr] theorem C_accept_Acceptor_Len_cg {l l' : List Value} {h h' : Hp} {K : Kont} (el : l = l') (eh : h = h') : C_accept_Acceptor_Len l h K = C_accept_Acceptor_Len l' h' K := by subst el; subst eh; rfl
def C_catenaryref10_SameVotes (args : List Value) (h : Hp) (K : Kont) : Prop := AC Try.prog 17 args.toArray h K
theorem ent_catenaryref10_SameVotes : canEnter Try.prog 17 = true := by kernel_rfl
theorem C_catenaryref10_SameVotes.mono {args : List Value} {h : Hp} {K K' : Kont} (a : C_catenaryref10_SameVotes args h K) (hk : ∀ v h', K v h' → K' v h') : C_catenaryref10_SameVotes args h K' := AC.mono a hk
@[congr] theorem C_catenaryref10_SameVotes_cg {l l' : List Value} {h h' : Hp} {K : Kont} (el : l = l') (eh : h = h') : C_catenaryref10_SameVotes l h K = C_catenaryref10_SameVotes l' h' K := by subst el; subst eh; rfl
def C_accept_Acceptor_Votes (args : List Value) (h : Hp) (K : Kont) : Prop := AC Try.prog 18 args.toArray h K
theorem ent_accept_Acceptor_Votes : canEnter Try.prog 18 = true := by kernel_rfl
theorem C_accept_Acceptor_Votes.mono {args : List Value} {h : Hp} {K K' : Kont} (a : C_accept_Acceptor_Votes args h K) (hk : ∀ v h', K v h' → K' v h') : C_accept_Acceptor_Votes args h K' := AC.mono a hk
@[congr] theorem C_accept_Acceptor_Votes_cg {l l' : List Value} {h h' : Hp} {K : Kont} (el : l = l') (eh : h = h') : C_accept_Acceptor_Votes l h K = C_accept_Acceptor_Votes l' h' K := by subst el; subst eh; rfl
def C_catenaryref11_From (args : List Value) (h : Hp) (K : Kont) : Prop := AC Try.prog 19 args.toArray h K
theorem ent_catenaryref11_From : canEnter Try.prog 19 = true := by kernel_rfl
theorem C_catenaryref11_From.mono {args : List Value} {h : Hp} {K K' : Kont} (a : C_catenaryref11_From args h K) (hk : ∀ v h', K v h' → K' v h') : C_catenaryref11_From args h K' := AC.mono a hk
@[congr] theorem C_catenaryref11_From_cg {l l' : List Value} {h h' : Hp} {K : Kont} (el : l = l') (eh : h = h') : C_catenaryref11_From l h K = C_catenaryref11_From l' h' K := by subst el; subst eh; rfl
def C_catenarylaw11_awake (args : List Value) (h : Hp) (K : Kont) : Prop := AC Try.prog 20 args.toArray h K
theorem ent_catenarylaw11_awake : canEnter Try.prog 20 = true := by kernel_rfl
theorem C_catenarylaw11_awake.mono {args : List Value} {h : Hp} {K K' : Kont} (a : C_catenarylaw11_awake args h K) (hk : ∀ v h', K v h' → K' v h') : C_catenarylaw11_awake args h K' := AC.mono a hk
@[congr] theorem C_catenarylaw11_awake_cg {l l' : List Value} {h h' : Hp} {K : Kont} (el : l = l') (eh : h = h') : C_catenarylaw11_awake l h K = C_catenarylaw11_awake l' h' K := by subst el; subst eh; rfl
def C_accept_Acceptor_Prepare (args : List Value) (h : Hp) (K : Kont) : Prop := AC Try.prog 21 args.toArray h K
theorem ent_accept_Acceptor_Prepare : canEnter Try.prog 21 = true := by kernel_rfl
theorem C_accept_Acceptor_Prepare.mono {args : List Value} {h : Hp} {K K' : Kont} (a : C_accept_Acceptor_Prepare args h K) (hk : ∀ v h', K v h' → K' v h') : C_accept_Acceptor_Prepare args h K' := AC.mono a hk
@[congr] theorem C_accept_Acceptor_Prepare_cg {l l' : List Value} {h h' : Hp} {K : Kont} (el : l = l') (eh : h = h') : C_accept_Acceptor_Prepare l h K = C_accept_Acceptor_Prepare l' h' K := by subst el; subst eh; rfl
def C_accept_Acceptor_Accept (args : List Value) (h : Hp) (K : Kont) : Prop := AC Try.prog 22 args.toArray h K
theorem ent_accept_Acceptor_Accept : canEnter Try.prog 22 = true := by kernel_rfl
theorem C_accept_Acceptor_Accept.mono {args : List Value} {h : Hp} {K K' : Kont} (a : C_accept_Acceptor_Accept args h K) (hk : ∀ v h', K v h' → K' v h') : C_accept_Acceptor_Accept args h K' := AC.mono a hk
@[congr] theorem C_accept_Acceptor_Accept_cg {l l' : List Value} {h h' : Hp} {K : Kont} (el : l = l') (eh : h = h') : C_accept_Acceptor_Accept l h K = C_accept_Acceptor_Accept l' h' K := by subst el; subst eh; rfl
def C_accept_Best (args : List Value) (h : Hp) (K : Kont) : Prop := AC Try.prog 23 args.toArray h K
theorem ent_accept_Best : canEnter Try.prog 23 = true := by kernel_rfl
theorem C_accept_Best.mono {args : List Value} {h : Hp} {K K' : Kont} (a : C_accept_Best args h K) (hk : ∀ v h', K v h' → K' v h') : C_accept_Best args h K' := AC.mono a hk
@[congr] theorem C_accept_Best_cg {l l' : List Value} {h h' : Hp} {K : Kont} (el : l = l') (eh : h = h') : C_accept_Best l h K = C_accept_Best l' h' K := by subst el; subst eh; rfl
def C_catenaryref11_Best (args : List Value) (h : Hp) (K : Kont) : Prop := AC Try.prog 24 args.toArray h K
theorem ent_catenaryref11_Best : canEnter Try.prog 24 = true := by kernel_rfl
theorem C_catenaryref11_Best.mono {args : List Value} {h : Hp} {K K' : Kont} (a : C_catenaryref11_Best args h K) (hk : ∀ v h', K v h' → K' v h') : C_catenaryref11_Best args h K' := AC.mono a hk
@[congr] theorem C_catenaryref11_Best_cg {l l' : List Value} {h h' : Hp} {K : Kont} (el : l = l') (eh : h = h') : C_catenaryref11_Best l h K = C_catenaryref11_Best l' h' K := by subst el; subst eh; rfl
def C_catenaryref11_Prepare (args : List Value) (h : Hp) (K : Kont) : Prop := AC Try.prog 42 args.toArray h K
theorem ent_catenaryref11_Prepare : canEnter Try.prog 42 = true := by kernel_rfl
theorem C_catenaryref11_Prepare.mono {args : List Value} {h : Hp} {K K' : Kont} (a : C_catenaryref11_Prepare args h K) (hk : ∀ v h', K v h' → K' v h') : C_catenaryref11_Prepare args h K' := AC.mono a hk
@[congr] theorem C_catenaryref11_Prepare_cg {l l' : List Value} {h h' : Hp} {K : Kont} (el : l = l') (eh : h = h') : C_catenaryref11_Prepare l h K = C_catenaryref11_Prepare l' h' K := by subst el; subst eh; rfl
def C_catenaryref11_Accept (args : List Value) (h : Hp) (K : Kont) : Prop := AC Try.prog 43 args.toArray h K
theorem ent_catenaryref11_Accept : canEnter Try.prog 43 = true := by kernel_rfl
theorem C_catenaryref11_Accept.mono {args : List Value} {h : Hp} {K K' : Kont} (a : C_catenaryref11_Accept args h K) (hk : ∀ v h', K v h' → K' v h') : C_catenaryref11_Accept args h K' := AC.mono a hk
@[congr] theorem C_catenaryref11_Accept_cg {l l' : List Value} {h h' : Hp} {K : Kont} (el : l = l') (eh : h = h') : C_catenaryref11_Accept l h K = C_catenaryref11_Accept l' h' K := by subst el; subst eh; rfl
def C_accept_rising (args : List Value) (h : Hp) (K : Kont) : Prop := AC Try.prog 44 args.toArray h K
theorem ent_accept_rising : canEnter Try.prog 44 = true := by kernel_rfl
theorem C_accept_rising.mono {args : List Value} {h : Hp} {K K' : Kont} (a : C_accept_rising args h K) (hk : ∀ v h', K v h' → K' v h') : C_accept_rising args h K' := AC.mono a hk
@[congr] theorem C_accept_rising_cg {l l' : List Value} {h h' : Hp} {K : Kont} (el : l = l') (eh : h = h') : C_accept_rising l h K = C_accept_rising l' h' K := by subst el; subst eh; rfl
def C_ballot_Is (args : List Value) (h : Hp) (K : Kont) : Prop := AC Try.prog 45 args.toArray h K
theorem ent_ballot_Is : canEnter Try.prog 45 = true := by kernel_rfl
theorem C_ballot_Is.mono {args : List Value} {h : Hp} {K K' : Kont} (a : C_ballot_Is args h K) (hk : ∀ v h', K v h' → K' v h') : C_ballot_Is args h K' := AC.mono a hk
@[congr] theorem C_ballot_Is_cg {l l' : List Value} {h h' : Hp} {K : Kont} (el : l = l') (eh : h = h') : C_ballot_Is l h K = C_ballot_Is l' h' K := by subst el; subst eh; rfl
def C_cmds_Check (args : List Value) (h : Hp) (K : Kont) : Prop := AC Try.prog 46 args.toArray h K
theorem ent_cmds_Check : canEnter Try.prog 46 = true := by kernel_rfl
theorem C_cmds_Check.mono {args : List Value} {h : Hp} {K K' : Kont} (a : C_cmds_Check args h K) (hk : ∀ v h', K v h' → K' v h') : C_cmds_Check args h K' := AC.mono a hk
@[congr] theorem C_cmds_Check_cg {l l' : List Value} {h h' : Hp} {K : Kont} (el : l = l') (eh : h = h') : C_cmds_Check l h K = C_cmds_Check l' h' K := by subst el; subst eh; rfl
def C_slices_Min_Sint_int (args : List Value) (h : Hp) (K : Kont) : Prop := AC Try.prog 47 args.toArray h K
theorem ent_slices_Min_Sint_int : canEnter Try.prog 47 = true := by kernel_rfl
theorem C_slices_Min_Sint_int.mono {args : List Value} {h : Hp} {K K' : Kont} (a : C_slices_Min_Sint_int args h K) (hk : ∀ v h', K v h' → K' v h') : C_slices_Min_Sint_int args h K' := AC.mono a hk
@[congr] theorem C_slices_Min_Sint_int_cg {l l' : List Value} {h h' : Hp} {K : Kont} (el : l = l') (eh : h = h') : C_slices_Min_Sint_int l h K = C_slices_Min_Sint_int l' h' K := by subst el; subst eh; rfl
def C_slices_Collect_int (args : List Value) (h : Hp) (K : Kont) : Prop := AC Try.prog 48 args.toArray h K
theorem ent_slices_Collect_int : canEnter Try.prog 48 = true := by kernel_rfl
theorem C_slices_Collect_int.mono {args : List Value} {h : Hp} {K K' : Kont} (a : C_slices_Collect_int args h K) (hk : ∀ v h', K v h' → K' v h') : C_slices_Collect_int args h K' := AC.mono a hk
@[congr] theorem C_slices_Collect_int_cg {l l' : List Value} {h h' : Hp} {K : Kont} (el : l = l') (eh : h = h') : C_slices_Collect_int l h K = C_slices_Collect_int l' h' K := by subst el; subst eh; rfl
def C_maps_Keys_map_int_api_Vote_int_api_Vote (args : List Value) (h : Hp) (K : Kont) : Prop := AC Try.prog 49 args.toArray h K
theorem ent_maps_Keys_map_int_api_Vote_int_api_Vote : canEnter Try.prog 49 = true := by kernel_rfl
theorem C_maps_Keys_map_int_api_Vote_int_api_Vote.mono {args : List Value} {h : Hp} {K K' : Kont} (a : C_maps_Keys_map_int_api_Vote_int_api_Vote args h K) (hk : ∀ v h', K v h' → K' v h') : C_maps_Keys_map_int_api_Vote_int_api_Vote args h K' := AC.mono a hk
@[congr] theorem C_maps_Keys_map_int_api_Vote_int_api_Vote_cg {l l' : List Value} {h h' : Hp} {K : Kont} (el : l = l') (eh : h = h') : C_maps_Keys_map_int_api_Vote_int_api_Vote l h K = C_maps_Keys_map_int_api_Vote_int_api_Vote l' h' K := by subst el; subst eh; rfl
def C_catenaryref11_Put (args : List Value) (h : Hp) (K : Kont) : Prop := AC Try.prog 50 args.toArray h K
theorem ent_catenaryref11_Put : canEnter Try.prog 50 = true := by kernel_rfl
theorem C_catenaryref11_Put.mono {args : List Value} {h : Hp} {K K' : Kont} (a : C_catenaryref11_Put args h K) (hk : ∀ v h', K v h' → K' v h') : C_catenaryref11_Put args h K' := AC.mono a hk
@[congr] theorem C_catenaryref11_Put_cg {l l' : List Value} {h h' : Hp} {K : Kont} (el : l = l') (eh : h = h') : C_catenaryref11_Put l h K = C_catenaryref11_Put l' h' K := by subst el; subst eh; rfl
def C_slices_Sorted_int (args : List Value) (h : Hp) (K : Kont) : Prop := AC Try.prog 64 args.toArray h K
theorem ent_slices_Sorted_int : canEnter Try.prog 64 = true := by kernel_rfl
theorem C_slices_Sorted_int.mono {args : List Value} {h : Hp} {K K' : Kont} (a : C_slices_Sorted_int args h K) (hk : ∀ v h', K v h' → K' v h') : C_slices_Sorted_int args h K' := AC.mono a hk
@[congr] theorem C_slices_Sorted_int_cg {l l' : List Value} {h h' : Hp} {K : Kont} (el : l = l') (eh : h = h') : C_slices_Sorted_int l h K = C_slices_Sorted_int l' h' K := by subst el; subst eh; rfl
def C_catenaryref07_Is (args : List Value) (h : Hp) (K : Kont) : Prop := AC Try.prog 72 args.toArray h K
theorem ent_catenaryref07_Is : canEnter Try.prog 72 = true := by kernel_rfl
theorem C_catenaryref07_Is.mono {args : List Value} {h : Hp} {K K' : Kont} (a : C_catenaryref07_Is args h K) (hk : ∀ v h', K v h' → K' v h') : C_catenaryref07_Is args h K' := AC.mono a hk
@[congr] theorem C_catenaryref07_Is_cg {l l' : List Value} {h h' : Hp} {K : Kont} (el : l = l') (eh : h = h') : C_catenaryref07_Is l h K = C_catenaryref07_Is l' h' K := by subst el; subst eh; rfl
def C_catenaryref08_Check (args : List Value) (h : Hp) (K : Kont) : Prop := AC Try.prog 73 args.toArray h K
theorem ent_catenaryref08_Check : canEnter Try.prog 73 = true := by kernel_rfl
theorem C_catenaryref08_Check.mono {args : List Value} {h : Hp} {K K' : Kont} (a : C_catenaryref08_Check args h K) (hk : ∀ v h', K v h' → K' v h') : C_catenaryref08_Check args h K' := AC.mono a hk
@[congr] theorem C_catenaryref08_Check_cg {l l' : List Value} {h h' : Hp} {K : Kont} (el : l = l') (eh : h = h') : C_catenaryref08_Check l h K = C_catenaryref08_Check l' h' K := by subst el; subst eh; rfl
def C_ballot_master (args : List Value) (h : Hp) (K : Kont) : Prop := AC Try.prog 74 args.toArray h K
theorem ent_ballot_master : canEnter Try.prog 74 = true := by kernel_rfl
theorem C_ballot_master.mono {args : List Value} {h : Hp} {K K' : Kont} (a : C_ballot_master args h K) (hk : ∀ v h', K v h' → K' v h') : C_ballot_master args h K' := AC.mono a hk
@[congr] theorem C_ballot_master_cg {l l' : List Value} {h h' : Hp} {K : Kont} (el : l = l') (eh : h = h') : C_ballot_master l h K = C_ballot_master l' h' K := by subst el; subst eh; rfl
def C_catenaryref07_Of (args : List Value) (h : Hp) (K : Kont) : Prop := AC Try.prog 93 args.toArray h K
theorem ent_catenaryref07_Of : canEnter Try.prog 93 = true := by kernel_rfl
theorem C_catenaryref07_Of.mono {args : List Value} {h : Hp} {K K' : Kont} (a : C_catenaryref07_Of args h K) (hk : ∀ v h', K v h' → K' v h') : C_catenaryref07_Of args h K' := AC.mono a hk
@[congr] theorem C_catenaryref07_Of_cg {l l' : List Value} {h h' : Hp} {K : Kont} (el : l = l') (eh : h = h') : C_catenaryref07_Of l h K = C_catenaryref07_Of l' h' K := by subst el; subst eh; rfl
def C_catenaryref07_Master (args : List Value) (h : Hp) (K : Kont) : Prop := AC Try.prog 97 args.toArray h K
theorem ent_catenaryref07_Master : canEnter Try.prog 97 = true := by kernel_rfl
theorem C_catenaryref07_Master.mono {args : List Value} {h : Hp} {K K' : Kont} (a : C_catenaryref07_Master args h K) (hk : ∀ v h', K v h' → K' v h') : C_catenaryref07_Master args h K' := AC.mono a hk
@[congr] theorem C_catenaryref07_Master_cg {l l' : List Value} {h h' : Hp} {K : Kont} (el : l = l') (eh : h = h') : C_catenaryref07_Master l h K = C_catenaryref07_Master l' h' K := by subst el; subst eh; rfl

end Go.Proofs.Ytdolepapmpcpiaa
