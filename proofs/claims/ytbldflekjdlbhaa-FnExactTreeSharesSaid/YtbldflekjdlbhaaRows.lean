/-
  No cell of these rows narrows 'for every input' (looked for: loops, veiled, ifaces, maps, wideKeys, modest, calm, conditions, laid).
  DERIVED. THE GIVEN ROWS OF THIS SEAT. 12 by the template 'for every input the law returns true; each argument reads behind the call as it read before'; 0 by the template 'total and deterministic' (their statements: YtbldflekjdlbhaaTotals.lean).
  GIVEN WITH THE SEED: the statements are not yours to turn. If you find one false, say at which input.
  Laid BY PROGRAM, IN A SANDBOX (cutbox-rows.mjs): the forced cells as the released guide's own fill.sh prints them over the translation 3f162a6df0f6a26f… (all of the seat's roots in one cut). By AI agents, Wed Nov 11 2026. No macro, syntax, notation, axiom, sorry.
-/
import Derived.Test.YtbldflekjdlbhaaChecked
import GoSem.Claim
import GoSem.ClaimJoined
import GoSem.ClaimMapViews
import Derived.JoinedTies
import Derived.KernelRfl
namespace Go.Proofs.Ytbldflekjdlbhaa
/- THE CELL 'sum', in the pinned program and in every row, IS THE sha256 OF THE DUMP (.gsa) THAT YtbldflekjdlbhaaProg.lean LOADS. Nothing in Lean hashes anything: it is a label: what it is worth is what the hold of that sum in a sandbox is worth. -/
noncomputable def Try.pinned : Pinned := { name := "ytbldflekjdlbhaa", sum := "3f162a6df0f6a26f6f896cca386fc2bd39c1ea6066f9286c5b203908a5fb8ed1", checked := Try.checked }
namespace Rows
def none {H : Type} : Left H := { results := [], args := [] }

/-- 'laws.FnExactFromDividends': WHATEVER THE INPUT: true; the input reads as it did. -/
def fnExactFromDividendsSpec : ChangeSpec := { name := "fnExactFromDividends", fn := fun _ => fun
  | [d1, d2] => { results := [.lit (.bool true)], args := [d1, d2] }
  | _ => none }
def fnExactFromDividendsRow : OpenClaim := { program := "ytbldflekjdlbhaa", sum := "3f162a6df0f6a26f6f896cca386fc2bd39c1ea6066f9286c5b203908a5fb8ed1", func := "loop.example/g01365/laws.FnExactFromDividends", spec := "fnExactFromDividends", unfollowed := true, recurses := true, apart := false }
def FnExactFromDividendsSaid : Prop := fnExactFromDividendsRow.holds Try.pinned (OpenSpec.ofChange fnExactFromDividendsSpec)

/-- ITS FALSE NEIGHBOUR: 'it returns false'. Refute it at one input. -/
def fnExactFromDividendsWrong : ChangeSpec := { name := "fnExactFromDividends", fn := fun _ => fun
  | [d1, d2] => { results := [.lit (.bool false)], args := [d1, d2] }
  | _ => none }
def FnExactFromDividendsWrongFalsely : Prop := fnExactFromDividendsRow.holds Try.pinned (OpenSpec.ofChange fnExactFromDividendsWrong)

/-- 'laws.FnDividends': WHATEVER THE INPUT: true; the input reads as it did. -/
def fnDividendsSpec : ChangeSpec := { name := "fnDividends", fn := fun _ => fun
  | [d1, d2] => { results := [.lit (.bool true)], args := [d1, d2] }
  | _ => none }
def fnDividendsRow : OpenClaim := { program := "ytbldflekjdlbhaa", sum := "3f162a6df0f6a26f6f896cca386fc2bd39c1ea6066f9286c5b203908a5fb8ed1", func := "loop.example/g01365/laws.FnDividends", spec := "fnDividends", unfollowed := true, recurses := true, apart := false }
def FnDividendsSaid : Prop := fnDividendsRow.holds Try.pinned (OpenSpec.ofChange fnDividendsSpec)

/-- ITS FALSE NEIGHBOUR: 'it returns false'. Refute it at one input. -/
def fnDividendsWrong : ChangeSpec := { name := "fnDividends", fn := fun _ => fun
  | [d1, d2] => { results := [.lit (.bool false)], args := [d1, d2] }
  | _ => none }
def FnDividendsWrongFalsely : Prop := fnDividendsRow.holds Try.pinned (OpenSpec.ofChange fnDividendsWrong)

/-- 'laws.FnExactWorstComplaint': WHATEVER THE INPUT: true; the input reads as it did. -/
def fnExactWorstComplaintSpec : ChangeSpec := { name := "fnExactWorstComplaint", fn := fun _ => fun
  | [d1, d2, d3] => { results := [.lit (.bool true)], args := [d1, d2, d3] }
  | _ => none }
def fnExactWorstComplaintRow : OpenClaim := { program := "ytbldflekjdlbhaa", sum := "3f162a6df0f6a26f6f896cca386fc2bd39c1ea6066f9286c5b203908a5fb8ed1", func := "loop.example/g01365/laws.FnExactWorstComplaint", spec := "fnExactWorstComplaint", unfollowed := true, recurses := true, apart := false }
def FnExactWorstComplaintSaid : Prop := fnExactWorstComplaintRow.holds Try.pinned (OpenSpec.ofChange fnExactWorstComplaintSpec)

/-- ITS FALSE NEIGHBOUR: 'it returns false'. Refute it at one input. -/
def fnExactWorstComplaintWrong : ChangeSpec := { name := "fnExactWorstComplaint", fn := fun _ => fun
  | [d1, d2, d3] => { results := [.lit (.bool false)], args := [d1, d2, d3] }
  | _ => none }
def FnExactWorstComplaintWrongFalsely : Prop := fnExactWorstComplaintRow.holds Try.pinned (OpenSpec.ofChange fnExactWorstComplaintWrong)

/-- 'laws.FnExactInCore': WHATEVER THE INPUT: true; the input reads as it did. -/
def fnExactInCoreSpec : ChangeSpec := { name := "fnExactInCore", fn := fun _ => fun
  | [d1, d2, d3] => { results := [.lit (.bool true)], args := [d1, d2, d3] }
  | _ => none }
def fnExactInCoreRow : OpenClaim := { program := "ytbldflekjdlbhaa", sum := "3f162a6df0f6a26f6f896cca386fc2bd39c1ea6066f9286c5b203908a5fb8ed1", func := "loop.example/g01365/laws.FnExactInCore", spec := "fnExactInCore", unfollowed := true, recurses := true, apart := false }
def FnExactInCoreSaid : Prop := fnExactInCoreRow.holds Try.pinned (OpenSpec.ofChange fnExactInCoreSpec)

/-- ITS FALSE NEIGHBOUR: 'it returns false'. Refute it at one input. -/
def fnExactInCoreWrong : ChangeSpec := { name := "fnExactInCore", fn := fun _ => fun
  | [d1, d2, d3] => { results := [.lit (.bool false)], args := [d1, d2, d3] }
  | _ => none }
def FnExactInCoreWrongFalsely : Prop := fnExactInCoreRow.holds Try.pinned (OpenSpec.ofChange fnExactInCoreWrong)

/-- 'laws.FnExactCorePlans': WHATEVER THE INPUT: true; the input reads as it did. -/
def fnExactCorePlansSpec : ChangeSpec := { name := "fnExactCorePlans", fn := fun _ => fun
  | [d1, d2] => { results := [.lit (.bool true)], args := [d1, d2] }
  | _ => none }
def fnExactCorePlansRow : OpenClaim := { program := "ytbldflekjdlbhaa", sum := "3f162a6df0f6a26f6f896cca386fc2bd39c1ea6066f9286c5b203908a5fb8ed1", func := "loop.example/g01365/laws.FnExactCorePlans", spec := "fnExactCorePlans", unfollowed := true, recurses := true, apart := false }
def FnExactCorePlansSaid : Prop := fnExactCorePlansRow.holds Try.pinned (OpenSpec.ofChange fnExactCorePlansSpec)

/-- ITS FALSE NEIGHBOUR: 'it returns false'. Refute it at one input. -/
def fnExactCorePlansWrong : ChangeSpec := { name := "fnExactCorePlans", fn := fun _ => fun
  | [d1, d2] => { results := [.lit (.bool false)], args := [d1, d2] }
  | _ => none }
def FnExactCorePlansWrongFalsely : Prop := fnExactCorePlansRow.holds Try.pinned (OpenSpec.ofChange fnExactCorePlansWrong)

/-- 'laws.FnExactKernelStep': WHATEVER THE INPUT: true; the input reads as it did. -/
def fnExactKernelStepSpec : ChangeSpec := { name := "fnExactKernelStep", fn := fun _ => fun
  | [d1, d2] => { results := [.lit (.bool true)], args := [d1, d2] }
  | _ => none }
def fnExactKernelStepRow : OpenClaim := { program := "ytbldflekjdlbhaa", sum := "3f162a6df0f6a26f6f896cca386fc2bd39c1ea6066f9286c5b203908a5fb8ed1", func := "loop.example/g01365/laws.FnExactKernelStep", spec := "fnExactKernelStep", unfollowed := true, recurses := true, apart := false }
def FnExactKernelStepSaid : Prop := fnExactKernelStepRow.holds Try.pinned (OpenSpec.ofChange fnExactKernelStepSpec)

/-- ITS FALSE NEIGHBOUR: 'it returns false'. Refute it at one input. -/
def fnExactKernelStepWrong : ChangeSpec := { name := "fnExactKernelStep", fn := fun _ => fun
  | [d1, d2] => { results := [.lit (.bool false)], args := [d1, d2] }
  | _ => none }
def FnExactKernelStepWrongFalsely : Prop := fnExactKernelStepRow.holds Try.pinned (OpenSpec.ofChange fnExactKernelStepWrong)

/-- 'laws.FnExactVoteWorths': WHATEVER THE INPUT: true; the input reads as it did. -/
def fnExactVoteWorthsSpec : ChangeSpec := { name := "fnExactVoteWorths", fn := fun _ => fun
  | [d1, d2] => { results := [.lit (.bool true)], args := [d1, d2] }
  | _ => none }
def fnExactVoteWorthsRow : OpenClaim := { program := "ytbldflekjdlbhaa", sum := "3f162a6df0f6a26f6f896cca386fc2bd39c1ea6066f9286c5b203908a5fb8ed1", func := "loop.example/g01365/laws.FnExactVoteWorths", spec := "fnExactVoteWorths", unfollowed := true, recurses := true, apart := false }
def FnExactVoteWorthsSaid : Prop := fnExactVoteWorthsRow.holds Try.pinned (OpenSpec.ofChange fnExactVoteWorthsSpec)

/-- ITS FALSE NEIGHBOUR: 'it returns false'. Refute it at one input. -/
def fnExactVoteWorthsWrong : ChangeSpec := { name := "fnExactVoteWorths", fn := fun _ => fun
  | [d1, d2] => { results := [.lit (.bool false)], args := [d1, d2] }
  | _ => none }
def FnExactVoteWorthsWrongFalsely : Prop := fnExactVoteWorthsRow.holds Try.pinned (OpenSpec.ofChange fnExactVoteWorthsWrong)

/-- 'laws.FnExactVetoOf': WHATEVER THE INPUT: true; the input reads as it did. -/
def fnExactVetoOfSpec : ChangeSpec := { name := "fnExactVetoOf", fn := fun _ => fun
  | [d] => { results := [.lit (.bool true)], args := [d] }
  | _ => none }
def fnExactVetoOfRow : OpenClaim := { program := "ytbldflekjdlbhaa", sum := "3f162a6df0f6a26f6f896cca386fc2bd39c1ea6066f9286c5b203908a5fb8ed1", func := "loop.example/g01365/laws.FnExactVetoOf", spec := "fnExactVetoOf", apart := false }
def FnExactVetoOfSaid : Prop := fnExactVetoOfRow.holds Try.pinned (OpenSpec.ofChange fnExactVetoOfSpec)

/-- ITS FALSE NEIGHBOUR: 'it returns false'. Refute it at one input. -/
def fnExactVetoOfWrong : ChangeSpec := { name := "fnExactVetoOf", fn := fun _ => fun
  | [d] => { results := [.lit (.bool false)], args := [d] }
  | _ => none }
def FnExactVetoOfWrongFalsely : Prop := fnExactVetoOfRow.holds Try.pinned (OpenSpec.ofChange fnExactVetoOfWrong)

/-- 'laws.FnExactLeastWinners': WHATEVER THE INPUT: true; the input reads as it did. -/
def fnExactLeastWinnersSpec : ChangeSpec := { name := "fnExactLeastWinners", fn := fun _ => fun
  | [d] => { results := [.lit (.bool true)], args := [d] }
  | _ => none }
def fnExactLeastWinnersRow : OpenClaim := { program := "ytbldflekjdlbhaa", sum := "3f162a6df0f6a26f6f896cca386fc2bd39c1ea6066f9286c5b203908a5fb8ed1", func := "loop.example/g01365/laws.FnExactLeastWinners", spec := "fnExactLeastWinners", unfollowed := true, recurses := true, apart := false }
def FnExactLeastWinnersSaid : Prop := fnExactLeastWinnersRow.holds Try.pinned (OpenSpec.ofChange fnExactLeastWinnersSpec)

/-- ITS FALSE NEIGHBOUR: 'it returns false'. Refute it at one input. -/
def fnExactLeastWinnersWrong : ChangeSpec := { name := "fnExactLeastWinners", fn := fun _ => fun
  | [d] => { results := [.lit (.bool false)], args := [d] }
  | _ => none }
def FnExactLeastWinnersWrongFalsely : Prop := fnExactLeastWinnersRow.holds Try.pinned (OpenSpec.ofChange fnExactLeastWinnersWrong)

/-- 'laws.FnExactRunwayWorths': WHATEVER THE INPUT: true; the input reads as it did. -/
def fnExactRunwayWorthsSpec : ChangeSpec := { name := "fnExactRunwayWorths", fn := fun _ => fun
  | [d] => { results := [.lit (.bool true)], args := [d] }
  | _ => none }
def fnExactRunwayWorthsRow : OpenClaim := { program := "ytbldflekjdlbhaa", sum := "3f162a6df0f6a26f6f896cca386fc2bd39c1ea6066f9286c5b203908a5fb8ed1", func := "loop.example/g01365/laws.FnExactRunwayWorths", spec := "fnExactRunwayWorths", unfollowed := true, recurses := true, apart := false }
def FnExactRunwayWorthsSaid : Prop := fnExactRunwayWorthsRow.holds Try.pinned (OpenSpec.ofChange fnExactRunwayWorthsSpec)

/-- ITS FALSE NEIGHBOUR: 'it returns false'. Refute it at one input. -/
def fnExactRunwayWorthsWrong : ChangeSpec := { name := "fnExactRunwayWorths", fn := fun _ => fun
  | [d] => { results := [.lit (.bool false)], args := [d] }
  | _ => none }
def FnExactRunwayWorthsWrongFalsely : Prop := fnExactRunwayWorthsRow.holds Try.pinned (OpenSpec.ofChange fnExactRunwayWorthsWrong)

/-- 'laws.FnExactTreeShares': WHATEVER THE INPUT: true; the input reads as it did. -/
def fnExactTreeSharesSpec : ChangeSpec := { name := "fnExactTreeShares", fn := fun _ => fun
  | [d1, d2] => { results := [.lit (.bool true)], args := [d1, d2] }
  | _ => none }
def fnExactTreeSharesRow : OpenClaim := { program := "ytbldflekjdlbhaa", sum := "3f162a6df0f6a26f6f896cca386fc2bd39c1ea6066f9286c5b203908a5fb8ed1", func := "loop.example/g01365/laws.FnExactTreeShares", spec := "fnExactTreeShares", apart := false }
def FnExactTreeSharesSaid : Prop := fnExactTreeSharesRow.holds Try.pinned (OpenSpec.ofChange fnExactTreeSharesSpec)

/-- ITS FALSE NEIGHBOUR: 'it returns false'. Refute it at one input. -/
def fnExactTreeSharesWrong : ChangeSpec := { name := "fnExactTreeShares", fn := fun _ => fun
  | [d1, d2] => { results := [.lit (.bool false)], args := [d1, d2] }
  | _ => none }
def FnExactTreeSharesWrongFalsely : Prop := fnExactTreeSharesRow.holds Try.pinned (OpenSpec.ofChange fnExactTreeSharesWrong)

/-- 'laws.FnExactTreeWorths': WHATEVER THE INPUT: true; the input reads as it did. -/
def fnExactTreeWorthsSpec : ChangeSpec := { name := "fnExactTreeWorths", fn := fun _ => fun
  | [d1, d2] => { results := [.lit (.bool true)], args := [d1, d2] }
  | _ => none }
def fnExactTreeWorthsRow : OpenClaim := { program := "ytbldflekjdlbhaa", sum := "3f162a6df0f6a26f6f896cca386fc2bd39c1ea6066f9286c5b203908a5fb8ed1", func := "loop.example/g01365/laws.FnExactTreeWorths", spec := "fnExactTreeWorths", unfollowed := true, recurses := true, apart := false }
def FnExactTreeWorthsSaid : Prop := fnExactTreeWorthsRow.holds Try.pinned (OpenSpec.ofChange fnExactTreeWorthsSpec)

/-- ITS FALSE NEIGHBOUR: 'it returns false'. Refute it at one input. -/
def fnExactTreeWorthsWrong : ChangeSpec := { name := "fnExactTreeWorths", fn := fun _ => fun
  | [d1, d2] => { results := [.lit (.bool false)], args := [d1, d2] }
  | _ => none }
def FnExactTreeWorthsWrongFalsely : Prop := fnExactTreeWorthsRow.holds Try.pinned (OpenSpec.ofChange fnExactTreeWorthsWrong)

/- THE SECOND FORM. 'bulk': how many values and letters a reading holds, each counted each time it is reached (what is shared counts as often as it is met; a slice's spare places count too). A statement '..UptoSaid' is the law's where the arguments, and the package variables that the reading takes, are together of bulk at most 1048576: NARROWER than '..Said'. Prove '..Said' where nothing that the law and all that it calls make is longer than what came in: it says more and counts as full. Else prove '..UptoSaid'. A law counts once. -/
mutual
def uptoBulk {H : Type} : DataW H → Nat
  | .lit (.string bytes) => bytes.length + 1
  | .lit _ => 1
  | .nil => 1
  | .ptr d => uptoBulk d + 1
  | .slice elems spare => uptoBulkAll elems + uptoBulkAll spare + 1
  | .agg parts => uptoBulkAll parts + 1
  | .iface _ d => uptoBulk d + 1
  | .map entries => uptoBulkEntries entries + 1
  | .held _ => 1
def uptoBulkAll {H : Type} : List (DataW H) → Nat
  | [] => 0
  | d :: r => uptoBulk d + uptoBulkAll r
def uptoBulkEntries {H : Type} : List (Lit × DataW H) → Nat
  | [] => 0
  | x :: r => uptoBulkEntry x + uptoBulkEntries r
def uptoBulkEntry {H : Type} : Lit × DataW H → Nat
  | (.string bytes, d) => bytes.length + uptoBulk d + 1
  | (_, d) => uptoBulk d + 1
 end
def uptoSmall : (H : Type) → List (DataW H) → Bool := fun _ ds => decide (uptoBulkAll ds ≤ 1048576)
def OpenSpec.upto (s : _root_.Go.ChangeSpec) : _root_.Go.OpenSpec := { _root_.Go.OpenSpec.ofChange s with cond := some uptoSmall }

/-- 'laws.FnExactFromDividends', WHERE WHAT IT READS IS OF BULK AT MOST 1048576: true; the input reads as it did. -/
def fnExactFromDividendsUptoRow : OpenClaim := { program := "ytbldflekjdlbhaa", sum := "3f162a6df0f6a26f6f896cca386fc2bd39c1ea6066f9286c5b203908a5fb8ed1", func := "loop.example/g01365/laws.FnExactFromDividends", spec := "fnExactFromDividends", unfollowed := true, recurses := true, apart := false, narrowed := true }
def FnExactFromDividendsUptoSaid : Prop := fnExactFromDividendsUptoRow.holds Try.pinned (OpenSpec.upto fnExactFromDividendsSpec)

/-- 'laws.FnDividends', WHERE WHAT IT READS IS OF BULK AT MOST 1048576: true; the input reads as it did. -/
def fnDividendsUptoRow : OpenClaim := { program := "ytbldflekjdlbhaa", sum := "3f162a6df0f6a26f6f896cca386fc2bd39c1ea6066f9286c5b203908a5fb8ed1", func := "loop.example/g01365/laws.FnDividends", spec := "fnDividends", unfollowed := true, recurses := true, apart := false, narrowed := true }
def FnDividendsUptoSaid : Prop := fnDividendsUptoRow.holds Try.pinned (OpenSpec.upto fnDividendsSpec)

/-- 'laws.FnExactWorstComplaint', WHERE WHAT IT READS IS OF BULK AT MOST 1048576: true; the input reads as it did. -/
def fnExactWorstComplaintUptoRow : OpenClaim := { program := "ytbldflekjdlbhaa", sum := "3f162a6df0f6a26f6f896cca386fc2bd39c1ea6066f9286c5b203908a5fb8ed1", func := "loop.example/g01365/laws.FnExactWorstComplaint", spec := "fnExactWorstComplaint", unfollowed := true, recurses := true, apart := false, narrowed := true }
def FnExactWorstComplaintUptoSaid : Prop := fnExactWorstComplaintUptoRow.holds Try.pinned (OpenSpec.upto fnExactWorstComplaintSpec)

/-- 'laws.FnExactInCore', WHERE WHAT IT READS IS OF BULK AT MOST 1048576: true; the input reads as it did. -/
def fnExactInCoreUptoRow : OpenClaim := { program := "ytbldflekjdlbhaa", sum := "3f162a6df0f6a26f6f896cca386fc2bd39c1ea6066f9286c5b203908a5fb8ed1", func := "loop.example/g01365/laws.FnExactInCore", spec := "fnExactInCore", unfollowed := true, recurses := true, apart := false, narrowed := true }
def FnExactInCoreUptoSaid : Prop := fnExactInCoreUptoRow.holds Try.pinned (OpenSpec.upto fnExactInCoreSpec)

/-- 'laws.FnExactCorePlans', WHERE WHAT IT READS IS OF BULK AT MOST 1048576: true; the input reads as it did. -/
def fnExactCorePlansUptoRow : OpenClaim := { program := "ytbldflekjdlbhaa", sum := "3f162a6df0f6a26f6f896cca386fc2bd39c1ea6066f9286c5b203908a5fb8ed1", func := "loop.example/g01365/laws.FnExactCorePlans", spec := "fnExactCorePlans", unfollowed := true, recurses := true, apart := false, narrowed := true }
def FnExactCorePlansUptoSaid : Prop := fnExactCorePlansUptoRow.holds Try.pinned (OpenSpec.upto fnExactCorePlansSpec)

/-- 'laws.FnExactKernelStep', WHERE WHAT IT READS IS OF BULK AT MOST 1048576: true; the input reads as it did. -/
def fnExactKernelStepUptoRow : OpenClaim := { program := "ytbldflekjdlbhaa", sum := "3f162a6df0f6a26f6f896cca386fc2bd39c1ea6066f9286c5b203908a5fb8ed1", func := "loop.example/g01365/laws.FnExactKernelStep", spec := "fnExactKernelStep", unfollowed := true, recurses := true, apart := false, narrowed := true }
def FnExactKernelStepUptoSaid : Prop := fnExactKernelStepUptoRow.holds Try.pinned (OpenSpec.upto fnExactKernelStepSpec)

/-- 'laws.FnExactVoteWorths', WHERE WHAT IT READS IS OF BULK AT MOST 1048576: true; the input reads as it did. -/
def fnExactVoteWorthsUptoRow : OpenClaim := { program := "ytbldflekjdlbhaa", sum := "3f162a6df0f6a26f6f896cca386fc2bd39c1ea6066f9286c5b203908a5fb8ed1", func := "loop.example/g01365/laws.FnExactVoteWorths", spec := "fnExactVoteWorths", unfollowed := true, recurses := true, apart := false, narrowed := true }
def FnExactVoteWorthsUptoSaid : Prop := fnExactVoteWorthsUptoRow.holds Try.pinned (OpenSpec.upto fnExactVoteWorthsSpec)

/-- 'laws.FnExactVetoOf', WHERE WHAT IT READS IS OF BULK AT MOST 1048576: true; the input reads as it did. -/
def fnExactVetoOfUptoRow : OpenClaim := { program := "ytbldflekjdlbhaa", sum := "3f162a6df0f6a26f6f896cca386fc2bd39c1ea6066f9286c5b203908a5fb8ed1", func := "loop.example/g01365/laws.FnExactVetoOf", spec := "fnExactVetoOf", apart := false, narrowed := true }
def FnExactVetoOfUptoSaid : Prop := fnExactVetoOfUptoRow.holds Try.pinned (OpenSpec.upto fnExactVetoOfSpec)

/-- 'laws.FnExactLeastWinners', WHERE WHAT IT READS IS OF BULK AT MOST 1048576: true; the input reads as it did. -/
def fnExactLeastWinnersUptoRow : OpenClaim := { program := "ytbldflekjdlbhaa", sum := "3f162a6df0f6a26f6f896cca386fc2bd39c1ea6066f9286c5b203908a5fb8ed1", func := "loop.example/g01365/laws.FnExactLeastWinners", spec := "fnExactLeastWinners", unfollowed := true, recurses := true, apart := false, narrowed := true }
def FnExactLeastWinnersUptoSaid : Prop := fnExactLeastWinnersUptoRow.holds Try.pinned (OpenSpec.upto fnExactLeastWinnersSpec)

/-- 'laws.FnExactRunwayWorths', WHERE WHAT IT READS IS OF BULK AT MOST 1048576: true; the input reads as it did. -/
def fnExactRunwayWorthsUptoRow : OpenClaim := { program := "ytbldflekjdlbhaa", sum := "3f162a6df0f6a26f6f896cca386fc2bd39c1ea6066f9286c5b203908a5fb8ed1", func := "loop.example/g01365/laws.FnExactRunwayWorths", spec := "fnExactRunwayWorths", unfollowed := true, recurses := true, apart := false, narrowed := true }
def FnExactRunwayWorthsUptoSaid : Prop := fnExactRunwayWorthsUptoRow.holds Try.pinned (OpenSpec.upto fnExactRunwayWorthsSpec)

/-- 'laws.FnExactTreeShares', WHERE WHAT IT READS IS OF BULK AT MOST 1048576: true; the input reads as it did. -/
def fnExactTreeSharesUptoRow : OpenClaim := { program := "ytbldflekjdlbhaa", sum := "3f162a6df0f6a26f6f896cca386fc2bd39c1ea6066f9286c5b203908a5fb8ed1", func := "loop.example/g01365/laws.FnExactTreeShares", spec := "fnExactTreeShares", apart := false, narrowed := true }
def FnExactTreeSharesUptoSaid : Prop := fnExactTreeSharesUptoRow.holds Try.pinned (OpenSpec.upto fnExactTreeSharesSpec)

/-- 'laws.FnExactTreeWorths', WHERE WHAT IT READS IS OF BULK AT MOST 1048576: true; the input reads as it did. -/
def fnExactTreeWorthsUptoRow : OpenClaim := { program := "ytbldflekjdlbhaa", sum := "3f162a6df0f6a26f6f896cca386fc2bd39c1ea6066f9286c5b203908a5fb8ed1", func := "loop.example/g01365/laws.FnExactTreeWorths", spec := "fnExactTreeWorths", unfollowed := true, recurses := true, apart := false, narrowed := true }
def FnExactTreeWorthsUptoSaid : Prop := fnExactTreeWorthsUptoRow.holds Try.pinned (OpenSpec.upto fnExactTreeWorthsSpec)

end Rows
end Go.Proofs.Ytbldflekjdlbhaa
