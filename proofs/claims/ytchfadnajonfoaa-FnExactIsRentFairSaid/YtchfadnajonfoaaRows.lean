/-
  No cell of these rows narrows 'for every input' (looked for: loops, veiled, ifaces, maps, wideKeys, modest, calm, conditions, laid).
  DERIVED. THE GIVEN ROWS OF THIS SEAT. 12 by the template 'for every input the law returns true; each argument reads behind the call as it read before'; 0 by the template 'total and deterministic' (their statements: YtchfadnajonfoaaTotals.lean).
  GIVEN WITH THE SEED: the statements are not yours to turn. If you find one false, say at which input.
  Laid BY PROGRAM, IN A SANDBOX (cutbox-rows.mjs): the forced cells as the released guide's own fill.sh prints them over the translation b76938c1abbbdab7… (all of the seat's roots in one cut). By AI agents, Wed Nov 11 2026. No macro, syntax, notation, axiom, sorry.
-/
import Derived.Test.YtchfadnajonfoaaChecked
import GoSem.Claim
import GoSem.ClaimJoined
import GoSem.ClaimMapViews
import Derived.JoinedTies
import Derived.KernelRfl
namespace Go.Proofs.Ytchfadnajonfoaa
/- THE CELL 'sum', in the pinned program and in every row, IS THE sha256 OF THE DUMP (.gsa) THAT YtchfadnajonfoaaProg.lean LOADS. Nothing in Lean hashes anything: it is a label: what it is worth is what the hold of that sum in a sandbox is worth. -/
noncomputable def Try.pinned : Pinned := { name := "ytchfadnajonfoaa", sum := "b76938c1abbbdab7e268614bea803ba981fe92177decadd6067e257e991aed7a", checked := Try.checked }
namespace Rows
def none {H : Type} : Left H := { results := [], args := [] }

/-- 'laws.FnExactSameValues': WHATEVER THE INPUT: true; the input reads as it did. -/
def fnExactSameValuesSpec : ChangeSpec := { name := "fnExactSameValues", fn := fun _ => fun
  | [d1, d2] => { results := [.lit (.bool true)], args := [d1, d2] }
  | _ => none }
def fnExactSameValuesRow : OpenClaim := { program := "ytchfadnajonfoaa", sum := "b76938c1abbbdab7e268614bea803ba981fe92177decadd6067e257e991aed7a", func := "loop.example/g01365/laws.FnExactSameValues", spec := "fnExactSameValues", apart := false }
def FnExactSameValuesSaid : Prop := fnExactSameValuesRow.holds Try.pinned (OpenSpec.ofChange fnExactSameValuesSpec)

/-- ITS FALSE NEIGHBOUR: 'it returns false'. Refute it at one input. -/
def fnExactSameValuesWrong : ChangeSpec := { name := "fnExactSameValues", fn := fun _ => fun
  | [d1, d2] => { results := [.lit (.bool false)], args := [d1, d2] }
  | _ => none }
def FnExactSameValuesWrongFalsely : Prop := fnExactSameValuesRow.holds Try.pinned (OpenSpec.ofChange fnExactSameValuesWrong)

/-- 'laws.FnExactValidValues': WHATEVER THE INPUT: true; the input reads as it did. -/
def fnExactValidValuesSpec : ChangeSpec := { name := "fnExactValidValues", fn := fun _ => fun
  | [d] => { results := [.lit (.bool true)], args := [d] }
  | _ => none }
def fnExactValidValuesRow : OpenClaim := { program := "ytchfadnajonfoaa", sum := "b76938c1abbbdab7e268614bea803ba981fe92177decadd6067e257e991aed7a", func := "loop.example/g01365/laws.FnExactValidValues", spec := "fnExactValidValues", apart := false }
def FnExactValidValuesSaid : Prop := fnExactValidValuesRow.holds Try.pinned (OpenSpec.ofChange fnExactValidValuesSpec)

/-- ITS FALSE NEIGHBOUR: 'it returns false'. Refute it at one input. -/
def fnExactValidValuesWrong : ChangeSpec := { name := "fnExactValidValues", fn := fun _ => fun
  | [d] => { results := [.lit (.bool false)], args := [d] }
  | _ => none }
def FnExactValidValuesWrongFalsely : Prop := fnExactValidValuesRow.holds Try.pinned (OpenSpec.ofChange fnExactValidValuesWrong)

/-- 'laws.FnExactOwnWorths': WHATEVER THE INPUT: true; the input reads as it did. -/
def fnExactOwnWorthsSpec : ChangeSpec := { name := "fnExactOwnWorths", fn := fun _ => fun
  | [d1, d2] => { results := [.lit (.bool true)], args := [d1, d2] }
  | _ => none }
def fnExactOwnWorthsRow : OpenClaim := { program := "ytchfadnajonfoaa", sum := "b76938c1abbbdab7e268614bea803ba981fe92177decadd6067e257e991aed7a", func := "loop.example/g01365/laws.FnExactOwnWorths", spec := "fnExactOwnWorths", apart := false }
def FnExactOwnWorthsSaid : Prop := fnExactOwnWorthsRow.holds Try.pinned (OpenSpec.ofChange fnExactOwnWorthsSpec)

/-- ITS FALSE NEIGHBOUR: 'it returns false'. Refute it at one input. -/
def fnExactOwnWorthsWrong : ChangeSpec := { name := "fnExactOwnWorths", fn := fun _ => fun
  | [d1, d2] => { results := [.lit (.bool false)], args := [d1, d2] }
  | _ => none }
def FnExactOwnWorthsWrongFalsely : Prop := fnExactOwnWorthsRow.holds Try.pinned (OpenSpec.ofChange fnExactOwnWorthsWrong)

/-- 'laws.FnExactEnvyTable': WHATEVER THE INPUT: true; the input reads as it did. -/
def fnExactEnvyTableSpec : ChangeSpec := { name := "fnExactEnvyTable", fn := fun _ => fun
  | [d1, d2] => { results := [.lit (.bool true)], args := [d1, d2] }
  | _ => none }
def fnExactEnvyTableRow : OpenClaim := { program := "ytchfadnajonfoaa", sum := "b76938c1abbbdab7e268614bea803ba981fe92177decadd6067e257e991aed7a", func := "loop.example/g01365/laws.FnExactEnvyTable", spec := "fnExactEnvyTable", apart := false }
def FnExactEnvyTableSaid : Prop := fnExactEnvyTableRow.holds Try.pinned (OpenSpec.ofChange fnExactEnvyTableSpec)

/-- ITS FALSE NEIGHBOUR: 'it returns false'. Refute it at one input. -/
def fnExactEnvyTableWrong : ChangeSpec := { name := "fnExactEnvyTable", fn := fun _ => fun
  | [d1, d2] => { results := [.lit (.bool false)], args := [d1, d2] }
  | _ => none }
def FnExactEnvyTableWrongFalsely : Prop := fnExactEnvyTableRow.holds Try.pinned (OpenSpec.ofChange fnExactEnvyTableWrong)

/-- 'laws.FnExactIsFreeUpToOne': WHATEVER THE INPUT: true; the input reads as it did. -/
def fnExactIsFreeUpToOneSpec : ChangeSpec := { name := "fnExactIsFreeUpToOne", fn := fun _ => fun
  | [d1, d2] => { results := [.lit (.bool true)], args := [d1, d2] }
  | _ => none }
def fnExactIsFreeUpToOneRow : OpenClaim := { program := "ytchfadnajonfoaa", sum := "b76938c1abbbdab7e268614bea803ba981fe92177decadd6067e257e991aed7a", func := "loop.example/g01365/laws.FnExactIsFreeUpToOne", spec := "fnExactIsFreeUpToOne", apart := false }
def FnExactIsFreeUpToOneSaid : Prop := fnExactIsFreeUpToOneRow.holds Try.pinned (OpenSpec.ofChange fnExactIsFreeUpToOneSpec)

/-- ITS FALSE NEIGHBOUR: 'it returns false'. Refute it at one input. -/
def fnExactIsFreeUpToOneWrong : ChangeSpec := { name := "fnExactIsFreeUpToOne", fn := fun _ => fun
  | [d1, d2] => { results := [.lit (.bool false)], args := [d1, d2] }
  | _ => none }
def FnExactIsFreeUpToOneWrongFalsely : Prop := fnExactIsFreeUpToOneRow.holds Try.pinned (OpenSpec.ofChange fnExactIsFreeUpToOneWrong)

/-- 'laws.FnExactIsEnvyFree': WHATEVER THE INPUT: true; the input reads as it did. -/
def fnExactIsEnvyFreeSpec : ChangeSpec := { name := "fnExactIsEnvyFree", fn := fun _ => fun
  | [d1, d2] => { results := [.lit (.bool true)], args := [d1, d2] }
  | _ => none }
def fnExactIsEnvyFreeRow : OpenClaim := { program := "ytchfadnajonfoaa", sum := "b76938c1abbbdab7e268614bea803ba981fe92177decadd6067e257e991aed7a", func := "loop.example/g01365/laws.FnExactIsEnvyFree", spec := "fnExactIsEnvyFree", apart := false }
def FnExactIsEnvyFreeSaid : Prop := fnExactIsEnvyFreeRow.holds Try.pinned (OpenSpec.ofChange fnExactIsEnvyFreeSpec)

/-- ITS FALSE NEIGHBOUR: 'it returns false'. Refute it at one input. -/
def fnExactIsEnvyFreeWrong : ChangeSpec := { name := "fnExactIsEnvyFree", fn := fun _ => fun
  | [d1, d2] => { results := [.lit (.bool false)], args := [d1, d2] }
  | _ => none }
def FnExactIsEnvyFreeWrongFalsely : Prop := fnExactIsEnvyFreeRow.holds Try.pinned (OpenSpec.ofChange fnExactIsEnvyFreeWrong)

/-- 'laws.FnExactIsEvenShare': WHATEVER THE INPUT: true; the input reads as it did. -/
def fnExactIsEvenShareSpec : ChangeSpec := { name := "fnExactIsEvenShare", fn := fun _ => fun
  | [d1, d2] => { results := [.lit (.bool true)], args := [d1, d2] }
  | _ => none }
def fnExactIsEvenShareRow : OpenClaim := { program := "ytchfadnajonfoaa", sum := "b76938c1abbbdab7e268614bea803ba981fe92177decadd6067e257e991aed7a", func := "loop.example/g01365/laws.FnExactIsEvenShare", spec := "fnExactIsEvenShare", apart := false }
def FnExactIsEvenShareSaid : Prop := fnExactIsEvenShareRow.holds Try.pinned (OpenSpec.ofChange fnExactIsEvenShareSpec)

/-- ITS FALSE NEIGHBOUR: 'it returns false'. Refute it at one input. -/
def fnExactIsEvenShareWrong : ChangeSpec := { name := "fnExactIsEvenShare", fn := fun _ => fun
  | [d1, d2] => { results := [.lit (.bool false)], args := [d1, d2] }
  | _ => none }
def FnExactIsEvenShareWrongFalsely : Prop := fnExactIsEvenShareRow.holds Try.pinned (OpenSpec.ofChange fnExactIsEvenShareWrong)

/-- 'laws.FnExactTakeTurns': WHATEVER THE INPUT: true; the input reads as it did. -/
def fnExactTakeTurnsSpec : ChangeSpec := { name := "fnExactTakeTurns", fn := fun _ => fun
  | [d1, d2] => { results := [.lit (.bool true)], args := [d1, d2] }
  | _ => none }
def fnExactTakeTurnsRow : OpenClaim := { program := "ytchfadnajonfoaa", sum := "b76938c1abbbdab7e268614bea803ba981fe92177decadd6067e257e991aed7a", func := "loop.example/g01365/laws.FnExactTakeTurns", spec := "fnExactTakeTurns", apart := false }
def FnExactTakeTurnsSaid : Prop := fnExactTakeTurnsRow.holds Try.pinned (OpenSpec.ofChange fnExactTakeTurnsSpec)

/-- ITS FALSE NEIGHBOUR: 'it returns false'. Refute it at one input. -/
def fnExactTakeTurnsWrong : ChangeSpec := { name := "fnExactTakeTurns", fn := fun _ => fun
  | [d1, d2] => { results := [.lit (.bool false)], args := [d1, d2] }
  | _ => none }
def FnExactTakeTurnsWrongFalsely : Prop := fnExactTakeTurnsRow.holds Try.pinned (OpenSpec.ofChange fnExactTakeTurnsWrong)

/-- 'laws.FnExactEnvyRounds': WHATEVER THE INPUT: true; the input reads as it did. -/
def fnExactEnvyRoundsSpec : ChangeSpec := { name := "fnExactEnvyRounds", fn := fun _ => fun
  | [d] => { results := [.lit (.bool true)], args := [d] }
  | _ => none }
def fnExactEnvyRoundsRow : OpenClaim := { program := "ytchfadnajonfoaa", sum := "b76938c1abbbdab7e268614bea803ba981fe92177decadd6067e257e991aed7a", func := "loop.example/g01365/laws.FnExactEnvyRounds", spec := "fnExactEnvyRounds", unfollowed := true, recurses := true, apart := false }
def FnExactEnvyRoundsSaid : Prop := fnExactEnvyRoundsRow.holds Try.pinned (OpenSpec.ofChange fnExactEnvyRoundsSpec)

/-- ITS FALSE NEIGHBOUR: 'it returns false'. Refute it at one input. -/
def fnExactEnvyRoundsWrong : ChangeSpec := { name := "fnExactEnvyRounds", fn := fun _ => fun
  | [d] => { results := [.lit (.bool false)], args := [d] }
  | _ => none }
def FnExactEnvyRoundsWrongFalsely : Prop := fnExactEnvyRoundsRow.holds Try.pinned (OpenSpec.ofChange fnExactEnvyRoundsWrong)

/-- 'laws.FnExactIsRentFair': WHATEVER THE INPUT: true; the input reads as it did. -/
def fnExactIsRentFairSpec : ChangeSpec := { name := "fnExactIsRentFair", fn := fun _ => fun
  | [d1, d2, d3] => { results := [.lit (.bool true)], args := [d1, d2, d3] }
  | _ => none }
def fnExactIsRentFairRow : OpenClaim := { program := "ytchfadnajonfoaa", sum := "b76938c1abbbdab7e268614bea803ba981fe92177decadd6067e257e991aed7a", func := "loop.example/g01365/laws.FnExactIsRentFair", spec := "fnExactIsRentFair", apart := false }
def FnExactIsRentFairSaid : Prop := fnExactIsRentFairRow.holds Try.pinned (OpenSpec.ofChange fnExactIsRentFairSpec)

/-- ITS FALSE NEIGHBOUR: 'it returns false'. Refute it at one input. -/
def fnExactIsRentFairWrong : ChangeSpec := { name := "fnExactIsRentFair", fn := fun _ => fun
  | [d1, d2, d3] => { results := [.lit (.bool false)], args := [d1, d2, d3] }
  | _ => none }
def FnExactIsRentFairWrongFalsely : Prop := fnExactIsRentFairRow.holds Try.pinned (OpenSpec.ofChange fnExactIsRentFairWrong)

/-- 'laws.FnExactRentOf': WHATEVER THE INPUT: true; the input reads as it did. -/
def fnExactRentOfSpec : ChangeSpec := { name := "fnExactRentOf", fn := fun _ => fun
  | [d1, d2] => { results := [.lit (.bool true)], args := [d1, d2] }
  | _ => none }
def fnExactRentOfRow : OpenClaim := { program := "ytchfadnajonfoaa", sum := "b76938c1abbbdab7e268614bea803ba981fe92177decadd6067e257e991aed7a", func := "loop.example/g01365/laws.FnExactRentOf", spec := "fnExactRentOf", unfollowed := true, recurses := true, apart := false }
def FnExactRentOfSaid : Prop := fnExactRentOfRow.holds Try.pinned (OpenSpec.ofChange fnExactRentOfSpec)

/-- ITS FALSE NEIGHBOUR: 'it returns false'. Refute it at one input. -/
def fnExactRentOfWrong : ChangeSpec := { name := "fnExactRentOf", fn := fun _ => fun
  | [d1, d2] => { results := [.lit (.bool false)], args := [d1, d2] }
  | _ => none }
def FnExactRentOfWrongFalsely : Prop := fnExactRentOfRow.holds Try.pinned (OpenSpec.ofChange fnExactRentOfWrong)

/-- 'laws.FnRented': WHATEVER THE INPUT: true; the input reads as it did. -/
def fnRentedSpec : ChangeSpec := { name := "fnRented", fn := fun _ => fun
  | [d1, d2] => { results := [.lit (.bool true)], args := [d1, d2] }
  | _ => none }
def fnRentedRow : OpenClaim := { program := "ytchfadnajonfoaa", sum := "b76938c1abbbdab7e268614bea803ba981fe92177decadd6067e257e991aed7a", func := "loop.example/g01365/laws.FnRented", spec := "fnRented", unfollowed := true, recurses := true, apart := false }
def FnRentedSaid : Prop := fnRentedRow.holds Try.pinned (OpenSpec.ofChange fnRentedSpec)

/-- ITS FALSE NEIGHBOUR: 'it returns false'. Refute it at one input. -/
def fnRentedWrong : ChangeSpec := { name := "fnRented", fn := fun _ => fun
  | [d1, d2] => { results := [.lit (.bool false)], args := [d1, d2] }
  | _ => none }
def FnRentedWrongFalsely : Prop := fnRentedRow.holds Try.pinned (OpenSpec.ofChange fnRentedWrong)

/- THE SECOND FORM. 'bulk': how many values and letters a reading holds, each counted each time it is reached (what is shared counts as often as it is met; a slice's spare places count too). A statement '..UptoSaid' is the law's where the arguments, and the package variables that the reading takes, are together of bulk at most 1048576: NARROWER than '..Said'. Prove '..Said' where nothing that the law and all that it calls make is longer than what came in: it says more and counts as full. Else prove '..UptoSaid'. A law counts once. -/
mutual
def uptoBulk {H : Type} : DataW H → Nat
  | .lit (.string bytes) => bytes.length + 1
  | .lit _ => 1
  | .nil => 1
  | .ptr d => uptoBulk d + 1
  | .slice elems spare => uptoBulkAll elems + uptoBulkAll spare + 1
  | .agg parts => uptoBulkAll parts + 1
  | .iface _ d => uptoBulk d + 1
  | .map entries => uptoBulkEntries entries + 1
  | .held _ => 1
def uptoBulkAll {H : Type} : List (DataW H) → Nat
  | [] => 0
  | d :: r => uptoBulk d + uptoBulkAll r
def uptoBulkEntries {H : Type} : List (Lit × DataW H) → Nat
  | [] => 0
  | x :: r => uptoBulkEntry x + uptoBulkEntries r
def uptoBulkEntry {H : Type} : Lit × DataW H → Nat
  | (.string bytes, d) => bytes.length + uptoBulk d + 1
  | (_, d) => uptoBulk d + 1
 end
def uptoSmall : (H : Type) → List (DataW H) → Bool := fun _ ds => decide (uptoBulkAll ds ≤ 1048576)
def OpenSpec.upto (s : _root_.Go.ChangeSpec) : _root_.Go.OpenSpec := { _root_.Go.OpenSpec.ofChange s with cond := some uptoSmall }

/-- 'laws.FnExactSameValues', WHERE WHAT IT READS IS OF BULK AT MOST 1048576: true; the input reads as it did. -/
def fnExactSameValuesUptoRow : OpenClaim := { program := "ytchfadnajonfoaa", sum := "b76938c1abbbdab7e268614bea803ba981fe92177decadd6067e257e991aed7a", func := "loop.example/g01365/laws.FnExactSameValues", spec := "fnExactSameValues", apart := false, narrowed := true }
def FnExactSameValuesUptoSaid : Prop := fnExactSameValuesUptoRow.holds Try.pinned (OpenSpec.upto fnExactSameValuesSpec)

/-- 'laws.FnExactValidValues', WHERE WHAT IT READS IS OF BULK AT MOST 1048576: true; the input reads as it did. -/
def fnExactValidValuesUptoRow : OpenClaim := { program := "ytchfadnajonfoaa", sum := "b76938c1abbbdab7e268614bea803ba981fe92177decadd6067e257e991aed7a", func := "loop.example/g01365/laws.FnExactValidValues", spec := "fnExactValidValues", apart := false, narrowed := true }
def FnExactValidValuesUptoSaid : Prop := fnExactValidValuesUptoRow.holds Try.pinned (OpenSpec.upto fnExactValidValuesSpec)

/-- 'laws.FnExactOwnWorths', WHERE WHAT IT READS IS OF BULK AT MOST 1048576: true; the input reads as it did. -/
def fnExactOwnWorthsUptoRow : OpenClaim := { program := "ytchfadnajonfoaa", sum := "b76938c1abbbdab7e268614bea803ba981fe92177decadd6067e257e991aed7a", func := "loop.example/g01365/laws.FnExactOwnWorths", spec := "fnExactOwnWorths", apart := false, narrowed := true }
def FnExactOwnWorthsUptoSaid : Prop := fnExactOwnWorthsUptoRow.holds Try.pinned (OpenSpec.upto fnExactOwnWorthsSpec)

/-- 'laws.FnExactEnvyTable', WHERE WHAT IT READS IS OF BULK AT MOST 1048576: true; the input reads as it did. -/
def fnExactEnvyTableUptoRow : OpenClaim := { program := "ytchfadnajonfoaa", sum := "b76938c1abbbdab7e268614bea803ba981fe92177decadd6067e257e991aed7a", func := "loop.example/g01365/laws.FnExactEnvyTable", spec := "fnExactEnvyTable", apart := false, narrowed := true }
def FnExactEnvyTableUptoSaid : Prop := fnExactEnvyTableUptoRow.holds Try.pinned (OpenSpec.upto fnExactEnvyTableSpec)

/-- 'laws.FnExactIsFreeUpToOne', WHERE WHAT IT READS IS OF BULK AT MOST 1048576: true; the input reads as it did. -/
def fnExactIsFreeUpToOneUptoRow : OpenClaim := { program := "ytchfadnajonfoaa", sum := "b76938c1abbbdab7e268614bea803ba981fe92177decadd6067e257e991aed7a", func := "loop.example/g01365/laws.FnExactIsFreeUpToOne", spec := "fnExactIsFreeUpToOne", apart := false, narrowed := true }
def FnExactIsFreeUpToOneUptoSaid : Prop := fnExactIsFreeUpToOneUptoRow.holds Try.pinned (OpenSpec.upto fnExactIsFreeUpToOneSpec)

/-- 'laws.FnExactIsEnvyFree', WHERE WHAT IT READS IS OF BULK AT MOST 1048576: true; the input reads as it did. -/
def fnExactIsEnvyFreeUptoRow : OpenClaim := { program := "ytchfadnajonfoaa", sum := "b76938c1abbbdab7e268614bea803ba981fe92177decadd6067e257e991aed7a", func := "loop.example/g01365/laws.FnExactIsEnvyFree", spec := "fnExactIsEnvyFree", apart := false, narrowed := true }
def FnExactIsEnvyFreeUptoSaid : Prop := fnExactIsEnvyFreeUptoRow.holds Try.pinned (OpenSpec.upto fnExactIsEnvyFreeSpec)

/-- 'laws.FnExactIsEvenShare', WHERE WHAT IT READS IS OF BULK AT MOST 1048576: true; the input reads as it did. -/
def fnExactIsEvenShareUptoRow : OpenClaim := { program := "ytchfadnajonfoaa", sum := "b76938c1abbbdab7e268614bea803ba981fe92177decadd6067e257e991aed7a", func := "loop.example/g01365/laws.FnExactIsEvenShare", spec := "fnExactIsEvenShare", apart := false, narrowed := true }
def FnExactIsEvenShareUptoSaid : Prop := fnExactIsEvenShareUptoRow.holds Try.pinned (OpenSpec.upto fnExactIsEvenShareSpec)

/-- 'laws.FnExactTakeTurns', WHERE WHAT IT READS IS OF BULK AT MOST 1048576: true; the input reads as it did. -/
def fnExactTakeTurnsUptoRow : OpenClaim := { program := "ytchfadnajonfoaa", sum := "b76938c1abbbdab7e268614bea803ba981fe92177decadd6067e257e991aed7a", func := "loop.example/g01365/laws.FnExactTakeTurns", spec := "fnExactTakeTurns", apart := false, narrowed := true }
def FnExactTakeTurnsUptoSaid : Prop := fnExactTakeTurnsUptoRow.holds Try.pinned (OpenSpec.upto fnExactTakeTurnsSpec)

/-- 'laws.FnExactEnvyRounds', WHERE WHAT IT READS IS OF BULK AT MOST 1048576: true; the input reads as it did. -/
def fnExactEnvyRoundsUptoRow : OpenClaim := { program := "ytchfadnajonfoaa", sum := "b76938c1abbbdab7e268614bea803ba981fe92177decadd6067e257e991aed7a", func := "loop.example/g01365/laws.FnExactEnvyRounds", spec := "fnExactEnvyRounds", unfollowed := true, recurses := true, apart := false, narrowed := true }
def FnExactEnvyRoundsUptoSaid : Prop := fnExactEnvyRoundsUptoRow.holds Try.pinned (OpenSpec.upto fnExactEnvyRoundsSpec)

/-- 'laws.FnExactIsRentFair', WHERE WHAT IT READS IS OF BULK AT MOST 1048576: true; the input reads as it did. -/
def fnExactIsRentFairUptoRow : OpenClaim := { program := "ytchfadnajonfoaa", sum := "b76938c1abbbdab7e268614bea803ba981fe92177decadd6067e257e991aed7a", func := "loop.example/g01365/laws.FnExactIsRentFair", spec := "fnExactIsRentFair", apart := false, narrowed := true }
def FnExactIsRentFairUptoSaid : Prop := fnExactIsRentFairUptoRow.holds Try.pinned (OpenSpec.upto fnExactIsRentFairSpec)

/-- 'laws.FnExactRentOf', WHERE WHAT IT READS IS OF BULK AT MOST 1048576: true; the input reads as it did. -/
def fnExactRentOfUptoRow : OpenClaim := { program := "ytchfadnajonfoaa", sum := "b76938c1abbbdab7e268614bea803ba981fe92177decadd6067e257e991aed7a", func := "loop.example/g01365/laws.FnExactRentOf", spec := "fnExactRentOf", unfollowed := true, recurses := true, apart := false, narrowed := true }
def FnExactRentOfUptoSaid : Prop := fnExactRentOfUptoRow.holds Try.pinned (OpenSpec.upto fnExactRentOfSpec)

/-- 'laws.FnRented', WHERE WHAT IT READS IS OF BULK AT MOST 1048576: true; the input reads as it did. -/
def fnRentedUptoRow : OpenClaim := { program := "ytchfadnajonfoaa", sum := "b76938c1abbbdab7e268614bea803ba981fe92177decadd6067e257e991aed7a", func := "loop.example/g01365/laws.FnRented", spec := "fnRented", unfollowed := true, recurses := true, apart := false, narrowed := true }
def FnRentedUptoSaid : Prop := fnRentedUptoRow.holds Try.pinned (OpenSpec.upto fnRentedSpec)

end Rows
end Go.Proofs.Ytchfadnajonfoaa
