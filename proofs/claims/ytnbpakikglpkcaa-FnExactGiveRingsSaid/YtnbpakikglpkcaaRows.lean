/-
  No cell of these rows narrows 'for every input' (looked for: loops, veiled, ifaces, maps, wideKeys, modest, calm, conditions, laid).
  DERIVED. THE GIVEN ROWS OF THIS SEAT. 6 by the template 'for every input the law returns true; each argument reads behind the call as it read before'; 0 by the template 'total and deterministic' (their statements: YtnbpakikglpkcaaTotals.lean).
  GIVEN WITH THE SEED: the statements are not yours to turn. If you find one false, say at which input.
  Laid BY PROGRAM, IN A SANDBOX (cutbox-rows.mjs): the forced cells as the released guide's own fill.sh prints them over the translation 403705ac847adca9… (all of the seat's roots in one cut). By AI agents, Wed Nov 11 2026. No macro, syntax, notation, axiom, sorry.
-/
import Derived.Test.YtnbpakikglpkcaaChecked
import GoSem.Claim
import GoSem.ClaimJoined
import GoSem.ClaimMapViews
import Derived.JoinedTies
import Derived.KernelRfl
namespace Go.Proofs.Ytnbpakikglpkcaa
/- THE CELL 'sum', in the pinned program and in every row, IS THE sha256 OF THE DUMP (.gsa) THAT YtnbpakikglpkcaaProg.lean LOADS. Nothing in Lean hashes anything: it is a label: what it is worth is what the hold of that sum in a sandbox is worth. -/
noncomputable def Try.pinned : Pinned := { name := "ytnbpakikglpkcaa", sum := "403705ac847adca920af89e98b51690b0a86dab2166dde4b8ed23f282fbd4be3", checked := Try.checked }
namespace Rows
def none {H : Type} : Left H := { results := [], args := [] }

/-- 'laws.FnExactEnvyRounds': WHATEVER THE INPUT: true; the input reads as it did. -/
def fnExactEnvyRoundsSpec : ChangeSpec := { name := "fnExactEnvyRounds", fn := fun _ => fun
  | [d] => { results := [.lit (.bool true)], args := [d] }
  | _ => none }
def fnExactEnvyRoundsRow : OpenClaim := { program := "ytnbpakikglpkcaa", sum := "403705ac847adca920af89e98b51690b0a86dab2166dde4b8ed23f282fbd4be3", func := "loop.example/g01365/laws.FnExactEnvyRounds", spec := "fnExactEnvyRounds", unfollowed := true, recurses := true, apart := false }
def FnExactEnvyRoundsSaid : Prop := fnExactEnvyRoundsRow.holds Try.pinned (OpenSpec.ofChange fnExactEnvyRoundsSpec)

/-- ITS FALSE NEIGHBOUR: 'it returns false'. Refute it at one input. -/
def fnExactEnvyRoundsWrong : ChangeSpec := { name := "fnExactEnvyRounds", fn := fun _ => fun
  | [d] => { results := [.lit (.bool false)], args := [d] }
  | _ => none }
def FnExactEnvyRoundsWrongFalsely : Prop := fnExactEnvyRoundsRow.holds Try.pinned (OpenSpec.ofChange fnExactEnvyRoundsWrong)

/-- 'laws.FnExactHouseRounds': WHATEVER THE INPUT: true; the input reads as it did. -/
def fnExactHouseRoundsSpec : ChangeSpec := { name := "fnExactHouseRounds", fn := fun _ => fun
  | [d] => { results := [.lit (.bool true)], args := [d] }
  | _ => none }
def fnExactHouseRoundsRow : OpenClaim := { program := "ytnbpakikglpkcaa", sum := "403705ac847adca920af89e98b51690b0a86dab2166dde4b8ed23f282fbd4be3", func := "loop.example/g01365/laws.FnExactHouseRounds", spec := "fnExactHouseRounds", unfollowed := true, recurses := true, apart := false }
def FnExactHouseRoundsSaid : Prop := fnExactHouseRoundsRow.holds Try.pinned (OpenSpec.ofChange fnExactHouseRoundsSpec)

/-- ITS FALSE NEIGHBOUR: 'it returns false'. Refute it at one input. -/
def fnExactHouseRoundsWrong : ChangeSpec := { name := "fnExactHouseRounds", fn := fun _ => fun
  | [d] => { results := [.lit (.bool false)], args := [d] }
  | _ => none }
def FnExactHouseRoundsWrongFalsely : Prop := fnExactHouseRoundsRow.holds Try.pinned (OpenSpec.ofChange fnExactHouseRoundsWrong)

/-- 'laws.FnExactHouseBlock': WHATEVER THE INPUT: true; the input reads as it did. -/
def fnExactHouseBlockSpec : ChangeSpec := { name := "fnExactHouseBlock", fn := fun _ => fun
  | [d1, d2] => { results := [.lit (.bool true)], args := [d1, d2] }
  | _ => none }
def fnExactHouseBlockRow : OpenClaim := { program := "ytnbpakikglpkcaa", sum := "403705ac847adca920af89e98b51690b0a86dab2166dde4b8ed23f282fbd4be3", func := "loop.example/g01365/laws.FnExactHouseBlock", spec := "fnExactHouseBlock", unfollowed := true, recurses := true, apart := false }
def FnExactHouseBlockSaid : Prop := fnExactHouseBlockRow.holds Try.pinned (OpenSpec.ofChange fnExactHouseBlockSpec)

/-- ITS FALSE NEIGHBOUR: 'it returns false'. Refute it at one input. -/
def fnExactHouseBlockWrong : ChangeSpec := { name := "fnExactHouseBlock", fn := fun _ => fun
  | [d1, d2] => { results := [.lit (.bool false)], args := [d1, d2] }
  | _ => none }
def FnExactHouseBlockWrongFalsely : Prop := fnExactHouseBlockRow.holds Try.pinned (OpenSpec.ofChange fnExactHouseBlockWrong)

/-- 'laws.FnExactGiveRings': WHATEVER THE INPUT: true; the input reads as it did. -/
def fnExactGiveRingsSpec : ChangeSpec := { name := "fnExactGiveRings", fn := fun _ => fun
  | [d1, d2] => { results := [.lit (.bool true)], args := [d1, d2] }
  | _ => none }
def fnExactGiveRingsRow : OpenClaim := { program := "ytnbpakikglpkcaa", sum := "403705ac847adca920af89e98b51690b0a86dab2166dde4b8ed23f282fbd4be3", func := "loop.example/g01365/laws.FnExactGiveRings", spec := "fnExactGiveRings", unfollowed := true, recurses := true, apart := false }
def FnExactGiveRingsSaid : Prop := fnExactGiveRingsRow.holds Try.pinned (OpenSpec.ofChange fnExactGiveRingsSpec)

/-- ITS FALSE NEIGHBOUR: 'it returns false'. Refute it at one input. -/
def fnExactGiveRingsWrong : ChangeSpec := { name := "fnExactGiveRings", fn := fun _ => fun
  | [d1, d2] => { results := [.lit (.bool false)], args := [d1, d2] }
  | _ => none }
def FnExactGiveRingsWrongFalsely : Prop := fnExactGiveRingsRow.holds Try.pinned (OpenSpec.ofChange fnExactGiveRingsWrong)

/-- 'laws.FnExactCorePlans': WHATEVER THE INPUT: true; the input reads as it did. -/
def fnExactCorePlansSpec : ChangeSpec := { name := "fnExactCorePlans", fn := fun _ => fun
  | [d1, d2] => { results := [.lit (.bool true)], args := [d1, d2] }
  | _ => none }
def fnExactCorePlansRow : OpenClaim := { program := "ytnbpakikglpkcaa", sum := "403705ac847adca920af89e98b51690b0a86dab2166dde4b8ed23f282fbd4be3", func := "loop.example/g01365/laws.FnExactCorePlans", spec := "fnExactCorePlans", unfollowed := true, recurses := true, apart := false }
def FnExactCorePlansSaid : Prop := fnExactCorePlansRow.holds Try.pinned (OpenSpec.ofChange fnExactCorePlansSpec)

/-- ITS FALSE NEIGHBOUR: 'it returns false'. Refute it at one input. -/
def fnExactCorePlansWrong : ChangeSpec := { name := "fnExactCorePlans", fn := fun _ => fun
  | [d1, d2] => { results := [.lit (.bool false)], args := [d1, d2] }
  | _ => none }
def FnExactCorePlansWrongFalsely : Prop := fnExactCorePlansRow.holds Try.pinned (OpenSpec.ofChange fnExactCorePlansWrong)

/-- 'laws.FnExactRentOf': WHATEVER THE INPUT: true; the input reads as it did. -/
def fnExactRentOfSpec : ChangeSpec := { name := "fnExactRentOf", fn := fun _ => fun
  | [d1, d2] => { results := [.lit (.bool true)], args := [d1, d2] }
  | _ => none }
def fnExactRentOfRow : OpenClaim := { program := "ytnbpakikglpkcaa", sum := "403705ac847adca920af89e98b51690b0a86dab2166dde4b8ed23f282fbd4be3", func := "loop.example/g01365/laws.FnExactRentOf", spec := "fnExactRentOf", unfollowed := true, recurses := true, apart := false }
def FnExactRentOfSaid : Prop := fnExactRentOfRow.holds Try.pinned (OpenSpec.ofChange fnExactRentOfSpec)

/-- ITS FALSE NEIGHBOUR: 'it returns false'. Refute it at one input. -/
def fnExactRentOfWrong : ChangeSpec := { name := "fnExactRentOf", fn := fun _ => fun
  | [d1, d2] => { results := [.lit (.bool false)], args := [d1, d2] }
  | _ => none }
def FnExactRentOfWrongFalsely : Prop := fnExactRentOfRow.holds Try.pinned (OpenSpec.ofChange fnExactRentOfWrong)

/- THE SECOND FORM. 'bulk': how many values and letters a reading holds, each counted each time it is reached (what is shared counts as often as it is met; a slice's spare places count too). A statement '..UptoSaid' is the law's where the arguments, and the package variables that the reading takes, are together of bulk at most 1048576: NARROWER than '..Said'. Prove '..Said' where nothing that the law and all that it calls make is longer than what came in: it says more and counts as full. Else prove '..UptoSaid'. A law counts once. -/
mutual
def uptoBulk {H : Type} : DataW H → Nat
  | .lit (.string bytes) => bytes.length + 1
  | .lit _ => 1
  | .nil => 1
  | .ptr d => uptoBulk d + 1
  | .slice elems spare => uptoBulkAll elems + uptoBulkAll spare + 1
  | .agg parts => uptoBulkAll parts + 1
  | .iface _ d => uptoBulk d + 1
  | .map entries => uptoBulkEntries entries + 1
  | .held _ => 1
def uptoBulkAll {H : Type} : List (DataW H) → Nat
  | [] => 0
  | d :: r => uptoBulk d + uptoBulkAll r
def uptoBulkEntries {H : Type} : List (Lit × DataW H) → Nat
  | [] => 0
  | x :: r => uptoBulkEntry x + uptoBulkEntries r
def uptoBulkEntry {H : Type} : Lit × DataW H → Nat
  | (.string bytes, d) => bytes.length + uptoBulk d + 1
  | (_, d) => uptoBulk d + 1
 end
def uptoSmall : (H : Type) → List (DataW H) → Bool := fun _ ds => decide (uptoBulkAll ds ≤ 1048576)
def OpenSpec.upto (s : _root_.Go.ChangeSpec) : _root_.Go.OpenSpec := { _root_.Go.OpenSpec.ofChange s with cond := some uptoSmall }

/-- 'laws.FnExactEnvyRounds', WHERE WHAT IT READS IS OF BULK AT MOST 1048576: true; the input reads as it did. -/
def fnExactEnvyRoundsUptoRow : OpenClaim := { program := "ytnbpakikglpkcaa", sum := "403705ac847adca920af89e98b51690b0a86dab2166dde4b8ed23f282fbd4be3", func := "loop.example/g01365/laws.FnExactEnvyRounds", spec := "fnExactEnvyRounds", unfollowed := true, recurses := true, apart := false, narrowed := true }
def FnExactEnvyRoundsUptoSaid : Prop := fnExactEnvyRoundsUptoRow.holds Try.pinned (OpenSpec.upto fnExactEnvyRoundsSpec)

/-- 'laws.FnExactHouseRounds', WHERE WHAT IT READS IS OF BULK AT MOST 1048576: true; the input reads as it did. -/
def fnExactHouseRoundsUptoRow : OpenClaim := { program := "ytnbpakikglpkcaa", sum := "403705ac847adca920af89e98b51690b0a86dab2166dde4b8ed23f282fbd4be3", func := "loop.example/g01365/laws.FnExactHouseRounds", spec := "fnExactHouseRounds", unfollowed := true, recurses := true, apart := false, narrowed := true }
def FnExactHouseRoundsUptoSaid : Prop := fnExactHouseRoundsUptoRow.holds Try.pinned (OpenSpec.upto fnExactHouseRoundsSpec)

/-- 'laws.FnExactHouseBlock', WHERE WHAT IT READS IS OF BULK AT MOST 1048576: true; the input reads as it did. -/
def fnExactHouseBlockUptoRow : OpenClaim := { program := "ytnbpakikglpkcaa", sum := "403705ac847adca920af89e98b51690b0a86dab2166dde4b8ed23f282fbd4be3", func := "loop.example/g01365/laws.FnExactHouseBlock", spec := "fnExactHouseBlock", unfollowed := true, recurses := true, apart := false, narrowed := true }
def FnExactHouseBlockUptoSaid : Prop := fnExactHouseBlockUptoRow.holds Try.pinned (OpenSpec.upto fnExactHouseBlockSpec)

/-- 'laws.FnExactGiveRings', WHERE WHAT IT READS IS OF BULK AT MOST 1048576: true; the input reads as it did. -/
def fnExactGiveRingsUptoRow : OpenClaim := { program := "ytnbpakikglpkcaa", sum := "403705ac847adca920af89e98b51690b0a86dab2166dde4b8ed23f282fbd4be3", func := "loop.example/g01365/laws.FnExactGiveRings", spec := "fnExactGiveRings", unfollowed := true, recurses := true, apart := false, narrowed := true }
def FnExactGiveRingsUptoSaid : Prop := fnExactGiveRingsUptoRow.holds Try.pinned (OpenSpec.upto fnExactGiveRingsSpec)

/-- 'laws.FnExactCorePlans', WHERE WHAT IT READS IS OF BULK AT MOST 1048576: true; the input reads as it did. -/
def fnExactCorePlansUptoRow : OpenClaim := { program := "ytnbpakikglpkcaa", sum := "403705ac847adca920af89e98b51690b0a86dab2166dde4b8ed23f282fbd4be3", func := "loop.example/g01365/laws.FnExactCorePlans", spec := "fnExactCorePlans", unfollowed := true, recurses := true, apart := false, narrowed := true }
def FnExactCorePlansUptoSaid : Prop := fnExactCorePlansUptoRow.holds Try.pinned (OpenSpec.upto fnExactCorePlansSpec)

/-- 'laws.FnExactRentOf', WHERE WHAT IT READS IS OF BULK AT MOST 1048576: true; the input reads as it did. -/
def fnExactRentOfUptoRow : OpenClaim := { program := "ytnbpakikglpkcaa", sum := "403705ac847adca920af89e98b51690b0a86dab2166dde4b8ed23f282fbd4be3", func := "loop.example/g01365/laws.FnExactRentOf", spec := "fnExactRentOf", unfollowed := true, recurses := true, apart := false, narrowed := true }
def FnExactRentOfUptoSaid : Prop := fnExactRentOfUptoRow.holds Try.pinned (OpenSpec.upto fnExactRentOfSpec)

end Rows
end Go.Proofs.Ytnbpakikglpkcaa
