/-
  No cell of these rows narrows 'for every input' (looked for: loops, veiled, ifaces, maps, wideKeys, modest, calm, conditions, laid).
  DERIVED. THE GIVEN ROWS OF THIS SEAT. 4 by the template 'for every input the law returns true; each argument reads behind the call as it read before'; 0 by the template 'total and deterministic' (their statements: YtcemfhppopmamaaTotals.lean).
  GIVEN WITH THE SEED: the statements are not yours to turn. If you find one false, say at which input.
  Laid BY PROGRAM, IN A SANDBOX (cutbox-rows.mjs): the forced cells as the released guide's own fill.sh prints them over the translation f5978a0d3ea331a2… (all of the seat's roots in one cut). By AI agents, Wed Nov 11 2026. No macro, syntax, notation, axiom, sorry.
-/
import Derived.Test.YtcemfhppopmamaaChecked
import GoSem.Claim
import GoSem.ClaimJoined
import GoSem.ClaimMapViews
import Derived.JoinedTies
import Derived.KernelRfl
namespace Go.Proofs.Ytcemfhppopmamaa
/- THE CELL 'sum', in the pinned program and in every row, IS THE sha256 OF THE DUMP (.gsa) THAT YtcemfhppopmamaaProg.lean LOADS. Nothing in Lean hashes anything: it is a label: what it is worth is what the hold of that sum in a sandbox is worth. -/
noncomputable def Try.pinned : Pinned := { name := "ytcemfhppopmamaa", sum := "f5978a0d3ea331a213e94bec9c0d2e183d7394462f343a81be8a301a83382628", checked := Try.checked }
namespace Rows
def none {H : Type} : Left H := { results := [], args := [] }

/-- 'laws.FnExactRentOf': WHATEVER THE INPUT: true; the input reads as it did. -/
def fnExactRentOfSpec : ChangeSpec := { name := "fnExactRentOf", fn := fun _ => fun
  | [d1, d2] => { results := [.lit (.bool true)], args := [d1, d2] }
  | _ => none }
def fnExactRentOfRow : OpenClaim := { program := "ytcemfhppopmamaa", sum := "f5978a0d3ea331a213e94bec9c0d2e183d7394462f343a81be8a301a83382628", func := "loop.example/g01365/laws.FnExactRentOf", spec := "fnExactRentOf", unfollowed := true, recurses := true, apart := false }
def FnExactRentOfSaid : Prop := fnExactRentOfRow.holds Try.pinned (OpenSpec.ofChange fnExactRentOfSpec)

/-- ITS FALSE NEIGHBOUR: 'it returns false'. Refute it at one input. -/
def fnExactRentOfWrong : ChangeSpec := { name := "fnExactRentOf", fn := fun _ => fun
  | [d1, d2] => { results := [.lit (.bool false)], args := [d1, d2] }
  | _ => none }
def FnExactRentOfWrongFalsely : Prop := fnExactRentOfRow.holds Try.pinned (OpenSpec.ofChange fnExactRentOfWrong)

/-- 'laws.FnRented': WHATEVER THE INPUT: true; the input reads as it did. -/
def fnRentedSpec : ChangeSpec := { name := "fnRented", fn := fun _ => fun
  | [d1, d2] => { results := [.lit (.bool true)], args := [d1, d2] }
  | _ => none }
def fnRentedRow : OpenClaim := { program := "ytcemfhppopmamaa", sum := "f5978a0d3ea331a213e94bec9c0d2e183d7394462f343a81be8a301a83382628", func := "loop.example/g01365/laws.FnRented", spec := "fnRented", unfollowed := true, recurses := true, apart := false }
def FnRentedSaid : Prop := fnRentedRow.holds Try.pinned (OpenSpec.ofChange fnRentedSpec)

/-- ITS FALSE NEIGHBOUR: 'it returns false'. Refute it at one input. -/
def fnRentedWrong : ChangeSpec := { name := "fnRented", fn := fun _ => fun
  | [d1, d2] => { results := [.lit (.bool false)], args := [d1, d2] }
  | _ => none }
def FnRentedWrongFalsely : Prop := fnRentedRow.holds Try.pinned (OpenSpec.ofChange fnRentedWrong)

/-- 'laws.FnDividends': WHATEVER THE INPUT: true; the input reads as it did. -/
def fnDividendsSpec : ChangeSpec := { name := "fnDividends", fn := fun _ => fun
  | [d1, d2] => { results := [.lit (.bool true)], args := [d1, d2] }
  | _ => none }
def fnDividendsRow : OpenClaim := { program := "ytcemfhppopmamaa", sum := "f5978a0d3ea331a213e94bec9c0d2e183d7394462f343a81be8a301a83382628", func := "loop.example/g01365/laws.FnDividends", spec := "fnDividends", unfollowed := true, recurses := true, apart := false }
def FnDividendsSaid : Prop := fnDividendsRow.holds Try.pinned (OpenSpec.ofChange fnDividendsSpec)

/-- ITS FALSE NEIGHBOUR: 'it returns false'. Refute it at one input. -/
def fnDividendsWrong : ChangeSpec := { name := "fnDividends", fn := fun _ => fun
  | [d1, d2] => { results := [.lit (.bool false)], args := [d1, d2] }
  | _ => none }
def FnDividendsWrongFalsely : Prop := fnDividendsRow.holds Try.pinned (OpenSpec.ofChange fnDividendsWrong)

/-- 'laws.FnExactSharesShared': WHATEVER THE INPUT: true; the input reads as it did. -/
def fnExactSharesSharedSpec : ChangeSpec := { name := "fnExactSharesShared", fn := fun _ => fun
  | [d1, d2] => { results := [.lit (.bool true)], args := [d1, d2] }
  | _ => none }
def fnExactSharesSharedRow : OpenClaim := { program := "ytcemfhppopmamaa", sum := "f5978a0d3ea331a213e94bec9c0d2e183d7394462f343a81be8a301a83382628", func := "loop.example/g01365/laws.FnExactSharesShared", spec := "fnExactSharesShared", unfollowed := true, recurses := true, apart := false }
def FnExactSharesSharedSaid : Prop := fnExactSharesSharedRow.holds Try.pinned (OpenSpec.ofChange fnExactSharesSharedSpec)

/-- ITS FALSE NEIGHBOUR: 'it returns false'. Refute it at one input. -/
def fnExactSharesSharedWrong : ChangeSpec := { name := "fnExactSharesShared", fn := fun _ => fun
  | [d1, d2] => { results := [.lit (.bool false)], args := [d1, d2] }
  | _ => none }
def FnExactSharesSharedWrongFalsely : Prop := fnExactSharesSharedRow.holds Try.pinned (OpenSpec.ofChange fnExactSharesSharedWrong)

/- THE SECOND FORM. 'bulk': how many values and letters a reading holds, each counted each time it is reached (what is shared counts as often as it is met; a slice's spare places count too). A statement '..UptoSaid' is the law's where the arguments, and the package variables that the reading takes, are together of bulk at most 1048576: NARROWER than '..Said'. Prove '..Said' where nothing that the law and all that it calls make is longer than what came in: it says more and counts as full. Else prove '..UptoSaid'. A law counts once. -/
mutual
def uptoBulk {H : Type} : DataW H → Nat
  | .lit (.string bytes) => bytes.length + 1
  | .lit _ => 1
  | .nil => 1
  | .ptr d => uptoBulk d + 1
  | .slice elems spare => uptoBulkAll elems + uptoBulkAll spare + 1
  | .agg parts => uptoBulkAll parts + 1
  | .iface _ d => uptoBulk d + 1
  | .map entries => uptoBulkEntries entries + 1
  | .held _ => 1
def uptoBulkAll {H : Type} : List (DataW H) → Nat
  | [] => 0
  | d :: r => uptoBulk d + uptoBulkAll r
def uptoBulkEntries {H : Type} : List (Lit × DataW H) → Nat
  | [] => 0
  | x :: r => uptoBulkEntry x + uptoBulkEntries r
def uptoBulkEntry {H : Type} : Lit × DataW H → Nat
  | (.string bytes, d) => bytes.length + uptoBulk d + 1
  | (_, d) => uptoBulk d + 1
 end
def uptoSmall : (H : Type) → List (DataW H) → Bool := fun _ ds => decide (uptoBulkAll ds ≤ 1048576)
def OpenSpec.upto (s : _root_.Go.ChangeSpec) : _root_.Go.OpenSpec := { _root_.Go.OpenSpec.ofChange s with cond := some uptoSmall }

/-- 'laws.FnExactRentOf', WHERE WHAT IT READS IS OF BULK AT MOST 1048576: true; the input reads as it did. -/
def fnExactRentOfUptoRow : OpenClaim := { program := "ytcemfhppopmamaa", sum := "f5978a0d3ea331a213e94bec9c0d2e183d7394462f343a81be8a301a83382628", func := "loop.example/g01365/laws.FnExactRentOf", spec := "fnExactRentOf", unfollowed := true, recurses := true, apart := false, narrowed := true }
def FnExactRentOfUptoSaid : Prop := fnExactRentOfUptoRow.holds Try.pinned (OpenSpec.upto fnExactRentOfSpec)

/-- 'laws.FnRented', WHERE WHAT IT READS IS OF BULK AT MOST 1048576: true; the input reads as it did. -/
def fnRentedUptoRow : OpenClaim := { program := "ytcemfhppopmamaa", sum := "f5978a0d3ea331a213e94bec9c0d2e183d7394462f343a81be8a301a83382628", func := "loop.example/g01365/laws.FnRented", spec := "fnRented", unfollowed := true, recurses := true, apart := false, narrowed := true }
def FnRentedUptoSaid : Prop := fnRentedUptoRow.holds Try.pinned (OpenSpec.upto fnRentedSpec)

/-- 'laws.FnDividends', WHERE WHAT IT READS IS OF BULK AT MOST 1048576: true; the input reads as it did. -/
def fnDividendsUptoRow : OpenClaim := { program := "ytcemfhppopmamaa", sum := "f5978a0d3ea331a213e94bec9c0d2e183d7394462f343a81be8a301a83382628", func := "loop.example/g01365/laws.FnDividends", spec := "fnDividends", unfollowed := true, recurses := true, apart := false, narrowed := true }
def FnDividendsUptoSaid : Prop := fnDividendsUptoRow.holds Try.pinned (OpenSpec.upto fnDividendsSpec)

/-- 'laws.FnExactSharesShared', WHERE WHAT IT READS IS OF BULK AT MOST 1048576: true; the input reads as it did. -/
def fnExactSharesSharedUptoRow : OpenClaim := { program := "ytcemfhppopmamaa", sum := "f5978a0d3ea331a213e94bec9c0d2e183d7394462f343a81be8a301a83382628", func := "loop.example/g01365/laws.FnExactSharesShared", spec := "fnExactSharesShared", unfollowed := true, recurses := true, apart := false, narrowed := true }
def FnExactSharesSharedUptoSaid : Prop := fnExactSharesSharedUptoRow.holds Try.pinned (OpenSpec.upto fnExactSharesSharedSpec)

end Rows
end Go.Proofs.Ytcemfhppopmamaa
