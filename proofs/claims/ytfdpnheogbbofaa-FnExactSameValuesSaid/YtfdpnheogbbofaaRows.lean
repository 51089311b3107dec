/-
  No cell of these rows narrows 'for every input' (looked for: loops, veiled, ifaces, maps, wideKeys, modest, calm, conditions, laid).
  DERIVED. THE GIVEN ROWS OF THIS SEAT. 3 by the template 'for every input the law returns true; each argument reads behind the call as it read before'; 0 by the template 'total and deterministic' (their statements: YtfdpnheogbbofaaTotals.lean).
  GIVEN WITH THE SEED: the statements are not yours to turn. If you find one false, say at which input.
  Laid BY PROGRAM, IN A SANDBOX (cutbox-rows.mjs): the forced cells as the released guide's own fill.sh prints them over the translation 543ff12f6d8a4ec6… (all of the seat's roots in one cut). By AI agents, Wed Nov 11 2026. No macro, syntax, notation, axiom, sorry.
-/
import Derived.Test.YtfdpnheogbbofaaChecked
import GoSem.Claim
import GoSem.ClaimJoined
import GoSem.ClaimMapViews
import Derived.JoinedTies
import Derived.KernelRfl
namespace Go.Proofs.Ytfdpnheogbbofaa
/- THE CELL 'sum', in the pinned program and in every row, IS THE sha256 OF THE DUMP (.gsa) THAT YtfdpnheogbbofaaProg.lean LOADS. Nothing in Lean hashes anything: it is a label: what it is worth is what the hold of that sum in a sandbox is worth. -/
noncomputable def Try.pinned : Pinned := { name := "ytfdpnheogbbofaa", sum := "543ff12f6d8a4ec639d5fa0652c019eef65af540b678897f856c477e2ca94b96", checked := Try.checked }
namespace Rows
def none {H : Type} : Left H := { results := [], args := [] }

/-- 'laws.FnExactSameCake': WHATEVER THE INPUT: true; the input reads as it did. -/
def fnExactSameCakeSpec : ChangeSpec := { name := "fnExactSameCake", fn := fun _ => fun
  | [d1, d2] => { results := [.lit (.bool true)], args := [d1, d2] }
  | _ => none }
def fnExactSameCakeRow : OpenClaim := { program := "ytfdpnheogbbofaa", sum := "543ff12f6d8a4ec639d5fa0652c019eef65af540b678897f856c477e2ca94b96", func := "loop.example/g01365/laws.FnExactSameCake", spec := "fnExactSameCake", apart := false }
def FnExactSameCakeSaid : Prop := fnExactSameCakeRow.holds Try.pinned (OpenSpec.ofChange fnExactSameCakeSpec)

/-- ITS FALSE NEIGHBOUR: 'it returns false'. Refute it at one input. -/
def fnExactSameCakeWrong : ChangeSpec := { name := "fnExactSameCake", fn := fun _ => fun
  | [d1, d2] => { results := [.lit (.bool false)], args := [d1, d2] }
  | _ => none }
def FnExactSameCakeWrongFalsely : Prop := fnExactSameCakeRow.holds Try.pinned (OpenSpec.ofChange fnExactSameCakeWrong)

/-- 'laws.FnExactSameValues': WHATEVER THE INPUT: true; the input reads as it did. -/
def fnExactSameValuesSpec : ChangeSpec := { name := "fnExactSameValues", fn := fun _ => fun
  | [d1, d2] => { results := [.lit (.bool true)], args := [d1, d2] }
  | _ => none }
def fnExactSameValuesRow : OpenClaim := { program := "ytfdpnheogbbofaa", sum := "543ff12f6d8a4ec639d5fa0652c019eef65af540b678897f856c477e2ca94b96", func := "loop.example/g01365/laws.FnExactSameValues", spec := "fnExactSameValues", apart := false }
def FnExactSameValuesSaid : Prop := fnExactSameValuesRow.holds Try.pinned (OpenSpec.ofChange fnExactSameValuesSpec)

/-- ITS FALSE NEIGHBOUR: 'it returns false'. Refute it at one input. -/
def fnExactSameValuesWrong : ChangeSpec := { name := "fnExactSameValues", fn := fun _ => fun
  | [d1, d2] => { results := [.lit (.bool false)], args := [d1, d2] }
  | _ => none }
def FnExactSameValuesWrongFalsely : Prop := fnExactSameValuesRow.holds Try.pinned (OpenSpec.ofChange fnExactSameValuesWrong)

/-- 'laws.FnExactValidValues': WHATEVER THE INPUT: true; the input reads as it did. -/
def fnExactValidValuesSpec : ChangeSpec := { name := "fnExactValidValues", fn := fun _ => fun
  | [d] => { results := [.lit (.bool true)], args := [d] }
  | _ => none }
def fnExactValidValuesRow : OpenClaim := { program := "ytfdpnheogbbofaa", sum := "543ff12f6d8a4ec639d5fa0652c019eef65af540b678897f856c477e2ca94b96", func := "loop.example/g01365/laws.FnExactValidValues", spec := "fnExactValidValues", apart := false }
def FnExactValidValuesSaid : Prop := fnExactValidValuesRow.holds Try.pinned (OpenSpec.ofChange fnExactValidValuesSpec)

/-- ITS FALSE NEIGHBOUR: 'it returns false'. Refute it at one input. -/
def fnExactValidValuesWrong : ChangeSpec := { name := "fnExactValidValues", fn := fun _ => fun
  | [d] => { results := [.lit (.bool false)], args := [d] }
  | _ => none }
def FnExactValidValuesWrongFalsely : Prop := fnExactValidValuesRow.holds Try.pinned (OpenSpec.ofChange fnExactValidValuesWrong)

/- THE SECOND FORM. 'bulk': how many values and letters a reading holds, each counted each time it is reached (what is shared counts as often as it is met; a slice's spare places count too). A statement '..UptoSaid' is the law's where the arguments, and the package variables that the reading takes, are together of bulk at most 1048576: NARROWER than '..Said'. Prove '..Said' where nothing that the law and all that it calls make is longer than what came in: it says more and counts as full. Else prove '..UptoSaid'. A law counts once. -/
mutual
def uptoBulk {H : Type} : DataW H → Nat
  | .lit (.string bytes) => bytes.length + 1
  | .lit _ => 1
  | .nil => 1
  | .ptr d => uptoBulk d + 1
  | .slice elems spare => uptoBulkAll elems + uptoBulkAll spare + 1
  | .agg parts => uptoBulkAll parts + 1
  | .iface _ d => uptoBulk d + 1
  | .map entries => uptoBulkEntries entries + 1
  | .held _ => 1
def uptoBulkAll {H : Type} : List (DataW H) → Nat
  | [] => 0
  | d :: r => uptoBulk d + uptoBulkAll r
def uptoBulkEntries {H : Type} : List (Lit × DataW H) → Nat
  | [] => 0
  | x :: r => uptoBulkEntry x + uptoBulkEntries r
def uptoBulkEntry {H : Type} : Lit × DataW H → Nat
  | (.string bytes, d) => bytes.length + uptoBulk d + 1
  | (_, d) => uptoBulk d + 1
 end
def uptoSmall : (H : Type) → List (DataW H) → Bool := fun _ ds => decide (uptoBulkAll ds ≤ 1048576)
def OpenSpec.upto (s : _root_.Go.ChangeSpec) : _root_.Go.OpenSpec := { _root_.Go.OpenSpec.ofChange s with cond := some uptoSmall }

/-- 'laws.FnExactSameCake', WHERE WHAT IT READS IS OF BULK AT MOST 1048576: true; the input reads as it did. -/
def fnExactSameCakeUptoRow : OpenClaim := { program := "ytfdpnheogbbofaa", sum := "543ff12f6d8a4ec639d5fa0652c019eef65af540b678897f856c477e2ca94b96", func := "loop.example/g01365/laws.FnExactSameCake", spec := "fnExactSameCake", apart := false, narrowed := true }
def FnExactSameCakeUptoSaid : Prop := fnExactSameCakeUptoRow.holds Try.pinned (OpenSpec.upto fnExactSameCakeSpec)

/-- 'laws.FnExactSameValues', WHERE WHAT IT READS IS OF BULK AT MOST 1048576: true; the input reads as it did. -/
def fnExactSameValuesUptoRow : OpenClaim := { program := "ytfdpnheogbbofaa", sum := "543ff12f6d8a4ec639d5fa0652c019eef65af540b678897f856c477e2ca94b96", func := "loop.example/g01365/laws.FnExactSameValues", spec := "fnExactSameValues", apart := false, narrowed := true }
def FnExactSameValuesUptoSaid : Prop := fnExactSameValuesUptoRow.holds Try.pinned (OpenSpec.upto fnExactSameValuesSpec)

/-- 'laws.FnExactValidValues', WHERE WHAT IT READS IS OF BULK AT MOST 1048576: true; the input reads as it did. -/
def fnExactValidValuesUptoRow : OpenClaim := { program := "ytfdpnheogbbofaa", sum := "543ff12f6d8a4ec639d5fa0652c019eef65af540b678897f856c477e2ca94b96", func := "loop.example/g01365/laws.FnExactValidValues", spec := "fnExactValidValues", apart := false, narrowed := true }
def FnExactValidValuesUptoSaid : Prop := fnExactValidValuesUptoRow.holds Try.pinned (OpenSpec.upto fnExactValidValuesSpec)

end Rows
end Go.Proofs.Ytfdpnheogbbofaa
