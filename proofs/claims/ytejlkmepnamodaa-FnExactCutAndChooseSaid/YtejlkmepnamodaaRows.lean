/-
  No cell of these rows narrows 'for every input' (looked for: loops, veiled, ifaces, maps, wideKeys, modest, calm, conditions, laid).
  DERIVED. THE GIVEN ROWS OF THIS SEAT. 4 by the template 'for every input the law returns true; each argument reads behind the call as it read before'; 0 by the template 'total and deterministic' (their statements: YtejlkmepnamodaaTotals.lean).
  GIVEN WITH THE SEED: the statements are not yours to turn. If you find one false, say at which input.
  Laid BY PROGRAM, IN A SANDBOX (cutbox-rows.mjs): the forced cells as the released guide's own fill.sh prints them over the translation 913682470d9c0997… (all of the seat's roots in one cut). By AI agents, Wed Nov 11 2026. No macro, syntax, notation, axiom, sorry.
-/
import Derived.Test.YtejlkmepnamodaaChecked
import GoSem.Claim
import GoSem.ClaimJoined
import GoSem.ClaimMapViews
import Derived.JoinedTies
import Derived.KernelRfl
namespace Go.Proofs.Ytejlkmepnamodaa
/- THE CELL 'sum', in the pinned program and in every row, IS THE sha256 OF THE DUMP (.gsa) THAT YtejlkmepnamodaaProg.lean LOADS. Nothing in Lean hashes anything: it is a label: what it is worth is what the hold of that sum in a sandbox is worth. -/
noncomputable def Try.pinned : Pinned := { name := "ytejlkmepnamodaa", sum := "913682470d9c0997eae9e4daa3824abf261584a0e6dcd40bbe5faa286ecf7865", checked := Try.checked }
namespace Rows
def none {H : Type} : Left H := { results := [], args := [] }

/-- 'laws.FnExactCakeWorth': WHATEVER THE INPUT: true; the input reads as it did. -/
def fnExactCakeWorthSpec : ChangeSpec := { name := "fnExactCakeWorth", fn := fun _ => fun
  | [d1, d2, d3, d4] => { results := [.lit (.bool true)], args := [d1, d2, d3, d4] }
  | _ => none }
def fnExactCakeWorthRow : OpenClaim := { program := "ytejlkmepnamodaa", sum := "913682470d9c0997eae9e4daa3824abf261584a0e6dcd40bbe5faa286ecf7865", func := "loop.example/g01365/laws.FnExactCakeWorth", spec := "fnExactCakeWorth", apart := false }
def FnExactCakeWorthSaid : Prop := fnExactCakeWorthRow.holds Try.pinned (OpenSpec.ofChange fnExactCakeWorthSpec)

/-- ITS FALSE NEIGHBOUR: 'it returns false'. Refute it at one input. -/
def fnExactCakeWorthWrong : ChangeSpec := { name := "fnExactCakeWorth", fn := fun _ => fun
  | [d1, d2, d3, d4] => { results := [.lit (.bool false)], args := [d1, d2, d3, d4] }
  | _ => none }
def FnExactCakeWorthWrongFalsely : Prop := fnExactCakeWorthRow.holds Try.pinned (OpenSpec.ofChange fnExactCakeWorthWrong)

/-- 'laws.FnExactCakeMark': WHATEVER THE INPUT: true; the input reads as it did. -/
def fnExactCakeMarkSpec : ChangeSpec := { name := "fnExactCakeMark", fn := fun _ => fun
  | [d1, d2, d3, d4] => { results := [.lit (.bool true)], args := [d1, d2, d3, d4] }
  | _ => none }
def fnExactCakeMarkRow : OpenClaim := { program := "ytejlkmepnamodaa", sum := "913682470d9c0997eae9e4daa3824abf261584a0e6dcd40bbe5faa286ecf7865", func := "loop.example/g01365/laws.FnExactCakeMark", spec := "fnExactCakeMark", apart := false }
def FnExactCakeMarkSaid : Prop := fnExactCakeMarkRow.holds Try.pinned (OpenSpec.ofChange fnExactCakeMarkSpec)

/-- ITS FALSE NEIGHBOUR: 'it returns false'. Refute it at one input. -/
def fnExactCakeMarkWrong : ChangeSpec := { name := "fnExactCakeMark", fn := fun _ => fun
  | [d1, d2, d3, d4] => { results := [.lit (.bool false)], args := [d1, d2, d3, d4] }
  | _ => none }
def FnExactCakeMarkWrongFalsely : Prop := fnExactCakeMarkRow.holds Try.pinned (OpenSpec.ofChange fnExactCakeMarkWrong)

/-- 'laws.FnExactCakeEnvy': WHATEVER THE INPUT: true; the input reads as it did. -/
def fnExactCakeEnvySpec : ChangeSpec := { name := "fnExactCakeEnvy", fn := fun _ => fun
  | [d1, d2, d3] => { results := [.lit (.bool true)], args := [d1, d2, d3] }
  | _ => none }
def fnExactCakeEnvyRow : OpenClaim := { program := "ytejlkmepnamodaa", sum := "913682470d9c0997eae9e4daa3824abf261584a0e6dcd40bbe5faa286ecf7865", func := "loop.example/g01365/laws.FnExactCakeEnvy", spec := "fnExactCakeEnvy", apart := false }
def FnExactCakeEnvySaid : Prop := fnExactCakeEnvyRow.holds Try.pinned (OpenSpec.ofChange fnExactCakeEnvySpec)

/-- ITS FALSE NEIGHBOUR: 'it returns false'. Refute it at one input. -/
def fnExactCakeEnvyWrong : ChangeSpec := { name := "fnExactCakeEnvy", fn := fun _ => fun
  | [d1, d2, d3] => { results := [.lit (.bool false)], args := [d1, d2, d3] }
  | _ => none }
def FnExactCakeEnvyWrongFalsely : Prop := fnExactCakeEnvyRow.holds Try.pinned (OpenSpec.ofChange fnExactCakeEnvyWrong)

/-- 'laws.FnExactCutAndChoose': WHATEVER THE INPUT: true; the input reads as it did. -/
def fnExactCutAndChooseSpec : ChangeSpec := { name := "fnExactCutAndChoose", fn := fun _ => fun
  | [d] => { results := [.lit (.bool true)], args := [d] }
  | _ => none }
def fnExactCutAndChooseRow : OpenClaim := { program := "ytejlkmepnamodaa", sum := "913682470d9c0997eae9e4daa3824abf261584a0e6dcd40bbe5faa286ecf7865", func := "loop.example/g01365/laws.FnExactCutAndChoose", spec := "fnExactCutAndChoose", apart := false }
def FnExactCutAndChooseSaid : Prop := fnExactCutAndChooseRow.holds Try.pinned (OpenSpec.ofChange fnExactCutAndChooseSpec)

/-- ITS FALSE NEIGHBOUR: 'it returns false'. Refute it at one input. -/
def fnExactCutAndChooseWrong : ChangeSpec := { name := "fnExactCutAndChoose", fn := fun _ => fun
  | [d] => { results := [.lit (.bool false)], args := [d] }
  | _ => none }
def FnExactCutAndChooseWrongFalsely : Prop := fnExactCutAndChooseRow.holds Try.pinned (OpenSpec.ofChange fnExactCutAndChooseWrong)

/- THE SECOND FORM. 'bulk': how many values and letters a reading holds, each counted each time it is reached (what is shared counts as often as it is met; a slice's spare places count too). A statement '..UptoSaid' is the law's where the arguments, and the package variables that the reading takes, are together of bulk at most 1048576: NARROWER than '..Said'. Prove '..Said' where nothing that the law and all that it calls make is longer than what came in: it says more and counts as full. Else prove '..UptoSaid'. A law counts once. -/
mutual
def uptoBulk {H : Type} : DataW H → Nat
  | .lit (.string bytes) => bytes.length + 1
  | .lit _ => 1
  | .nil => 1
  | .ptr d => uptoBulk d + 1
  | .slice elems spare => uptoBulkAll elems + uptoBulkAll spare + 1
  | .agg parts => uptoBulkAll parts + 1
  | .iface _ d => uptoBulk d + 1
  | .map entries => uptoBulkEntries entries + 1
  | .held _ => 1
def uptoBulkAll {H : Type} : List (DataW H) → Nat
  | [] => 0
  | d :: r => uptoBulk d + uptoBulkAll r
def uptoBulkEntries {H : Type} : List (Lit × DataW H) → Nat
  | [] => 0
  | x :: r => uptoBulkEntry x + uptoBulkEntries r
def uptoBulkEntry {H : Type} : Lit × DataW H → Nat
  | (.string bytes, d) => bytes.length + uptoBulk d + 1
  | (_, d) => uptoBulk d + 1
 end
def uptoSmall : (H : Type) → List (DataW H) → Bool := fun _ ds => decide (uptoBulkAll ds ≤ 1048576)
def OpenSpec.upto (s : _root_.Go.ChangeSpec) : _root_.Go.OpenSpec := { _root_.Go.OpenSpec.ofChange s with cond := some uptoSmall }

/-- 'laws.FnExactCakeWorth', WHERE WHAT IT READS IS OF BULK AT MOST 1048576: true; the input reads as it did. -/
def fnExactCakeWorthUptoRow : OpenClaim := { program := "ytejlkmepnamodaa", sum := "913682470d9c0997eae9e4daa3824abf261584a0e6dcd40bbe5faa286ecf7865", func := "loop.example/g01365/laws.FnExactCakeWorth", spec := "fnExactCakeWorth", apart := false, narrowed := true }
def FnExactCakeWorthUptoSaid : Prop := fnExactCakeWorthUptoRow.holds Try.pinned (OpenSpec.upto fnExactCakeWorthSpec)

/-- 'laws.FnExactCakeMark', WHERE WHAT IT READS IS OF BULK AT MOST 1048576: true; the input reads as it did. -/
def fnExactCakeMarkUptoRow : OpenClaim := { program := "ytejlkmepnamodaa", sum := "913682470d9c0997eae9e4daa3824abf261584a0e6dcd40bbe5faa286ecf7865", func := "loop.example/g01365/laws.FnExactCakeMark", spec := "fnExactCakeMark", apart := false, narrowed := true }
def FnExactCakeMarkUptoSaid : Prop := fnExactCakeMarkUptoRow.holds Try.pinned (OpenSpec.upto fnExactCakeMarkSpec)

/-- 'laws.FnExactCakeEnvy', WHERE WHAT IT READS IS OF BULK AT MOST 1048576: true; the input reads as it did. -/
def fnExactCakeEnvyUptoRow : OpenClaim := { program := "ytejlkmepnamodaa", sum := "913682470d9c0997eae9e4daa3824abf261584a0e6dcd40bbe5faa286ecf7865", func := "loop.example/g01365/laws.FnExactCakeEnvy", spec := "fnExactCakeEnvy", apart := false, narrowed := true }
def FnExactCakeEnvyUptoSaid : Prop := fnExactCakeEnvyUptoRow.holds Try.pinned (OpenSpec.upto fnExactCakeEnvySpec)

/-- 'laws.FnExactCutAndChoose', WHERE WHAT IT READS IS OF BULK AT MOST 1048576: true; the input reads as it did. -/
def fnExactCutAndChooseUptoRow : OpenClaim := { program := "ytejlkmepnamodaa", sum := "913682470d9c0997eae9e4daa3824abf261584a0e6dcd40bbe5faa286ecf7865", func := "loop.example/g01365/laws.FnExactCutAndChoose", spec := "fnExactCutAndChoose", apart := false, narrowed := true }
def FnExactCutAndChooseUptoSaid : Prop := fnExactCutAndChooseUptoRow.holds Try.pinned (OpenSpec.upto fnExactCutAndChooseSpec)

end Rows
end Go.Proofs.Ytejlkmepnamodaa
