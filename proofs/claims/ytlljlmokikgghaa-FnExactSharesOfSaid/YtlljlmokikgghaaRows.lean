/-
  No cell of these rows narrows 'for every input' (looked for: loops, veiled, ifaces, maps, wideKeys, modest, calm, conditions, laid).
  DERIVED. THE GIVEN ROWS OF THIS SEAT. 12 by the template 'for every input the law returns true; each argument reads behind the call as it read before'; 0 by the template 'total and deterministic' (their statements: YtlljlmokikgghaaTotals.lean).
  GIVEN WITH THE SEED: the statements are not yours to turn. If you find one false, say at which input.
  Laid BY PROGRAM, IN A SANDBOX (cutbox-rows.mjs): the forced cells as the released guide's own fill.sh prints them over the translation 69b7af0414829fdb… (all of the seat's roots in one cut). By AI agents, Wed Nov 11 2026. No macro, syntax, notation, axiom, sorry.
-/
import Derived.Test.YtlljlmokikgghaaChecked
import GoSem.Claim
import GoSem.ClaimJoined
import GoSem.ClaimMapViews
import Derived.JoinedTies
import Derived.KernelRfl
namespace Go.Proofs.Ytlljlmokikgghaa
/- THE CELL 'sum', in the pinned program and in every row, IS THE sha256 OF THE DUMP (.gsa) THAT YtlljlmokikgghaaProg.lean LOADS. Nothing in Lean hashes anything: it is a label: what it is worth is what the hold of that sum in a sandbox is worth. -/
noncomputable def Try.pinned : Pinned := { name := "ytlljlmokikgghaa", sum := "69b7af0414829fdb2d860fe7037d793ce38ba64cb0f659d1bfb1fdac8d6b2367", checked := Try.checked }
namespace Rows
def none {H : Type} : Left H := { results := [], args := [] }

/-- 'laws.FnExactIsJoining': WHATEVER THE INPUT: true; the input reads as it did. -/
def fnExactIsJoiningSpec : ChangeSpec := { name := "fnExactIsJoining", fn := fun _ => fun
  | [d] => { results := [.lit (.bool true)], args := [d] }
  | _ => none }
def fnExactIsJoiningRow : OpenClaim := { program := "ytlljlmokikgghaa", sum := "69b7af0414829fdb2d860fe7037d793ce38ba64cb0f659d1bfb1fdac8d6b2367", func := "loop.example/g01365/laws.FnExactIsJoining", spec := "fnExactIsJoining", unfollowed := true, recurses := true, apart := false }
def FnExactIsJoiningSaid : Prop := fnExactIsJoiningRow.holds Try.pinned (OpenSpec.ofChange fnExactIsJoiningSpec)

/-- ITS FALSE NEIGHBOUR: 'it returns false'. Refute it at one input. -/
def fnExactIsJoiningWrong : ChangeSpec := { name := "fnExactIsJoining", fn := fun _ => fun
  | [d] => { results := [.lit (.bool false)], args := [d] }
  | _ => none }
def FnExactIsJoiningWrongFalsely : Prop := fnExactIsJoiningRow.holds Try.pinned (OpenSpec.ofChange fnExactIsJoiningWrong)

/-- 'laws.FnExactIsRising': WHATEVER THE INPUT: true; the input reads as it did. -/
def fnExactIsRisingSpec : ChangeSpec := { name := "fnExactIsRising", fn := fun _ => fun
  | [d] => { results := [.lit (.bool true)], args := [d] }
  | _ => none }
def fnExactIsRisingRow : OpenClaim := { program := "ytlljlmokikgghaa", sum := "69b7af0414829fdb2d860fe7037d793ce38ba64cb0f659d1bfb1fdac8d6b2367", func := "loop.example/g01365/laws.FnExactIsRising", spec := "fnExactIsRising", unfollowed := true, recurses := true, apart := false }
def FnExactIsRisingSaid : Prop := fnExactIsRisingRow.holds Try.pinned (OpenSpec.ofChange fnExactIsRisingSpec)

/-- ITS FALSE NEIGHBOUR: 'it returns false'. Refute it at one input. -/
def fnExactIsRisingWrong : ChangeSpec := { name := "fnExactIsRising", fn := fun _ => fun
  | [d] => { results := [.lit (.bool false)], args := [d] }
  | _ => none }
def FnExactIsRisingWrongFalsely : Prop := fnExactIsRisingRow.holds Try.pinned (OpenSpec.ofChange fnExactIsRisingWrong)

/-- 'laws.FnExactIsNull': WHATEVER THE INPUT: true; the input reads as it did. -/
def fnExactIsNullSpec : ChangeSpec := { name := "fnExactIsNull", fn := fun _ => fun
  | [d1, d2] => { results := [.lit (.bool true)], args := [d1, d2] }
  | _ => none }
def fnExactIsNullRow : OpenClaim := { program := "ytlljlmokikgghaa", sum := "69b7af0414829fdb2d860fe7037d793ce38ba64cb0f659d1bfb1fdac8d6b2367", func := "loop.example/g01365/laws.FnExactIsNull", spec := "fnExactIsNull", unfollowed := true, recurses := true, apart := false }
def FnExactIsNullSaid : Prop := fnExactIsNullRow.holds Try.pinned (OpenSpec.ofChange fnExactIsNullSpec)

/-- ITS FALSE NEIGHBOUR: 'it returns false'. Refute it at one input. -/
def fnExactIsNullWrong : ChangeSpec := { name := "fnExactIsNull", fn := fun _ => fun
  | [d1, d2] => { results := [.lit (.bool false)], args := [d1, d2] }
  | _ => none }
def FnExactIsNullWrongFalsely : Prop := fnExactIsNullRow.holds Try.pinned (OpenSpec.ofChange fnExactIsNullWrong)

/-- 'laws.FnExactAreAlike': WHATEVER THE INPUT: true; the input reads as it did. -/
def fnExactAreAlikeSpec : ChangeSpec := { name := "fnExactAreAlike", fn := fun _ => fun
  | [d1, d2, d3] => { results := [.lit (.bool true)], args := [d1, d2, d3] }
  | _ => none }
def fnExactAreAlikeRow : OpenClaim := { program := "ytlljlmokikgghaa", sum := "69b7af0414829fdb2d860fe7037d793ce38ba64cb0f659d1bfb1fdac8d6b2367", func := "loop.example/g01365/laws.FnExactAreAlike", spec := "fnExactAreAlike", unfollowed := true, recurses := true, apart := false }
def FnExactAreAlikeSaid : Prop := fnExactAreAlikeRow.holds Try.pinned (OpenSpec.ofChange fnExactAreAlikeSpec)

/-- ITS FALSE NEIGHBOUR: 'it returns false'. Refute it at one input. -/
def fnExactAreAlikeWrong : ChangeSpec := { name := "fnExactAreAlike", fn := fun _ => fun
  | [d1, d2, d3] => { results := [.lit (.bool false)], args := [d1, d2, d3] }
  | _ => none }
def FnExactAreAlikeWrongFalsely : Prop := fnExactAreAlikeRow.holds Try.pinned (OpenSpec.ofChange fnExactAreAlikeWrong)

/-- 'laws.FnExactSwingsOf': WHATEVER THE INPUT: true; the input reads as it did. -/
def fnExactSwingsOfSpec : ChangeSpec := { name := "fnExactSwingsOf", fn := fun _ => fun
  | [d] => { results := [.lit (.bool true)], args := [d] }
  | _ => none }
def fnExactSwingsOfRow : OpenClaim := { program := "ytlljlmokikgghaa", sum := "69b7af0414829fdb2d860fe7037d793ce38ba64cb0f659d1bfb1fdac8d6b2367", func := "loop.example/g01365/laws.FnExactSwingsOf", spec := "fnExactSwingsOf", unfollowed := true, recurses := true, apart := false }
def FnExactSwingsOfSaid : Prop := fnExactSwingsOfRow.holds Try.pinned (OpenSpec.ofChange fnExactSwingsOfSpec)

/-- ITS FALSE NEIGHBOUR: 'it returns false'. Refute it at one input. -/
def fnExactSwingsOfWrong : ChangeSpec := { name := "fnExactSwingsOf", fn := fun _ => fun
  | [d] => { results := [.lit (.bool false)], args := [d] }
  | _ => none }
def FnExactSwingsOfWrongFalsely : Prop := fnExactSwingsOfRow.holds Try.pinned (OpenSpec.ofChange fnExactSwingsOfWrong)

/-- 'laws.FnExactSharesOf': WHATEVER THE INPUT: true; the input reads as it did. -/
def fnExactSharesOfSpec : ChangeSpec := { name := "fnExactSharesOf", fn := fun _ => fun
  | [d] => { results := [.lit (.bool true)], args := [d] }
  | _ => none }
def fnExactSharesOfRow : OpenClaim := { program := "ytlljlmokikgghaa", sum := "69b7af0414829fdb2d860fe7037d793ce38ba64cb0f659d1bfb1fdac8d6b2367", func := "loop.example/g01365/laws.FnExactSharesOf", spec := "fnExactSharesOf", unfollowed := true, recurses := true, apart := false }
def FnExactSharesOfSaid : Prop := fnExactSharesOfRow.holds Try.pinned (OpenSpec.ofChange fnExactSharesOfSpec)

/-- ITS FALSE NEIGHBOUR: 'it returns false'. Refute it at one input. -/
def fnExactSharesOfWrong : ChangeSpec := { name := "fnExactSharesOf", fn := fun _ => fun
  | [d] => { results := [.lit (.bool false)], args := [d] }
  | _ => none }
def FnExactSharesOfWrongFalsely : Prop := fnExactSharesOfRow.holds Try.pinned (OpenSpec.ofChange fnExactSharesOfWrong)

/-- 'laws.FnExactSharesShared': WHATEVER THE INPUT: true; the input reads as it did. -/
def fnExactSharesSharedSpec : ChangeSpec := { name := "fnExactSharesShared", fn := fun _ => fun
  | [d1, d2] => { results := [.lit (.bool true)], args := [d1, d2] }
  | _ => none }
def fnExactSharesSharedRow : OpenClaim := { program := "ytlljlmokikgghaa", sum := "69b7af0414829fdb2d860fe7037d793ce38ba64cb0f659d1bfb1fdac8d6b2367", func := "loop.example/g01365/laws.FnExactSharesShared", spec := "fnExactSharesShared", unfollowed := true, recurses := true, apart := false }
def FnExactSharesSharedSaid : Prop := fnExactSharesSharedRow.holds Try.pinned (OpenSpec.ofChange fnExactSharesSharedSpec)

/-- ITS FALSE NEIGHBOUR: 'it returns false'. Refute it at one input. -/
def fnExactSharesSharedWrong : ChangeSpec := { name := "fnExactSharesShared", fn := fun _ => fun
  | [d1, d2] => { results := [.lit (.bool false)], args := [d1, d2] }
  | _ => none }
def FnExactSharesSharedWrongFalsely : Prop := fnExactSharesSharedRow.holds Try.pinned (OpenSpec.ofChange fnExactSharesSharedWrong)

/-- 'laws.FnExactMoreInOrder': WHATEVER THE INPUT: true; the input reads as it did. -/
def fnExactMoreInOrderSpec : ChangeSpec := { name := "fnExactMoreInOrder", fn := fun _ => fun
  | [d1, d2] => { results := [.lit (.bool true)], args := [d1, d2] }
  | _ => none }
def fnExactMoreInOrderRow : OpenClaim := { program := "ytlljlmokikgghaa", sum := "69b7af0414829fdb2d860fe7037d793ce38ba64cb0f659d1bfb1fdac8d6b2367", func := "loop.example/g01365/laws.FnExactMoreInOrder", spec := "fnExactMoreInOrder", apart := false }
def FnExactMoreInOrderSaid : Prop := fnExactMoreInOrderRow.holds Try.pinned (OpenSpec.ofChange fnExactMoreInOrderSpec)

/-- ITS FALSE NEIGHBOUR: 'it returns false'. Refute it at one input. -/
def fnExactMoreInOrderWrong : ChangeSpec := { name := "fnExactMoreInOrder", fn := fun _ => fun
  | [d1, d2] => { results := [.lit (.bool false)], args := [d1, d2] }
  | _ => none }
def FnExactMoreInOrderWrongFalsely : Prop := fnExactMoreInOrderRow.holds Try.pinned (OpenSpec.ofChange fnExactMoreInOrderWrong)

/-- 'laws.FnExactOtherOf': WHATEVER THE INPUT: true; the input reads as it did. -/
def fnExactOtherOfSpec : ChangeSpec := { name := "fnExactOtherOf", fn := fun _ => fun
  | [d] => { results := [.lit (.bool true)], args := [d] }
  | _ => none }
def fnExactOtherOfRow : OpenClaim := { program := "ytlljlmokikgghaa", sum := "69b7af0414829fdb2d860fe7037d793ce38ba64cb0f659d1bfb1fdac8d6b2367", func := "loop.example/g01365/laws.FnExactOtherOf", spec := "fnExactOtherOf", unfollowed := true, recurses := true, apart := false }
def FnExactOtherOfSaid : Prop := fnExactOtherOfRow.holds Try.pinned (OpenSpec.ofChange fnExactOtherOfSpec)

/-- ITS FALSE NEIGHBOUR: 'it returns false'. Refute it at one input. -/
def fnExactOtherOfWrong : ChangeSpec := { name := "fnExactOtherOf", fn := fun _ => fun
  | [d] => { results := [.lit (.bool false)], args := [d] }
  | _ => none }
def FnExactOtherOfWrongFalsely : Prop := fnExactOtherOfRow.holds Try.pinned (OpenSpec.ofChange fnExactOtherOfWrong)

/-- 'laws.FnExactWithoutPlayer': WHATEVER THE INPUT: true; the input reads as it did. -/
def fnExactWithoutPlayerSpec : ChangeSpec := { name := "fnExactWithoutPlayer", fn := fun _ => fun
  | [d1, d2] => { results := [.lit (.bool true)], args := [d1, d2] }
  | _ => none }
def fnExactWithoutPlayerRow : OpenClaim := { program := "ytlljlmokikgghaa", sum := "69b7af0414829fdb2d860fe7037d793ce38ba64cb0f659d1bfb1fdac8d6b2367", func := "loop.example/g01365/laws.FnExactWithoutPlayer", spec := "fnExactWithoutPlayer", unfollowed := true, recurses := true, apart := false }
def FnExactWithoutPlayerSaid : Prop := fnExactWithoutPlayerRow.holds Try.pinned (OpenSpec.ofChange fnExactWithoutPlayerSpec)

/-- ITS FALSE NEIGHBOUR: 'it returns false'. Refute it at one input. -/
def fnExactWithoutPlayerWrong : ChangeSpec := { name := "fnExactWithoutPlayer", fn := fun _ => fun
  | [d1, d2] => { results := [.lit (.bool false)], args := [d1, d2] }
  | _ => none }
def FnExactWithoutPlayerWrongFalsely : Prop := fnExactWithoutPlayerRow.holds Try.pinned (OpenSpec.ofChange fnExactWithoutPlayerWrong)

/-- 'laws.FnExactWeighWorths': WHATEVER THE INPUT: true; the input reads as it did. -/
def fnExactWeighWorthsSpec : ChangeSpec := { name := "fnExactWeighWorths", fn := fun _ => fun
  | [d1, d2, d3, d4] => { results := [.lit (.bool true)], args := [d1, d2, d3, d4] }
  | _ => none }
def fnExactWeighWorthsRow : OpenClaim := { program := "ytlljlmokikgghaa", sum := "69b7af0414829fdb2d860fe7037d793ce38ba64cb0f659d1bfb1fdac8d6b2367", func := "loop.example/g01365/laws.FnExactWeighWorths", spec := "fnExactWeighWorths", unfollowed := true, recurses := true, apart := false }
def FnExactWeighWorthsSaid : Prop := fnExactWeighWorthsRow.holds Try.pinned (OpenSpec.ofChange fnExactWeighWorthsSpec)

/-- ITS FALSE NEIGHBOUR: 'it returns false'. Refute it at one input. -/
def fnExactWeighWorthsWrong : ChangeSpec := { name := "fnExactWeighWorths", fn := fun _ => fun
  | [d1, d2, d3, d4] => { results := [.lit (.bool false)], args := [d1, d2, d3, d4] }
  | _ => none }
def FnExactWeighWorthsWrongFalsely : Prop := fnExactWeighWorthsRow.holds Try.pinned (OpenSpec.ofChange fnExactWeighWorthsWrong)

/-- 'laws.FnExactDividendsOf': WHATEVER THE INPUT: true; the input reads as it did. -/
def fnExactDividendsOfSpec : ChangeSpec := { name := "fnExactDividendsOf", fn := fun _ => fun
  | [d] => { results := [.lit (.bool true)], args := [d] }
  | _ => none }
def fnExactDividendsOfRow : OpenClaim := { program := "ytlljlmokikgghaa", sum := "69b7af0414829fdb2d860fe7037d793ce38ba64cb0f659d1bfb1fdac8d6b2367", func := "loop.example/g01365/laws.FnExactDividendsOf", spec := "fnExactDividendsOf", apart := false }
def FnExactDividendsOfSaid : Prop := fnExactDividendsOfRow.holds Try.pinned (OpenSpec.ofChange fnExactDividendsOfSpec)

/-- ITS FALSE NEIGHBOUR: 'it returns false'. Refute it at one input. -/
def fnExactDividendsOfWrong : ChangeSpec := { name := "fnExactDividendsOf", fn := fun _ => fun
  | [d] => { results := [.lit (.bool false)], args := [d] }
  | _ => none }
def FnExactDividendsOfWrongFalsely : Prop := fnExactDividendsOfRow.holds Try.pinned (OpenSpec.ofChange fnExactDividendsOfWrong)

/- THE SECOND FORM. 'bulk': how many values and letters a reading holds, each counted each time it is reached (what is shared counts as often as it is met; a slice's spare places count too). A statement '..UptoSaid' is the law's where the arguments, and the package variables that the reading takes, are together of bulk at most 1048576: NARROWER than '..Said'. Prove '..Said' where nothing that the law and all that it calls make is longer than what came in: it says more and counts as full. Else prove '..UptoSaid'. A law counts once. -/
mutual
def uptoBulk {H : Type} : DataW H → Nat
  | .lit (.string bytes) => bytes.length + 1
  | .lit _ => 1
  | .nil => 1
  | .ptr d => uptoBulk d + 1
  | .slice elems spare => uptoBulkAll elems + uptoBulkAll spare + 1
  | .agg parts => uptoBulkAll parts + 1
  | .iface _ d => uptoBulk d + 1
  | .map entries => uptoBulkEntries entries + 1
  | .held _ => 1
def uptoBulkAll {H : Type} : List (DataW H) → Nat
  | [] => 0
  | d :: r => uptoBulk d + uptoBulkAll r
def uptoBulkEntries {H : Type} : List (Lit × DataW H) → Nat
  | [] => 0
  | x :: r => uptoBulkEntry x + uptoBulkEntries r
def uptoBulkEntry {H : Type} : Lit × DataW H → Nat
  | (.string bytes, d) => bytes.length + uptoBulk d + 1
  | (_, d) => uptoBulk d + 1
 end
def uptoSmall : (H : Type) → List (DataW H) → Bool := fun _ ds => decide (uptoBulkAll ds ≤ 1048576)
def OpenSpec.upto (s : _root_.Go.ChangeSpec) : _root_.Go.OpenSpec := { _root_.Go.OpenSpec.ofChange s with cond := some uptoSmall }

/-- 'laws.FnExactIsJoining', WHERE WHAT IT READS IS OF BULK AT MOST 1048576: true; the input reads as it did. -/
def fnExactIsJoiningUptoRow : OpenClaim := { program := "ytlljlmokikgghaa", sum := "69b7af0414829fdb2d860fe7037d793ce38ba64cb0f659d1bfb1fdac8d6b2367", func := "loop.example/g01365/laws.FnExactIsJoining", spec := "fnExactIsJoining", unfollowed := true, recurses := true, apart := false, narrowed := true }
def FnExactIsJoiningUptoSaid : Prop := fnExactIsJoiningUptoRow.holds Try.pinned (OpenSpec.upto fnExactIsJoiningSpec)

/-- 'laws.FnExactIsRising', WHERE WHAT IT READS IS OF BULK AT MOST 1048576: true; the input reads as it did. -/
def fnExactIsRisingUptoRow : OpenClaim := { program := "ytlljlmokikgghaa", sum := "69b7af0414829fdb2d860fe7037d793ce38ba64cb0f659d1bfb1fdac8d6b2367", func := "loop.example/g01365/laws.FnExactIsRising", spec := "fnExactIsRising", unfollowed := true, recurses := true, apart := false, narrowed := true }
def FnExactIsRisingUptoSaid : Prop := fnExactIsRisingUptoRow.holds Try.pinned (OpenSpec.upto fnExactIsRisingSpec)

/-- 'laws.FnExactIsNull', WHERE WHAT IT READS IS OF BULK AT MOST 1048576: true; the input reads as it did. -/
def fnExactIsNullUptoRow : OpenClaim := { program := "ytlljlmokikgghaa", sum := "69b7af0414829fdb2d860fe7037d793ce38ba64cb0f659d1bfb1fdac8d6b2367", func := "loop.example/g01365/laws.FnExactIsNull", spec := "fnExactIsNull", unfollowed := true, recurses := true, apart := false, narrowed := true }
def FnExactIsNullUptoSaid : Prop := fnExactIsNullUptoRow.holds Try.pinned (OpenSpec.upto fnExactIsNullSpec)

/-- 'laws.FnExactAreAlike', WHERE WHAT IT READS IS OF BULK AT MOST 1048576: true; the input reads as it did. -/
def fnExactAreAlikeUptoRow : OpenClaim := { program := "ytlljlmokikgghaa", sum := "69b7af0414829fdb2d860fe7037d793ce38ba64cb0f659d1bfb1fdac8d6b2367", func := "loop.example/g01365/laws.FnExactAreAlike", spec := "fnExactAreAlike", unfollowed := true, recurses := true, apart := false, narrowed := true }
def FnExactAreAlikeUptoSaid : Prop := fnExactAreAlikeUptoRow.holds Try.pinned (OpenSpec.upto fnExactAreAlikeSpec)

/-- 'laws.FnExactSwingsOf', WHERE WHAT IT READS IS OF BULK AT MOST 1048576: true; the input reads as it did. -/
def fnExactSwingsOfUptoRow : OpenClaim := { program := "ytlljlmokikgghaa", sum := "69b7af0414829fdb2d860fe7037d793ce38ba64cb0f659d1bfb1fdac8d6b2367", func := "loop.example/g01365/laws.FnExactSwingsOf", spec := "fnExactSwingsOf", unfollowed := true, recurses := true, apart := false, narrowed := true }
def FnExactSwingsOfUptoSaid : Prop := fnExactSwingsOfUptoRow.holds Try.pinned (OpenSpec.upto fnExactSwingsOfSpec)

/-- 'laws.FnExactSharesOf', WHERE WHAT IT READS IS OF BULK AT MOST 1048576: true; the input reads as it did. -/
def fnExactSharesOfUptoRow : OpenClaim := { program := "ytlljlmokikgghaa", sum := "69b7af0414829fdb2d860fe7037d793ce38ba64cb0f659d1bfb1fdac8d6b2367", func := "loop.example/g01365/laws.FnExactSharesOf", spec := "fnExactSharesOf", unfollowed := true, recurses := true, apart := false, narrowed := true }
def FnExactSharesOfUptoSaid : Prop := fnExactSharesOfUptoRow.holds Try.pinned (OpenSpec.upto fnExactSharesOfSpec)

/-- 'laws.FnExactSharesShared', WHERE WHAT IT READS IS OF BULK AT MOST 1048576: true; the input reads as it did. -/
def fnExactSharesSharedUptoRow : OpenClaim := { program := "ytlljlmokikgghaa", sum := "69b7af0414829fdb2d860fe7037d793ce38ba64cb0f659d1bfb1fdac8d6b2367", func := "loop.example/g01365/laws.FnExactSharesShared", spec := "fnExactSharesShared", unfollowed := true, recurses := true, apart := false, narrowed := true }
def FnExactSharesSharedUptoSaid : Prop := fnExactSharesSharedUptoRow.holds Try.pinned (OpenSpec.upto fnExactSharesSharedSpec)

/-- 'laws.FnExactMoreInOrder', WHERE WHAT IT READS IS OF BULK AT MOST 1048576: true; the input reads as it did. -/
def fnExactMoreInOrderUptoRow : OpenClaim := { program := "ytlljlmokikgghaa", sum := "69b7af0414829fdb2d860fe7037d793ce38ba64cb0f659d1bfb1fdac8d6b2367", func := "loop.example/g01365/laws.FnExactMoreInOrder", spec := "fnExactMoreInOrder", apart := false, narrowed := true }
def FnExactMoreInOrderUptoSaid : Prop := fnExactMoreInOrderUptoRow.holds Try.pinned (OpenSpec.upto fnExactMoreInOrderSpec)

/-- 'laws.FnExactOtherOf', WHERE WHAT IT READS IS OF BULK AT MOST 1048576: true; the input reads as it did. -/
def fnExactOtherOfUptoRow : OpenClaim := { program := "ytlljlmokikgghaa", sum := "69b7af0414829fdb2d860fe7037d793ce38ba64cb0f659d1bfb1fdac8d6b2367", func := "loop.example/g01365/laws.FnExactOtherOf", spec := "fnExactOtherOf", unfollowed := true, recurses := true, apart := false, narrowed := true }
def FnExactOtherOfUptoSaid : Prop := fnExactOtherOfUptoRow.holds Try.pinned (OpenSpec.upto fnExactOtherOfSpec)

/-- 'laws.FnExactWithoutPlayer', WHERE WHAT IT READS IS OF BULK AT MOST 1048576: true; the input reads as it did. -/
def fnExactWithoutPlayerUptoRow : OpenClaim := { program := "ytlljlmokikgghaa", sum := "69b7af0414829fdb2d860fe7037d793ce38ba64cb0f659d1bfb1fdac8d6b2367", func := "loop.example/g01365/laws.FnExactWithoutPlayer", spec := "fnExactWithoutPlayer", unfollowed := true, recurses := true, apart := false, narrowed := true }
def FnExactWithoutPlayerUptoSaid : Prop := fnExactWithoutPlayerUptoRow.holds Try.pinned (OpenSpec.upto fnExactWithoutPlayerSpec)

/-- 'laws.FnExactWeighWorths', WHERE WHAT IT READS IS OF BULK AT MOST 1048576: true; the input reads as it did. -/
def fnExactWeighWorthsUptoRow : OpenClaim := { program := "ytlljlmokikgghaa", sum := "69b7af0414829fdb2d860fe7037d793ce38ba64cb0f659d1bfb1fdac8d6b2367", func := "loop.example/g01365/laws.FnExactWeighWorths", spec := "fnExactWeighWorths", unfollowed := true, recurses := true, apart := false, narrowed := true }
def FnExactWeighWorthsUptoSaid : Prop := fnExactWeighWorthsUptoRow.holds Try.pinned (OpenSpec.upto fnExactWeighWorthsSpec)

/-- 'laws.FnExactDividendsOf', WHERE WHAT IT READS IS OF BULK AT MOST 1048576: true; the input reads as it did. -/
def fnExactDividendsOfUptoRow : OpenClaim := { program := "ytlljlmokikgghaa", sum := "69b7af0414829fdb2d860fe7037d793ce38ba64cb0f659d1bfb1fdac8d6b2367", func := "loop.example/g01365/laws.FnExactDividendsOf", spec := "fnExactDividendsOf", apart := false, narrowed := true }
def FnExactDividendsOfUptoSaid : Prop := fnExactDividendsOfUptoRow.holds Try.pinned (OpenSpec.upto fnExactDividendsOfSpec)

end Rows
end Go.Proofs.Ytlljlmokikgghaa
