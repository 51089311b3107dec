/-
  No cell of these rows narrows 'for every input' (looked for: loops, veiled, ifaces, maps, wideKeys, modest, calm, conditions, laid).
  DERIVED. THE GIVEN ROWS OF THIS SEAT. 10 by the template 'for every input the law returns true; each argument reads behind the call as it read before'; 0 by the template 'total and deterministic' (their statements: YtnfefjofojmokaaTotals.lean).
  GIVEN WITH THE SEED: the statements are not yours to turn. If you find one false, say at which input.
  Laid BY PROGRAM, IN A SANDBOX (cutbox-rows.mjs): the forced cells as the released guide's own fill.sh prints them over the translation 04e5f4549b179a18… (all of the seat's roots in one cut). By AI agents, Wed Nov 11 2026. No macro, syntax, notation, axiom, sorry.
-/
import Derived.Test.YtnfefjofojmokaaChecked
import GoSem.Claim
import GoSem.ClaimJoined
import GoSem.ClaimMapViews
import Derived.JoinedTies
import Derived.KernelRfl
namespace Go.Proofs.Ytnfefjofojmokaa
/- THE CELL 'sum', in the pinned program and in every row, IS THE sha256 OF THE DUMP (.gsa) THAT YtnfefjofojmokaaProg.lean LOADS. Nothing in Lean hashes anything: it is a label: what it is worth is what the hold of that sum in a sandbox is worth. -/
noncomputable def Try.pinned : Pinned := { name := "ytnfefjofojmokaa", sum := "04e5f4549b179a1845b50f615b5582ab55da14cb5bd3b55e240eba1332865bfd", checked := Try.checked }
namespace Rows
def none {H : Type} : Left H := { results := [], args := [] }

/-- 'laws.FnExactSameWishes': WHATEVER THE INPUT: true; the input reads as it did. -/
def fnExactSameWishesSpec : ChangeSpec := { name := "fnExactSameWishes", fn := fun _ => fun
  | [d1, d2] => { results := [.lit (.bool true)], args := [d1, d2] }
  | _ => none }
def fnExactSameWishesRow : OpenClaim := { program := "ytnfefjofojmokaa", sum := "04e5f4549b179a1845b50f615b5582ab55da14cb5bd3b55e240eba1332865bfd", func := "loop.example/g01365/laws.FnExactSameWishes", spec := "fnExactSameWishes", unfollowed := true, recurses := true, apart := false }
def FnExactSameWishesSaid : Prop := fnExactSameWishesRow.holds Try.pinned (OpenSpec.ofChange fnExactSameWishesSpec)

/-- ITS FALSE NEIGHBOUR: 'it returns false'. Refute it at one input. -/
def fnExactSameWishesWrong : ChangeSpec := { name := "fnExactSameWishes", fn := fun _ => fun
  | [d1, d2] => { results := [.lit (.bool false)], args := [d1, d2] }
  | _ => none }
def FnExactSameWishesWrongFalsely : Prop := fnExactSameWishesRow.holds Try.pinned (OpenSpec.ofChange fnExactSameWishesWrong)

/-- 'laws.FnExactValidWishes': WHATEVER THE INPUT: true; the input reads as it did. -/
def fnExactValidWishesSpec : ChangeSpec := { name := "fnExactValidWishes", fn := fun _ => fun
  | [d] => { results := [.lit (.bool true)], args := [d] }
  | _ => none }
def fnExactValidWishesRow : OpenClaim := { program := "ytnfefjofojmokaa", sum := "04e5f4549b179a1845b50f615b5582ab55da14cb5bd3b55e240eba1332865bfd", func := "loop.example/g01365/laws.FnExactValidWishes", spec := "fnExactValidWishes", apart := false }
def FnExactValidWishesSaid : Prop := fnExactValidWishesRow.holds Try.pinned (OpenSpec.ofChange fnExactValidWishesSpec)

/-- ITS FALSE NEIGHBOUR: 'it returns false'. Refute it at one input. -/
def fnExactValidWishesWrong : ChangeSpec := { name := "fnExactValidWishes", fn := fun _ => fun
  | [d] => { results := [.lit (.bool false)], args := [d] }
  | _ => none }
def FnExactValidWishesWrongFalsely : Prop := fnExactValidWishesRow.holds Try.pinned (OpenSpec.ofChange fnExactValidWishesWrong)

/-- 'laws.FnExactAreRooms': WHATEVER THE INPUT: true; the input reads as it did. -/
def fnExactAreRoomsSpec : ChangeSpec := { name := "fnExactAreRooms", fn := fun _ => fun
  | [d1, d2] => { results := [.lit (.bool true)], args := [d1, d2] }
  | _ => none }
def fnExactAreRoomsRow : OpenClaim := { program := "ytnfefjofojmokaa", sum := "04e5f4549b179a1845b50f615b5582ab55da14cb5bd3b55e240eba1332865bfd", func := "loop.example/g01365/laws.FnExactAreRooms", spec := "fnExactAreRooms", apart := false }
def FnExactAreRoomsSaid : Prop := fnExactAreRoomsRow.holds Try.pinned (OpenSpec.ofChange fnExactAreRoomsSpec)

/-- ITS FALSE NEIGHBOUR: 'it returns false'. Refute it at one input. -/
def fnExactAreRoomsWrong : ChangeSpec := { name := "fnExactAreRooms", fn := fun _ => fun
  | [d1, d2] => { results := [.lit (.bool false)], args := [d1, d2] }
  | _ => none }
def FnExactAreRoomsWrongFalsely : Prop := fnExactAreRoomsRow.holds Try.pinned (OpenSpec.ofChange fnExactAreRoomsWrong)

/-- 'laws.FnExactHouseTurns': WHATEVER THE INPUT: true; the input reads as it did. -/
def fnExactHouseTurnsSpec : ChangeSpec := { name := "fnExactHouseTurns", fn := fun _ => fun
  | [d1, d2] => { results := [.lit (.bool true)], args := [d1, d2] }
  | _ => none }
def fnExactHouseTurnsRow : OpenClaim := { program := "ytnfefjofojmokaa", sum := "04e5f4549b179a1845b50f615b5582ab55da14cb5bd3b55e240eba1332865bfd", func := "loop.example/g01365/laws.FnExactHouseTurns", spec := "fnExactHouseTurns", unfollowed := true, recurses := true, apart := false }
def FnExactHouseTurnsSaid : Prop := fnExactHouseTurnsRow.holds Try.pinned (OpenSpec.ofChange fnExactHouseTurnsSpec)

/-- ITS FALSE NEIGHBOUR: 'it returns false'. Refute it at one input. -/
def fnExactHouseTurnsWrong : ChangeSpec := { name := "fnExactHouseTurns", fn := fun _ => fun
  | [d1, d2] => { results := [.lit (.bool false)], args := [d1, d2] }
  | _ => none }
def FnExactHouseTurnsWrongFalsely : Prop := fnExactHouseTurnsRow.holds Try.pinned (OpenSpec.ofChange fnExactHouseTurnsWrong)

/-- 'laws.FnExactTurnWishes': WHATEVER THE INPUT: true; the input reads as it did. -/
def fnExactTurnWishesSpec : ChangeSpec := { name := "fnExactTurnWishes", fn := fun _ => fun
  | [d] => { results := [.lit (.bool true)], args := [d] }
  | _ => none }
def fnExactTurnWishesRow : OpenClaim := { program := "ytnfefjofojmokaa", sum := "04e5f4549b179a1845b50f615b5582ab55da14cb5bd3b55e240eba1332865bfd", func := "loop.example/g01365/laws.FnExactTurnWishes", spec := "fnExactTurnWishes", apart := false }
def FnExactTurnWishesSaid : Prop := fnExactTurnWishesRow.holds Try.pinned (OpenSpec.ofChange fnExactTurnWishesSpec)

/-- ITS FALSE NEIGHBOUR: 'it returns false'. Refute it at one input. -/
def fnExactTurnWishesWrong : ChangeSpec := { name := "fnExactTurnWishes", fn := fun _ => fun
  | [d] => { results := [.lit (.bool false)], args := [d] }
  | _ => none }
def FnExactTurnWishesWrongFalsely : Prop := fnExactTurnWishesRow.holds Try.pinned (OpenSpec.ofChange fnExactTurnWishesWrong)

/-- 'laws.FnExactGiveRings': WHATEVER THE INPUT: true; the input reads as it did. -/
def fnExactGiveRingsSpec : ChangeSpec := { name := "fnExactGiveRings", fn := fun _ => fun
  | [d1, d2] => { results := [.lit (.bool true)], args := [d1, d2] }
  | _ => none }
def fnExactGiveRingsRow : OpenClaim := { program := "ytnfefjofojmokaa", sum := "04e5f4549b179a1845b50f615b5582ab55da14cb5bd3b55e240eba1332865bfd", func := "loop.example/g01365/laws.FnExactGiveRings", spec := "fnExactGiveRings", unfollowed := true, recurses := true, apart := false }
def FnExactGiveRingsSaid : Prop := fnExactGiveRingsRow.holds Try.pinned (OpenSpec.ofChange fnExactGiveRingsSpec)

/-- ITS FALSE NEIGHBOUR: 'it returns false'. Refute it at one input. -/
def fnExactGiveRingsWrong : ChangeSpec := { name := "fnExactGiveRings", fn := fun _ => fun
  | [d1, d2] => { results := [.lit (.bool false)], args := [d1, d2] }
  | _ => none }
def FnExactGiveRingsWrongFalsely : Prop := fnExactGiveRingsRow.holds Try.pinned (OpenSpec.ofChange fnExactGiveRingsWrong)

/-- 'laws.FnExactHouseBlock': WHATEVER THE INPUT: true; the input reads as it did. -/
def fnExactHouseBlockSpec : ChangeSpec := { name := "fnExactHouseBlock", fn := fun _ => fun
  | [d1, d2] => { results := [.lit (.bool true)], args := [d1, d2] }
  | _ => none }
def fnExactHouseBlockRow : OpenClaim := { program := "ytnfefjofojmokaa", sum := "04e5f4549b179a1845b50f615b5582ab55da14cb5bd3b55e240eba1332865bfd", func := "loop.example/g01365/laws.FnExactHouseBlock", spec := "fnExactHouseBlock", unfollowed := true, recurses := true, apart := false }
def FnExactHouseBlockSaid : Prop := fnExactHouseBlockRow.holds Try.pinned (OpenSpec.ofChange fnExactHouseBlockSpec)

/-- ITS FALSE NEIGHBOUR: 'it returns false'. Refute it at one input. -/
def fnExactHouseBlockWrong : ChangeSpec := { name := "fnExactHouseBlock", fn := fun _ => fun
  | [d1, d2] => { results := [.lit (.bool false)], args := [d1, d2] }
  | _ => none }
def FnExactHouseBlockWrongFalsely : Prop := fnExactHouseBlockRow.holds Try.pinned (OpenSpec.ofChange fnExactHouseBlockWrong)

/-- 'laws.FnExactHouseRounds': WHATEVER THE INPUT: true; the input reads as it did. -/
def fnExactHouseRoundsSpec : ChangeSpec := { name := "fnExactHouseRounds", fn := fun _ => fun
  | [d] => { results := [.lit (.bool true)], args := [d] }
  | _ => none }
def fnExactHouseRoundsRow : OpenClaim := { program := "ytnfefjofojmokaa", sum := "04e5f4549b179a1845b50f615b5582ab55da14cb5bd3b55e240eba1332865bfd", func := "loop.example/g01365/laws.FnExactHouseRounds", spec := "fnExactHouseRounds", unfollowed := true, recurses := true, apart := false }
def FnExactHouseRoundsSaid : Prop := fnExactHouseRoundsRow.holds Try.pinned (OpenSpec.ofChange fnExactHouseRoundsSpec)

/-- ITS FALSE NEIGHBOUR: 'it returns false'. Refute it at one input. -/
def fnExactHouseRoundsWrong : ChangeSpec := { name := "fnExactHouseRounds", fn := fun _ => fun
  | [d] => { results := [.lit (.bool false)], args := [d] }
  | _ => none }
def FnExactHouseRoundsWrongFalsely : Prop := fnExactHouseRoundsRow.holds Try.pinned (OpenSpec.ofChange fnExactHouseRoundsWrong)

/-- 'laws.FnExactLessRow': WHATEVER THE INPUT: true; the input reads as it did. -/
def fnExactLessRowSpec : ChangeSpec := { name := "fnExactLessRow", fn := fun _ => fun
  | [d1, d2] => { results := [.lit (.bool true)], args := [d1, d2] }
  | _ => none }
def fnExactLessRowRow : OpenClaim := { program := "ytnfefjofojmokaa", sum := "04e5f4549b179a1845b50f615b5582ab55da14cb5bd3b55e240eba1332865bfd", func := "loop.example/g01365/laws.FnExactLessRow", spec := "fnExactLessRow", unfollowed := true, recurses := true, apart := false }
def FnExactLessRowSaid : Prop := fnExactLessRowRow.holds Try.pinned (OpenSpec.ofChange fnExactLessRowSpec)

/-- ITS FALSE NEIGHBOUR: 'it returns false'. Refute it at one input. -/
def fnExactLessRowWrong : ChangeSpec := { name := "fnExactLessRow", fn := fun _ => fun
  | [d1, d2] => { results := [.lit (.bool false)], args := [d1, d2] }
  | _ => none }
def FnExactLessRowWrongFalsely : Prop := fnExactLessRowRow.holds Try.pinned (OpenSpec.ofChange fnExactLessRowWrong)

/-- 'laws.FnExactLessColumn': WHATEVER THE INPUT: true; the input reads as it did. -/
def fnExactLessColumnSpec : ChangeSpec := { name := "fnExactLessColumn", fn := fun _ => fun
  | [d1, d2] => { results := [.lit (.bool true)], args := [d1, d2] }
  | _ => none }
def fnExactLessColumnRow : OpenClaim := { program := "ytnfefjofojmokaa", sum := "04e5f4549b179a1845b50f615b5582ab55da14cb5bd3b55e240eba1332865bfd", func := "loop.example/g01365/laws.FnExactLessColumn", spec := "fnExactLessColumn", unfollowed := true, recurses := true, apart := false }
def FnExactLessColumnSaid : Prop := fnExactLessColumnRow.holds Try.pinned (OpenSpec.ofChange fnExactLessColumnSpec)

/-- ITS FALSE NEIGHBOUR: 'it returns false'. Refute it at one input. -/
def fnExactLessColumnWrong : ChangeSpec := { name := "fnExactLessColumn", fn := fun _ => fun
  | [d1, d2] => { results := [.lit (.bool false)], args := [d1, d2] }
  | _ => none }
def FnExactLessColumnWrongFalsely : Prop := fnExactLessColumnRow.holds Try.pinned (OpenSpec.ofChange fnExactLessColumnWrong)

/- THE SECOND FORM. 'bulk': how many values and letters a reading holds, each counted each time it is reached (what is shared counts as often as it is met; a slice's spare places count too). A statement '..UptoSaid' is the law's where the arguments, and the package variables that the reading takes, are together of bulk at most 1048576: NARROWER than '..Said'. Prove '..Said' where nothing that the law and all that it calls make is longer than what came in: it says more and counts as full. Else prove '..UptoSaid'. A law counts once. -/
mutual
def uptoBulk {H : Type} : DataW H → Nat
  | .lit (.string bytes) => bytes.length + 1
  | .lit _ => 1
  | .nil => 1
  | .ptr d => uptoBulk d + 1
  | .slice elems spare => uptoBulkAll elems + uptoBulkAll spare + 1
  | .agg parts => uptoBulkAll parts + 1
  | .iface _ d => uptoBulk d + 1
  | .map entries => uptoBulkEntries entries + 1
  | .held _ => 1
def uptoBulkAll {H : Type} : List (DataW H) → Nat
  | [] => 0
  | d :: r => uptoBulk d + uptoBulkAll r
def uptoBulkEntries {H : Type} : List (Lit × DataW H) → Nat
  | [] => 0
  | x :: r => uptoBulkEntry x + uptoBulkEntries r
def uptoBulkEntry {H : Type} : Lit × DataW H → Nat
  | (.string bytes, d) => bytes.length + uptoBulk d + 1
  | (_, d) => uptoBulk d + 1
 end
def uptoSmall : (H : Type) → List (DataW H) → Bool := fun _ ds => decide (uptoBulkAll ds ≤ 1048576)
def OpenSpec.upto (s : _root_.Go.ChangeSpec) : _root_.Go.OpenSpec := { _root_.Go.OpenSpec.ofChange s with cond := some uptoSmall }

/-- 'laws.FnExactSameWishes', WHERE WHAT IT READS IS OF BULK AT MOST 1048576: true; the input reads as it did. -/
def fnExactSameWishesUptoRow : OpenClaim := { program := "ytnfefjofojmokaa", sum := "04e5f4549b179a1845b50f615b5582ab55da14cb5bd3b55e240eba1332865bfd", func := "loop.example/g01365/laws.FnExactSameWishes", spec := "fnExactSameWishes", unfollowed := true, recurses := true, apart := false, narrowed := true }
def FnExactSameWishesUptoSaid : Prop := fnExactSameWishesUptoRow.holds Try.pinned (OpenSpec.upto fnExactSameWishesSpec)

/-- 'laws.FnExactValidWishes', WHERE WHAT IT READS IS OF BULK AT MOST 1048576: true; the input reads as it did. -/
def fnExactValidWishesUptoRow : OpenClaim := { program := "ytnfefjofojmokaa", sum := "04e5f4549b179a1845b50f615b5582ab55da14cb5bd3b55e240eba1332865bfd", func := "loop.example/g01365/laws.FnExactValidWishes", spec := "fnExactValidWishes", apart := false, narrowed := true }
def FnExactValidWishesUptoSaid : Prop := fnExactValidWishesUptoRow.holds Try.pinned (OpenSpec.upto fnExactValidWishesSpec)

/-- 'laws.FnExactAreRooms', WHERE WHAT IT READS IS OF BULK AT MOST 1048576: true; the input reads as it did. -/
def fnExactAreRoomsUptoRow : OpenClaim := { program := "ytnfefjofojmokaa", sum := "04e5f4549b179a1845b50f615b5582ab55da14cb5bd3b55e240eba1332865bfd", func := "loop.example/g01365/laws.FnExactAreRooms", spec := "fnExactAreRooms", apart := false, narrowed := true }
def FnExactAreRoomsUptoSaid : Prop := fnExactAreRoomsUptoRow.holds Try.pinned (OpenSpec.upto fnExactAreRoomsSpec)

/-- 'laws.FnExactHouseTurns', WHERE WHAT IT READS IS OF BULK AT MOST 1048576: true; the input reads as it did. -/
def fnExactHouseTurnsUptoRow : OpenClaim := { program := "ytnfefjofojmokaa", sum := "04e5f4549b179a1845b50f615b5582ab55da14cb5bd3b55e240eba1332865bfd", func := "loop.example/g01365/laws.FnExactHouseTurns", spec := "fnExactHouseTurns", unfollowed := true, recurses := true, apart := false, narrowed := true }
def FnExactHouseTurnsUptoSaid : Prop := fnExactHouseTurnsUptoRow.holds Try.pinned (OpenSpec.upto fnExactHouseTurnsSpec)

/-- 'laws.FnExactTurnWishes', WHERE WHAT IT READS IS OF BULK AT MOST 1048576: true; the input reads as it did. -/
def fnExactTurnWishesUptoRow : OpenClaim := { program := "ytnfefjofojmokaa", sum := "04e5f4549b179a1845b50f615b5582ab55da14cb5bd3b55e240eba1332865bfd", func := "loop.example/g01365/laws.FnExactTurnWishes", spec := "fnExactTurnWishes", apart := false, narrowed := true }
def FnExactTurnWishesUptoSaid : Prop := fnExactTurnWishesUptoRow.holds Try.pinned (OpenSpec.upto fnExactTurnWishesSpec)

/-- 'laws.FnExactGiveRings', WHERE WHAT IT READS IS OF BULK AT MOST 1048576: true; the input reads as it did. -/
def fnExactGiveRingsUptoRow : OpenClaim := { program := "ytnfefjofojmokaa", sum := "04e5f4549b179a1845b50f615b5582ab55da14cb5bd3b55e240eba1332865bfd", func := "loop.example/g01365/laws.FnExactGiveRings", spec := "fnExactGiveRings", unfollowed := true, recurses := true, apart := false, narrowed := true }
def FnExactGiveRingsUptoSaid : Prop := fnExactGiveRingsUptoRow.holds Try.pinned (OpenSpec.upto fnExactGiveRingsSpec)

/-- 'laws.FnExactHouseBlock', WHERE WHAT IT READS IS OF BULK AT MOST 1048576: true; the input reads as it did. -/
def fnExactHouseBlockUptoRow : OpenClaim := { program := "ytnfefjofojmokaa", sum := "04e5f4549b179a1845b50f615b5582ab55da14cb5bd3b55e240eba1332865bfd", func := "loop.example/g01365/laws.FnExactHouseBlock", spec := "fnExactHouseBlock", unfollowed := true, recurses := true, apart := false, narrowed := true }
def FnExactHouseBlockUptoSaid : Prop := fnExactHouseBlockUptoRow.holds Try.pinned (OpenSpec.upto fnExactHouseBlockSpec)

/-- 'laws.FnExactHouseRounds', WHERE WHAT IT READS IS OF BULK AT MOST 1048576: true; the input reads as it did. -/
def fnExactHouseRoundsUptoRow : OpenClaim := { program := "ytnfefjofojmokaa", sum := "04e5f4549b179a1845b50f615b5582ab55da14cb5bd3b55e240eba1332865bfd", func := "loop.example/g01365/laws.FnExactHouseRounds", spec := "fnExactHouseRounds", unfollowed := true, recurses := true, apart := false, narrowed := true }
def FnExactHouseRoundsUptoSaid : Prop := fnExactHouseRoundsUptoRow.holds Try.pinned (OpenSpec.upto fnExactHouseRoundsSpec)

/-- 'laws.FnExactLessRow', WHERE WHAT IT READS IS OF BULK AT MOST 1048576: true; the input reads as it did. -/
def fnExactLessRowUptoRow : OpenClaim := { program := "ytnfefjofojmokaa", sum := "04e5f4549b179a1845b50f615b5582ab55da14cb5bd3b55e240eba1332865bfd", func := "loop.example/g01365/laws.FnExactLessRow", spec := "fnExactLessRow", unfollowed := true, recurses := true, apart := false, narrowed := true }
def FnExactLessRowUptoSaid : Prop := fnExactLessRowUptoRow.holds Try.pinned (OpenSpec.upto fnExactLessRowSpec)

/-- 'laws.FnExactLessColumn', WHERE WHAT IT READS IS OF BULK AT MOST 1048576: true; the input reads as it did. -/
def fnExactLessColumnUptoRow : OpenClaim := { program := "ytnfefjofojmokaa", sum := "04e5f4549b179a1845b50f615b5582ab55da14cb5bd3b55e240eba1332865bfd", func := "loop.example/g01365/laws.FnExactLessColumn", spec := "fnExactLessColumn", unfollowed := true, recurses := true, apart := false, narrowed := true }
def FnExactLessColumnUptoSaid : Prop := fnExactLessColumnUptoRow.holds Try.pinned (OpenSpec.upto fnExactLessColumnSpec)

end Rows
end Go.Proofs.Ytnfefjofojmokaa
