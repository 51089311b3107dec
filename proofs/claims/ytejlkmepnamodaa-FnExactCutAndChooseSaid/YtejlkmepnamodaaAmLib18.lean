/-
  The abstract heap: lists of lists that are appended to; copies of empty lists. General: no program is named.
-/
import Derived.Test.YtejlkmepnamodaaAmLib17
namespace Go.Am
set_option linter.unusedSimpArgs false
set_option linter.unusedVariables false

section
variable {P : Program} {K : Value → AHeap → Prop} {env : Env} {h : AHeap} {dst : Option Tmp} {ty : TypeId} {pos : String} {after : Array Edge} {guard : Option (Nat × Bool)}
end

/-! ## Lists of lists whose rows lie anywhere -/
def rvals (r : Nat → Nat) (xss : List (List Int)) (s : Nat) : List Value := (List.range s).map fun i => sl (r i) (rowAt xss i).length
structure OwnS (b : Nat) (H : AHeap) (kO : Nat) (xss : List (List Int)) (s : Nat) (r : Nat → Nat) : Prop where
  out : H[kO]? = some (vls (rvals r xss s))
  low : b ≤ kO
  row : ∀ i, i < s → b ≤ r i ∧ r i ≠ kO ∧ H[r i]? = some (lst (rowAt xss i))
  inj : ∀ i j, i < s → j < s → r i = r j → i = j
section
variable {P : Program} {K : Value → AHeap → Prop} {env : Env} {h : AHeap} {dst : Option Tmp} {ty : TypeId} {pos : String} {after : Array Edge} {guard : Option (Nat × Bool)}
end

/-! ## Results with lists of lists, or none -/
/-! ## Marks of two lists of lists -/
end Go.Am
