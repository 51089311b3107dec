/-
  The abstract heap: plain laws of wishes. General: no program is named.
-/
import Derived.Test.YtejlkmepnamodaaAmLib11
import Derived.Test.YtejlkmepnamodaaAmLists
namespace Go.Am
set_option linter.unusedSimpArgs false
set_option linter.unusedVariables false
/-! ## Places in a list -/
def idxI (xs : List Int) (x : Int) : Int := idxTo (fun y => decide (x = y)) xs xs.length
/-! ## Numbers that are there twice -/
def hasAt (xs : List Int) (s : Nat) : Bool := (part xs 0 s).contains (xs.getD s 0)
def inR (n : Int) (x : Int) : Bool := decide (0 ≤ x ∧ x ≤ n - 1)
def rowT (n : Int) (xs : List Int) : Nat → Bool
  | 0 => true
  | t + 1 => rowT n xs t && (inR n (xs.getD t 0) && !hasAt xs t)
def wishL (n : Int) (xs : List Int) : Bool := rowT n xs xs.length
end Go.Am
