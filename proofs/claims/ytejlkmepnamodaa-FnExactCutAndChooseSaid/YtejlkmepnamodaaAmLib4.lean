/-
  The abstract heap: plain laws of parts of things, of envy and of rents. General: no program is named.
-/
import Derived.Test.YtejlkmepnamodaaAmLib3
namespace Go.Am
set_option linter.unusedSimpArgs false
set_option linter.unusedVariables false

/-! ## Even shares -/
theorem part_get {xs : List Int} {l r k : Nat} (hk : k < r - l) : (part xs l r).getD k 0 = xs.getD (l + k) 0 := by
  rw [part, List.getD_eq_getElem?_getD, List.getD_eq_getElem?_getD, List.getElem?_take_of_lt hk, List.getElem?_drop]
/-! ## The greatest of a list -/
/-! ## Rents -/
end Go.Am
