/-
  The abstract heap: plain laws of friends and rooms. General: no program is named.
-/
import Derived.Test.YtejlkmepnamodaaAmLib14
namespace Go.Am
set_option linter.unusedSimpArgs false
set_option linter.unusedVariables false
/-! ## Places -/
def plc (xs : List Int) (x : Int) : Int := if 0 ≤ idxI xs x then idxI xs x else xs.length
/-! ## Orders -/
/-! ## Lists without repetition -/
/-! ## Friends -/
/-! ## Rooms -/
end Go.Am
