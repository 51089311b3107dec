/-
  The abstract heap: plain laws of parts of things, of envy and of rents. General: no program is named.
-/
import Derived.Test.YtnfefjofojmokaaAmLib3
namespace Go.Am
set_option linter.unusedSimpArgs false
set_option linter.unusedVariables false

/-! ## Even shares -/
/-! ## The greatest of a list -/
/-! ## Rents -/
end Go.Am
