/-
  The abstract heap: plain laws of friends and rooms. General: no program is named.
-/
import Derived.Test.YtnfefjofojmokaaAmLib14
namespace Go.Am
set_option linter.unusedSimpArgs false
set_option linter.unusedVariables false
/-! ## Places -/
/-! ## Orders -/
/-! ## Lists without repetition -/
/-! ## Friends -/
/-! ## Rooms -/
end Go.Am
