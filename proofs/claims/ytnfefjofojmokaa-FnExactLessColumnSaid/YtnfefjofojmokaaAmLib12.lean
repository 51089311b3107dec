/-
  The abstract heap: plain laws of wishes. General: no program is named.
-/
import Derived.Test.YtnfefjofojmokaaAmLib11
import Derived.Test.YtnfefjofojmokaaAmLists
namespace Go.Am
set_option linter.unusedSimpArgs false
set_option linter.unusedVariables false
/-! ## Places in a list -/
/-! ## Numbers that are there twice -/
end Go.Am
