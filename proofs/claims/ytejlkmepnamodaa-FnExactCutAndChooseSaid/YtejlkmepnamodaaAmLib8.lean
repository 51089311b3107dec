/-
  The abstract heap: plain laws of trees. General: no program is named.
-/
import Derived.Test.YtejlkmepnamodaaAmLib7
namespace Go.Am
set_option linter.unusedSimpArgs false
set_option linter.unusedVariables false

/-! ## Ways between places -/
/-! ## The least part, more -/
end Go.Am
