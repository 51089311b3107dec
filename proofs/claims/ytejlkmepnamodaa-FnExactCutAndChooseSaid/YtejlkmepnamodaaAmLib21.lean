/-
  The abstract heap: the walks' view of things handed round. General: no program is named.
-/
import Derived.Test.YtejlkmepnamodaaAmLib20
namespace Go.Am
set_option linter.unusedSimpArgs false
set_option linter.unusedVariables false

/-! ## The ring in the walks -/
end Go.Am
