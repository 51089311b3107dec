/-
  The abstract heap: what the walks of houses by rings need. General: no program is named.
-/
import Derived.Test.YtejlkmepnamodaaAmLib22
namespace Go.Am
set_option linter.unusedSimpArgs false
set_option linter.unusedVariables false
end Go.Am
