/-
  The abstract heap: plain laws of all ways to give things. General: no program is named.
-/
import Derived.Test.YtejlkmepnamodaaAmLib6
namespace Go.Am
set_option linter.unusedSimpArgs false
set_option linter.unusedVariables false

end Go.Am
