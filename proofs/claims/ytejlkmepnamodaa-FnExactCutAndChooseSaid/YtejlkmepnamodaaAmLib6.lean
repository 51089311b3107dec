/-
  The abstract heap: plain laws of the kernel's step. General: no program is named.
-/
import Derived.Test.YtejlkmepnamodaaAmLib5
namespace Go.Am
set_option linter.unusedSimpArgs false
set_option linter.unusedVariables false

end Go.Am
