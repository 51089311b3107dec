/-
  All texts of the abstract heap together. General: no program is named.
-/
import Derived.Test.YtejlkmepnamodaaAmLib24
import Derived.Test.YtejlkmepnamodaaAmFlt8
namespace Go.Am
set_option linter.unusedSimpArgs false
set_option linter.unusedVariables false
end Go.Am
