/-
  The abstract heap: a region that draws its order, and whose last op (a store, say) comes after all others in each order. General: no program is named.
-/
import Derived.Test.YtejlkmepnamodaaAmDraw
namespace Go.Am
set_option linter.unusedSimpArgs false
set_option linter.unusedVariables false
open Go.RowKit
end Go.Am
