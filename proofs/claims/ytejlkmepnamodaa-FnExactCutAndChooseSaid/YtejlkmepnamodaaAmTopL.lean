/-
  Lists of lists that came in: their reading gives an abstract heap. General: no program is named.
-/
import Derived.Test.YtejlkmepnamodaaAmTop
import Derived.Test.YtejlkmepnamodaaAmLists
import Derived.Deep.Matrix
namespace Go.Am
set_option linter.unusedSimpArgs false
set_option linter.unusedVariables false
open Go.RowKit Go.ChangeShapes Go.WideShapes Go.ChangeAt Go.Joins Go.Deep Go.WideElems

variable {H : Type} {enc : TypeId × Value → H} {P : Program}

end Go.Am
