/-
  The abstract heap: plain laws of the greatest product. General: no program is named.
-/
import Derived.Test.YtejlkmepnamodaaAmLib13
namespace Go.Am
set_option linter.unusedSimpArgs false
set_option linter.unusedVariables false
section
variable {p q : Int} {xs : List Int} {F : List Int → Int}
end
end Go.Am
