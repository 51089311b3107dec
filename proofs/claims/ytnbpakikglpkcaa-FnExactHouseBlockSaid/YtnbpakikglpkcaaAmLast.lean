/-
  All texts of the abstract heap together. General: no program is named.
-/
import Derived.Test.YtnbpakikglpkcaaAmLib24
namespace Go.Am
set_option linter.unusedSimpArgs false
set_option linter.unusedVariables false
end Go.Am
