/-
  The abstract heap: plain laws of things handed round until nobody envies. General: no program is named.
-/
import Derived.Test.YtejlkmepnamodaaAmLib19
namespace Go.Am
set_option linter.unusedSimpArgs false
set_option linter.unusedVariables false

/-! ## Rounds of a map -/
/-! ## Parts, without bounds -/
/-! ## Who envies, who is free of it -/
/-! ## Turns until somebody is free -/
end Go.Am
