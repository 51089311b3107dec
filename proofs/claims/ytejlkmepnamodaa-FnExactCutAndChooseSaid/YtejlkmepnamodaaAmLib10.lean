/-
  The abstract heap: plain laws of weighed worths. General: no program is named.
-/
import Derived.Test.YtejlkmepnamodaaAmLib9
import Derived.Test.YtejlkmepnamodaaAmSink3
namespace Go.Am
set_option linter.unusedSimpArgs false
set_option linter.unusedVariables false
section
variable {P : Program} {ops : Array Oper} {KE : Env → AHeap → Prop} {env : Env} {h : AHeap} {d : Option Tmp} {ty : TypeId} {pos : String} {af : Array Edge} {g : Option (Nat × Bool)} {os : List Oper}
end

/-! ## Weighed worths -/
end Go.Am
