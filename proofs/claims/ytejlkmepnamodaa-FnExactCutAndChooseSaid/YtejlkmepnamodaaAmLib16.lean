/-
  The abstract heap: lists of truth values that are copied; houses in turn. General: no program is named.
-/
import Derived.Test.YtejlkmepnamodaaAmLib15
namespace Go.Am
set_option linter.unusedSimpArgs false
set_option linter.unusedVariables false
section
variable {P : Program} {K : Value → AHeap → Prop} {env : Env} {h : AHeap} {dst : Option Tmp} {ty : TypeId} {pos : String} {after : Array Edge} {guard : Option (Nat × Bool)}
end
end Go.Am
