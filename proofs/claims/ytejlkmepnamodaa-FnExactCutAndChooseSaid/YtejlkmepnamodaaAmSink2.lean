/-
  The abstract heap: a region that draws its order and ends with 'append, the place, the store': the append comes after all ahead of it; the place may come at any time. General: no program is named.
-/
import Derived.Test.YtejlkmepnamodaaAmSink
namespace Go.Am
set_option linter.unusedSimpArgs false
set_option linter.unusedVariables false
open Go.RowKit
theorem AOp.congr {P : Program} {o : Oper} {K : Value → AHeap → Prop} {env env' : Env} {h : AHeap} (he : ∀ x ∈ o.op.operands.toList, aeval env x = aeval env' x) (a : AOp P o K env h) : AOp P o K env' h :=
  fun m w x hr hop => a m w x hr fun y hy => by rw [he y hy]; exact hop y hy

end Go.Am
