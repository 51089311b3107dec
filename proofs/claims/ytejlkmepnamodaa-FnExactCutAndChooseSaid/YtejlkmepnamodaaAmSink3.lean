/-
  The abstract heap: a region that draws its order, in which one operation changes what is there: all ahead of it come first, but for one that only reads slots; all behind it come last, in their order. General: no program is named.
-/
import Derived.Test.YtejlkmepnamodaaAmSink2
namespace Go.Am
set_option linter.unusedSimpArgs false
set_option linter.unusedVariables false
open Go.RowKit
def noSlot (dE : Tmp) (o : Oper) : Bool := o.op.operands.toList.all fun x => match x with | .tmp t => decide (t ≠ dE) | _ => true
theorem AOp.but {P : Program} {o : Oper} {dE : Tmp} {K : Value → AHeap → Prop} {env env' : Env} {h : AHeap} (hn : noSlot dE o = true) (he : ∀ t, t ≠ dE → env t = env' t) (a : AOp P o K env h) : AOp P o K env' h :=
  AOp.congr (fun x hx => by
    have := List.all_eq_true.1 hn x hx
    cases x with
    | tmp t =>
      simp only [decide_eq_true_eq] at this
      exact he t this
    | _ => rfl) a

end Go.Am
