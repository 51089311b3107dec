/-
  The abstract heap: plain laws of houses in turn. General: no program is named.
-/
import Derived.Test.YtnfefjofojmokaaAmLib16
namespace Go.Am
set_option linter.unusedSimpArgs false
set_option linter.unusedVariables false
/-! ## Turns -/
theorem idxTo_bnd {g : Int → Bool} {xs : List Int} : ∀ n, -1 ≤ idxTo g xs n ∧ idxTo g xs n < n
  | 0 => by simp [idxTo]
  | n + 1 => by
    have := idxTo_bnd (g := g) (xs := xs) n
    rw [idxTo]; split <;> (try split) <;> omega
/-! ## Lists of lists somewhere in a heap -/
section
variable {P : Program} {K : Value → AHeap → Prop} {env : Env} {h : AHeap} {dst : Option Tmp} {ty : TypeId} {pos : String} {after : Array Edge} {guard : Option (Nat × Bool)}
end
section
variable {P : Program} {ops : Array Oper} {KE : Env → AHeap → Prop} {os : List Oper} {env : Env} {h : AHeap} {d : Option Tmp} {ty : TypeId} {pos : String} {af : Array Edge} {g : Option (Nat × Bool)}
end
end Go.Am
