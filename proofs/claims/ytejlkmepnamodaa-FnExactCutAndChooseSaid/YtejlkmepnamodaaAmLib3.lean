/-
  The abstract heap: the greatest and the least, and more plain laws of the chapters. General: no program is named.
-/
import Derived.Test.YtejlkmepnamodaaAmLib2
import Derived.Laws.Small
namespace Go.Am
set_option linter.unusedSimpArgs false
set_option linter.unusedVariables false
section
variable {P : Program} {K : Value → AHeap → Prop} {env : Env} {h : AHeap} {dst : Option Tmp} {ty t : TypeId} {pos : String} {after : Array Edge} {guard : Option (Nat × Bool)} {x y : Operand} {p q : Int}
end

/-! ## Sets of players -/
/-! ## Lists of truth values of one's own -/
section
variable {P : Program} {K : Value → AHeap → Prop} {env : Env} {h : AHeap} {dst : Option Tmp} {ty : TypeId} {pos : String} {after : Array Edge} {guard : Option (Nat × Bool)}
end
/-! ## Parts of things -/
/-! ## Shares by all orders -/
section
variable {P : Program} {K : Value → AHeap → Prop} {env : Env} {h : AHeap} {dst : Option Tmp} {ty t yt : TypeId} {pos : String} {after : Array Edge} {guard : Option (Nat × Bool)} {x y : Operand} {p q : Int} {k ky : IntKind}
end
/-- How many players a set has. -/
def popR : Nat → Nat → Nat
  | 0, _ => 0
  | f + 1, s => s % 2 + popR f (s / 2)
def pop (s : Nat) : Nat := popR 7 s
/-! ## Worths by costs and by votes -/
/-! ## Complaints -/
/-! ## Parts of things, more -/
end Go.Am
