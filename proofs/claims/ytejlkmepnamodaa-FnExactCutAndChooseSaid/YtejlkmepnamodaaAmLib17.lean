/-
  The abstract heap: plain laws of houses in turn. General: no program is named.
-/
import Derived.Test.YtejlkmepnamodaaAmLib16
namespace Go.Am
set_option linter.unusedSimpArgs false
set_option linter.unusedVariables false
def hrow (n : Int) (xss : List (List Int)) (s : Nat) : Bool := wishL n (rowAt xss s) && decide (((rowAt xss s).length : Int) = n)
def okH (xss : List (List Int)) : Bool := decide (1 ≤ (xss.length : Int) ∧ (xss.length : Int) ≤ 8) && (List.range xss.length).all (hrow xss.length xss)
/-! ## Turns -/
def freeB (L : List Bool) : Nat := L.countP id
/-! ## Lists of lists somewhere in a heap -/
section
variable {P : Program} {K : Value → AHeap → Prop} {env : Env} {h : AHeap} {dst : Option Tmp} {ty : TypeId} {pos : String} {after : Array Edge} {guard : Option (Nat × Bool)}
end
section
variable {P : Program} {ops : Array Oper} {KE : Env → AHeap → Prop} {os : List Oper} {env : Env} {h : AHeap} {d : Option Tmp} {ty : TypeId} {pos : String} {af : Array Edge} {g : Option (Nat × Bool)}
end
end Go.Am
