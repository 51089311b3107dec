/-
  The abstract heap: plain laws of the best way to give things. General: no program is named.
-/
import Derived.Test.YtejlkmepnamodaaAmLib12
namespace Go.Am
set_option linter.unusedSimpArgs false
set_option linter.unusedVariables false
section
variable {P : Program} {K : Value → AHeap → Prop} {env : Env} {h : AHeap} {dst : Option Tmp} {ty : TypeId} {pos : String} {after : Array Edge} {guard : Option (Nat × Bool)}
end
/-! ## The best so far -/
section
variable (p q : Int) (xs : List Int) (F : List Int → Int)
end
section
variable {p q : Int} {xs : List Int} {F : List Int → Int}
end

/-! ## Parts have a bound -/
theorem within_func0 {n : Nat} {f : Fn} : Within n (.func f #[] #[]) := .func (fun i h => by simp at h) fun i h => by simp at h
/-! ## The heap while the best is sought -/
section
variable (h : AHeap) (BX FB : AObj) (p q : Int) (xs : List Int) (F : List Int → Int)
end
section
variable {h : AHeap} {BX FB : AObj} {p q : Int} {xs : List Int} {F : List Int → Int}
/-! ## The best by the reference -/
end
end Go.Am
