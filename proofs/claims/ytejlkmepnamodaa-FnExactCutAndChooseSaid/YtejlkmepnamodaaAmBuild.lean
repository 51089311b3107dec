/-
  The abstract heap: literals of structs and slices. General: no program is named.
-/
import Derived.Test.YtejlkmepnamodaaAmCall
namespace Go.Am
set_option linter.unusedSimpArgs false
set_option linter.unusedVariables false
open Go.RowKit

def PW (m : Map) (h : AHeap) (a b : Array Value) : Prop := a.size = b.size ∧ ∀ (i : Nat) (v r : Value), a[i]? = some v → b[i]? = some r → VRel m h v r

theorem PW.set {m h} {a b : Array Value} (p : PW m h a b) {v r : Value} (hv : VRel m h v r) (i : Nat) : PW m h (a.setIfInBounds i v) (b.setIfInBounds i r) := by
  refine ⟨by simp [p.1], fun j x y hx hy => ?_⟩
  rw [Array.getElem?_setIfInBounds] at hx hy
  by_cases e : i = j
  · subst e
    simp only [if_true] at hx hy
    split at hx
    · rename_i hlt
      rw [if_pos (by rw [← p.1]; exact hlt)] at hy
      cases hx; cases hy; exact hv
    · cases hx
  · rw [if_neg e] at hx hy
    exact p.2 j x y hx hy

section
variable {P : Program} {K : Value → AHeap → Prop} {env : Env} {h : AHeap} {dst : Option Tmp} {ty : TypeId} {pos : String} {after : Array Edge} {guard : Option (Nat × Bool)}

end
end Go.Am
