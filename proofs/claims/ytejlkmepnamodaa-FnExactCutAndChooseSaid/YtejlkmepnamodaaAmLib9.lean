/-
  The abstract heap: more plain laws of ways and trees. General: no program is named.
-/
import Derived.Test.YtejlkmepnamodaaAmLib8
namespace Go.Am
set_option linter.unusedSimpArgs false
set_option linter.unusedVariables false

/-! ## Ways -/
/-! ## Joining -/
/-- What stands behind t ways. -/
structure JOk (J P t : Nat) : Prop where
  lt : J < 128
  sub : (J &&& P) = J
  zero : J.testBit 0 = true
  cnt : pop J = t + 1
/-! ## A list without its first item -/
abbrev slT (k n : Nat) : Value := .slice (some ⟨k, 1, some (n + 1)⟩) n n
theorem Ints.tail {h : AHeap} {k n : Nat} {x : Int} {xs : List Int} (ho : h[k]? = some (lst (x :: xs))) (hn : xs.length = n) : Ints h (slT k n) xs := by
  subst hn
  exact .inr ⟨k, 1, xs.length + 1, xs.length, _, rfl, ho, by simp [lst], rfl, Nat.le_refl _, by omega, fun i z hz => by
    rw [Nat.add_comm]; simp [lst, hz]⟩
end Go.Am
