/-
  The abstract heap: plain laws of parts of things, of envy and of rents. General: no program is named.
-/
import Derived.Test.YtnbpakikglpkcaaAmLib3
namespace Go.Am
set_option linter.unusedSimpArgs false
set_option linter.unusedVariables false

/-! ## Even shares -/
/-! ## The greatest of a list -/
/-! ## Rents -/
theorem has_step {ys : List Int} {s : Nat} {x : Int} (hs : s < ys.length) (h : (ys.take s).contains x = false) (c : ¬ ys.getD s 0 = x) : (ys.take (s + 1)).contains x = false := by
  rw [← take_app hs, List.contains_append, h]
  generalize ys.getD s 0 = y at c
  have : ¬ x = y := fun e => c e.symm
  simp [this]
theorem has_yes {ys : List Int} {s : Nat} {x : Int} (hs : s < ys.length) (c : ys.getD s 0 = x) : ys.contains x = true := by
  rw [List.contains_iff_mem, ← c, getD_at hs]
  exact List.getElem_mem hs
theorem part_zero {xs : List Int} {s : Nat} : part xs 0 s = xs.take s := by simp [part]
end Go.Am
