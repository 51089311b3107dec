/-
  The abstract heap: plain laws of things handed round until nobody envies. General: no program is named.
-/
import Derived.Test.YtejlkmepnamodaaAmLib19
namespace Go.Am
set_option linter.unusedSimpArgs false
set_option linter.unusedVariables false

/-! ## Rounds of a map -/
theorem idxTo_first {f : Int → Bool} {ys : List Int} {a b : Nat} : ∀ n, idxTo f ys n = (a : Int) → b < a → f (ys.getD b 0) = false
  | 0, h, _ => by simp [idxTo] at h
  | n + 1, h, hb => by
    rw [idxTo] at h
    by_cases c : 0 ≤ idxTo f ys n
    · rw [if_pos c] at h; exact idxTo_first n h hb
    · rw [if_neg c] at h
      have c2 := (idxTo_lt (g := f) (ys := ys) n).2 (by omega)
      split at h
      · have : n = a := by omega
        subst this
        exact c2 b hb
      · omega
/-! ## Parts, without bounds -/
/-! ## Who envies, who is free of it -/
/-! ## Turns until somebody is free -/
end Go.Am
