/-
  The abstract heap: plain laws of houses by rings. General: no program is named.
-/
import Derived.Test.YtnbpakikglpkcaaAmLib21
namespace Go.Am
set_option linter.unusedSimpArgs false
set_option linter.unusedVariables false

/-! ## Who still has a house -/
def lftH (os : List Int) : List Bool := os.map fun x => decide (x < 0)
/-! ## One round -/
/-! ## How many are left -/
/-! ## A ring is there -/
structure OkR (xss : List (List Int)) (os : List Int) : Prop where
  hH : okH xss = true
  hl : os.length = xss.length
  hr : 0 < freeB (lftH os)
/-! ## All rounds -/
/-! ## Rounds of envy, padded -/
theorem pad_zero {xs : List Int} {p q : Int} : padG (roundsG xs p q 0) (q.toNat - 0) = List.replicate q.toNat (-1) := by simp [padG, roundsG]
theorem pad_end {os : List Int} {n : Nat} : padG os (n - n) = os := by simp [padG]
theorem pad_len {os : List Int} {s n : Nat} (h : os.length = s) (hs : s ≤ n) : (padG os (n - s)).length = n := by simp [padG]; omega
theorem pad_set {os : List Int} {s n : Nat} {x : Int} (h : os.length = s) (hs : s < n) : (padG os (n - s)).set s x = padG (os ++ [x]) (n - (s + 1)) := by
  subst h
  rw [padG, List.set_append_right _ _ (Nat.le_refl _), Nat.sub_self, show n - os.length = (n - (os.length + 1)) + 1 by omega, List.replicate_succ, List.set_cons_zero, padG, List.append_assoc]
  rfl
theorem free_def {xs os : List Int} {p q : Int} : idxTo (fun x => decide (envG xs os p q x < 0)) (cntL p.toNat) p.toNat = freeG xs os p q := rfl
end Go.Am
