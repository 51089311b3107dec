/-
  The abstract heap: plain laws of wishes. General: no program is named.
-/
import Derived.Test.YtnbpakikglpkcaaAmLib11
import Derived.Test.YtnbpakikglpkcaaAmLists
namespace Go.Am
set_option linter.unusedSimpArgs false
set_option linter.unusedVariables false
/-! ## Places in a list -/
def idxI (xs : List Int) (x : Int) : Int := idxTo (fun y => decide (x = y)) xs xs.length
theorem idx_has {xs : List Int} {x : Int} : decide (0 ≤ idxI xs x) = xs.contains x := by
  obtain ⟨h1, h2⟩ := idxTo_lt (g := fun y => decide (x = y)) (ys := xs) xs.length
  by_cases h : 0 ≤ idxI xs x
  · obtain ⟨k, hk, hg, _⟩ := h1 h
    rw [decide_eq_true h, has_yes hk (by have := of_decide_eq_true hg; exact this.symm)]
  · rw [decide_eq_false h]
    have h3 := h2 (by have : ¬ 0 ≤ idxTo (fun y => decide (x = y)) xs xs.length := h; omega)
    symm
    rw [← Bool.not_eq_true, List.contains_iff_mem]
    intro hm
    obtain ⟨k, hk, e⟩ := List.getElem_of_mem hm
    have := h3 k hk
    rw [getD_at hk, e] at this
    simp at this
theorem idxI_bnd {xs : List Int} {x : Int} : -1 ≤ idxI xs x ∧ idxI xs x < xs.length := by
  have : ∀ n, -1 ≤ idxTo (fun y => decide (x = y)) xs n ∧ idxTo (fun y => decide (x = y)) xs n < n := fun n => by
    induction n with
    | zero => simp [idxTo]
    | succ n ih => rw [idxTo]; split <;> (try split) <;> omega
  exact this _

/-! ## Numbers that are there twice -/
def hasAt (xs : List Int) (s : Nat) : Bool := (part xs 0 s).contains (xs.getD s 0)
def inR (n : Int) (x : Int) : Bool := decide (0 ≤ x ∧ x ≤ n - 1)
def rowT (n : Int) (xs : List Int) : Nat → Bool
  | 0 => true
  | t + 1 => rowT n xs t && (inR n (xs.getD t 0) && !hasAt xs t)
def wishL (n : Int) (xs : List Int) : Bool := rowT n xs xs.length
end Go.Am
