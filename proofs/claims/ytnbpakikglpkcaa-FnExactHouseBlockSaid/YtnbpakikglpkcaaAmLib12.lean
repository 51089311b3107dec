/-
  The abstract heap: plain laws of wishes. General: no program is named.
-/
import Derived.Test.YtnbpakikglpkcaaAmLib11
import Derived.Test.YtnbpakikglpkcaaAmLists
namespace Go.Am
set_option linter.unusedSimpArgs false
set_option linter.unusedVariables false
/-! ## Places in a list -/
def idxI (xs : List Int) (x : Int) : Int := idxTo (fun y => decide (x = y)) xs xs.length
theorem idx_has {xs : List Int} {x : Int} : decide (0 ≤ idxI xs x) = xs.contains x := by
  obtain ⟨h1, h2⟩ := idxTo_lt (g := fun y => decide (x = y)) (ys := xs) xs.length
  by_cases h : 0 ≤ idxI xs x
  · obtain ⟨k, hk, hg, _⟩ := h1 h
    rw [decide_eq_true h, has_yes hk (by have := of_decide_eq_true hg; exact this.symm)]
  · rw [decide_eq_false h]
    have h3 := h2 (by have : ¬ 0 ≤ idxTo (fun y => decide (x = y)) xs xs.length := h; omega)
    symm
    rw [← Bool.not_eq_true, List.contains_iff_mem]
    intro hm
    obtain ⟨k, hk, e⟩ := List.getElem_of_mem hm
    have := h3 k hk
    rw [getD_at hk, e] at this
    simp at this
/-! ## Numbers that are there twice -/
def hasAt (xs : List Int) (s : Nat) : Bool := (part xs 0 s).contains (xs.getD s 0)
def inR (n : Int) (x : Int) : Bool := decide (0 ≤ x ∧ x ≤ n - 1)
def rowT (n : Int) (xs : List Int) : Nat → Bool
  | 0 => true
  | t + 1 => rowT n xs t && (inR n (xs.getD t 0) && !hasAt xs t)
def wishL (n : Int) (xs : List Int) : Bool := rowT n xs xs.length
theorem rowT_step {n : Int} {xs : List Int} {t : Nat} (h : rowT n xs t = true) (h1 : decide (0 ≤ xs.getD t 0 ∧ xs.getD t 0 ≤ n - 1) = true) (h2 : hasAt xs t = false) : rowT n xs (t + 1) = true := by
  rw [rowT, h, h2, show inR n (xs.getD t 0) = true from h1]; rfl
theorem rowT_mono {n : Int} {xs : List Int} {t : Nat} (h : rowT n xs t = false) : ∀ m, t ≤ m → rowT n xs m = false
  | 0, hm => by have : t = 0 := by omega
                subst this; exact h
  | m + 1, hm => by
    by_cases e : t = m + 1
    · subst e; exact h
    · rw [rowT, rowT_mono h m (by omega)]; rfl
theorem wish_noR {n : Int} {xs : List Int} {t : Nat} (ht : t < xs.length) (h1 : decide (0 ≤ xs.getD t 0 ∧ xs.getD t 0 ≤ n - 1) = false) : wishL n xs = false :=
  rowT_mono (t := t + 1) (by rw [rowT, show inR n (xs.getD t 0) = false from h1]; simp) _ ht
theorem wish_noH {n : Int} {xs : List Int} {t : Nat} (ht : t < xs.length) (h2 : hasAt xs t = true) : wishL n xs = false :=
  rowT_mono (t := t + 1) (by rw [rowT, h2]; simp) _ ht

theorem allL_take_step {p : List Int → Bool} {xss : List (List Int)} {k : Nat} (hk : k < xss.length) (h : (xss.take k).all p = true) (hp : p (rowAt xss k) = true) : (xss.take (k + 1)).all p = true := by
  rw [take_row hk, List.all_append, h]; simp [hp]
theorem allL_take_full {p : List Int → Bool} {xss : List (List Int)} {k : Nat} (hk : ¬ k < xss.length) (h : (xss.take k).all p = true) : xss.all p = true := by
  rwa [List.take_of_length_le (by omega)] at h
theorem allL_false {p : List Int → Bool} {xss : List (List Int)} {k : Nat} (hk : k < xss.length) (hp : p (rowAt xss k) = false) : xss.all p = false := by
  rw [List.all_eq_false]
  exact ⟨_, rowAt_mem hk, by simp [hp]⟩
theorem allL_get {p : List Int → Bool} {xss : List (List Int)} {k : Nat} (h : xss.all p = true) (hk : k < xss.length) : p (rowAt xss k) = true := List.all_eq_true.1 h _ (rowAt_mem hk)
end Go.Am
