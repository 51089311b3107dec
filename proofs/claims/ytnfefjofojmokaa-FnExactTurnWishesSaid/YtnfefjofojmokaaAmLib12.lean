/-
  The abstract heap: plain laws of wishes. General: no program is named.
-/
import Derived.Test.YtnfefjofojmokaaAmLib11
import Derived.Test.YtnfefjofojmokaaAmLists
namespace Go.Am
set_option linter.unusedSimpArgs false
set_option linter.unusedVariables false
/-! ## Places in a list -/
def idxI (xs : List Int) (x : Int) : Int := idxTo (fun y => decide (x = y)) xs xs.length
theorem idx_has {xs : List Int} {x : Int} : decide (0 ≤ idxI xs x) = xs.contains x := by
  obtain ⟨h1, h2⟩ := idxTo_lt (g := fun y => decide (x = y)) (ys := xs) xs.length
  by_cases h : 0 ≤ idxI xs x
  · obtain ⟨k, hk, hg, _⟩ := h1 h
    rw [decide_eq_true h, has_yes hk (by have := of_decide_eq_true hg; exact this.symm)]
  · rw [decide_eq_false h]
    have h3 := h2 (by have : ¬ 0 ≤ idxTo (fun y => decide (x = y)) xs xs.length := h; omega)
    symm
    rw [← Bool.not_eq_true, List.contains_iff_mem]
    intro hm
    obtain ⟨k, hk, e⟩ := List.getElem_of_mem hm
    have := h3 k hk
    rw [getD_at hk, e] at this
    simp at this
theorem idxI_bnd {xs : List Int} {x : Int} : -1 ≤ idxI xs x ∧ idxI xs x < xs.length := by
  have : ∀ n, -1 ≤ idxTo (fun y => decide (x = y)) xs n ∧ idxTo (fun y => decide (x = y)) xs n < n := fun n => by
    induction n with
    | zero => simp [idxTo]
    | succ n ih => rw [idxTo]; split <;> (try split) <;> omega
  exact this _

/-! ## Numbers that are there twice -/
def hasAt (xs : List Int) (s : Nat) : Bool := (part xs 0 s).contains (xs.getD s 0)
def twiceT (xs : List Int) : Nat → Bool
  | 0 => false
  | s + 1 => twiceT xs s || hasAt xs s
theorem twice_step {xs : List Int} {s : Nat} (h : twiceT xs s = false) (c : hasAt xs s = false) : twiceT xs (s + 1) = false := by rw [twiceT, h, c]; rfl
theorem twice_mono {xs : List Int} {s : Nat} (c : twiceT xs s = true) : ∀ n, s ≤ n → twiceT xs n = true
  | 0, hn => by have : s = 0 := by omega
                subst this; exact c
  | n + 1, hn => by
    by_cases e : s = n + 1
    · subst e; exact c
    · rw [twiceT, twice_mono c n (by omega)]; rfl
theorem twice_yes {xs : List Int} {s : Nat} (hs : s < xs.length) (c : hasAt xs s = true) : twiceT xs xs.length = true := twice_mono (s := s + 1) (by rw [twiceT, c, Bool.or_true]) _ hs
def inR (n : Int) (x : Int) : Bool := decide (0 ≤ x ∧ x ≤ n - 1)
def rowT (n : Int) (xs : List Int) : Nat → Bool
  | 0 => true
  | t + 1 => rowT n xs t && (inR n (xs.getD t 0) && !hasAt xs t)
def wishL (n : Int) (xs : List Int) : Bool := rowT n xs xs.length
theorem rowT_eq {n : Int} {xs : List Int} : ∀ t, t ≤ xs.length → rowT n xs t = ((xs.take t).all (inR n) && !twiceT xs t)
  | 0, _ => by simp [rowT, twiceT]
  | t + 1, h => by
    rw [rowT, rowT_eq t (by omega), List.take_succ_eq_append_getElem (show t < xs.length by omega), List.all_append, twiceT, getD_at (show t < xs.length by omega)]
    simp only [List.all_cons, List.all_nil, Bool.and_true]
    cases (xs.take t).all (inR n) <;> cases twiceT xs t <;> cases inR n xs[t] <;> cases hasAt xs t <;> rfl
theorem wishL_eq {n : Int} {xs : List Int} : wishL n xs = (xs.all (fun x => decide (0 ≤ x ∧ x ≤ n - 1)) && !twiceT xs xs.length) := by
  rw [wishL, rowT_eq _ (Nat.le_refl _), List.take_length]; rfl
theorem rowT_step {n : Int} {xs : List Int} {t : Nat} (h : rowT n xs t = true) (h1 : decide (0 ≤ xs.getD t 0 ∧ xs.getD t 0 ≤ n - 1) = true) (h2 : hasAt xs t = false) : rowT n xs (t + 1) = true := by
  rw [rowT, h, h2, show inR n (xs.getD t 0) = true from h1]; rfl
theorem rowT_mono {n : Int} {xs : List Int} {t : Nat} (h : rowT n xs t = false) : ∀ m, t ≤ m → rowT n xs m = false
  | 0, hm => by have : t = 0 := by omega
                subst this; exact h
  | m + 1, hm => by
    by_cases e : t = m + 1
    · subst e; exact h
    · rw [rowT, rowT_mono h m (by omega)]; rfl
theorem wish_noR {n : Int} {xs : List Int} {t : Nat} (ht : t < xs.length) (h1 : decide (0 ≤ xs.getD t 0 ∧ xs.getD t 0 ≤ n - 1) = false) : wishL n xs = false :=
  rowT_mono (t := t + 1) (by rw [rowT, show inR n (xs.getD t 0) = false from h1]; simp) _ ht
theorem wish_noH {n : Int} {xs : List Int} {t : Nat} (ht : t < xs.length) (h2 : hasAt xs t = true) : wishL n xs = false :=
  rowT_mono (t := t + 1) (by rw [rowT, h2]; simp) _ ht

theorem allL_take_step {p : List Int → Bool} {xss : List (List Int)} {k : Nat} (hk : k < xss.length) (h : (xss.take k).all p = true) (hp : p (rowAt xss k) = true) : (xss.take (k + 1)).all p = true := by
  rw [take_row hk, List.all_append, h]; simp [hp]
theorem allL_take_full {p : List Int → Bool} {xss : List (List Int)} {k : Nat} (hk : ¬ k < xss.length) (h : (xss.take k).all p = true) : xss.all p = true := by
  rwa [List.take_of_length_le (by omega)] at h
theorem allL_false {p : List Int → Bool} {xss : List (List Int)} {k : Nat} (hk : k < xss.length) (hp : p (rowAt xss k) = false) : xss.all p = false := by
  rw [List.all_eq_false]
  exact ⟨_, rowAt_mem hk, by simp [hp]⟩
def wishB (xss yss : List (List Int)) : Bool := decide (1 ≤ (xss.length : Int) ∧ (xss.length : Int) ≤ 8) && decide ((yss.length : Int) = xss.length) && xss.all (wishL xss.length) && yss.all (wishL xss.length)
theorem allL_get {p : List Int → Bool} {xss : List (List Int)} {k : Nat} (h : xss.all p = true) (hk : k < xss.length) : p (rowAt xss k) = true := List.all_eq_true.1 h _ (rowAt_mem hk)
theorem wishB_a {xss yss : List (List Int)} (h : (xss.length : Int) = yss.length) {b c : Bool} (hb : b = (xss.all (wishL xss.length) && decide (1 ≤ (xss.length : Int) ∧ (xss.length : Int) ≤ 8))) (hc : c = (yss.all (wishL yss.length) && decide (1 ≤ (yss.length : Int) ∧ (yss.length : Int) ≤ 8))) : (b && c) = wishB xss yss := by
  subst hb hc
  rw [wishB, h, decide_eq_true (rfl : (yss.length : Int) = yss.length)]
  cases xss.all (wishL yss.length) <;> cases yss.all (wishL yss.length) <;> cases decide (1 ≤ (yss.length : Int) ∧ (yss.length : Int) ≤ 8) <;> rfl
theorem wishB_no {xss yss : List (List Int)} (h : ¬ (xss.length : Int) = yss.length) : wishB xss yss = false := by
  rw [wishB, decide_eq_false (show ¬ (yss.length : Int) = xss.length by omega)]; simp
theorem wS_yes {xss yss : List (List Int)} {b : Bool} (h1 : 1 ≤ (xss.length : Int)) (h2 : (xss.length : Int) ≤ 8) (hb : (xss.all (wishL xss.length) && decide ((xss.length : Int) = xss.length)) = true)
    (hc : (yss.all (wishL xss.length) && decide ((yss.length : Int) = xss.length)) = b) : b = wishB xss yss := by
  subst hc
  rw [Bool.and_eq_true] at hb
  rw [wishB, hb.1, decide_eq_true (show 1 ≤ (xss.length : Int) ∧ (xss.length : Int) ≤ 8 from ⟨h1, h2⟩), Bool.true_and, Bool.and_true, Bool.and_comm]
theorem wS_noA {xss yss : List (List Int)} (h1 : ¬ 1 ≤ (xss.length : Int)) : false = wishB xss yss := by rw [wishB, decide_eq_false (fun h => h1 h.1)]; rfl
theorem wS_noB {xss yss : List (List Int)} (h1 : ¬ (xss.length : Int) ≤ 8) : false = wishB xss yss := by rw [wishB, decide_eq_false (fun h => h1 h.2)]; rfl
theorem wS_noC {xss yss : List (List Int)} (hb : (xss.all (wishL xss.length) && decide ((xss.length : Int) = xss.length)) = false) : false = wishB xss yss := by
  rw [decide_eq_true rfl, Bool.and_true] at hb
  rw [wishB, hb]; simp
end Go.Am
