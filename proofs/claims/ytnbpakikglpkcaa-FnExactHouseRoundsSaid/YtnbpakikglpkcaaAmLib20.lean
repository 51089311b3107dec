/-
  The abstract heap: plain laws of things handed round until nobody envies. General: no program is named.
-/
import Derived.Test.YtnbpakikglpkcaaAmLib19
namespace Go.Am
set_option linter.unusedSimpArgs false
set_option linter.unusedVariables false

/-! ## Rounds of a map -/
def itG (g : Int → Int) : Nat → Int
  | 0 => 0
  | k + 1 => g (itG g k)
def pathG (g : Int → Int) (s : Nat) : List Int := (List.range s).map (itG g)
def endG (g : Int → Int) : Nat → Nat → Nat
  | 0, s => s
  | f + 1, s => if itG g s ∈ pathG g s then s else endG g f (s + 1)
theorem pathG_len {g : Int → Int} {s : Nat} : (pathG g s).length = s := by simp [pathG]
theorem pathG_step {g : Int → Int} {s : Nat} : pathG g s ++ [itG g s] = pathG g (s + 1) := map_step
theorem pathG_get {g : Int → Int} {s k : Nat} (h : k < s) : (pathG g s).getD k 0 = itG g k := map_get h
/-- What holds of a path that has not met itself. -/
def GoodP (g : Int → Int) (n s : Nat) : Prop := 1 ≤ s ∧ (pathG g s).Nodup ∧ ∀ x ∈ pathG g s, 0 ≤ x ∧ x < (n : Int)
theorem good_one {g : Int → Int} {n : Nat} (hn : 1 ≤ n) : GoodP g n 1 := ⟨Nat.le_refl _, by simp [pathG], fun x hx => by simp [pathG, itG] at hx; omega⟩
theorem good_le {g : Int → Int} {n s : Nat} (h : GoodP g n s) : s ≤ n := by
  have := pigeon n (pathG g s) h.2.2 h.2.1
  rwa [pathG_len] at this
theorem good_last {g : Int → Int} {n s : Nat} (h : GoodP g n s) : 0 ≤ itG g (s - 1) ∧ itG g (s - 1) < n := by
  refine h.2.2 _ ?_
  exact List.mem_map.2 ⟨s - 1, List.mem_range.2 (by have := h.1; omega), rfl⟩
theorem it_last {g : Int → Int} {s : Nat} (h : 1 ≤ s) : g (itG g (s - 1)) = itG g s := by
  obtain ⟨k, rfl⟩ : ∃ k, s = k + 1 := ⟨s - 1, by omega⟩
  rfl
theorem good_step {g : Int → Int} {n s : Nat} (h : GoodP g n s) (hg : ∀ x, 0 ≤ x → x < (n : Int) → 0 ≤ g x ∧ g x < n) (hm : itG g s ∉ pathG g s) : GoodP g n (s + 1) := by
  have hl := good_last h
  have hb := hg _ hl.1 hl.2
  rw [it_last (g := g) h.1] at hb
  refine ⟨by omega, ?_, fun x hx => ?_⟩
  · rw [← pathG_step]
    refine List.nodup_append.2 ⟨h.2.1, by simp, fun a ha b hb' => ?_⟩
    simp only [List.mem_singleton] at hb'
    subst hb'
    exact fun e => hm (e ▸ ha)
  · rw [← pathG_step, List.mem_append, List.mem_singleton] at hx
    rcases hx with hx | rfl
    · exact h.2.2 x hx
    · exact hb
theorem end_on {g : Int → Int} {n s : Nat} (h : GoodP g n s) (hg : ∀ x, 0 ≤ x → x < (n : Int) → 0 ≤ g x ∧ g x < n) (hm : itG g s ∉ pathG g s) : s < n ∧ endG g (n - s) s = endG g (n - (s + 1)) (s + 1) := by
  have h2 := good_le (good_step h hg hm)
  refine ⟨by omega, ?_⟩
  obtain ⟨f, hf⟩ : ∃ f, n - s = f + 1 := ⟨n - s - 1, by omega⟩
  rw [hf, endG, if_neg hm, show n - (s + 1) = f by omega]
/-- The ring at the end of a path. -/
def endN (g : Int → Int) (n : Nat) : Nat := endG g (n - 1) 1
def ringP (g : Int → Int) (s : Nat) : List Int := (pathG g s).drop (idxI (pathG g s) (itG g s)).toNat
theorem idxTo_first {f : Int → Bool} {ys : List Int} {a b : Nat} : ∀ n, idxTo f ys n = (a : Int) → b < a → f (ys.getD b 0) = false
  | 0, h, _ => by simp [idxTo] at h
  | n + 1, h, hb => by
    rw [idxTo] at h
    by_cases c : 0 ≤ idxTo f ys n
    · rw [if_pos c] at h; exact idxTo_first n h hb
    · rw [if_neg c] at h
      have c2 := (idxTo_lt (g := f) (ys := ys) n).2 (by omega)
      split at h
      · have : n = a := by omega
        subst this
        exact c2 b hb
      · omega
theorem idxI_get {xs : List Int} {x : Int} (h : x ∈ xs) : ∃ a, a < xs.length ∧ xs.getD a 0 = x ∧ idxI xs x = (a : Int) ∧ ∀ b, b < a → xs.getD b 0 ≠ x := by
  have hc : decide (0 ≤ idxI xs x) = true := by rw [idx_has]; exact List.contains_iff_mem.2 h
  obtain ⟨k, hk, hg, he⟩ := (idxTo_lt (g := fun y => decide (x = y)) (ys := xs) xs.length).1 (of_decide_eq_true hc)
  exact ⟨k, hk, (of_decide_eq_true hg).symm, he, fun b hb e => by
    have := idxTo_first (f := fun y => decide (x = y)) _ he hb
    exact (of_decide_eq_false this) e.symm⟩

/-- Where a good path meets itself. -/
def EndP (g : Int → Int) (n s : Nat) : Prop := GoodP g n s ∧ itG g s ∈ pathG g s
theorem end_good {g : Int → Int} {n : Nat} (hg : ∀ x, 0 ≤ x → x < (n : Int) → 0 ≤ g x ∧ g x < n) : ∀ (f s : Nat), n - s = f → GoodP g n s → EndP g n (endG g f s)
  | 0, s, hf, h => by
    refine ⟨h, Classical.byContradiction fun hm => ?_⟩
    have := end_on h hg hm
    have := good_le h
    omega
  | f + 1, s, hf, h => by
    rw [endG]
    by_cases hm : itG g s ∈ pathG g s
    · rw [if_pos hm]; exact ⟨h, hm⟩
    · rw [if_neg hm]; exact end_good hg f (s + 1) (by omega) (good_step h hg hm)
theorem endN_good {g : Int → Int} {n : Nat} (hn : 1 ≤ n) (hg : ∀ x, 0 ≤ x → x < (n : Int) → 0 ≤ g x ∧ g x < n) : EndP g n (endN g n) := end_good hg _ 1 rfl (good_one hn)
/-- The ring: a piece of the path from the place a, each one's follower in it is the map's value. -/
theorem ring_get {g : Int → Int} {n s : Nat} (h : EndP g n s) : ∃ a, a < s ∧ idxI (pathG g s) (itG g s) = (a : Int) ∧ (ringP g s).length = s - a ∧ (∀ b, b < s - a → (ringP g s).getD b 0 = itG g (a + b)) ∧ itG g s = itG g a := by
  obtain ⟨a, ha, h1, h2, _⟩ := idxI_get h.2
  rw [pathG_len] at ha
  refine ⟨a, ha, h2, ?_, fun b hb => ?_, ?_⟩
  · rw [ringP, h2, List.length_drop, pathG_len]; rfl
  · rw [ringP, h2, show ((a : Int)).toNat = a from rfl, List.getD_eq_getElem?_getD, List.getElem?_drop, ← List.getD_eq_getElem?_getD, pathG_get (by omega)]
  · rw [← h1, pathG_get ha]
/-! ## Parts, without bounds -/
/-! ## Who envies, who is free of it -/
/-! ## Turns until somebody is free -/
end Go.Am
