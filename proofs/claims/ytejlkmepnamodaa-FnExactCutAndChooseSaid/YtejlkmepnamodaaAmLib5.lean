/-
  The abstract heap: plain laws of votes. General: no program is named.
-/
import Derived.Test.YtejlkmepnamodaaAmLib4
namespace Go.Am
set_option linter.unusedSimpArgs false
set_option linter.unusedVariables false

/-! ## Least winners -/
def cntL (n : Nat) : List Int := (List.range n).map fun (i : Nat) => (i : Int)
theorem cntL_get {n k : Nat} (h : k < n) : (cntL n).getD k 0 = (k : Int) := map_get (f := fun (i : Nat) => (i : Int)) h
/-- The first place of which something holds, before n; -1 for none. -/
def idxTo (g : Int → Bool) (ys : List Int) : Nat → Int
  | 0 => -1
  | n + 1 => if 0 ≤ idxTo g ys n then idxTo g ys n else if g (ys.getD n 0) then (n : Int) else -1
theorem idxTo_none {g : Int → Bool} {ys : List Int} {s : Nat} (h : idxTo g ys s = -1) (hg : g (ys.getD s 0) = false) : idxTo g ys (s + 1) = -1 := by
  rw [idxTo, h, if_neg (by omega), if_neg (by rw [hg]; decide)]
theorem idxTo_some {g : Int → Bool} {ys : List Int} {s : Nat} (h : idxTo g ys s = -1) (hg : g (ys.getD s 0) = true) : ∀ n, s + 1 ≤ n → idxTo g ys n = (s : Int)
  | 0, hn => by omega
  | n + 1, hn => by
    by_cases e : n = s
    · subst e; rw [idxTo, h, if_neg (by omega), if_pos hg]
    · rw [idxTo, idxTo_some h hg n (by omega), if_pos (by omega)]
theorem idxTo_lt {g : Int → Bool} {ys : List Int} : ∀ n, (0 ≤ idxTo g ys n → ∃ k, k < n ∧ g (ys.getD k 0) = true ∧ idxTo g ys n = (k : Int)) ∧ (idxTo g ys n < 0 → ∀ k, k < n → g (ys.getD k 0) = false)
  | 0 => ⟨fun h => by simp [idxTo] at h, fun _ k hk => by omega⟩
  | n + 1 => by
    obtain ⟨h1, h2⟩ := idxTo_lt (g := g) (ys := ys) n
    rw [idxTo]
    by_cases h : 0 ≤ idxTo g ys n
    · rw [if_pos h]
      obtain ⟨k, hk, hg, he⟩ := h1 h
      exact ⟨fun _ => ⟨k, by omega, hg, he⟩, fun h9 => by omega⟩
    · rw [if_neg h]
      by_cases hg : g (ys.getD n 0) = true
      · rw [if_pos hg]
        exact ⟨fun _ => ⟨n, by omega, hg, rfl⟩, fun h9 => by omega⟩
      · rw [if_neg hg]
        refine ⟨fun h9 => by omega, fun _ k hk => ?_⟩
        by_cases e : k = n
        · subst e; simpa using hg
        · exact h2 (by omega) k (by omega)
end Go.Am
