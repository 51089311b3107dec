/-
  The abstract heap: plain laws of the greatest product. General: no program is named.
-/
import Derived.Test.YtnfefjofojmokaaAmLib13
namespace Go.Am
set_option linter.unusedSimpArgs false
set_option linter.unusedVariables false
abbrev LP : Int := 1000000000000
def prodS (l : List Int) : Nat → Int
  | 0 => 1
  | k + 1 => min (prodS l k * l.getD k 0) 1000000000001
def prodF (l : List Int) : Int := if l.contains 0 = true then 0 else prodS l l.length
def pX (l : List Int) : Nat → Int
  | 0 => 1
  | k + 1 => if 1000000000000 < pX l k then pX l k else pX l k * l.getD k 0
def prodX (l : List Int) : Int := if l.contains 0 = true then 0 else pX l l.length
def bnd8 (l : List Int) : Prop := ∀ k, 0 ≤ l.getD k 0 ∧ l.getD k 0 ≤ 8000
theorem prodS_bnd {l : List Int} (hl : bnd8 l) : ∀ k, 0 ≤ prodS l k ∧ prodS l k ≤ 1000000000001
  | 0 => by simp [prodS]
  | k + 1 => by
    have h := mul_bound (prodS_bnd hl k) (hl k)
    rw [prodS]; omega
theorem pX_pos {l : List Int} (hl : bnd8 l) : ∀ k, 0 ≤ pX l k
  | 0 => by simp [pX]
  | k + 1 => by
    have ih := pX_pos hl k
    rw [pX]; split
    · exact ih
    · exact Int.mul_nonneg ih (hl k).1
theorem pX_step {l : List Int} {k : Nat} (h : pX l k ≤ 1000000000000) : pX l k * l.getD k 0 = pX l (k + 1) := by rw [pX, if_neg (by omega)]
theorem pX_stay {l : List Int} {k : Nat} (h : 1000000000000 < pX l k) : ∀ n, k ≤ n → pX l n = pX l k
  | 0, hn => by have : k = 0 := by omega
                subst this; rfl
  | n + 1, hn => by
    by_cases e : k = n + 1
    · subst e; rfl
    · have := pX_stay h n (by omega)
      rw [pX, this, if_pos h]
theorem prod_zero {l : List Int} (h : l.contains 0 = true) : (0 : Int) = prodF l := by rw [prodF, if_pos h]
theorem prod_full {l : List Int} (h : l.contains 0 = false) : prodS l l.length = prodF l := by rw [prodF, if_neg (by rw [h]; simp)]
theorem prodX_zero {l : List Int} {k : Nat} (hk : k < l.length) (h : l.getD k 0 = 0) : (0 : Int) = prodX l := by rw [prodX, if_pos (has_yes hk h)]
theorem prodX_exc {l : List Int} {k : Nat} (h0 : l.contains 0 = false) (hk : k < l.length) (h1 : pX l k ≤ 1000000000000) (h : 1000000000000 < pX l k * l.getD k 0) : pX l k * l.getD k 0 = prodX l := by
  rw [prodX, if_neg (by rw [h0]; simp), pX_step h1] at *
  exact (pX_stay h _ hk).symm
theorem prodX_full {l : List Int} (h0 : l.contains 0 = false) : pX l l.length = prodX l := by rw [prodX, if_neg (by rw [h0]; simp)]
theorem nz_pos {l : List Int} (hl : bnd8 l) (h0 : l.contains 0 = false) {k : Nat} (hk : k < l.length) : 1 ≤ l.getD k 0 := by
  have := (hl k).1
  by_cases c : l.getD k 0 = 0
  · rw [has_yes hk c] at h0; cases h0
  · omega
theorem prod_rel {l : List Int} (hl : bnd8 l) (h0 : l.contains 0 = false) : ∀ k, k ≤ l.length → (pX l k ≤ 1000000000000 → prodS l k = pX l k) ∧ (1000000000000 < pX l k → prodS l k = 1000000000001)
  | 0, _ => by simp [pX, prodS]
  | k + 1, hk => by
    obtain ⟨i1, i2⟩ := prod_rel hl h0 k (by omega)
    have hx := nz_pos hl h0 (show k < l.length by omega)
    rw [prodS, pX]
    by_cases c : 1000000000000 < pX l k
    · rw [if_pos c, i2 c]
      have : (1000000000001 : Int) * 1 ≤ 1000000000001 * l.getD k 0 := Int.mul_le_mul_of_nonneg_left hx (by omega)
      exact ⟨fun h => by omega, fun _ => by omega⟩
    · rw [if_neg c, i1 (by omega)]
      exact ⟨fun h => by omega, fun h => by omega⟩
theorem prodX_le {l : List Int} (hl : bnd8 l) (h : ¬ 1000000000000 < prodX l) : prodX l = prodF l := by
  by_cases c : l.contains 0 = true
  · rw [prodX, prodF, if_pos c, if_pos c]
  · have c' : l.contains 0 = false := by simpa using c
    rw [prodX, if_neg c] at *
    rw [prodF, if_neg c]
    exact ((prod_rel hl c' _ (Nat.le_refl _)).1 (by omega)).symm
theorem prodX_gt {l : List Int} (hl : bnd8 l) (h : 1000000000000 < prodX l) : 1000000000000 < prodF l := by
  by_cases c : l.contains 0 = true
  · rw [prodX, if_pos c] at h; omega
  · have c' : l.contains 0 = false := by simpa using c
    rw [prodX, if_neg c] at h
    rw [prodF, if_neg c, (prod_rel hl c' _ (Nat.le_refl _)).2 h]; omega
theorem prodF_pos {l : List Int} (hl : bnd8 l) : 0 ≤ prodF l := by
  rw [prodF]; split
  · omega
  · exact (prodS_bnd hl _).1
section
variable {p q : Int} {xs : List Int} {F : List Int → Int}
theorem bI_le : ∀ n, bI p q xs F (n + 1) ≤ n
  | 0 => by
    have : bI p q xs F (0 + 1) = 0 := bI_imp rfl
    omega
  | n + 1 => by
    have := bI_le n
    rw [bI]; split <;> omega
theorem bI_max : ∀ n j, j < n → valN p q xs F j ≤ valN p q xs F (bI p q xs F n)
  | n + 1, j, hj => by
    rw [bI]
    split
    · rename_i c
      by_cases e : j = n
      · subst e; exact Int.le_refl _
      · have := bI_max n j (by omega); omega
    · rename_i c
      by_cases e : j = n
      · subst e; omega
      · exact bI_max n j (by omega)
end
theorem owns_bnd8 {p q : Int} {xs : List Int} (hV : validV p q xs = true) {os : List Int} (hl : os.length = q.toNat) : bnd8 (ownsL p q xs os) := fun k => owns_bnd hV (by have := (validV_get hV).2.1; omega) k
theorem valProd_pos {p q : Int} {xs : List Int} (hV : validV p q xs = true) (n : Nat) : 0 ≤ valN p q xs prodF n := prodF_pos (owns_bnd8 hV (ownN_len n))
end Go.Am
