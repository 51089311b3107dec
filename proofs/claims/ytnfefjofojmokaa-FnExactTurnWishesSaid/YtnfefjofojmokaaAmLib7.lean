/-
  The abstract heap: plain laws of all ways to give things. General: no program is named.
-/
import Derived.Test.YtnfefjofojmokaaAmLib6
namespace Go.Am
set_option linter.unusedSimpArgs false
set_option linter.unusedVariables false

/-- The next owners: from place k downwards. -/
def incK (p : Int) : List Int → Nat → List Int × Bool
  | l, 0 => (l, true)
  | l, k + 1 => if l.getD k 0 + 1 < p then (l.set k (l.getD k 0 + 1), false) else incK p (l.set k 0) k
theorem incK_stop {p : Int} {l : List Int} {k : Nat} (h : l.getD k 0 + 1 < p) : incK p l (k + 1) = (l.set k (l.getD k 0 + 1), false) := by rw [incK, if_pos h]
theorem incK_go {p : Int} {l : List Int} {k : Nat} (h : ¬ l.getD k 0 + 1 < p) : incK p l (k + 1) = incK p (l.set k 0) k := by rw [incK, if_neg h]
theorem incK_len {p : Int} : ∀ (k : Nat) (l : List Int), (incK p l k).1.length = l.length
  | 0, l => rfl
  | k + 1, l => by
    rw [incK]
    split
    · simp
    · rw [incK_len k]; simp
def digits (p : Int) (l : List Int) : Prop := ∀ k, k < l.length → 0 ≤ l.getD k 0 ∧ l.getD k 0 < p
theorem getD_set {l : List Int} {i k : Nat} {x : Int} (hi : i < l.length) : (l.set i x).getD k 0 = if i = k then x else l.getD k 0 := by
  rw [List.getD_eq_getElem?_getD, List.getD_eq_getElem?_getD, List.getElem?_set]
  split
  · rename_i e; subst e; simp [hi]
  · rfl
theorem digits_set {p : Int} {l : List Int} {i : Nat} {x : Int} (h : digits p l) (hx : 0 ≤ x ∧ x < p) : digits p (l.set i x) := fun k hk => by
  rw [List.length_set] at hk
  by_cases hi : i < l.length
  · rw [getD_set hi]
    split
    · exact hx
    · exact h k hk
  · rw [List.set_eq_of_length_le (by omega)]; exact h k hk
/-- What the first k digits count. -/
def valK (p : Int) (l : List Int) : Nat → Int
  | 0 => 0
  | k + 1 => valK p l k * p + l.getD k 0
theorem valK_congr {p : Int} {l l' : List Int} : ∀ k, (∀ j, j < k → l.getD j 0 = l'.getD j 0) → valK p l k = valK p l' k
  | 0, _ => rfl
  | k + 1, h => by rw [valK, valK, valK_congr k (fun j hj => h j (by omega)), h k (by omega)]
theorem valK_zero {p : Int} {n : Nat} : ∀ k, valK p (List.replicate n 0) k = 0
  | 0 => rfl
  | k + 1 => by
    rw [valK, valK_zero k]
    have : (List.replicate n (0 : Int)).getD k 0 = 0 := by
      rw [List.getD_eq_getElem?_getD, List.getElem?_replicate]; split <;> rfl
    rw [this]; omega
theorem incK_ok {p : Int} (hp : 1 ≤ p) : ∀ (k : Nat) (l : List Int), k ≤ l.length → digits p l → digits p (incK p l k).1 ∧ (∀ j, k ≤ j → (incK p l k).1.getD j 0 = l.getD j 0) ∧
    ((incK p l k).2 = false → valK p (incK p l k).1 k = valK p l k + 1) ∧ ((incK p l k).2 = true → valK p l k + 1 = p ^ k)
  | 0, l, _, hd => ⟨hd, fun j _ => rfl, fun h => by simp [incK] at h, fun _ => by simp [valK]⟩
  | k + 1, l, hk, hd => by
    have hdk := hd k (by omega)
    by_cases c : l.getD k 0 + 1 < p
    · rw [incK_stop c]
      refine ⟨digits_set hd (by omega), fun j hj => ?_, fun _ => ?_, fun h => by cases h⟩
      · rw [getD_set (by omega), if_neg (by omega)]
      · rw [valK, valK, getD_set (by omega), if_pos rfl, valK_congr (l' := l) k (fun j hj => by rw [getD_set (by omega), if_neg (by omega)])]
        omega
    · rw [incK_go c]
      obtain ⟨i1, i2, i3, i4⟩ := incK_ok hp k (l.set k 0) (by simp; omega) (digits_set hd (by omega))
      have hv : valK p (l.set k 0) k = valK p l k := valK_congr k (fun j hj => by rw [getD_set (by omega), if_neg (by omega)])
      have hz : (l.set k 0).getD k 0 = 0 := by rw [getD_set (by omega), if_pos rfl]
      refine ⟨i1, fun j hj => ?_, fun h => ?_, fun h => ?_⟩
      · rw [i2 j (by omega), getD_set (by omega), if_neg (by omega)]
      · have h1 := i3 h
        rw [valK, valK, i2 k (Nat.le_refl _), hz, h1, hv, Int.add_mul, Int.one_mul]
        omega
      · have h1 := i4 h
        rw [hv] at h1
        have e : (valK p l k + 1) * p = valK p l k * p + p := by rw [Int.add_mul, Int.one_mul]
        rw [valK, Int.pow_succ, ← h1, e]
        omega
/-- The n-th owners. -/
def ownN (p : Int) (q : Nat) : Nat → List Int
  | 0 => List.replicate q 0
  | n + 1 => (incK p (ownN p q n) q).1
theorem ownN_len {p : Int} {q : Nat} : ∀ n, (ownN p q n).length = q
  | 0 => by simp [ownN]
  | n + 1 => by rw [ownN, incK_len, ownN_len n]
theorem ownN_digits {p : Int} {q : Nat} (hp : 1 ≤ p) : ∀ n, digits p (ownN p q n)
  | 0 => fun k hk => by
    have : (List.replicate q (0 : Int)).getD k 0 = 0 := by
      rw [List.getD_eq_getElem?_getD, List.getElem?_replicate]; split <;> rfl
    show 0 ≤ (List.replicate q (0 : Int)).getD k 0 ∧ (List.replicate q (0 : Int)).getD k 0 < p
    rw [this]; omega
  | n + 1 => (incK_ok hp q (ownN p q n) (by rw [ownN_len]; exact Nat.le_refl _) (ownN_digits hp n)).1
theorem ownN_last {p : Int} {q : Nat} (hp : 1 ≤ p) : ∀ n : Nat, (n : Int) < p ^ q → valK p (ownN p q n) q = n ∧ ((incK p (ownN p q n) q).2 = true ↔ (n : Int) + 1 = p ^ q)
  | n, hn => by
    have hv : valK p (ownN p q n) q = n := by
      cases n with
      | zero => exact valK_zero q
      | succ n =>
        obtain ⟨h1, h2⟩ := ownN_last (p := p) (q := q) hp n (by omega)
        obtain ⟨_, _, h3, _⟩ := incK_ok hp q (ownN p q n) (by rw [ownN_len]; exact Nat.le_refl _) (ownN_digits hp n)
        have hf : (incK p (ownN p q n) q).2 = false := Bool.eq_false_iff.2 fun e => by have := h2.1 e; omega
        rw [ownN, h3 hf, h1]; simp
    obtain ⟨_, _, h3, h4⟩ := incK_ok hp q (ownN p q n) (by rw [ownN_len]; exact Nat.le_refl _) (ownN_digits hp n)
    refine ⟨hv, fun e => by rw [← h4 e, hv], fun e => ?_⟩
    cases hb : (incK p (ownN p q n) q).2 with
    | true => rfl
    | false =>
      -- a step more would count p ^ q, which no digits do
      have h5 := h3 hb
      have hlt : ∀ (l : List Int), digits p l → ∀ k, k ≤ l.length → valK p l k < p ^ k := fun l hd k => by
        induction k with
        | zero => intro _; show (0 : Int) < p ^ 0; simp
        | succ k ih =>
          intro hk
          have h6 := ih (by omega)
          have h7 := hd k (by omega)
          have h8 : (valK p l k + 1) * p ≤ p ^ k * p := Int.mul_le_mul_of_nonneg_right (by omega) (by omega)
          rw [Int.add_mul, Int.one_mul] at h8
          rw [valK, Int.pow_succ]; omega
      have h9 := hlt _ (ownN_digits (q := q) hp (n + 1)) q (by rw [ownN_len]; exact Nat.le_refl _)
      rw [ownN] at h9
      omega
theorem ownN_ownV {p q : Int} {xs : List Int} (hV : validV p q xs = true) (n : Nat) : ownV p q xs (ownN p q.toNat n) = true := by
  obtain ⟨h1, h2, _, _⟩ := validV_get hV
  have hd := ownN_digits (q := q.toNat) (show 1 ≤ p by omega) n
  have hl : (ownN p q.toNat n).length = q.toNat := ownN_len n
  refine ownV_yes hV ?_
  rw [Bool.and_eq_true]
  refine ⟨List.all_eq_true.2 fun x hx => decide_eq_true ?_, decide_eq_true (by omega)⟩
  obtain ⟨k, hk, rfl⟩ := List.getElem_of_mem hx
  have := hd k hk
  rw [getD_at hk] at this
  omega
/-- What all parts are worth to one: the least. -/
def minP (xs os : List Int) (q i : Int) : Nat → Int
  | 0 => partF xs os q i 0
  | j + 1 => min (minP xs os q i j) (partF xs os q i (j : Int))
def leastN (p q : Int) (xs : List Int) (i : Int) : Nat → Int
  | 0 => 0
  | n + 1 => max (leastN p q xs i n) (minP xs (ownN p q.toNat n) q i p.toNat)
def fewB (p q : Int) : Bool := decide (p ^ q.toNat ≤ 4096)
theorem minP_one {xs os : List Int} {q i : Int} : minP xs os q i 1 = partF xs os q i 0 := by
  show min (partF xs os q i 0) (partF xs os q i ((0 : Nat) : Int)) = _
  have : ((0 : Nat) : Int) = 0 := rfl
  rw [this]; omega
theorem pow_mono {p : Int} (hp : 1 ≤ p) {k n : Nat} (h : k ≤ n) : p ^ k ≤ p ^ n := by
  obtain ⟨d, rfl⟩ : ∃ d, n = k + d := ⟨n - k, by omega⟩
  clear h
  induction d with
  | zero => exact Int.le_refl _
  | succ d ih =>
    have h1 : 0 ≤ p ^ (k + d) := Int.pow_nonneg (by omega)
    have h2 : p ^ (k + d) * 1 ≤ p ^ (k + d) * p := Int.mul_le_mul_of_nonneg_left hp h1
    rw [← Nat.add_assoc, Int.pow_succ]; omega
theorem pow_six {p : Int} (hp : 1 ≤ p ∧ p ≤ 6) {k : Nat} (hk : k ≤ 8) : 1 ≤ p ^ k ∧ p ^ k ≤ 1679616 := by
  have h1 : p = 1 ∨ p = 2 ∨ p = 3 ∨ p = 4 ∨ p = 5 ∨ p = 6 := by omega
  have h2 := pow_mono hp.1 hk
  have h3 := pow_mono hp.1 (Nat.zero_le k)
  have h4 : p ^ 8 ≤ 1679616 := by rcases h1 with rfl | rfl | rfl | rfl | rfl | rfl <;> decide
  rw [Int.pow_zero] at h3
  omega

end Go.Am
