/-
  The abstract heap: rounding in single precision: halves, and that what is at most a number of the format is rounded to at most this. General: no program is named.
-/
import Derived.Test.YtejlkmepnamodaaAmFlt5
namespace Go.Am
set_option linter.unusedSimpArgs false
set_option linter.unusedVariables false
open Ieee

theorem log2_shl_eq {m a : Nat} (hm : m ≠ 0) : (m <<< a).log2 = m.log2 + a := by
  have h1 := log2_shl (a := a) hm
  have h2 : m.log2 + a ≤ (m <<< a).log2 := by
    refine (Nat.le_log2 ?_).2 ?_
    · rw [Nat.shiftLeft_eq]; exact Nat.mul_ne_zero hm (Nat.pos_iff_ne_zero.1 (Nat.two_pow_pos _))
    · rw [Nat.shiftLeft_eq, Nat.pow_add]; exact Nat.mul_le_mul_right _ (pow_log2 hm)
  omega
/-- What is cut, by the parts of a division. -/
def cutE (low rest gap : Nat) : Nat := low + (decide (gap < 2 * rest) || (gap == 2 * rest && low % 2 == 1)).toNat
theorem cut_eq {neg : Bool} {n d g : Nat} (hg : min d (n.log2 + 2) = g) : Toward.even.cut neg n d = cutE (n / 2 ^ g) (n % 2 ^ g) (2 ^ g) := by
  unfold Toward.cut cutE
  simp only [Nat.one_shiftLeft, hg]
theorem cutE_scale {l r g k : Nat} : cutE l (r * 2 ^ k) (2 ^ g * 2 ^ k) = cutE l r (2 ^ g) := by
  have hk := Nat.two_pow_pos k
  have e1 : decide (2 ^ g * 2 ^ k < 2 * (r * 2 ^ k)) = decide (2 ^ g < 2 * r) := by
    rw [← Nat.mul_assoc]
    by_cases c : 2 ^ g < 2 * r
    · rw [decide_eq_true c, decide_eq_true (Nat.mul_lt_mul_of_pos_right c hk)]
    · rw [decide_eq_false c, decide_eq_false]
      have := Nat.mul_le_mul_right (2 ^ k) (show 2 * r ≤ 2 ^ g by omega)
      omega
  have e2 : (2 ^ g * 2 ^ k == 2 * (r * 2 ^ k)) = (2 ^ g == 2 * r) := by
    rw [← Nat.mul_assoc]
    by_cases c : 2 ^ g = 2 * r
    · rw [c]; simp
    · rw [beq_eq_false_iff_ne.2 c, beq_eq_false_iff_ne]
      intro h
      exact c (Nat.eq_of_mul_eq_mul_right hk h)
  unfold cutE
  rw [e1, e2]
theorem cut_scale {neg : Bool} {n d k : Nat} (hn : n ≠ 0) : Toward.even.cut neg (n <<< k) (d + k) = Toward.even.cut neg n d := by
  rw [cut_eq (g := min d (n.log2 + 2) + k) (by rw [log2_shl_eq hn]; omega), cut_eq rfl, Nat.shiftLeft_eq, Nat.pow_add, Nat.mul_div_mul_right _ _ (Nat.two_pow_pos k), Nat.mul_mod_mul_right, cutE_scale]
theorem near_scale {f : Format} {neg : Bool} {m k : Nat} {p : Int} : f.nearest neg (m <<< k) (p - k) = f.nearest neg m p := by
  by_cases hm : m = 0
  · subst hm
    rw [Nat.zero_shiftLeft, Format.nearest, Format.nearest, if_pos rfl, if_pos rfl]
  · have hm2 : m <<< k ≠ 0 := by rw [Nat.shiftLeft_eq]; exact Nat.mul_ne_zero hm (Nat.pos_iff_ne_zero.1 (Nat.two_pow_pos _))
    unfold Format.nearest
    rw [if_neg hm, if_neg hm2, log2_shl_eq hm, show p - (k : Int) + ((m.log2 + k : Nat) : Int) - (f.fractionBits : Int) = p + (m.log2 : Int) - (f.fractionBits : Int) by omega]
    generalize max (p + (m.log2 : Int) - (f.fractionBits : Int)) f.leastPlace = last
    have hc : Toward.even.cut neg (m <<< k <<< (p - (k : Int) - last).toNat) (last - (p - (k : Int))).toNat = Toward.even.cut neg (m <<< (p - last).toNat) (last - p).toNat := by
      by_cases c : p ≤ last
      · rw [show (p - (k : Int) - last).toNat = 0 by omega, show (p - last).toNat = 0 by omega, show (last - (p - (k : Int))).toNat = (last - p).toNat + k by omega, Nat.shiftLeft_zero, Nat.shiftLeft_zero]
        exact cut_scale hm
      · by_cases c2 : (k : Int) ≤ p - last
        · rw [show (last - (p - (k : Int))).toNat = 0 by omega, show (last - p).toNat = 0 by omega, ← Nat.shiftLeft_add, show k + (p - (k : Int) - last).toNat = (p - last).toNat by omega]
        · rw [show (p - (k : Int) - last).toNat = 0 by omega, Nat.shiftLeft_zero, show (last - p).toNat = 0 by omega]
          have h3 : m <<< (p - last).toNat ≠ 0 := by rw [Nat.shiftLeft_eq]; exact Nat.mul_ne_zero hm (Nat.pos_iff_ne_zero.1 (Nat.two_pow_pos _))
          have := cut_scale (neg := neg) (n := m <<< (p - last).toNat) (d := 0) (k := (last - (p - (k : Int))).toNat) h3
          rw [Nat.zero_add, ← Nat.shiftLeft_add, show (p - last).toNat + (last - (p - (k : Int))).toNat = k by omega] at this
          exact this
    show f.word neg (min ((last - f.leastPlace).toNat * f.binade + Toward.even.cut neg (m <<< k <<< (p - (k : Int) - last).toNat) (last - (p - (k : Int))).toNat) f.infRung) = _
    rw [hc]

/-! ## Halves -/
theorem read_two : single.read 1073741824 = .number false 8388608 (-22) := by rw [s_read]; rfl
theorem read_half : single.read 1056964608 = .number false 8388608 (-24) := by rw [s_read]; rfl
theorem half_eq {x m : Nat} {s : Bool} {i : Int} (h : single.read x = .number s m i) : single.div x 1073741824 = some (single.nearest s m (i - 1)) ∧ single.mul 1056964608 x = some (single.nearest s m (i - 1)) := by
  have hb := s_num h
  have hlog : m.log2 ≤ 23 := by
    by_cases h0 : m = 0
    · subst h0; decide
    · exact log2_le h0 (by omega)
  constructor
  · rw [Format.div, h, read_two]
    have hq : Datum.quotient (single.fractionBits + 2) (.number s m i) (.number false 8388608 (-22)) = some (.number s (m <<< (26 - m.log2)) (i - 1 - ((26 - m.log2 : Nat) : Int))) := by
      rw [Datum.quotient, if_neg (by omega)]
      have hl : Nat.log2 8388608 = 23 := by decide
      show some (Datum.number (s ^^ false) (2 * ((m <<< (25 + Nat.log2 8388608 - m.log2)) / 8388608) + ((m <<< (25 + Nat.log2 8388608 - m.log2)) % 8388608 != 0).toNat) (i - (-22) - ((25 + Nat.log2 8388608 - m.log2 : Nat) : Int) - 1)) = _
      rw [hl]
      have e : m <<< (25 + 23 - m.log2) = (m <<< (25 - m.log2)) * 8388608 := by
        rw [Nat.shiftLeft_eq, Nat.shiftLeft_eq, show 25 + 23 - m.log2 = (25 - m.log2) + 23 by omega, Nat.pow_add, Nat.mul_assoc]
      have e2 : m <<< (26 - m.log2) = 2 * (m <<< (25 - m.log2)) := by
        rw [Nat.shiftLeft_eq, Nat.shiftLeft_eq, show 26 - m.log2 = (25 - m.log2) + 1 by omega, Nat.pow_succ]
        rw [← Nat.mul_assoc, Nat.mul_comm]
      rw [e, Nat.mul_div_cancel _ (by omega), Nat.mul_mod_left, e2, Bool.xor_false, show i - (-22) - ((25 + 23 - m.log2 : Nat) : Int) - 1 = i - 1 - ((26 - m.log2 : Nat) : Int) by omega]
      rfl
    rw [hq]
    show some (single.nearest s (m <<< (26 - m.log2)) (i - 1 - ((26 - m.log2 : Nat) : Int))) = _
    rw [near_scale]
  · rw [Format.mul, h, read_half]
    show some (single.nearest (false ^^ s) (8388608 * m) (-24 + i)) = _
    have e : 8388608 * m = m <<< 23 := by rw [Nat.shiftLeft_eq, Nat.mul_comm]
    rw [e, Bool.false_xor, show -24 + i = (i - 1) - ((23 : Nat) : Int) by omega, near_scale]

/-! ## Rounded to at most -/
def vle (m : Nat) (i : Int) (n : Nat) (j : Int) : Prop := m * 2 ^ (i - min i j).toNat ≤ n * 2 ^ (j - min i j).toNat
theorem leB_of_vle {x y m n : Nat} {i j : Int} (hx : single.read x = .number false m i) (hy : single.read y = .number false n j) (h : vle m i n j) : leB x y = true := by
  rw [leB, ord_def, hx, hy]
  show (some (compare (signed false m (i - min i j).toNat) (signed false n (j - min i j).toNat)) == some Ordering.lt || some (compare (signed false m (i - min i j).toNat) (signed false n (j - min i j).toNat)) == some Ordering.eq) = true
  rw [signed_false, signed_false]
  have h' : ((m * 2 ^ (i - min i j).toNat : Nat) : Int) ≤ ((n * 2 ^ (j - min i j).toNat : Nat) : Int) := Int.ofNat_le.2 h
  rcases Int.lt_or_eq_of_le h' with c | c
  · rw [Int.compare_eq_lt.2 c]; rfl
  · rw [Int.compare_eq_eq.2 c]; rfl
theorem vle_of_leB {x y m n : Nat} {i j : Int} (hx : single.read x = .number false m i) (hy : single.read y = .number false n j) (h : leB x y = true) : vle m i n j := by
  rw [leB, ord_def, hx, hy] at h
  have h : (some (compare (signed false m (i - min i j).toNat) (signed false n (j - min i j).toNat)) == some Ordering.lt || some (compare (signed false m (i - min i j).toNat) (signed false n (j - min i j).toNat)) == some Ordering.eq) = true := h
  simp only [Bool.or_eq_true, beq_iff_eq, Option.some.injEq] at h
  have := compare_le h
  rw [signed_false, signed_false] at this
  exact Int.ofNat_le.1 this
theorem cut_le_int {neg : Bool} {n d M : Nat} (h : n ≤ M * 2 ^ d) : Toward.even.cut neg n d ≤ M := by
  rw [cut_eq rfl]
  unfold cutE
  by_cases c : d ≤ n.log2 + 2
  · rw [Nat.min_eq_left c]
    have hp := Nat.two_pow_pos d
    have h1 : n / 2 ^ d ≤ M := Nat.div_le_of_le_mul (by rw [Nat.mul_comm]; exact h)
    by_cases e : n / 2 ^ d = M
    · have h2 := Nat.div_add_mod n (2 ^ d)
      rw [e, Nat.mul_comm] at h2
      have h3 : n % 2 ^ d = 0 := by omega
      rw [h3, e, decide_eq_false (by omega), beq_eq_false_iff_ne.2 (by omega)]
      simp
    · have : (decide (2 ^ d < 2 * (n % 2 ^ d)) || (2 ^ d == 2 * (n % 2 ^ d) && n / 2 ^ d % 2 == 1)).toNat ≤ 1 := Bool.toNat_le _
      omega
  · rw [Nat.min_eq_right (by omega)]
    have h1 := lt_log2 (n := n)
    have h2 : 2 ^ (n.log2 + 2) = 2 * 2 ^ (n.log2 + 1) := by rw [Nat.pow_succ, Nat.mul_comm]
    rw [Nat.div_eq_of_lt (by omega), Nat.mod_eq_of_lt (by omega), decide_eq_false (by omega), beq_eq_false_iff_ne.2 (by omega)]
    simp
theorem near_le {y mag m0 : Nat} {place i0 : Int} (hy : single.read y = .number false m0 i0) (h : vle mag place m0 i0) : (∃ m i, single.read (single.nearest false mag place) = .number false m i) ∧ leB (single.nearest false mag place) y = true := by
  have hb := s_num hy
  -- the rung
  have hr : ∃ r, single.nearest false mag place = single.word false r ∧ (r : Int) ≤ (i0 + 149) * 8388608 + m0 := by
    by_cases hm : mag = 0
    · refine ⟨0, by rw [Format.nearest, if_pos hm], ?_⟩
      have : (0 : Int) ≤ (i0 + 149) * 8388608 := Int.mul_nonneg (by omega) (by omega)
      omega
    · have hc := (cmp_small (E := i0 + (m0.log2 : Int)) (.inr (Int.le_refl _)) h).resolve_left hm
      have hl0 : m0.log2 ≤ 23 := by
        by_cases h0 : m0 = 0
        · subst h0; decide
        · exact log2_le h0 (by omega)
      rw [Format.nearest, if_neg hm]
      refine ⟨_, rfl, ?_⟩
      show ((min ((max (place + (mag.log2 : Int) - (23 : Nat)) (-149) - (-149)).toNat * 8388608 + Toward.even.cut false (mag <<< (place - max (place + (mag.log2 : Int) - (23 : Nat)) (-149)).toNat) (max (place + (mag.log2 : Int) - (23 : Nat)) (-149) - place).toNat) 2139095040 : Nat) : Int) ≤ _
      generalize hlast : max (place + (mag.log2 : Int) - (23 : Nat)) (-149) = last
      by_cases c : last = i0
      · subst c
        have hk : Toward.even.cut false (mag <<< (place - last).toNat) (last - place).toNat ≤ m0 := by
          refine cut_le_int ?_
          rw [Nat.shiftLeft_eq]
          unfold vle at h
          by_cases c2 : place ≤ last
          · rw [show (place - min place last).toNat = 0 by omega, show (last - min place last).toNat = (last - place).toNat by omega] at h
            rw [show (place - last).toNat = 0 by omega]; exact h
          · rw [show (place - min place last).toNat = (place - last).toNat by omega, show (last - min place last).toNat = 0 by omega] at h
            rw [show (last - place).toNat = 0 by omega]; exact h
        have := Nat.min_le_left ((last - (-149)).toNat * 8388608 + Toward.even.cut false (mag <<< (place - last).toNat) (last - place).toNat) 2139095040
        omega
      · have hk := cut_le (neg := false) (n := mag <<< (place - last).toNat) (b := (last - place).toNat) (f := 23) (by have := log2_shl (a := (place - last).toNat) hm; omega)
        have := Nat.min_le_left ((last - (-149)).toNat * 8388608 + Toward.even.cut false (mag <<< (place - last).toNat) (last - place).toNat) 2139095040
        have h24 : (2 : Nat) ^ (23 + 1) = 16777216 := by decide
        rw [h24] at hk
        omega
  obtain ⟨r, e, hle⟩ := hr
  have hw := s_parts false r (by omega)
  rw [e]
  have key : ∃ m i, single.read (single.word false r) = .number false m i ∧ vle m i m0 i0 := by
    rw [s_read, hw.1, hw.2]
    by_cases c : r < 8388608
    · rw [if_pos c]
      refine ⟨r, -149, rfl, ?_⟩
      unfold vle
      rw [show (-149 - min (-149) i0).toNat = 0 by omega, Nat.pow_zero, Nat.mul_one]
      by_cases c2 : i0 = -149
      · subst c2
        rw [show (-149 - min (-149) (-149 : Int)).toNat = 0 by omega, Nat.pow_zero, Nat.mul_one]; omega
      · have := Nat.le_mul_of_pos_right m0 (Nat.two_pow_pos (i0 - min (-149) i0).toNat)
        omega
    · rw [if_neg c, if_pos (by omega)]
      refine ⟨_, _, rfl, ?_⟩
      generalize hi : (-149 + ((r / 8388608 - 1 : Nat) : Int)) = i
      generalize hm : 8388608 + r % 8388608 = m
      unfold vle
      rcases Int.lt_trichotomy i i0 with c2 | c2 | c2
      · rw [show (i - min i i0).toNat = 0 by omega, Nat.pow_zero, Nat.mul_one]
        obtain ⟨d, hd⟩ : ∃ d, (i0 - min i i0).toNat = d + 1 := ⟨(i0 - min i i0).toNat - 1, by omega⟩
        rw [hd, Nat.pow_succ]
        have hp := Nat.two_pow_pos d
        have : m0 * 2 ≤ m0 * (2 ^ d * 2) := Nat.mul_le_mul_left _ (by omega)
        omega
      · subst c2
        rw [show (i - min i i).toNat = 0 by omega, Nat.pow_zero, Nat.mul_one, Nat.mul_one]
        omega
      · exfalso; omega
  obtain ⟨m, i, e3, hv⟩ := key
  exact ⟨⟨m, i, e3⟩, leB_of_vle e3 hy hv⟩
end Go.Am
