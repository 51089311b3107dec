/-
  The abstract heap: what this claim needs of it. General: no program is named.
-/
import Derived.Test.YtfnopalingnilaaAmG5
namespace Go.Am
set_option linter.unusedSimpArgs false
set_option linter.unusedVariables false
open Ieee
/-- A number in double precision that is not below zero, and its value; its last place is at least 2 ^ e. -/
def DV (e : Int) (x v : Nat) : Prop := ∃ m i, double.read x = .number false m i ∧ (m = 0 ∨ (e ≤ i ∧ 4503599627370496 ≤ m)) ∧ V m i = v
theorem DV.mono {e e' : Int} {x v : Nat} (h : DV e x v) (he : e' ≤ e) : DV e' x v := by
  obtain ⟨m, i, h1, h2, h3⟩ := h
  exact ⟨m, i, h1, by omega, h3⟩
theorem d_num {x m : Nat} {s : Bool} {i : Int} (h : double.read x = .number s m i) : m < 9007199254740992 ∧ -1074 ≤ i ∧ i ≤ 971 := by
  rw [d_read] at h
  have hm : x % 9223372036854775808 < 9223372036854775808 := Nat.mod_lt _ (by decide)
  generalize x % 9223372036854775808 = r at *
  by_cases c : r < 4503599627370496
  · rw [if_pos c] at h
    injection h with _ h2 h3
    omega
  · rw [if_neg c] at h
    by_cases c2 : r < 9218868437227405312
    · rw [if_pos c2] at h
      injection h with _ h2 h3
      omega
    · rw [if_neg c2] at h
      split at h <;> cases h
theorem d_zero : double.read 0 = .number false 0 (-1074) := by rw [d_read]; rfl
theorem zero_DV {e : Int} : DV e 0 0 := ⟨0, -1074, d_zero, .inl rfl, V_zero⟩
theorem near_at64 {N : Nat} {p : Int} (hN : N ≠ 0) (h1 : -1022 ≤ p + (N.log2 : Int)) (h2 : p + (N.log2 : Int) ≤ 900) :
    double.nearest false N p = double.word false ((p + (N.log2 : Int) - 52 + 1074).toNat * 4503599627370496 + Toward.even.cut false (N <<< (p - (p + (N.log2 : Int) - (52 : Nat))).toNat) (p + (N.log2 : Int) - (52 : Nat) - p).toNat) := by
  rw [Format.nearest, if_neg hN]
  show double.word false (min ((max (p + (N.log2 : Int) - (52 : Nat)) (-1074) - (-1074)).toNat * 4503599627370496 + Toward.even.cut false (N <<< (p - max (p + (N.log2 : Int) - (52 : Nat)) (-1074)).toNat) (max (p + (N.log2 : Int) - (52 : Nat)) (-1074) - p).toNat) 9218868437227405312) = _
  rw [show max (p + (N.log2 : Int) - ((52 : Nat) : Int)) (-1074) = p + (N.log2 : Int) - (52 : Nat) by omega]
  have hc := cut_le (neg := false) (n := N <<< (p - (p + (N.log2 : Int) - (52 : Nat))).toNat) (b := (p + (N.log2 : Int) - (52 : Nat) - p).toNat) (f := 52) (by have := log2_shl (a := (p - (p + (N.log2 : Int) - (52 : Nat))).toNat) hN; omega)
  have h24 : (2 : Nat) ^ (52 + 1) = 9007199254740992 := by decide
  rw [h24] at hc
  rw [Nat.min_eq_left (by omega), show p + (N.log2 : Int) - ((52 : Nat) : Int) - -1074 = p + (N.log2 : Int) - 52 + 1074 by omega]
theorem read_rung64 {kept : Nat} {last : Int} (h1 : 4503599627370496 ≤ kept) (h2 : kept ≤ 9007199254740992) (h3 : -300 ≤ last) (h4 : last ≤ 900) : ∃ m i, double.read (double.word false ((last + 1074).toNat * 4503599627370496 + kept)) = .number false m i ∧ last ≤ i ∧ 4503599627370496 ≤ m ∧ V m i = kept * 2 ^ (last + 300).toNat := by
  have hw := d_parts false ((last + 1074).toNat * 4503599627370496 + kept) (by omega)
  rw [d_read, hw.1, hw.2]
  rw [if_neg (by omega), if_pos (by omega)]
  refine ⟨_, _, rfl, ?_⟩
  by_cases c : kept = 9007199254740992
  · subst c
    rw [show ((last + 1074).toNat * 4503599627370496 + 9007199254740992) / 4503599627370496 = (last + 1074).toNat + 2 by omega, show ((last + 1074).toNat * 4503599627370496 + 9007199254740992) % 4503599627370496 = 0 by omega]
    refine ⟨by omega, by omega, ?_⟩
    unfold V
    rw [show (-1074 + (((last + 1074).toNat + 2 - 1 : Nat) : Int) + 300).toNat = (last + 300).toNat + 1 by omega, Nat.pow_succ]
    omega
  · rw [show ((last + 1074).toNat * 4503599627370496 + kept) / 4503599627370496 = (last + 1074).toNat + 1 by omega, show ((last + 1074).toNat * 4503599627370496 + kept) % 4503599627370496 = kept - 4503599627370496 by omega]
    refine ⟨by omega, by omega, ?_⟩
    unfold V
    rw [show (-1074 + (((last + 1074).toNat + 1 - 1 : Nat) : Int) + 300).toNat = (last + 300).toNat by omega, show 4503599627370496 + (kept - 4503599627370496) = kept by omega]
theorem near_abs64 {N : Nat} {p e : Int} {B : Nat} (h0 : -300 ≤ p) (he : -300 ≤ e) (hL : N = 0 ∨ e + 52 ≤ p + (N.log2 : Int)) (hB : V N p ≤ B * UU) (hB2 : B ≤ 1000000) : ∃ v, DV e (double.nearest false N p) v ∧ v ≤ V N p + B * AA ∧ V N p ≤ v + B * AA := by
  by_cases hN : N = 0
  · subst hN
    rw [near_zero, V_zero]
    exact ⟨0, zero_DV, Nat.zero_le _, Nat.zero_le _⟩
  have hL := hL.resolve_left hN
  have hl := log_of_V hN h0 (Nat.lt_of_le_of_lt hB (bound_pow hB2 rfl))
  obtain ⟨K, hK, k1, k2, k3, k4⟩ := cut_val (F := 52) hN h0 (by omega)
  rw [near_at64 hN (by omega) (by omega), ← hK]
  obtain ⟨m, i, e1, h5, h6, hv⟩ := read_rung64 (kept := K) (last := p + (N.log2 : Int) - (52 : Nat)) k1 k2 (by omega) (by omega)
  refine ⟨_, ⟨m, i, by rw [← e1]; rfl, .inr ⟨by omega, h6⟩, rfl⟩, ?_⟩
  rw [hv]
  rw [UU_eq] at hB
  have h24 : (2 : Nat) ^ (52 + 1) = 9007199254740992 := by decide
  rw [h24] at k3 k4
  have hB2 : V N p ≤ B * (9007199254740992 * AA) := Nat.le_trans hB (Nat.mul_le_mul_left _ (Nat.mul_le_mul_right _ (by decide)))
  exact err_abs (by decide) hB2 k3 k4
/-! ## A number made wide -/
theorem wid_eq {x m : Nat} {i : Int} (e : single.read x = .number false m i) : wid x = double.nearest false m i := by
  have hb := s_num e
  have e4 : ∃ a b, double.read (double.write (.number false m i)) = .number false a b := by
    obtain ⟨r, e2, hr, hl⟩ := near_rung double false m i
    have hl : r ≤ 1149 * 4503599627370496 + 2 * 4503599627370496 := hl 1149 (by
      by_cases h0 : m = 0
      · exact .inl h0
      · right
        have : m.log2 ≤ 23 := log2_le h0 (by omega)
        show i + (m.log2 : Int) - (52 : Nat) - (-1074) ≤ _
        omega)
    obtain ⟨a, b, e3⟩ := d_word false r (by omega)
    exact ⟨a, b, by
      show double.read (double.nearest false m i) = _
      rw [e2]; exact e3⟩
  obtain ⟨a, b, e4⟩ := e4
  have : floatToFloatBits .f32 x .f64 = some (double.write (.number false m i)) := by
    unfold floatToFloatBits
    rw [if_neg (by decide)]
    show (match single.read x with
      | .nan _ _ => none
      | .infinity s => some (double.write (.infinity s))
      | .number s m e => if (double.read (double.write (.number s m e))).isInfinity then none else some (double.write (.number s m e))) = _
    rw [e]
    show (if (double.read (double.write (.number false m i))).isInfinity then none else some (double.write (.number false m i))) = _
    rw [e4]; rfl
  rw [wid, this]; rfl
theorem wid_abs {x a B : Nat} (hx : NV x a) (hB : a ≤ B * UU) (hB2 : B ≤ 1000000) : ∃ v, DV (-201) (wid x) v ∧ v ≤ a + B * AA ∧ a ≤ v + B * AA := by
  obtain ⟨m, i, e, rfl⟩ := hx
  have hb := s_num e
  rw [wid_eq e]
  exact near_abs64 (by omega) (by omega) (.inr (by omega)) hB hB2
/-! ## Operations -/
def dSub (x y : Nat) : Nat := (double.sub x y).getD 0
def dAdd (x y : Nat) : Nat := (double.add x y).getD 0
def dDiv (x y : Nat) : Nat := (double.div x y).getD 0
theorem V_ne {m : Nat} {i : Int} : V m i = 0 ↔ m = 0 := by
  constructor
  · intro h
    unfold V at h
    rcases Nat.mul_eq_zero.1 h with h | h
    · exact h
    · exact absurd h (Nat.pos_iff_ne_zero.1 (Nat.two_pow_pos _))
  · rintro rfl; exact V_zero
theorem near_shl {f : Format} {neg : Bool} {m : Nat} {i b : Int} (h : b ≤ i) : f.nearest neg (m * 2 ^ (i - b).toNat) b = f.nearest neg m i := by
  have := near_scale (f := f) (neg := neg) (m := m) (k := (i - b).toNat) (p := i)
  rwa [Nat.shiftLeft_eq, show i - (((i - b).toNat : Nat) : Int) = b by omega] at this
theorem sum_pos {m n : Nat} {i j : Int} : (Datum.number false m i).sum (.number false n j) = some (.number false (m * 2 ^ (i - min i j).toNat + n * 2 ^ (j - min i j).toNat) (min i j)) := by
  show some (Datum.number (if signed false m (i - min i j).toNat + signed false n (j - min i j).toNat = 0 then false && false else decide (signed false m (i - min i j).toNat + signed false n (j - min i j).toNat < 0)) (signed false m (i - min i j).toNat + signed false n (j - min i j).toNat).natAbs (min i j)) = _
  rw [signed_false, signed_false, ← Int.natCast_add, Int.natAbs_natCast]
  have : (if ((m * 2 ^ (i - min i j).toNat + n * 2 ^ (j - min i j).toNat : Nat) : Int) = 0 then false && false else decide (((m * 2 ^ (i - min i j).toNat + n * 2 ^ (j - min i j).toNat : Nat) : Int) < 0)) = false := by
    split
    · rfl
    · rw [decide_eq_false]
      have := Int.natCast_nonneg (m * 2 ^ (i - min i j).toNat + n * 2 ^ (j - min i j).toNat)
      omega
  rw [this]
theorem sum_neg {m n : Nat} {i j : Int} : ∃ s g, (Datum.number false m i).sum (.number true n j) = some (.number s g (min i j)) ∧
    (n * 2 ^ (j - min i j).toNat ≤ m * 2 ^ (i - min i j).toNat → s = false ∧ g = m * 2 ^ (i - min i j).toNat - n * 2 ^ (j - min i j).toNat) ∧ (m * 2 ^ (i - min i j).toNat < n * 2 ^ (j - min i j).toNat → s = true) := by
  refine ⟨(if signed false m (i - min i j).toNat + signed true n (j - min i j).toNat = 0 then false && true else decide (signed false m (i - min i j).toNat + signed true n (j - min i j).toNat < 0)), (signed false m (i - min i j).toNat + signed true n (j - min i j).toNat).natAbs, rfl, ?_⟩
  rw [signed_false, signed_true]
  generalize m * 2 ^ (i - min i j).toNat = P
  generalize n * 2 ^ (j - min i j).toNat = Q
  constructor
  · intro h
    rw [show ((P : Nat) : Int) + -((Q : Nat) : Int) = ((P - Q : Nat) : Int) by omega, Int.natAbs_natCast]
    refine ⟨?_, rfl⟩
    split
    · rfl
    · rw [decide_eq_false]; omega
  · intro h
    rw [if_neg (by omega), decide_eq_true (by omega)]
theorem mul_le_V {m n : Nat} {i j e : Int} (he : -300 ≤ e) (hm : m = 0 ∨ e ≤ i) (hn : n = 0 ∨ e ≤ j) : n * 2 ^ (j - min i j).toNat ≤ m * 2 ^ (i - min i j).toNat ↔ V n j ≤ V m i := by
  by_cases h0 : n = 0
  · subst h0; rw [V_zero, Nat.zero_mul]; simp
  · have hn := hn.resolve_left h0
    by_cases h1 : m = 0
    · subst h1
      rw [V_zero, Nat.zero_mul]
      constructor
      · intro h
        have h2 := Nat.pos_iff_ne_zero.1 (Nat.two_pow_pos (j - min i j).toNat)
        rcases Nat.mul_eq_zero.1 (Nat.le_zero.1 h) with h3 | h3
        · exact absurd h3 h0
        · exact absurd h3 h2
      · intro h
        exact absurd (V_ne.1 (Nat.le_zero.1 h)) h0
    · have hm := hm.resolve_left h1
      rw [← V_split (m := m) (i := i) (b := min i j) (by omega) (by omega), ← V_split (m := n) (i := j) (b := min i j) (by omega) (by omega)]
      constructor
      · intro h; exact Nat.mul_le_mul_right _ h
      · intro h; exact Nat.le_of_mul_le_mul_right h (Nat.two_pow_pos _)
theorem DV.ex {e : Int} {x v : Nat} (h : DV e x v) : ∃ m i, double.read x = .number false m i ∧ (m = 0 ∨ (e ≤ i ∧ 4503599627370496 ≤ m)) ∧ V m i = v := h
theorem log52 {m : Nat} (h : 4503599627370496 ≤ m) : 52 ≤ m.log2 := (Nat.le_log2 (by omega)).2 (by rw [show (2 : Nat) ^ 52 = 4503599627370496 from by decide]; exact h)
theorem sub_abs64 {x y a b B : Nat} {e : Int} (he : -248 ≤ e) (hx : DV e x a) (hy : DV e y b) (hle : b ≤ a) (hB : a - b ≤ B * UU) (hB2 : B ≤ 1000000) :
    double.sub x y = some (dSub x y) ∧ ∃ v, DV (e - 52) (dSub x y) v ∧ v ≤ a - b + B * AA ∧ a - b ≤ v + B * AA := by
  obtain ⟨m, i, e1, c1, rfl⟩ := hx
  obtain ⟨n, j, e2, c2, rfl⟩ := hy
  obtain ⟨s, g, hs, h1, _⟩ := sum_neg (m := m) (n := n) (i := i) (j := j)
  have hle2 := (mul_le_V (e := e) (by omega) (by omega) (by omega)).2 hle
  obtain ⟨rfl, rfl⟩ := h1 hle2
  have e3 : double.sub x y = some (double.nearest false (m * 2 ^ (i - min i j).toNat - n * 2 ^ (j - min i j).toNat) (min i j)) := by
    rw [Format.sub, e1, e2]
    show ((Datum.number false m i).sum (.number true n j)).map _ = _
    rw [hs]; rfl
  have e4 : dSub x y = double.nearest false (m * 2 ^ (i - min i j).toNat - n * 2 ^ (j - min i j).toNat) (min i j) := by rw [dSub, e3]; rfl
  refine ⟨by rw [e3, e4], ?_⟩
  rw [e4]
  by_cases h0 : n = 0
  · subst h0
    rw [Nat.zero_mul, Nat.sub_zero, near_shl (by omega), V_zero, Nat.sub_zero] at *
    by_cases h2 : m = 0
    · subst h2
      rw [near_zero, V_zero]
      exact ⟨0, zero_DV, Nat.zero_le _, Nat.zero_le _⟩
    · have c1 := c1.resolve_left h2
      have := log52 c1.2
      exact near_abs64 (by omega) (by omega) (.inr (by omega)) hB hB2
  · have c2 := c2.resolve_left h0
    have h2 : m ≠ 0 := by
      rintro rfl
      rw [V_zero] at hle
      exact h0 (V_ne.1 (Nat.le_zero.1 hle))
    have c1 := c1.resolve_left h2
    have hV : V (m * 2 ^ (i - min i j).toNat - n * 2 ^ (j - min i j).toNat) (min i j) = V m i - V n j := by
      rw [← V_split (m := m) (i := i) (b := min i j) (by omega) (by omega), ← V_split (m := n) (i := j) (b := min i j) (by omega) (by omega), ← Nat.sub_mul]
      rfl
    rw [← hV] at hB ⊢
    exact near_abs64 (by omega) (by omega) (by omega) hB hB2
theorem add_abs64 {x y a b B : Nat} {e : Int} (he : -248 ≤ e) (hx : DV e x a) (hy : DV e y b) (ha : a ≠ 0) (hb : b ≠ 0) (hB : a + b ≤ B * UU) (hB2 : B ≤ 1000000) :
    double.add x y = some (dAdd x y) ∧ ∃ v, DV (e - 52) (dAdd x y) v ∧ v ≤ a + b + B * AA ∧ a + b ≤ v + B * AA := by
  obtain ⟨m, i, e1, c1, rfl⟩ := hx
  obtain ⟨n, j, e2, c2, rfl⟩ := hy
  have c1 := c1.resolve_left fun h => ha (V_ne.2 h)
  have c2 := c2.resolve_left fun h => hb (V_ne.2 h)
  have e3 : double.add x y = some (double.nearest false (m * 2 ^ (i - min i j).toNat + n * 2 ^ (j - min i j).toNat) (min i j)) := by
    rw [Format.add, e1, e2, sum_pos]; rfl
  have e4 : dAdd x y = double.nearest false (m * 2 ^ (i - min i j).toNat + n * 2 ^ (j - min i j).toNat) (min i j) := by rw [dAdd, e3]; rfl
  refine ⟨by rw [e3, e4], ?_⟩
  rw [e4]
  have hV : V (m * 2 ^ (i - min i j).toNat + n * 2 ^ (j - min i j).toNat) (min i j) = V m i + V n j := by
    rw [← V_split (m := m) (i := i) (b := min i j) (by omega) (by omega), ← V_split (m := n) (i := j) (b := min i j) (by omega) (by omega), ← Nat.add_mul]
    rfl
  rw [← hV] at hB ⊢
  exact near_abs64 (by omega) (by omega) (by omega) hB hB2
/-! ## Order -/
theorem ord_DV {x y a b : Nat} {e : Int} (he : -300 ≤ e) (hx : DV e x a) (hy : DV e y b) : double.order x y = some (if a < b then .lt else if b < a then .gt else .eq) := by
  obtain ⟨m, i, e1, c1, rfl⟩ := hx
  obtain ⟨n, j, e2, c2, rfl⟩ := hy
  rw [Format.order, e1, e2]
  show some (compare (signed false m (i - min i j).toNat) (signed false n (j - min i j).toNat)) = _
  rw [signed_false, signed_false]
  have k1 := mul_le_V (m := m) (n := n) (i := i) (j := j) he (by omega) (by omega)
  have k2 := mul_le_V (m := n) (n := m) (i := j) (j := i) he (by omega) (by omega)
  rw [show min j i = min i j by omega] at k2
  generalize m * 2 ^ (i - min i j).toNat = P at *
  generalize n * 2 ^ (j - min i j).toNat = Q at *
  congr 1
  by_cases c : V m i < V n j
  · rw [if_pos c]
    have : ¬ Q ≤ P := fun h => by have := k1.1 h; omega
    exact Int.compare_eq_lt.2 (by omega)
  · rw [if_neg c]
    by_cases d : V n j < V m i
    · rw [if_pos d]
      have : ¬ P ≤ Q := fun h => by have := k2.1 h; omega
      exact Int.compare_eq_gt.2 (by omega)
    · rw [if_neg d]
      have h1 := k1.2 (by omega)
      have h2 := k2.2 (by omega)
      exact Int.compare_eq_eq.2 (by omega)
/-! ## What is below zero, and the gap -/
theorem read_neg64 (N : Nat) (p : Int) : (∃ m i, double.read (double.nearest true N p) = .number true m i) ∨ double.read (double.nearest true N p) = .infinity true := by
  obtain ⟨r, e, h1, _⟩ := near_rung double true N p
  rw [e]
  have h1 : r ≤ 9218868437227405312 := h1
  by_cases c : r = 9218868437227405312
  · subst c; exact .inr (d_inf true)
  · exact .inl (d_word true r (by omega))
/-- Less than a positive number: a number below zero, or a small one. -/
def Lo (C : Nat) (x : Nat) : Prop := (∃ m i, double.read x = .number true m i) ∨ double.read x = .infinity true ∨ ∃ e v, -300 ≤ e ∧ DV e x v ∧ v < C
theorem Lo.lt {C x c : Nat} {e : Int} (he : -300 ≤ e) (h : Lo C x) (hc : DV e c C) (hC : 0 < C) : double.order x c = some .lt := by
  rcases h with ⟨m, i, h⟩ | h | ⟨e', v, h1, h2, h3⟩
  · obtain ⟨n, j, e2, c2, rfl⟩ := hc
    rw [Format.order, h, e2]
    show some (compare (signed true m (i - min i j).toNat) (signed false n (j - min i j).toNat)) = _
    rw [signed_true, signed_false]
    have hn : n ≠ 0 := fun h => by rw [V_ne.2 h] at hC; omega
    have hq : 0 < n * 2 ^ (j - min i j).toNat := Nat.mul_pos (by omega) (Nat.two_pow_pos _)
    congr 1
    exact Int.compare_eq_lt.2 (by omega)
  · obtain ⟨n, j, e2, c2, rfl⟩ := hc
    rw [Format.order, h, e2]; rfl
  · have := ord_DV (e := min e e') (by omega) (h2.mono (by omega)) (hc.mono (by omega))
    rw [this, if_pos h3]
theorem Lo.ord {C D x y : Nat} (hx : Lo C x) (hy : Lo D y) : ∃ o, double.order x y = some o := by
  have key : ∀ {C x}, Lo C x → (double.read x).isNaN = false := fun h => by
    rcases h with ⟨m, i, h⟩ | h | ⟨e', v, h1, ⟨m, i, h2, _⟩, h3⟩
    · rw [h]; rfl
    · rw [h]; rfl
    · rw [h2]; rfl
  have h1 := key hx
  have h2 := key hy
  rw [Format.order]
  cases e1 : double.read x with
  | nan s n => rw [e1] at h1; cases h1
  | infinity s => cases e2 : double.read y with
    | nan s n => rw [e2] at h2; cases h2
    | infinity s => exact ⟨_, rfl⟩
    | number s m i => exact ⟨_, rfl⟩
  | number s m i => cases e2 : double.read y with
    | nan s n => rw [e2] at h2; cases h2
    | infinity s => exact ⟨_, rfl⟩
    | number s m i => exact ⟨_, rfl⟩
theorem sub_lo64 {x y a b B C : Nat} {e : Int} (he : -248 ≤ e) (hx : DV e x a) (hy : DV e y b) (hB : a - b ≤ B * UU) (hB2 : B ≤ 1000000) (hC : a - b + B * AA < C) : double.sub x y = some (dSub x y) ∧ Lo C (dSub x y) := by
  by_cases hle : b ≤ a
  · obtain ⟨h1, v, h2, h3, h4⟩ := sub_abs64 he hx hy hle hB hB2
    exact ⟨h1, .inr (.inr ⟨e - 52, v, by omega, h2, by omega⟩)⟩
  · obtain ⟨m, i, e1, c1, rfl⟩ := hx
    obtain ⟨n, j, e2, c2, rfl⟩ := hy
    obtain ⟨s, g, hs, _, h1⟩ := sum_neg (m := m) (n := n) (i := i) (j := j)
    have hlt : m * 2 ^ (i - min i j).toNat < n * 2 ^ (j - min i j).toNat := Nat.lt_of_not_le fun h => hle ((mul_le_V (e := e) (by omega) (by omega) (by omega)).1 h)
    rw [h1 hlt] at hs
    have e3 : double.sub x y = some (double.nearest true g (min i j)) := by
      rw [Format.sub, e1, e2]
      show ((Datum.number false m i).sum (.number true n j)).map _ = _
      rw [hs]; rfl
    have e4 : dSub x y = double.nearest true g (min i j) := by rw [dSub, e3]; rfl
    refine ⟨by rw [e3, e4], ?_⟩
    rw [e4]
    rcases read_neg64 g (min i j) with h | h
    · exact .inl h
    · exact .inr (.inl h)
def gapD (x y : Nat) : Nat := (fmaxB .f64 (dSub x y) (dSub y x)).getD 0
theorem gap_ok {x y a b B C : Nat} {e : Int} (he : -248 ≤ e) (hx : DV e x a) (hy : DV e y b) (h1 : a - b ≤ B * UU) (h2 : b - a ≤ B * UU) (hB2 : B ≤ 1000000) (hC1 : a - b + B * AA < C) (hC2 : b - a + B * AA < C) :
    double.sub x y = some (dSub x y) ∧ double.sub y x = some (dSub y x) ∧ fmaxB .f64 (dSub x y) (dSub y x) = some (gapD x y) ∧ Lo C (gapD x y) := by
  obtain ⟨p1, p2⟩ := sub_lo64 he hx hy h1 hB2 hC1
  obtain ⟨q1, q2⟩ := sub_lo64 he hy hx h2 hB2 hC2
  obtain ⟨o, ho⟩ := p2.ord q2
  have ho' : FloatKind.f64.format.order (dSub x y) (dSub y x) = some o := ho
  have key : ∃ r, fmaxB .f64 (dSub x y) (dSub y x) = some r ∧ (r = dSub x y ∨ r = dSub y x) := by
    unfold fmaxB
    rw [ho']
    cases o with
    | lt => exact ⟨_, rfl, .inr rfl⟩
    | gt => exact ⟨_, rfl, .inl rfl⟩
    | eq =>
      refine ⟨_, rfl, ?_⟩
      split
      · exact .inr rfl
      · exact .inl rfl
  obtain ⟨r, k1, k2⟩ := key
  have k3 : gapD x y = r := by rw [gapD, k1]; rfl
  refine ⟨p1, q1, by rw [k3]; exact k1, ?_⟩
  rw [k3]
  rcases k2 with rfl | rfl
  · exact p2
  · exact q2
/-! ## A quotient by a whole number -/
theorem div_abs64 {x n a w B : Nat} (hx : DV (-201) x a) (hn : ∃ m i, double.read n = .number false m i ∧ -60 ≤ i ∧ i ≤ 0 ∧ m ≠ 0 ∧ V m i = w * UU) (hw : 1 ≤ w) (hw2 : w ≤ 1000000) (hB : a ≤ w * (B * UU)) (hB1 : 1 ≤ B) (hB2 : B ≤ 500000) :
    double.div x n = some (dDiv x n) ∧ ∃ v, DV (-222) (dDiv x n) v ∧ v * w ≤ a + w * (3 * B * AA) ∧ a ≤ v * w + w * (3 * B * AA) := by
  obtain ⟨ml, il, e1, c1, rfl⟩ := hx
  obtain ⟨mn, jn, e2, hj1, hj0, hmn, hv⟩ := hn
  have h1 := d_num e1
  have h2 := d_num e2
  have hnl : mn.log2 ≤ 52 := log2_le hmn (by omega)
  generalize hmore : 54 + mn.log2 - ml.log2 = more
  have hq : double.div x n = some (double.nearest false (2 * ((ml <<< more) / mn) + ((ml <<< more) % mn != 0).toNat) (il - jn - (more : Int) - 1)) := by
    rw [Format.div, e1, e2]
    show (Datum.quotient 54 (.number false ml il) (.number false mn jn)).map double.write = _
    rw [Datum.quotient, if_neg hmn, hmore]; rfl
  have hq2 : dDiv x n = double.nearest false (2 * ((ml <<< more) / mn) + ((ml <<< more) % mn != 0).toNat) (il - jn - (more : Int) - 1) := by rw [dDiv, hq]; rfl
  refine ⟨by rw [hq, hq2], ?_⟩
  rw [hq2]
  by_cases h0 : ml = 0
  · subst h0
    rw [Nat.zero_shiftLeft, Nat.zero_div, Nat.zero_mod, V_zero]
    show ∃ v, DV (-222) (double.nearest false 0 _) v ∧ _
    rw [near_zero]
    exact ⟨0, zero_DV, by omega, by omega⟩
  have c1 := c1.resolve_left h0
  have hl52 := log52 c1.2
  obtain ⟨e20, he20⟩ : ∃ e : Nat, e = 320 := ⟨_, rfl⟩
  have hjl := log_of_V (p := jn) hmn (by omega) (e := e20) (by rw [hv]; exact bound_pow hw2 he20)
  have hll : ml.log2 ≤ 52 := log2_le h0 (by omega)
  generalize hP : il - jn - (more : Int) - 1 = P
  obtain ⟨k1, k2, k3⟩ := quot_val (G := 54) hmn h0 (by decide) (by omega) hmore hP.symm (by omega) (by omega) (by omega)
  rw [hv] at k1 k2
  generalize 2 * ((ml <<< more) / mn) + ((ml <<< more) % mn != 0).toNat = N at *
  have hNl : 54 ≤ N.log2 := by
    have h5 : 2 ^ 54 ≤ N := by
      unfold V at k3
      rw [Nat.mul_comm] at k3
      exact Nat.le_of_mul_le_mul_right k3 (Nat.two_pow_pos _)
    exact (Nat.le_log2 (by intro h; rw [h] at h5; simp at h5)).2 h5
  generalize V ml il = a at *
  generalize hu : 2 ^ (P + 300).toNat = u at *
  have h25 : (2 : Nat) ^ 54 = 18014398509481984 := by decide
  rw [h25] at k3
  have m1 : V N P * w ≤ a + u * w := by
    refine Nat.le_of_mul_le_mul_right (c := UU) ?_ UU_pos
    rw [Nat.add_mul, Nat.mul_assoc, Nat.mul_assoc]; exact k1
  have m2 : a ≤ V N P * w + u * w := by
    refine Nat.le_of_mul_le_mul_right (c := UU) ?_ UU_pos
    rw [Nat.add_mul, Nat.mul_assoc, Nat.mul_assoc]; exact k2
  have m3 : V N P ≤ B * UU + u := by
    refine Nat.le_of_mul_le_mul_right (c := w) ?_ hw
    rw [Nat.add_mul, Nat.mul_comm (B * UU)]
    omega
  have hUA := UU_eq
  have m4 : u ≤ B * AA := by
    have : B * UU = 16777216 * (B * AA) := by rw [hUA, Nat.mul_left_comm]
    omega
  obtain ⟨v, q1, q2, q3⟩ := near_abs64 (N := N) (p := P) (e := -222) (B := 2 * B) (by omega) (by omega) (.inr (by omega)) (by rw [Nat.mul_assoc]; omega) (by omega)
  have e2B : 2 * B * AA = 2 * (B * AA) := Nat.mul_assoc _ _ _
  have e3B : 3 * B * AA = 3 * (B * AA) := Nat.mul_assoc _ _ _
  rw [e2B] at q2 q3
  rw [e3B]
  have n1 := Nat.mul_le_mul_right w q2
  have n2 := Nat.mul_le_mul_right w q3
  have n3 : u * w ≤ B * AA * w := Nat.mul_le_mul_right w m4
  rw [Nat.add_mul] at n1 n2
  have e4 : w * (3 * (B * AA)) = 3 * (B * AA * w) := by rw [Nat.mul_comm w, Nat.mul_assoc]
  have e5 : 2 * (B * AA) * w = 2 * (B * AA * w) := Nat.mul_assoc _ _ _
  rw [e5] at n1 n2
  rw [e4]
  exact ⟨v, q1, by omega, by omega⟩
/-- The numbers 1 to 6 in double precision. -/
def dI (n : Int) : Nat := FloatKind.f64.nearest n
def chkD (n : Nat) : Bool := match double.read (dI (n : Int)) with
  | .number false m i => decide (-60 ≤ i ∧ i ≤ 0) && (m == n * 2 ^ (-i).toNat) && m != 0
  | _ => false
theorem t_dI : ((List.range 8).all fun n => n == 0 || chkD n) = true := by kernel_rfl
theorem dI_read {n : Nat} (h0 : 1 ≤ n) (h1 : n ≤ 7) : ∃ m i, double.read (dI (n : Int)) = .number false m i ∧ -60 ≤ i ∧ i ≤ 0 ∧ m ≠ 0 ∧ V m i = n * UU := by
  have hh := List.all_eq_true.1 t_dI n (List.mem_range.2 (by omega))
  rw [Bool.or_eq_true, beq_iff_eq] at hh
  have hh := hh.resolve_left (by omega)
  unfold chkD at hh
  split at hh
  · rename_i m i e
    simp only [Bool.and_eq_true, decide_eq_true_eq, beq_iff_eq, bne_iff_ne] at hh
    obtain ⟨⟨⟨h3, h4⟩, h5⟩, h6⟩ := hh
    refine ⟨m, i, e, h3, h4, h6, ?_⟩
    unfold V UU
    rw [h5, Nat.mul_assoc, ← Nat.pow_add, show (-i).toNat + (i + 300).toNat = 300 by omega]
  · cases hh
/-- A hundredth: some 167772 last places of 1. -/
theorem cent_DV : ∃ v, DV (-60) 4576918229304087675 v ∧ 167772 * AA ≤ v ∧ v ≤ 167773 * AA := by
  obtain ⟨j, hj⟩ : ∃ j : Int, j = -59 := ⟨_, rfl⟩
  have e : double.read 4576918229304087675 = .number false 5764607523034235 j := by rw [d_read, hj]; rfl
  refine ⟨V 5764607523034235 j, ⟨_, j, e, .inr ⟨by omega, by decide⟩, rfl⟩, ?_⟩
  have gen : ∀ a c : Nat, c = 35 + a → 167772 * 2 ^ c ≤ 5764607523034235 * 2 ^ a ∧ 5764607523034235 * 2 ^ a ≤ 167773 * 2 ^ c := fun a c h => by
    rw [h, Nat.pow_add, ← Nat.mul_assoc, ← Nat.mul_assoc]
    exact ⟨Nat.mul_le_mul_right _ (by decide), Nat.mul_le_mul_right _ (by decide)⟩
  unfold V AA
  exact gen (j + 300).toNat 276 (by omega)
end Go.Am

namespace Go.Am
set_option linter.unusedSimpArgs false
set_option linter.unusedVariables false
open Ieee
/-! ## Exact worths -/
def ovl (x y k : Nat) : Nat := min y (k * UU + UU) - max x (k * UU)
def exW (ws : List Int) (x y : Nat) : Nat → Nat
  | 0 => 0
  | k + 1 => exW ws x y k + (ws.getD k 0).toNat * ovl x y k
def smW (ws : List Int) : Prop := ws.length ≤ 6 ∧ ∀ k, k < ws.length → 0 ≤ ws.getD k 0 ∧ ws.getD k 0 ≤ 12
theorem smW.ok {ws : List Int} (h : smW ws) : okW ws := ⟨Nat.le_trans h.1 (by decide), fun k hk => by have := h.2 k hk; omega⟩
theorem exW_add {ws : List Int} {x y z : Nat} (h1 : x ≤ y) (h2 : y ≤ z) : ∀ k, exW ws x z k = exW ws x y k + exW ws y z k
  | 0 => rfl
  | k + 1 => by
    rw [exW, exW, exW, exW_add h1 h2 k]
    have : ovl x z k = ovl x y k + ovl y z k := by
      unfold ovl
      generalize k * UU = c
      omega
    rw [this, Nat.mul_add]
    omega
theorem exW_lip {ws : List Int} {x y : Nat} (hw : smW ws) (h : x ≤ y) : ∀ k, k ≤ ws.length → exW ws x y k ≤ 12 * (min y (k * UU) - min x (k * UU))
  | 0, _ => Nat.zero_le _
  | k + 1, hk => by
    have ih := exW_lip hw h k (by omega)
    have hb := hw.2 k (by omega)
    have h3 : (ws.getD k 0).toNat * ovl x y k ≤ 12 * ovl x y k := Nat.mul_le_mul_right _ (by omega)
    rw [exW]
    have e : (k + 1) * UU = k * UU + UU := Nat.succ_mul _ _
    rw [e]
    unfold ovl at *
    generalize k * UU = c at *
    omega
theorem exW_lip2 {ws : List Int} {x y k : Nat} (hw : smW ws) (h : x ≤ y) (hk : k ≤ ws.length) : exW ws x y k ≤ 12 * (y - x) := by
  have := exW_lip hw h k hk
  omega
theorem exW_le {ws : List Int} {x y k : Nat} (hw : smW ws) (h : x ≤ y) (hk : k ≤ ws.length) : exW ws x y k ≤ 72 * UU := by
  have h1 := exW_lip hw h k hk
  have h2 : k * UU ≤ 6 * UU := Nat.mul_le_mul_right _ (by have := hw.1; omega)
  omega
/-- All pieces before a place, from a place on. -/
def con (ws : List Int) (x : Nat) : Nat → Nat
  | 0 => 0
  | k + 1 => con ws x k + (ws.getD k 0).toNat * (k * UU + UU - max x (k * UU))
theorem con_exU {ws : List Int} {x y U : Nat} (hU : U = UU) (k : Nat) : k * U ≤ y → exW ws x y k = con ws x k := by
  induction k with
  | zero => intro _; rw [exW, con]
  | succ k ih =>
    intro h
    have e : (k + 1) * U = k * U + U := Nat.succ_mul _ _
    rw [e] at h
    rw [exW, con, ih (by omega)]
    have : ovl x y k = k * UU + UU - max x (k * UU) := by
      unfold ovl
      rw [hU] at h
      omega
    rw [this]
theorem con_ex {ws : List Int} {x y k : Nat} (h : k * UU ≤ y) : exW ws x y k = con ws x k := con_exU rfl k h
theorem exW_stay {ws : List Int} {x y k : Nat} (h : y ≤ k * UU) : ∀ d, exW ws x y (k + d) = exW ws x y k
  | 0 => rfl
  | d + 1 => by
    rw [← Nat.add_assoc, exW, exW_stay h d]
    have h2 : k * UU ≤ (k + d) * UU := Nat.mul_le_mul_right _ (by omega)
    have : ovl x y (k + d) = 0 := by
      unfold ovl
      omega
    rw [this, Nat.mul_zero, Nat.add_zero]
theorem exW_in {ws : List Int} {x y k n : Nat} (hk : k < n) (h1 : k * UU ≤ y) (h2 : y ≤ k * UU + UU) : exW ws x y n = con ws x k + (ws.getD k 0).toNat * (y - max x (k * UU)) := by
  obtain ⟨d, rfl⟩ : ∃ d, n = (k + 1) + d := ⟨n - k - 1, by omega⟩
  have e : (k + 1) * UU = k * UU + UU := Nat.succ_mul _ _
  rw [exW_stay (by rw [e]; exact h2), exW, con_ex h1]
  have : ovl x y k = y - max x (k * UU) := by unfold ovl; omega
  rw [this]
/-! ## Parts of numbers -/
theorem cA_val {x k vx : Nat} (hx : NV x vx) (hk : k ≤ 100) : NV (cA x k) (max vx (k * UU)) := by
  have hf := fI_NVk (k := k) (by omega)
  cases c : gtB x (fI (k : Int))
  · rw [cA_no c]
    have : ¬ k * UU < vx := fun h => by rw [(gtB_NV hx hf).2 h] at c; cases c
    rwa [show max vx (k * UU) = k * UU by omega]
  · rw [cA_yes c]
    have := (gtB_NV hx hf).1 c
    rwa [show max vx (k * UU) = vx by omega]
theorem ltB_gt {x y : Nat} : ltB x y = gtB y x := gt_lt.symm
theorem cB_val {y k vy : Nat} (hy : NV y vy) (hk : k ≤ 100) : NV (cB y k) (min vy (k * UU + UU)) := by
  have hf := fI_NVk1 (k := k) (by omega)
  rw [show (k + 1) * UU = k * UU + UU from Nat.succ_mul _ _] at hf
  cases c : ltB y (fI ((k : Int) + 1))
  · rw [cB_no c]
    rw [ltB_gt] at c
    have : ¬ vy < k * UU + UU := fun h => by rw [(gtB_NV hf hy).2 h] at c; cases c
    rwa [show min vy (k * UU + UU) = k * UU + UU by omega]
  · rw [cB_yes c]
    rw [ltB_gt] at c
    have := (gtB_NV hf hy).1 c
    rwa [show min vy (k * UU + UU) = vy by omega]
theorem mul_le_Vs {m n : Nat} {i j : Int} (hi : -149 ≤ i) (hj : -149 ≤ j) : n * 2 ^ (j - min i j).toNat ≤ m * 2 ^ (i - min i j).toNat ↔ V n j ≤ V m i := by
  rw [← V_split (m := m) (i := i) (b := min i j) (by omega) (by omega), ← V_split (m := n) (i := j) (b := min i j) (by omega) (by omega)]
  constructor
  · intro h; exact Nat.mul_le_mul_right _ h
  · intro h; exact Nat.le_of_mul_le_mul_right h (Nat.two_pow_pos _)
theorem neg_gt {x m : Nat} {i : Int} (h : single.read x = .number true m i) : gtB x 0 = false := by
  have : ord x 0 = some (compare (signed true m (i - min i (-149)).toNat) (signed false 0 (-149 - min i (-149)).toNat)) := by rw [ord_def, h, read_zero]; rfl
  rw [gtB, this, signed_true, signed_false, Nat.zero_mul]
  have hc : compare (-((m * 2 ^ (i - min i (-149)).toNat : Nat) : Int)) ((0 : Nat) : Int) ≠ .gt := by
    intro h
    have := Int.compare_eq_gt.1 h
    omega
  cases e : compare (-((m * 2 ^ (i - min i (-149)).toNat : Nat) : Int)) ((0 : Nat) : Int) with
  | lt => rfl
  | eq => rfl
  | gt => exact absurd e hc
theorem ninf_gt {x : Nat} (h : single.read x = .infinity true) : gtB x 0 = false := by
  have : ord x 0 = some .lt := by rw [ord_def, h, read_zero]; rfl
  rw [gtB, this]; rfl
theorem sub_neg_gt {a b α β : Nat} (ha : NV a α) (hb : NV b β) (h : α < β) : gtB (fSub a b) 0 = false := by
  obtain ⟨m, i, e1, rfl⟩ := ha
  obtain ⟨n, j, e2, rfl⟩ := hb
  have h1 := s_num e1
  have h2 := s_num e2
  obtain ⟨s, g, hs, _, h3⟩ := sum_neg (m := m) (n := n) (i := i) (j := j)
  have hlt : m * 2 ^ (i - min i j).toNat < n * 2 ^ (j - min i j).toNat := Nat.lt_of_not_le fun hh => by
    have := (mul_le_Vs (by omega) (by omega)).1 hh
    omega
  rw [h3 hlt] at hs
  have e3 : single.sub a b = some (single.nearest true g (min i j)) := by
    rw [Format.sub, e1, e2]
    show ((Datum.number false m i).sum (.number true n j)).map _ = _
    rw [hs]; rfl
  have e4 : fSub a b = single.nearest true g (min i j) := by rw [fSub, e3]; rfl
  rw [e4]
  rcases write_any true g (min i j) with ⟨m', i', h⟩ | h
  · exact neg_gt h
  · exact ninf_gt h
/-- The worth of a part: near the exact one. -/
theorem cSum_abs {x y vx vy : Nat} {ws : List Int} (hx : NV x vx) (hy : NV y vy) (hxy : vx ≤ vy) (hw : smW ws) : ∀ k, k ≤ ws.length → ∃ v, NV (cSum x y ws k) v ∧ v ≤ exW ws vx vy k + k * (125 * AA) ∧ exW ws vx vy k ≤ v + k * (125 * AA)
  | 0, _ => ⟨0, zero_NV, Nat.zero_le _, Nat.zero_le _⟩
  | k + 1, hk => by
    obtain ⟨s, h1, h2, h3⟩ := cSum_abs hx hy hxy hw k (by omega)
    have hl := hw.1
    have hb := hw.2 k (by omega)
    have ha := cA_val hx (k := k) (by omega)
    have hc := cB_val hy (k := k) (by omega)
    have hexl := exW_le hw hxy (k := k) (by omega)
    have e : (k + 1) * (125 * AA) = k * (125 * AA) + 125 * AA := Nat.succ_mul _ _
    have hk6 : k * (125 * AA) ≤ 6 * (125 * AA) := Nat.mul_le_mul_right _ (by omega)
    have hUA := UU_eq
    obtain ⟨w, hw0⟩ : ∃ w : Nat, ws.getD k 0 = (w : Int) := ⟨(ws.getD k 0).toNat, by omega⟩
    have hwv : (ws.getD k 0).toNat = w := by omega
    rw [cSum, exW, hwv, e]
    by_cases hle : max vx (k * UU) ≤ min vy (k * UU + UU)
    · have hov : ovl vx vy k ≤ UU := by unfold ovl; omega
      obtain ⟨d, d1, d2, d3⟩ := sub_abs hc ha hle (B := 1) (by omega) (by decide) (by decide)
      have hov2 : min vy (k * UU + UU) - max vx (k * UU) = ovl vx vy k := rfl
      rw [hov2] at d2 d3
      have hcd : NV (cD x y k) d := d1
      have hm1 : w * ovl vx vy k ≤ 12 * ovl vx vy k := Nat.mul_le_mul_right _ (by omega)
      cases c : gtB (cD x y k) 0
      · have : ¬ 0 < d := fun h => by rw [(gtB_NV hcd zero_NV).2 h] at c; cases c
        rw [if_neg (by simp)]
        exact ⟨s, h1, by omega, by omega⟩
      · rw [if_pos rfl]
        have hfw : NV (fI (ws.getD k 0)) (w * UU) := by rw [hw0]; exact fI_NVk (by omega)
        have hd2 : w * d ≤ w * (ovl vx vy k + 1 * AA) := Nat.mul_le_mul_left _ d2
        have hd3 : w * ovl vx vy k ≤ w * (d + 1 * AA) := Nat.mul_le_mul_left _ d3
        rw [Nat.mul_add] at hd2 hd3
        have hwA : w * (1 * AA) ≤ 12 * AA := by rw [Nat.one_mul]; exact Nat.mul_le_mul_right _ (by omega)
        obtain ⟨q, q1, q2, q3⟩ := mul_absI hfw hcd (B := 13) (by omega) (by decide) (by decide)
        obtain ⟨r, r1, r2, r3⟩ := add_abs h1 q1 (B := 100) (by omega) (by decide) (by decide)
        exact ⟨r, r1, by omega, by omega⟩
    · have hc0 := sub_neg_gt hc ha (by omega)
      have hov0 : ovl vx vy k = 0 := by unfold ovl; omega
      have hcd : gtB (cD x y k) 0 = false := hc0
      rw [hcd, if_neg (by simp), hov0, Nat.mul_zero]
      exact ⟨s, h1, by omega, by omega⟩
end Go.Am

namespace Go.Am
set_option linter.unusedSimpArgs false
set_option linter.unusedVariables false
open Ieee
theorem NV.det {x a b : Nat} (h1 : NV x a) (h2 : NV x b) : a = b := by
  obtain ⟨m, i, e1, rfl⟩ := h1
  obtain ⟨n, j, e2, rfl⟩ := h2
  rw [e1] at e2
  injection e2 with _ h2 h3
  subst h2 h3; rfl
theorem sub_read0 {r : Nat} (h : r < 8388608) : single.read (single.word false r) = .number false r (-149) := by
  have hw := s_parts false r (by omega)
  rw [s_read, hw.1, hw.2, if_pos h]
/-- Rounding does not go below a number of the format. -/
theorem near_ge {y N c v : Nat} {p : Int} (hy : NV y c) (hp : -149 ≤ p) (hle : c ≤ V N p) (hv : NV (single.nearest false N p) v) (hcap : V N p ≤ 1000000 * UU) : c ≤ v := by
  by_cases hN : N = 0
  · subst hN; rw [V_zero] at hle; omega
  have hl := log_of_V hN (by omega) (Nat.lt_of_le_of_lt hcap (bound_pow (Nat.le_refl _) rfl))
  obtain ⟨m0, i0, e0, rfl⟩ := hy
  have hb := s_num e0
  by_cases c1 : p + (N.log2 : Int) < -126
  · have hr : single.nearest false N p = single.word false (N <<< (p + 149).toNat) := by
      rw [Format.nearest, if_neg hN]
      show single.word false (min ((max (p + (N.log2 : Int) - (23 : Nat)) (-149) - (-149)).toNat * 8388608 + Toward.even.cut false (N <<< (p - max (p + (N.log2 : Int) - (23 : Nat)) (-149)).toNat) (max (p + (N.log2 : Int) - (23 : Nat)) (-149) - p).toNat) 2139095040) = _
      rw [show max (p + (N.log2 : Int) - ((23 : Nat) : Int)) (-149) = -149 by omega, show ((-149 : Int) - p).toNat = 0 by omega, show ((-149 : Int) - (-149)).toNat = 0 by omega, show (p - (-149 : Int)).toNat = (p + 149).toNat by omega]
      have hcut : ∀ n, Toward.even.cut false n 0 = n := fun n => by
        rw [cut_parts (Nat.zero_le _), Nat.pow_zero, Nat.div_one, Nat.mod_one]
        unfold cutE; simp
      rw [hcut]
      have hlt : N <<< (p + 149).toNat < 8388608 := by
        rw [Nat.shiftLeft_eq, show 8388608 = 2 ^ 23 from by decide]
        have := Nat.mul_lt_mul_of_pos_right (lt_log2 (n := N)) (Nat.two_pow_pos (p + 149).toNat)
        rw [← Nat.pow_add] at this
        exact Nat.lt_of_lt_of_le this (pow2_le _ _ (by omega))
      rw [Nat.min_eq_left (by omega)]
      congr 1
      omega
    have hlt : N <<< (p + 149).toNat < 8388608 := by
      rw [Nat.shiftLeft_eq, show 8388608 = 2 ^ 23 from by decide]
      have := Nat.mul_lt_mul_of_pos_right (lt_log2 (n := N)) (Nat.two_pow_pos (p + 149).toNat)
      rw [← Nat.pow_add] at this
      exact Nat.lt_of_lt_of_le this (pow2_le _ _ (by omega))
    rw [hr] at hv
    have := NV.det hv ⟨_, _, sub_read0 hlt, rfl⟩
    have e2 : V (N <<< (p + 149).toNat) (-149) = V N p := by
      unfold V
      rw [Nat.shiftLeft_eq, Nat.mul_assoc, ← Nat.pow_add, show (p + 149).toNat + ((-149 : Int) + 300).toNat = (p + 300).toNat by omega]
    omega
  · obtain ⟨K, hK, k1, k2, -, -⟩ := cut_val (F := 23) hN (by omega) (show ((23 : Nat) : Int) - 300 ≤ p + (N.log2 : Int) by omega)
    have hat := near_at (p := p) hN (by omega) (by omega)
    obtain ⟨m, i, e, hvK⟩ := read_rung (kept := K) (last := p + (N.log2 : Int) - 23) k1 k2 (by omega) (by omega)
    have hvv : v = K * 2 ^ (p + (N.log2 : Int) - 23 + 300).toNat := by
      rw [← hvK]
      refine NV.det hv ⟨m, i, ?_, rfl⟩
      rw [hat, ← e, hK]; rfl
    rw [hvv]
    have k1' : 8388608 ≤ K := k1
    generalize hlast : p + (N.log2 : Int) - 23 = last at *
    by_cases c2 : last ≤ i0
    · have hM : V m0 i0 = m0 * 2 ^ (i0 - last).toNat * 2 ^ (last + 300).toNat := by
        unfold V
        rw [Nat.mul_assoc, ← Nat.pow_add, show (i0 - last).toNat + (last + 300).toNat = (i0 + 300).toNat by omega]
      rw [hM]
      refine Nat.mul_le_mul_right _ ?_
      rw [hM] at hle
      rw [hK]
      refine cut_ge ?_ ?_
      · by_cases c3 : N.log2 ≤ 23
        · omega
        · rw [show (p - last).toNat = 0 by omega, Nat.shiftLeft_zero]; omega
      · rw [Nat.shiftLeft_eq]
        refine Nat.le_of_mul_le_mul_right (c := 2 ^ (min p last + 300).toNat) ?_ (Nat.two_pow_pos _)
        unfold V at hle
        by_cases c3 : p ≤ last
        · rw [show (p - last).toNat = 0 by omega, Nat.pow_zero, Nat.mul_one, Nat.mul_assoc _ (2 ^ (last - p).toNat), ← Nat.pow_add, show (last - p).toNat + (min p last + 300).toNat = (last + 300).toNat by omega, show (min p last + 300).toNat = (p + 300).toNat by omega]
          exact hle
        · rw [show (last - p).toNat = 0 by omega, Nat.pow_zero, Nat.mul_one, Nat.mul_assoc N, ← Nat.pow_add, show (p - last).toNat + (min p last + 300).toNat = (p + 300).toNat by omega, show (min p last + 300).toNat = (last + 300).toNat by omega]
          exact hle
    · unfold V
      have h1 : m0 * 2 ^ (i0 + 300).toNat ≤ 2 ^ 24 * 2 ^ (i0 + 300).toNat := Nat.mul_le_mul_right _ (by have := hb.1; omega)
      have h2 : 2 ^ 24 * 2 ^ (i0 + 300).toNat ≤ 2 ^ 23 * 2 ^ (last + 300).toNat := by
        rw [← Nat.pow_add, ← Nat.pow_add]
        exact pow2_le _ _ (by omega)
      have h3 : 2 ^ 23 * 2 ^ (last + 300).toNat ≤ K * 2 ^ (last + 300).toNat := Nat.mul_le_mul_right _ k1
      exact Nat.le_trans h1 (Nat.le_trans h2 h3)
theorem add_ge {x y a b v : Nat} (hx : NV x a) (hy : NV y b) (hv : NV (fAdd x y) v) (hcap : a + b ≤ 1000000 * UU) : a ≤ v := by
  obtain ⟨g, p, e, h1, _, h2⟩ := add_at hx hy
  rw [e] at hv
  exact near_ge hx h1 (by omega) hv (by omega)
theorem mul_zeroN {x y a : Nat} (hx : NV x 0) (hy : NV y a) : NV (fMul x y) 0 := by
  obtain ⟨g, p, e, h1, h2⟩ := mul_at hx hy
  rw [Nat.zero_mul] at h2
  have : V g p = 0 := by
    rcases Nat.mul_eq_zero.1 h2 with h | h
    · exact h
    · exact absurd h (Nat.pos_iff_ne_zero.1 UU_pos)
  have hg := V_ne.1 this
  subst hg
  rw [e, near_zero]
  exact zero_NV
theorem geB_iff {x y a b : Nat} (hx : NV x a) (hy : NV y b) : geB x y = true ↔ b ≤ a := by
  constructor
  · exact geB_NV hx hy
  · intro h
    by_cases c : b < a
    · have := (gtB_NV hx hy).2 c
      rw [gtB] at this
      rw [geB, this]; rfl
    · have h1 := (leB_NV hx hy).2 (by omega)
      have h2 : ltB x y = false := by
        rw [ltB_gt]
        cases hh : gtB y x
        · rfl
        · have := (gtB_NV hy hx).1 hh; omega
      rw [leB] at h1
      rw [ltB] at h2
      rw [h2, Bool.false_or] at h1
      rw [geB, h1, Bool.or_true]
/-! ## What is left of a worth -/
theorem part_abs {x vx k : Nat} (hx : NV x vx) (hk : k ≤ 90) (c : gtB (fI ((k : Int) + 1)) x = true) :
    max vx (k * UU) ≤ k * UU + UU ∧ ∃ d, NV (fSub (fI ((k : Int) + 1)) (cA x k)) d ∧ d ≤ (k * UU + UU - max vx (k * UU)) + AA ∧ (k * UU + UU - max vx (k * UU)) ≤ d + AA := by
  have hf := fI_NVk1 (k := k) (by omega)
  rw [show (k + 1) * UU = k * UU + UU from Nat.succ_mul _ _] at hf
  have hlt := (gtB_NV hf hx).1 c
  have ha := cA_val hx (k := k) (by omega)
  have hle : max vx (k * UU) ≤ k * UU + UU := by omega
  obtain ⟨d, d1, d2, d3⟩ := sub_abs hf ha hle (B := 1) (by omega) (by decide) (by decide)
  rw [Nat.one_mul] at d2 d3
  exact ⟨hle, d, d1, d2, d3⟩
theorem piece_abs {x vx k w : Nat} {ws : List Int} (hx : NV x vx) (hk : k ≤ 90) (hw : ws.getD k 0 = (w : Int)) (hw2 : w ≤ 12) (c : gtB (fI ((k : Int) + 1)) x = true) :
    ∃ π, NV (mP x ws k) π ∧ π ≤ w * (k * UU + UU - max vx (k * UU)) + 25 * AA ∧ w * (k * UU + UU - max vx (k * UU)) ≤ π + 25 * AA ∧ (w = 0 → π = 0) := by
  obtain ⟨hle, d, d1, d2, d3⟩ := part_abs hx hk c
  have hfw : NV (fI (ws.getD k 0)) (w * UU) := by rw [hw]; exact fI_NVk (by omega)
  generalize hL : k * UU + UU - max vx (k * UU) = L at *
  have hLU : L ≤ UU := by omega
  have hUA := UU_eq
  have hd2 : w * d ≤ w * (L + AA) := Nat.mul_le_mul_left _ d2
  have hd3 : w * L ≤ w * (d + AA) := Nat.mul_le_mul_left _ d3
  rw [Nat.mul_add] at hd2 hd3
  have hwA : w * AA ≤ 12 * AA := Nat.mul_le_mul_right _ (by omega)
  have hwL : w * L ≤ 12 * L := Nat.mul_le_mul_right _ (by omega)
  by_cases h0 : w = 0
  · subst h0
    rw [Nat.zero_mul] at hfw
    exact ⟨0, mul_zeroN hfw d1, by omega, by omega, fun _ => rfl⟩
  · obtain ⟨q, q1, q2, q3⟩ := mul_absI hfw d1 (B := 13) (by omega) (by decide) (by decide)
    exact ⟨q, q1, by omega, by omega, fun h => absurd h h0⟩
theorem mLeft_abs {x w vx ω : Nat} {ws : List Int} (hx : NV x vx) (h0 : NV w ω) (hω : ω ≤ 80 * UU) (hw : smW ws) : ∀ k, k ≤ ws.length → (∀ j, j < k → mHit x w ws j = false) →
    ∃ l, NV (mLeft x w ws k) l ∧ l + con ws vx k ≤ ω + k * (125 * AA) ∧ ω ≤ l + con ws vx k + k * (125 * AA)
  | 0, _, _ => ⟨ω, h0, by rw [con]; omega, by rw [con]; omega⟩
  | k + 1, hk, hno => by
    obtain ⟨l, l1, l2, l3⟩ := mLeft_abs hx h0 hω hw k (by omega) (fun j hj => hno j (by omega))
    have hl := hw.1
    have hb := hw.2 k (by omega)
    obtain ⟨n, hn⟩ : ∃ n : Nat, ws.getD k 0 = (n : Int) := ⟨(ws.getD k 0).toNat, by omega⟩
    have hnv : (ws.getD k 0).toNat = n := by omega
    have e : (k + 1) * (125 * AA) = k * (125 * AA) + 125 * AA := Nat.succ_mul _ _
    have hk6 : k * (125 * AA) ≤ 6 * (125 * AA) := Nat.mul_le_mul_right _ (by omega)
    have hUA := UU_eq
    rw [mLeft, con, hnv, e]
    cases c : gtB (fI ((k : Int) + 1)) x
    · have hf := fI_NVk1 (k := k) (by omega)
      rw [show (k + 1) * UU = k * UU + UU from Nat.succ_mul _ _] at hf
      have : ¬ vx < k * UU + UU := fun h => by rw [(gtB_NV hf hx).2 h] at c; cases c
      rw [if_neg (by simp), show k * UU + UU - max vx (k * UU) = 0 by omega, Nat.mul_zero]
      exact ⟨l, l1, by omega, by omega⟩
    · rw [if_pos rfl]
      obtain ⟨π, p1, p2, p3, p4⟩ := piece_abs (ws := ws) hx (by omega) hn (by omega) c
      have hh := hno k (by omega)
      rw [mHit, c, Bool.true_and, hn] at hh
      have hle : π ≤ l := by
        by_cases h0 : n = 0
        · rw [p4 h0]; exact Nat.zero_le _
        · rw [decide_eq_true (show (0 : Int) < (n : Int) by omega), Bool.and_true] at hh
          exact Nat.le_of_lt (Nat.lt_of_not_le fun h => by rw [(geB_iff p1 l1).2 h] at hh; cases hh)
      obtain ⟨r, r1, r2, r3⟩ := sub_abs l1 p1 hle (B := 100) (by omega) (by decide) (by decide)
      exact ⟨r, r1, by omega, by omega⟩
/-- The mark of a worth. -/
theorem mark_abs {q : Int} {x w vx ω : Nat} {ws : List Int} (hq : 1 ≤ q ∧ q ≤ 6) (hl : (ws.length : Int) = q) (hx : NV x vx) (hxq : vx ≤ q.toNat * UU) (h0 : NV w ω) (hω : ω ≤ 80 * UU) (hw : smW ws) :
    ∃ μ, NV (mAll q x w ws) μ ∧ vx ≤ μ ∧ exW ws vx μ q.toNat ≤ ω + 1300 * AA ∧ (ω ≤ exW ws vx μ q.toNat + 1300 * AA ∨ μ = q.toNat * UU) := by
  have hUA := UU_eq
  have hql : q.toNat = ws.length := by omega
  rw [mAll]
  split
  · rename_i hc
    obtain ⟨k, hk, hh, he⟩ := (idxTo_lt (g := mHitI x w ws) (ys := cntL q.toNat) q.toNat).1 hc
    have he' : mFir x w ws q.toNat = (k : Int) := he
    have hbefore : ∀ j, j < k → mHit x w ws j = false := fun j hj => by
      have := idxTo_first (f := mHitI x w ws) _ he hj
      rw [cntL_get (by omega)] at this
      exact this
    rw [he']
    rw [cntL_get hk] at hh
    have hh' : mHit x w ws k = true := hh
    have hkl : k < ws.length := by omega
    have hb := hw.2 k hkl
    obtain ⟨n, hn⟩ : ∃ n : Nat, ws.getD k 0 = (n : Int) := ⟨(ws.getD k 0).toNat, by omega⟩
    have hnv : (ws.getD k 0).toNat = n := by omega
    simp only [mHit, Bool.and_eq_true, decide_eq_true_eq] at hh'
    obtain ⟨hg, hP, hpos⟩ := hh'
    obtain ⟨l, l1, l2, l3⟩ := mLeft_abs hx h0 hω hw k (by omega) hbefore
    obtain ⟨π, p1, p2, p3, _⟩ := piece_abs (ws := ws) hx (by omega) hn (by omega) hg
    have hle := (geB_iff p1 l1).1 hP
    have hf := fI_NVk1 (k := k) (by omega)
    rw [show (k + 1) * UU = k * UU + UU from Nat.succ_mul _ _] at hf
    have hlt := (gtB_NV hf hx).1 hg
    have ha := cA_val hx (k := k) (by omega)
    obtain ⟨m, i, e, hi, hm, hv⟩ := fI_pos_read (n := ws.getD k 0) (by omega) (by omega)
    rw [hnv] at hv
    have hn1 : 1 ≤ n := by omega
    have hn12 : n ≤ 12 := by omega
    generalize ha0 : max vx (k * UU) = a at *
    have hak : k * UU ≤ a ∧ a ≤ k * UU + UU ∧ vx ≤ a := by omega
    have hk5 : k * UU ≤ 5 * UU := Nat.mul_le_mul_right _ (by omega)
    have hnU : n * (k * UU + UU - a) ≤ n * UU := Nat.mul_le_mul_left _ (by omega)
    have hn1U : 1 * UU ≤ n * UU := Nat.mul_le_mul_right _ hn1
    have hn2U : n * (2 * UU) = 2 * (n * UU) := Nat.mul_left_comm _ _ _
    obtain ⟨r, r1, r2, r3⟩ := div_abs l1 ⟨m, i, e, hi, hm, hv⟩ hn1 (B := 2) (by omega) (by decide) (by decide)
    have hrU : r ≤ 3 * UU := by
      refine Nat.le_of_mul_le_mul_right (c := n) ?_ (by omega)
      have : n * (3 * 2 * AA) = 6 * (n * AA) := by rw [Nat.mul_left_comm]
      have h3 : 3 * UU * n = 3 * (n * UU) := by rw [Nat.mul_assoc, Nat.mul_comm UU]
      have h4 : n * UU = 16777216 * (n * AA) := by rw [hUA, Nat.mul_left_comm]
      omega
    obtain ⟨μ, m1, m2, m3⟩ := add_abs ha r1 (B := 9) (by omega) (by decide) (by decide)
    have hge := add_ge ha r1 m1 (by omega)
    show ∃ μ, NV (mRes x w ws k) μ ∧ _
    rw [mRes]
    refine ⟨μ, m1, by omega, ?_⟩
    -- the exact mark
    generalize hLL : k * UU + UU - a = L at *
    have hqd := Nat.div_add_mod l n
    have hqm := Nat.mod_lt l (show 0 < n by omega)
    generalize l / n = Q at *
    generalize l % n = R at *
    -- r is near Q
    have e6 : n * (3 * 2 * AA) = 6 * AA * n := by rw [Nat.mul_comm]
    rw [e6] at r2 r3
    have hA1 : 1 ≤ AA := AA_pos
    have hrQ : r ≤ Q + 7 * AA := by
      have : r * n < (Q + 1 + 6 * AA) * n := by
        rw [Nat.add_mul, Nat.add_mul, Nat.one_mul, Nat.mul_comm Q]; omega
      have := Nat.lt_of_mul_lt_mul_right this
      omega
    have hQr : Q ≤ r + 7 * AA := by
      have : Q * n ≤ (r + 6 * AA) * n := by
        rw [Nat.add_mul, Nat.mul_comm Q]; omega
      have := Nat.le_of_mul_le_mul_right this (by omega)
      omega
    have hQL : Q ≤ L + 25 * AA := by
      have : Q * n ≤ (L + 25 * AA) * n := by
        have h25 : 25 * AA * 1 ≤ 25 * AA * n := Nat.mul_le_mul_left _ hn1
        rw [Nat.add_mul, Nat.mul_comm Q, Nat.mul_comm L]; omega
      exact Nat.le_of_mul_le_mul_right this (by omega)
    -- the mark within the piece
    obtain ⟨ν, hν⟩ : ∃ ν, ν = a + min Q L := ⟨_, rfl⟩
    have hx1 := exW_in (ws := ws) (x := vx) (y := ν) (k := k) (n := q.toNat) hk (by omega) (by omega)
    rw [ha0, hnv] at hx1
    have hmin : n * (ν - a) ≤ l ∧ l ≤ n * (ν - a) + 37 * AA := by
      rw [hν, Nat.add_sub_cancel_left]
      by_cases c : Q ≤ L
      · rw [Nat.min_eq_left c]; omega
      · rw [Nat.min_eq_right (by omega)]
        have : n * L ≤ n * Q := Nat.mul_le_mul_left _ (by omega)
        omega
    have hd1 : μ ≤ ν + 41 * AA := by omega
    have hd2 : ν ≤ μ + 41 * AA := by omega
    have hk125 : k * (125 * AA) ≤ 5 * (125 * AA) := Nat.mul_le_mul_right _ (by omega)
    by_cases c : ν ≤ μ
    · have h1 := exW_add (ws := ws) (x := vx) (y := ν) (z := μ) (by omega) c q.toNat
      have h2 := exW_lip2 hw c (k := q.toNat) (by omega)
      constructor
      · omega
      · left; omega
    · have h1 := exW_add (ws := ws) (x := vx) (y := μ) (z := ν) (by omega) (by omega) q.toNat
      have h2 := exW_lip2 hw (x := μ) (y := ν) (by omega) (k := q.toNat) (by omega)
      constructor
      · omega
      · left; omega
  · rename_i hc
    have hno := (idxTo_lt (g := mHitI x w ws) (ys := cntL q.toNat) q.toNat).2 (by
      have : ¬ 0 ≤ idxTo (mHitI x w ws) (cntL q.toNat) q.toNat := hc
      omega)
    have hbefore : ∀ j, j < q.toNat → mHit x w ws j = false := fun j hj => by
      have := hno j hj
      rw [cntL_get hj] at this
      exact this
    obtain ⟨l, l1, l2, l3⟩ := mLeft_abs hx h0 hω hw q.toNat (by omega) hbefore
    have hq6 : q.toNat * (125 * AA) ≤ 6 * (125 * AA) := Nat.mul_le_mul_right _ (by omega)
    refine ⟨q.toNat * UU, fI_NV (by omega) (by omega), hxq, ?_, .inr rfl⟩
    rw [con_ex (Nat.le_refl _)]
    omega
end Go.Am

namespace Go.Am
set_option linter.unusedSimpArgs false
set_option linter.unusedVariables false
open Ieee
structure DC (p q : Int) (xs : List Int) : Prop where
  hp : 1 ≤ p ∧ p ≤ 4
  hq : 1 ≤ q ∧ q ≤ 6
  len : (xs.length : Int) = p * q
  bnd : ∀ k, k < xs.length → 0 ≤ xs.getD k 0 ∧ xs.getD k 0 ≤ 12
  fst : ∀ i : Int, 0 ≤ i → i < p → 1 ≤ xs.getD (i * q).toNat 0
theorem DC.at' {p q i : Int} {xs : List Int} (c : DC p q xs) (h0 : 0 ≤ i) (h1 : i < p) : 0 ≤ i * q ∧ (i + 1) * q ≤ xs.length ∧ i * q + q = (i + 1) * q := by
  have hq := c.hq
  have h2 : 0 ≤ i * q := Int.mul_nonneg h0 (by omega)
  have h3 : (i + 1) * q ≤ p * q := Int.mul_le_mul_of_nonneg_right (by omega) (by omega)
  have h4 : (i + 1) * q = i * q + q := by rw [Int.add_mul, Int.one_mul]
  have := c.len
  exact ⟨h2, by omega, h4.symm⟩
theorem DC.row {p q i : Int} {xs : List Int} (c : DC p q xs) (h0 : 0 ≤ i) (h1 : i < p) : smW (rowC q i xs) ∧ ((rowC q i xs).length : Int) = q ∧ 1 ≤ (rowC q i xs).getD 0 0 := by
  obtain ⟨a1, a2, a3⟩ := c.at' h0 h1
  have hq := c.hq
  have hl : (rowC q i xs).length = ((i + 1) * q).toNat - (i * q).toNat := part_len (by omega) (by omega)
  have hg : ∀ k, k < (rowC q i xs).length → (rowC q i xs).getD k 0 = xs.getD ((i * q).toNat + k) 0 := fun k hk => part_get (by omega)
  refine ⟨⟨by omega, fun k hk => ?_⟩, by omega, ?_⟩
  · rw [hg k hk]; exact c.bnd _ (by omega)
  · rw [hg 0 (by omega), Nat.add_zero]; exact c.fst i h0 h1
theorem sumW_small {ws : List Int} (hw : smW ws) : ∀ k, k ≤ ws.length → 0 ≤ sumW (ws.take k) ∧ sumW (ws.take k) ≤ 12 * k ∧ (0 < k → ws.getD 0 0 ≤ sumW (ws.take k))
  | 0, _ => by
    have e : sumW (ws.take 0) = 0 := rfl
    rw [e]; exact ⟨Int.le_refl _, by omega, by omega⟩
  | k + 1, hk => by
    obtain ⟨h1, h2, h3⟩ := sumW_small hw k (by omega)
    have hb := hw.2 k (by omega)
    have hl := hw.1
    rw [← sumW_step (by omega), wrap_id (by omega) (by omega)]
    refine ⟨by omega, by omega, fun _ => ?_⟩
    by_cases c : k = 0
    · subst c
      have e : sumW (ws.take 0) = 0 := rfl
      omega
    · have := h3 (by omega); omega
theorem DC.valid {p q : Int} {xs : List Int} (c : DC p q xs) : validC p q xs = true := by
  have hp := c.hp
  have hq := c.hq
  have h4 : xs.all (fun n => decide (0 ≤ n ∧ n ≤ 1000)) = true := List.all_eq_true.2 fun z hz => by
    obtain ⟨k, hk, e⟩ := List.getElem_of_mem hz
    have := c.bnd k hk
    rw [kgetD hk, e] at this
    exact decide_eq_true (by omega)
  refine (validC_yes (s := p.toNat) (decide_eq_true (by omega)) (decide_eq_true (by omega)) c.len h4 (List.all_eq_true.2 fun i hi => ?_) (by omega)).symm
  have hi := List.mem_range.1 hi
  obtain ⟨r1, r2, r3⟩ := c.row (i := (i : Int)) (by omega) (by omega)
  have := (sumW_small r1 _ (Nat.le_refl _)).2.2 (by omega)
  rw [List.take_length] at this
  exact decide_eq_true (by
    intro h
    have h' : sumW (rowC q (i : Int) xs) = 0 := h
    omega)
/-! ## All of a cake -/
theorem exW_all {ws : List Int} {q : Int} (_hl : (ws.length : Int) = q) (h1 : 1 ≤ ws.getD 0 0) (hq : 1 ≤ q) : UU ≤ exW ws 0 (q.toNat * UU) q.toNat := by
  rw [con_ex (Nat.le_refl _)]
  have key : ∀ k : Nat, 1 ≤ k → UU ≤ con ws 0 k := fun k => by
    induction k with
    | zero => intro h; omega
    | succ k ih =>
      intro _
      rw [con]
      by_cases c : k = 0
      · subst c
        have e : con ws 0 0 = 0 := rfl
        rw [e, Nat.zero_mul, Nat.zero_add, Nat.zero_add, Nat.max_self, Nat.sub_zero]
        have : 1 * UU ≤ (ws.getD 0 0).toNat * UU := Nat.mul_le_mul_right _ (by omega)
        omega
      · have := ih (by omega)
        omega
  exact key _ (by omega)
section
variable {q : Int} {xs : List Int}
abbrev wA (q : Int) (xs : List Int) (i : Int) (x y : Nat) : Nat := cSum x y (rowC q i xs) q.toNat
/-- What a worth is, nearly. -/
theorem DC.worth {p i : Int} (c : DC p q xs) (h0 : 0 ≤ i) (h1 : i < p) {x y vx vy : Nat} (hx : NV x vx) (hy : NV y vy) (h : vx ≤ vy) :
    ∃ v, NV (wA q xs i x y) v ∧ v ≤ exW (rowC q i xs) vx vy q.toNat + 750 * AA ∧ exW (rowC q i xs) vx vy q.toNat ≤ v + 750 * AA ∧ exW (rowC q i xs) vx vy q.toNat ≤ 72 * UU := by
  obtain ⟨r1, r2, r3⟩ := c.row h0 h1
  have hq := c.hq
  obtain ⟨v, v1, v2, v3⟩ := cSum_abs hx hy h r1 q.toNat (by omega)
  have h6 : q.toNat * (125 * AA) ≤ 6 * (125 * AA) := Nat.mul_le_mul_right _ (by omega)
  exact ⟨v, v1, by omega, by omega, exW_le r1 h (by omega)⟩
theorem DC.total {p i : Int} (c : DC p q xs) (h0 : 0 ≤ i) (h1 : i < p) :
    ∃ v, NV (wA q xs i 0 (fI q)) v ∧ v ≤ exW (rowC q i xs) 0 (q.toNat * UU) q.toNat + 750 * AA ∧ exW (rowC q i xs) 0 (q.toNat * UU) q.toNat ≤ v + 750 * AA ∧ v ≤ 73 * UU ∧ UU ≤ v + 750 * AA := by
  have hq := c.hq
  obtain ⟨r1, r2, r3⟩ := c.row h0 h1
  obtain ⟨v, v1, v2, v3, v4⟩ := c.worth h0 h1 zero_NV (fI_NV (n := q) (by omega) (by omega)) (Nat.zero_le _)
  have := exW_all r2 r3 hq.1
  have hUA := UU_eq
  exact ⟨v, v1, v2, v3, by omega, by omega⟩
end
abbrev cent : Nat := 4576918229304087675
abbrev two64 : Nat := 4611686018427387904
theorem two64_read : ∃ m i, double.read two64 = .number false m i ∧ -60 ≤ i ∧ i ≤ 0 ∧ m ≠ 0 ∧ V m i = 2 * UU := dI_read (n := 2) (by decide) (by decide)
theorem two_nat (u : Nat) : (2 : Int).toNat * u = 2 * u := rfl
theorem two32_read : ∃ m i, single.read 1073741824 = .number false m i ∧ i ≤ 0 ∧ m ≠ 0 ∧ V m i = 2 * UU := by
  obtain ⟨m, i, e, h1, h2, h3⟩ := fI_pos_read (n := 2) (by decide) (by decide)
  exact ⟨m, i, e, h1, h2, h3.trans (two_nat UU)⟩
theorem gtr_false {x y a b : Nat} {e : Int} (he : -300 ≤ e) (hx : DV e x a) (hy : DV e y b) (h : a ≤ b) : fcmp .gtr .f64 x y = some false := by
  show some (double.order x y == some .gt) = some false
  rw [ord_DV he hx hy]
  by_cases c : a < b
  · rw [if_pos c]; rfl
  · rw [if_neg c, if_neg (by omega)]; rfl
theorem lss_false {x y a b : Nat} {e : Int} (he : -300 ≤ e) (hx : DV e x a) (hy : DV e y b) (h : b ≤ a) : fcmp .lss .f64 x y = some false := by
  show some (double.order x y == some .lt) = some false
  rw [ord_DV he hx hy, if_neg (by omega)]
  by_cases c : b < a
  · rw [if_pos c]; rfl
  · rw [if_neg c]; rfl
/-- A half or a part of a worth in double precision, less or more a hundredth. -/
theorem part64 {x n a w : Nat} (hx : NV x a) (ha : a ≤ 73 * UU) (ha1 : UU ≤ a + 750 * AA) (hn : ∃ m i, double.read n = .number false m i ∧ -60 ≤ i ∧ i ≤ 0 ∧ m ≠ 0 ∧ V m i = w * UU) (hw : 1 ≤ w ∧ w ≤ 4) :
    double.div (wid x) n = some (dDiv (wid x) n) ∧ (∃ d, DV (-222) (dDiv (wid x) n) d ∧ d * w ≤ a + 1000 * AA ∧ a ≤ d * w + 1000 * AA) ∧
    double.sub (dDiv (wid x) n) cent = some (dSub (dDiv (wid x) n) cent) ∧ (∃ s, DV (-274) (dSub (dDiv (wid x) n) cent) s ∧ (s + 167600 * AA) * w ≤ a + 1000 * AA) ∧
    double.add (dDiv (wid x) n) cent = some (dAdd (dDiv (wid x) n) cent) ∧ (∃ s, DV (-274) (dAdd (dDiv (wid x) n) cent) s ∧ a + 167600 * AA * w ≤ s * w + 1000 * AA) := by
  have hUA := UU_eq
  obtain ⟨g, g1, g2, g3⟩ := wid_abs hx (B := 74) (by omega) (by decide)
  have hwU : 1 * UU ≤ w * UU := Nat.mul_le_mul_right _ hw.1
  have hw74 : w * (75 * UU) = 75 * (w * UU) := Nat.mul_left_comm _ _ _
  obtain ⟨h1, d, d1, d2, d3⟩ := div_abs64 g1 hn hw.1 (by omega) (B := 75) (by omega) (by decide) (by decide)
  have e1 : w * (3 * 75 * AA) ≤ 4 * (3 * 75 * AA) := Nat.mul_le_mul_right _ hw.2
  obtain ⟨c, c1, c2, c3⟩ := cent_DV
  have hd4 : d ≤ 76 * UU := by
    refine Nat.le_of_mul_le_mul_right (c := w) ?_ (by omega)
    have : 76 * UU * w = 76 * (w * UU) := by rw [Nat.mul_assoc, Nat.mul_comm UU]
    omega
  have hd5 : c ≤ d := by
    refine Nat.le_of_mul_le_mul_right (c := 4) ?_ (by decide)
    have : d * w ≤ d * 4 := Nat.mul_le_mul_left _ hw.2
    omega
  obtain ⟨s1, s, s2, s3, s4⟩ := sub_abs64 (by decide) d1 (c1.mono (by decide)) hd5 (B := 76) (by omega) (by decide)
  obtain ⟨t1, t, t2, t3, t4⟩ := add_abs64 (by decide) d1 (c1.mono (by decide)) (by have := AA_pos; omega) (by have := AA_pos; omega) (B := 77) (by omega) (by decide)
  refine ⟨h1, ⟨d, d1, by omega, by omega⟩, s1, ⟨s, s2, ?_⟩, t1, ⟨t, t2, ?_⟩⟩
  · have : (s + 167600 * AA) * w ≤ d * w := Nat.mul_le_mul_right _ (by omega)
    omega
  · have h7 : (d + 167600 * AA) * w ≤ t * w := Nat.mul_le_mul_right _ (by omega)
    rw [Nat.add_mul] at h7
    omega
/-- The gap of two numbers, made wide, is less than a hundredth. -/
theorem gap_lt {x y a b B : Nat} {e : Int} (he : -248 ≤ e) (hx : DV e x a) (hy : DV e y b) (h1 : a ≤ b + B * AA) (h2 : b ≤ a + B * AA) (hB : B ≤ 100000) :
    double.sub x y = some (dSub x y) ∧ double.sub y x = some (dSub y x) ∧ fmaxB .f64 (dSub x y) (dSub y x) = some (gapD x y) ∧ fcmp .gtr .f64 (gapD x y) cent = some false ∧ fcmp .lss .f64 (gapD x y) cent = some true := by
  have hUA := UU_eq
  have hA := AA_pos
  have hBA : B * AA ≤ 100000 * AA := Nat.mul_le_mul_right _ hB
  obtain ⟨c, c1, c2, c3⟩ := cent_DV
  obtain ⟨q1, q2, q3, q4⟩ := gap_ok he hx hy (B := 1) (C := c) (by omega) (by omega) (by decide) (by omega) (by omega)
  have ho := q4.lt (by decide) c1 (by omega)
  refine ⟨q1, q2, q3, ?_, ?_⟩
  · show some (double.order (gapD x y) cent == some .gt) = some false
    rw [ho]; rfl
  · show some (double.order (gapD x y) cent == some .lt) = some true
    rw [ho]; rfl
theorem f32_lss {x y a b : Nat} (hx : NV x a) (hy : NV y b) : fcmp .lss .f32 x y = some (decide (a < b)) := by
  show some (ltB x y) = _
  rw [ltB_gt]
  congr 1
  by_cases c : a < b
  · rw [(gtB_NV hy hx).2 c, decide_eq_true c]
  · rw [decide_eq_false c]
    cases hh : gtB y x
    · rfl
    · exact absurd ((gtB_NV hy hx).1 hh) c
theorem f32_gtr {x y a b : Nat} (hx : NV x a) (hy : NV y b) : fcmp .gtr .f32 x y = some (decide (b < a)) := by
  show some (gtB x y) = _
  congr 1
  by_cases c : b < a
  · rw [(gtB_NV hx hy).2 c, decide_eq_true c]
  · rw [decide_eq_false c]
    cases hh : gtB x y
    · rfl
    · exact absurd ((gtB_NV hx hy).1 hh) c
theorem f32_geq {x y a b : Nat} (hx : NV x a) (hy : NV y b) : fcmp .geq .f32 x y = some (decide (b ≤ a)) := by
  show some (geB x y) = _
  congr 1
  by_cases c : b ≤ a
  · rw [(geB_iff hx hy).2 c, decide_eq_true c]
  · rw [decide_eq_false c]
    cases hh : geB x y
    · rfl
    · exact absurd ((geB_iff hx hy).1 hh) c
/-- Who cuts and who chooses. -/
structure HalfOk (q : Int) (xs : List Int) : Prop where
  k1 : fcmp .lss .f32 (ccA q xs) 0 = some false
  k2 : fcmp .gtr .f32 (ccA q xs) (fI q) = some false
  d1 : floatBits .quo .f64 (wid (wA q xs 0 0 (fI q))) two64 = some (dDiv (wid (wA q xs 0 0 (fI q))) two64)
  s1 : double.sub (wid (wA q xs 0 0 (ccA q xs))) (dDiv (wid (wA q xs 0 0 (fI q))) two64) = some (dSub (wid (wA q xs 0 0 (ccA q xs))) (dDiv (wid (wA q xs 0 0 (fI q))) two64))
  s2 : double.sub (dDiv (wid (wA q xs 0 0 (fI q))) two64) (wid (wA q xs 0 0 (ccA q xs))) = some (dSub (dDiv (wid (wA q xs 0 0 (fI q))) two64) (wid (wA q xs 0 0 (ccA q xs))))
  m1 : fmaxB .f64 (dSub (wid (wA q xs 0 0 (ccA q xs))) (dDiv (wid (wA q xs 0 0 (fI q))) two64)) (dSub (dDiv (wid (wA q xs 0 0 (fI q))) two64) (wid (wA q xs 0 0 (ccA q xs)))) = some (gapD (wid (wA q xs 0 0 (ccA q xs))) (dDiv (wid (wA q xs 0 0 (fI q))) two64))
  g1 : fcmp .gtr .f64 (gapD (wid (wA q xs 0 0 (ccA q xs))) (dDiv (wid (wA q xs 0 0 (fI q))) two64)) cent = some false
  d2 : floatBits .quo .f64 (wid (wA q xs 1 0 (fI q))) two64 = some (dDiv (wid (wA q xs 1 0 (fI q))) two64)
  b2 : floatBits .sub .f64 (dDiv (wid (wA q xs 1 0 (fI q))) two64) cent = some (dSub (dDiv (wid (wA q xs 1 0 (fI q))) two64) cent)
  a2 : floatBits .add .f64 (dDiv (wid (wA q xs 1 0 (fI q))) two64) cent = some (dAdd (dDiv (wid (wA q xs 1 0 (fI q))) two64) cent)
  t1 : geB (ccX q xs) (ccY q xs) = true → fcmp .lss .f64 (wid (wA q xs 1 0 (ccA q xs))) (dSub (dDiv (wid (wA q xs 1 0 (fI q))) two64) cent) = some false
  t2 : geB (ccX q xs) (ccY q xs) = false → fcmp .gtr .f64 (wid (wA q xs 1 0 (ccA q xs))) (dAdd (dDiv (wid (wA q xs 1 0 (fI q))) two64) cent) = some false
theorem half_law {q : Int} {xs : List Int} (c : DC 2 q xs) : HalfOk q xs := by
  have hUA := UU_eq
  have hA := AA_pos
  have hq := c.hq
  have hcc := cc_of c.valid rfl
  obtain ⟨A, A1, A2, A3, A4, A5⟩ := c.total (i := 0) (by decide) (by decide)
  obtain ⟨B, B1, B2, B3, B4, B5⟩ := c.total (i := 1) (by decide) (by decide)
  obtain ⟨r1, r2, r3⟩ := c.row (i := 0) (by decide) (by decide)
  obtain ⟨ω, o1, o2, o3⟩ := div_abs A1 two32_read (by decide) (B := 37) (by omega) (by decide) (by decide)
  obtain ⟨μ, m1, m2, m3, m4⟩ := mark_abs (q := q) (by omega) r2 zero_NV (Nat.zero_le _) (w := hf (ccW q xs)) o1 (by omega) r1
  have m1' : NV (ccA q xs) μ := m1
  have hfq := fI_NV (n := q) (by omega) (by omega)
  have hμq : μ ≤ q.toNat * UU := by
    have := hcc.h2
    rw [plF, Bool.and_eq_true] at this
    exact (leB_NV m1' hfq).1 this.2
  obtain ⟨a, a1, a2, a3, a4⟩ := c.worth (i := 0) (by decide) (by decide) zero_NV m1' (Nat.zero_le _)
  obtain ⟨X, x1, x2, x3, x4⟩ := c.worth (i := 1) (by decide) (by decide) zero_NV m1' (Nat.zero_le _)
  obtain ⟨Y, y1, y2, y3, y4⟩ := c.worth (i := 1) (by decide) (by decide) m1' hfq hμq
  have hsum := exW_add (ws := rowC q 1 xs) (x := 0) (y := μ) (z := q.toNat * UU) (Nat.zero_le _) hμq q.toNat
  have m5 : ω ≤ exW (rowC q 0 xs) 0 μ q.toNat + 1300 * AA := by
    rcases m4 with h | h
    · exact h
    · rw [h]; omega
  obtain ⟨p1, ⟨d, p2, p3, p4⟩, -, -, -, -⟩ := part64 A1 A4 A5 two64_read (by decide)
  obtain ⟨u1, ⟨d', u2, u3, u4⟩, u5, ⟨s, u6, u7⟩, u8, ⟨t, u9, u10⟩⟩ := part64 B1 B4 B5 two64_read (by decide)
  obtain ⟨ga, ga1, ga2, ga3⟩ := wid_abs a1 (B := 80) (by omega) (by decide)
  obtain ⟨gx, gx1, gx2, gx3⟩ := wid_abs x1 (B := 80) (by omega) (by decide)
  obtain ⟨k1, k2, k3, k4, k5⟩ := gap_lt (e := -222) (B := 5000) (by decide) (ga1.mono (by decide)) p2 (by omega) (by omega) (by decide)
  refine ⟨?_, ?_, p1, k1, k2, k3, k4, u1, u5, u8, fun h => ?_, fun h => ?_⟩
  · rw [f32_lss m1' zero_NV, decide_eq_false (by omega)]
  · rw [f32_gtr m1' hfq, decide_eq_false (by omega)]
  · have hXY := (geB_iff x1 y1).1 h
    exact lss_false (e := -274) (by decide) (gx1.mono (by decide)) u6 (by omega)
  · have hXY : ¬ Y ≤ X := fun hh => by
      have h' : geB (wA q xs 1 0 (ccA q xs)) (wA q xs 1 (ccA q xs) (fI q)) = false := h
      rw [(geB_iff x1 y1).2 hh] at h'; cases h'
    exact gtr_false (e := -274) (by decide) (gx1.mono (by decide)) u9 (by omega)
end Go.Am

namespace Go.Am
set_option linter.unusedSimpArgs false
set_option linter.unusedVariables false
open Ieee
theorem near_exact {N : Nat} {p : Int} (hN : N ≠ 0) (c : N.log2 ≤ 23) (h1 : -126 ≤ p + (N.log2 : Int)) (h2 : p + (N.log2 : Int) ≤ 90) : NV (single.nearest false N p) (V N p) := by
  have hlo := pow_log2 (m := N) hN
  have hhi := lt_log2 (n := N)
  rw [near_at hN h1 (by omega)]
  rw [show (p + (N.log2 : Int) - 23 - p).toNat = 0 by omega, show (p - (p + (N.log2 : Int) - 23)).toNat = 23 - N.log2 by omega]
  have hcut : Toward.even.cut false (N <<< (23 - N.log2)) 0 = N * 2 ^ (23 - N.log2) := by
    rw [cut_parts (Nat.zero_le _), Nat.pow_zero, Nat.div_one, Nat.mod_one, Nat.shiftLeft_eq]
    unfold cutE; simp
  rw [hcut]
  have hk1 : 8388608 ≤ N * 2 ^ (23 - N.log2) := by
    have := Nat.mul_le_mul_right (2 ^ (23 - N.log2)) hlo
    rw [← Nat.pow_add, show N.log2 + (23 - N.log2) = 23 by omega] at this
    exact this
  have hk2 : N * 2 ^ (23 - N.log2) ≤ 16777216 := by
    have := Nat.mul_le_mul_right (2 ^ (23 - N.log2)) (Nat.le_of_lt hhi)
    rw [← Nat.pow_add, show N.log2 + 1 + (23 - N.log2) = 24 by omega] at this
    exact this
  obtain ⟨m, i, e, hv⟩ := read_rung (last := p + (N.log2 : Int) - 23) hk1 hk2 (by omega) (by omega)
  refine ⟨m, i, e, ?_⟩
  rw [hv, Nat.mul_assoc N, ← Nat.pow_add, show 23 - N.log2 + (p + (N.log2 : Int) - 23 + 300).toNat = (p + 300).toNat by omega]
  rfl
def QU : Nat := 4194304 * AA
theorem QU_four : UU = 4 * QU := by rw [UU_eq, QU, ← Nat.mul_assoc]
theorem V_QU {c : Nat} : V c (-2) = c * QU := by
  obtain ⟨j, hj⟩ : ∃ j : Int, j = -2 := ⟨_, rfl⟩
  have gen : ∀ a e : Nat, e = 22 + a → c * 2 ^ e = c * (4194304 * 2 ^ a) := fun a e h => by rw [h, Nat.pow_add]
  rw [← hj]
  unfold V QU AA
  exact gen 276 (j + 300).toNat (by omega)
/-- Some quarters. -/
theorem rep_QU {c : Nat} (h : c ≤ 1000) : ∃ y, NV y (c * QU) := by
  by_cases h0 : c = 0
  · subst h0; rw [Nat.zero_mul]; exact ⟨0, zero_NV⟩
  · have hl : c.log2 ≤ 9 := log2_le h0 (by omega)
    exact ⟨_, V_QU ▸ near_exact h0 (by omega) (by omega) (by omega)⟩
theorem div_up {l n a w c y : Nat} (hl : NV l a) (hn : ∃ m i, single.read n = .number false m i ∧ i ≤ 0 ∧ m ≠ 0 ∧ V m i = w * UU) (hy : NV y c) (h : a ≤ w * c) : ∃ v, NV (fDiv l n) v ∧ v ≤ c :=
  div_NV hl hn hy (by
    have := Nat.mul_le_mul_right UU h
    rw [Nat.mul_right_comm] at this
    exact this)
theorem cut_inQ0 {q : Int} {x w vx ω j Q : Nat} {ws : List Int} (hQ : UU = 4 * Q) (hQp : 0 < Q) (hQr : ∀ c, c ≤ 1000 → ∃ y, NV y (c * Q)) (hq : 1 ≤ q ∧ q ≤ 6) (hl : (ws.length : Int) = q) (hx : NV x vx) (hj : vx = j * Q) (h0 : NV w ω) (hω : ω ≤ 80 * UU) (hw : smW ws) :
    leB (mAll q x w ws) (fI q) = true := by
  have hqv := fI_NV (n := q) (by omega) (by omega)
  rw [mAll]
  split
  · rename_i hc
    obtain ⟨k, hk, hh, he⟩ := (idxTo_lt (g := mHitI x w ws) (ys := cntL q.toNat) q.toNat).1 hc
    have he' : mFir x w ws q.toNat = (k : Int) := he
    have hbefore : ∀ j, j < k → mHit x w ws j = false := fun j hj => by
      have := idxTo_first (f := mHitI x w ws) _ he hj
      rw [cntL_get (by omega)] at this
      exact this
    rw [he']
    rw [cntL_get hk] at hh
    have hh' : mHit x w ws k = true := hh
    have hkl : k < ws.length := by omega
    have hb := hw.2 k hkl
    obtain ⟨n, hn⟩ : ∃ n : Nat, ws.getD k 0 = (n : Int) := ⟨(ws.getD k 0).toNat, by omega⟩
    have hnv : (ws.getD k 0).toNat = n := by omega
    simp only [mHit, Bool.and_eq_true, decide_eq_true_eq] at hh'
    obtain ⟨hg, hP, hpos⟩ := hh'
    obtain ⟨l, l1, l2, l3⟩ := mLeft_abs hx h0 hω hw k (by omega) hbefore
    have hf := fI_NVk1 (k := k) (by omega)
    rw [show (k + 1) * UU = k * UU + UU from Nat.succ_mul _ _] at hf
    have hlt := (gtB_NV hf hx).1 hg
    have ha := cA_val hx (k := k) (by omega)
    -- all in quarters
    have hkQ : k * UU = (4 * k) * Q := by rw [hQ, ← Nat.mul_assoc, Nat.mul_comm k]
    have hmx : max vx (k * UU) = max j (4 * k) * Q := by rw [hj, hkQ, Nat.mul_max_mul_right]
    have hjk : j < 4 * k + 4 := by
      rw [hj, hkQ, hQ, ← Nat.add_mul] at hlt
      exact Nat.lt_of_mul_lt_mul_right hlt
    generalize hc1 : 4 * k + 4 - max j (4 * k) = c1
    have hE : k * UU + UU - max vx (k * UU) = c1 * Q := by
      rw [hmx, hkQ, ← hc1]
      conv => lhs; rw [show 4 * k * Q + UU = (4 * k + 4) * Q by rw [hQ, Nat.add_mul]]
      rw [← Nat.sub_mul]
    have hc4 : c1 ≤ 4 := by omega
    obtain ⟨y1, hy1⟩ := hQr c1 (by omega)
    obtain ⟨y2, hy2⟩ := hQr (n * c1) (by have : n * c1 ≤ 12 * 4 := Nat.mul_le_mul (by omega) hc4; omega)
    obtain ⟨g, p, e1, e2, e3⟩ := sub_at hf ha (by omega)
    rw [hE] at e3
    obtain ⟨d, d1, d2⟩ := near_NV hy1 (by omega) (Nat.le_of_eq e3)
    rw [← e1] at d1
    have hfw : NV (fI (ws.getD k 0)) (n * UU) := by rw [hn]; exact fI_NVk (by omega)
    obtain ⟨g2, p2, e4, e5, e6⟩ := mul_at hfw d1
    have e7 : V g2 p2 = n * d := by
      refine Nat.eq_of_mul_eq_mul_right UU_pos ?_
      rw [e6, Nat.mul_right_comm]
    have e8 : V g2 p2 ≤ n * c1 * Q := by rw [e7, Nat.mul_assoc]; exact Nat.mul_le_mul_left _ d2
    obtain ⟨π, q1, q2⟩ := near_NV hy2 (by omega) e8
    rw [← e4] at q1
    have hle := (geB_iff (show NV (mP x ws k) π from q1) l1).1 hP
    obtain ⟨m, i, e, hi, hm, hv⟩ := fI_pos_read (n := ws.getD k 0) (by omega) (by omega)
    rw [hnv] at hv
    obtain ⟨r, r1, r2⟩ := div_up l1 ⟨m, i, e, hi, hm, hv⟩ hy1 (by rw [← Nat.mul_assoc]; omega)
    have hkq : (k + 1) * UU ≤ q.toNat * UU := Nat.mul_le_mul_right _ (by omega)
    rw [show (k + 1) * UU = k * UU + UU from Nat.succ_mul _ _] at hkq
    exact (add_cap ha r1 hqv (by omega)).2
  · exact le_self hqv.nb
theorem cut_inQ {q : Int} {x w vx ω j : Nat} {ws : List Int} (hq : 1 ≤ q ∧ q ≤ 6) (hl : (ws.length : Int) = q) (hx : NV x vx) (hj : vx = j * QU) (h0 : NV w ω) (hω : ω ≤ 80 * UU) (hw : smW ws) :
    leB (mAll q x w ws) (fI q) = true := cut_inQ0 QU_four (by unfold QU; exact Nat.mul_pos (by decide) AA_pos) (fun _ h => rep_QU h) hq hl hx hj h0 hω hw
abbrev four32 : Nat := 1082130432
abbrev eight32 : Nat := 1090519040
theorem fI_readN {n : Int} (N : Nat) (hN : n.toNat = N) (h0 : 1 ≤ n) (h1 : n ≤ 1000) : ∃ m i, single.read (fI n) = .number false m i ∧ i ≤ 0 ∧ m ≠ 0 ∧ V m i = N * UU := by
  obtain ⟨m, i, e, h1, h2, h3⟩ := fI_pos_read h0 h1
  exact ⟨m, i, e, h1, h2, by rw [h3, hN]⟩
theorem four_read : ∃ m i, single.read four32 = .number false m i ∧ i ≤ 0 ∧ m ≠ 0 ∧ V m i = 4 * UU := fI_readN (n := 4) 4 rfl (by decide) (by decide)
theorem eight_read : ∃ m i, single.read eight32 = .number false m i ∧ i ≤ 0 ∧ m ≠ 0 ∧ V m i = 8 * UU := fI_readN (n := 8) 8 rfl (by decide) (by decide)
theorem NV.nn {x v : Nat} (h : NV x v) : NN x := by
  obtain ⟨m, i, e, _⟩ := h
  rw [NN, e]; rfl
theorem NV.fin {x v : Nat} (h : NV x v) : finB x = true := by
  obtain ⟨m, i, e, _⟩ := h
  rw [finB, e]
theorem NV.pl {q : Int} {x v : Nat} (hx : NV x v) (hq : 0 ≤ q ∧ q ≤ 1000) (h : v ≤ q.toNat * UU) : plF q x = true := plF_nb hx.nb ((leB_NV hx (fI_NV hq.1 hq.2)).2 h)
/-- A quarter is told exactly. -/
theorem quarter {j : Nat} (hj : j ≤ 100) : single.div (fI (j : Int)) four32 = some (fDiv (fI (j : Int)) four32) ∧ NV (fDiv (fI (j : Int)) four32) (j * QU) := by
  have hf := fI_NVk (k := j) (by omega)
  obtain ⟨m, i, e, h1, h2, h3⟩ := four_read
  refine ⟨(div_nn hf.nn e h2).1, ?_⟩
  by_cases h0 : j = 0
  · subst h0
    rw [Nat.zero_mul] at hf ⊢
    obtain ⟨v, v1, v2⟩ := div_up hf ⟨m, i, e, h1, h2, h3⟩ zero_NV (Nat.zero_le _)
    have : v = 0 := by omega
    rwa [this] at v1
  -- the quotient, exactly
  have key : ∀ k : Nat, k ≤ 100 → (k == 0 || single.div (fI (k : Int)) four32 == some (single.nearest false k (-2))) = true := by
    intro k hk
    have ht : ((List.range 101).all fun k => k == 0 || single.div (fI (k : Int)) four32 == some (single.nearest false k (-2))) = true := by kernel_rfl
    exact List.all_eq_true.1 ht k (List.mem_range.2 (by omega))
  have hk := key j hj
  rw [Bool.or_eq_true, beq_iff_eq, beq_iff_eq] at hk
  have hk := hk.resolve_left h0
  have e2 : fDiv (fI (j : Int)) four32 = single.nearest false j (-2) := by rw [fDiv, hk]; rfl
  rw [e2, ← V_QU]
  have hl : j.log2 ≤ 6 := log2_le h0 (by omega)
  exact near_exact h0 (by omega) (by omega) (by omega)
abbrev rSt (j : Nat) : Nat := fDiv (fI (j : Int)) four32
abbrev rRs (q : Int) (xs : List Int) (j : Nat) : Nat := wA q xs 0 (rSt j) (fI q)
abbrev rWt (q : Int) (xs : List Int) (j k : Nat) : Nat := fDiv (fMul (rRs q xs j) (fI (k : Int))) eight32
abbrev rMk (q : Int) (xs : List Int) (j k : Nat) : Nat := mAll q (rSt j) (rWt q xs j k) (rowC q 0 xs)
abbrev rTd (q : Int) (xs : List Int) (j k : Nat) : Nat := wA q xs 0 (rSt j) (rMk q xs j k)
structure RestOk (p q : Int) (xs : List Int) (j k : Nat) : Prop where
  f1 : floatBits .quo .f32 (fI (j : Int)) four32 = some (rSt j)
  w1 : cwK p q 0 xs (rSt j) (fI q) = true
  f2 : floatBits .mul .f32 (rRs q xs j) (fI (k : Int)) = some (fMul (rRs q xs j) (fI (k : Int)))
  f3 : floatBits .quo .f32 (fMul (rRs q xs j) (fI (k : Int))) eight32 = some (rWt q xs j k)
  w2 : cmK p q 0 xs (rSt j) (rWt q xs j k) = true
  w3 : cwK p q 0 xs (rSt j) (rMk q xs j k) = true
  g1 : fcmp .geq .f32 (rMk q xs j k) (rSt j) = some true
  c1 : NN (rTd q xs j k)
  c2 : NN (rWt q xs j k)
  s1 : double.sub (wid (rTd q xs j k)) (wid (rWt q xs j k)) = some (dSub (wid (rTd q xs j k)) (wid (rWt q xs j k)))
  s2 : double.sub (wid (rWt q xs j k)) (wid (rTd q xs j k)) = some (dSub (wid (rWt q xs j k)) (wid (rTd q xs j k)))
  m1 : fmaxB .f64 (dSub (wid (rTd q xs j k)) (wid (rWt q xs j k))) (dSub (wid (rWt q xs j k)) (wid (rTd q xs j k))) = some (gapD (wid (rTd q xs j k)) (wid (rWt q xs j k)))
  l1 : fcmp .lss .f64 (gapD (wid (rTd q xs j k)) (wid (rWt q xs j k))) cent = some true
theorem mul_absN {x y a w B : Nat} (hx : NV x a) (hy : NV y (w * UU)) (hB : a * w ≤ B * UU) (hB1 : 1 ≤ B) (hB2 : B ≤ 1000000) : ∃ v, NV (fMul x y) v ∧ v ≤ a * w + B * AA ∧ a * w ≤ v + B * AA := by
  obtain ⟨g, p, e, h1, h2⟩ := mul_at hx hy
  have h3 : V g p = a * w := by
    refine Nat.eq_of_mul_eq_mul_right UU_pos ?_
    rw [h2, Nat.mul_assoc]
  rw [e, ← h3]
  exact near_abs (by omega) (by rw [h3]; exact hB) hB1 hB2
theorem rest_law {p q : Int} {xs : List Int} {j k : Nat} (c : DC p q xs) (hj : j < 4 * q.toNat) (hk : k ≤ 8) : RestOk p q xs j k := by
  have hUA := UU_eq
  have hp := c.hp
  have hq := c.hq
  obtain ⟨r1, r2, r3⟩ := c.row (i := 0) (by omega) (by omega)
  have hfq := fI_NV (n := q) (by omega) (by omega)
  obtain ⟨q1, q2⟩ := quarter (j := j) (by omega)
  have hst : j * QU ≤ q.toNat * UU := by
    rw [QU_four, ← Nat.mul_assoc, Nat.mul_comm q.toNat]
    exact Nat.mul_le_mul_right _ (by omega)
  obtain ⟨R, R1, R2, R3, R4⟩ := c.worth (i := 0) (by omega) (by omega) q2 hfq hst
  have hkf := fI_NVk (k := k) (by omega)
  have hRk : R * k ≤ R * 8 := Nat.mul_le_mul_left _ hk
  obtain ⟨m, m1, m2, m3⟩ := mul_absN R1 hkf (B := 600) (by omega) (by decide) (by decide)
  obtain ⟨ω, o1, o2, o3⟩ := div_abs m1 eight_read (by decide) (B := 75) (by omega) (by decide) (by decide)
  have hω : ω ≤ 80 * UU := by omega
  obtain ⟨μ, u1, u2, u3, u4⟩ := mark_abs (q := q) hq r2 q2 hst (w := rWt q xs j k) o1 hω r1
  have hμ : μ ≤ q.toNat * UU := (leB_NV u1 hfq).1 (cut_inQ hq r2 q2 rfl o1 hω r1)
  have u1' : NV (rMk q xs j k) μ := u1
  obtain ⟨T, t1, t2, t3, t4⟩ := c.worth (i := 0) (by omega) (by omega) q2 u1' u2
  have u5 : ω ≤ exW (rowC q 0 xs) (j * QU) μ q.toNat + 1300 * AA := by
    rcases u4 with h | h
    · exact h
    · rw [h]; omega
  obtain ⟨gt, gt1, gt2, gt3⟩ := wid_abs t1 (B := 80) (by omega) (by decide)
  obtain ⟨gw, gw1, gw2, gw3⟩ := wid_abs o1 (B := 80) (by omega) (by decide)
  obtain ⟨k1, k2, k3, k4, k5⟩ := gap_lt (e := -201) (B := 5000) (by decide) gt1 gw1 (by omega) (by omega) (by decide)
  have w0 : (validC p q xs && decide ((0 : Int) ≤ 0 ∧ (0 : Int) ≤ p - 1)) = true := by rw [c.valid, decide_eq_true (by omega)]; rfl
  have pst : plF q (rSt j) = true := q2.pl (by omega) hst
  have pq : plF q (fI q) = true := hfq.pl (by omega) (Nat.le_refl _)
  have pmk : plF q (rMk q xs j k) = true := u1'.pl (by omega) hμ
  have ngt : ∀ {y vy : Nat}, NV y vy → j * QU ≤ vy → gtB (rSt j) y = false := fun {y vy} hy h => by
    cases hh : gtB (rSt j) y
    · rfl
    · have := (gtB_NV q2 hy).1 hh; omega
  obtain ⟨a1, a2, ae, _⟩ := R1
  obtain ⟨b1, b2, be, _⟩ := hkf
  obtain ⟨e1, e2, ee, _, e3, _⟩ := eight_read
  refine ⟨q1, cwK_yes w0 pst pq (ngt hfq hst), (mul_pos ae be).1, (div_nn m1.nn ee e3).1, cmK_yes w0 pst o1.nb.ge0 o1.fin, cwK_yes w0 pst pmk (ngt u1' u2), ?_, t1.nn, o1.nn, k1, k2, k3, k5⟩
  rw [f32_geq u1' q2, decide_eq_true u2]
end Go.Am

namespace Go.Am
set_option linter.unusedSimpArgs false
set_option linter.unusedVariables false
open Ieee
def nvF (x : Nat) : Nat := match single.read x with | .number _ m i => V m i | _ => 0
theorem NV.val {x v : Nat} (h : NV x v) : v = nvF x := by
  obtain ⟨m, i, e, rfl⟩ := h
  rw [nvF, e]
theorem kB_min {f : Int → Nat} {zs : List Int} (hf : ∀ k, k < zs.length → NV (f (zs.getD k 0)) (nvF (f (zs.getD k 0)))) : ∀ n, 0 < n → n ≤ zs.length → NV (kB f zs n).2 (nvF (kB f zs n).2) ∧ ∀ k, k < n → nvF (kB f zs n).2 ≤ nvF (f (zs.getD k 0))
  | n + 1, _, hn => by
    have hz := hf n (by omega)
    rw [kB]
    by_cases h0 : n = 0
    · subst h0
      rw [if_pos (by simp)]
      exact ⟨hz, fun k hk => by rw [show k = 0 by omega]; exact Nat.le_refl _⟩
    · obtain ⟨h1, h2⟩ := kB_min hf n (by omega) (by omega)
      rw [decide_eq_false h0, Bool.false_or]
      by_cases c : ltB (f (zs.getD n 0)) (kB f zs n).2 = true
      · rw [if_pos c]
        have hlt := (gtB_NV h1 hz).1 (by rw [← ltB_gt]; exact c)
        refine ⟨hz, fun k hk => ?_⟩
        by_cases e : k = n
        · subst e; exact Nat.le_refl _
        · exact Nat.le_trans (Nat.le_of_lt hlt) (h2 k (by omega))
      · rw [if_neg c]
        refine ⟨h1, fun k hk => ?_⟩
        by_cases e : k = n
        · subst e
          exact Nat.le_of_not_lt fun hlt => c (by rw [ltB_gt]; exact (gtB_NV h1 hz).2 hlt)
        · exact h2 k (by omega)
abbrev wAll (q : Int) (xs : List Int) (z : Int) : Nat := exW (rowC q z xs) 0 (q.toNat * UU) q.toNat
structure KG (p q : Int) (xs : List Int) (t : Nat) (s : KState) : Prop where
  ll : s.left.length + t = p.toNat
  nd : s.left.Nodup
  dj : ∀ z ∈ s.left, z ∉ s.os
  lz : ∀ z ∈ s.left, 0 ≤ z ∧ z < p
  oz : ∀ z ∈ s.os, 0 ≤ z ∧ z < p
  on : s.os.Nodup
  ol : s.os.length = t
  cl : s.cs.length = t
  xe : s.x = cutF s.cs t
  xv : NV s.x (nvF s.x)
  xq : nvF s.x ≤ q.toNat * UU
  wl : ∀ z ∈ s.left, exW (rowC q z xs) 0 (nvF s.x) q.toNat * p.toNat ≤ t * (wAll q xs z + 7000 * AA)
  ps : ∀ k, k < t → NV (cutF s.cs k) (nvF (cutF s.cs k)) ∧ NV (s.cs.getD k 0) (nvF (s.cs.getD k 0)) ∧ nvF (cutF s.cs k) ≤ nvF (s.cs.getD k 0) ∧ nvF (s.cs.getD k 0) ≤ q.toNat * UU ∧
    wAll q xs (s.os.getD k 0) ≤ exW (rowC q (s.os.getD k 0) xs) (nvF (cutF s.cs k)) (nvF (s.cs.getD k 0)) q.toNat * p.toNat + 21500 * AA
theorem nvF_zero : nvF 0 = 0 := zero_NV.val.symm
theorem exW_self {ws : List Int} {x : Nat} : ∀ k, exW ws x x k = 0
  | 0 => rfl
  | k + 1 => by
    rw [exW, exW_self k]
    have : ovl x x k = 0 := by unfold ovl; omega
    rw [this]; rfl
theorem KG.zero {p q : Int} {xs : List Int} (c : DC p q xs) : KG p q xs 0 (kS p q xs 0) := by
  have hp := c.hp
  refine ⟨by show (cntL p.toNat).length + 0 = _; rw [cntL_len]; rfl, ?_, fun z _ => (by show z ∉ []; simp), fun z hz => ?_, fun z hz => (by cases hz), List.nodup_nil, rfl, rfl, rfl, ?_, ?_, fun z _ => ?_, fun k hk => by omega⟩
  · show (cntL p.toNat).Nodup
    unfold cntL
    exact List.Pairwise.map _ (fun (a b : Nat) (h : a ≠ b) => by intro e; exact h (by omega)) List.nodup_range
  · have hz : z ∈ cntL p.toNat := hz
    obtain ⟨i, hi, e⟩ := List.mem_map.1 hz
    have := List.mem_range.1 hi
    omega
  · show NV 0 (nvF 0)
    rw [nvF_zero]; exact zero_NV
  · show nvF 0 ≤ _
    rw [nvF_zero]; exact Nat.zero_le _
  · show exW _ 0 (nvF 0) _ * _ ≤ _
    rw [nvF_zero, exW_self]
    omega
theorem cutF_app {cs : List Nat} {y s : Nat} (h : s ≤ cs.length) : cutF (cs ++ [y]) s = cutF cs s := by
  unfold cutF
  by_cases c : s = 0
  · rw [if_pos c, if_pos c]
  · rw [if_neg c, if_neg c, List.getD_eq_getElem?_getD, List.getElem?_append_left (by omega), ← List.getD_eq_getElem?_getD]
theorem getD_app {l : List Nat} {y s : Nat} (h : s < l.length) : (l ++ [y]).getD s 0 = l.getD s 0 := by
  rw [List.getD_eq_getElem?_getD, List.getElem?_append_left h, ← List.getD_eq_getElem?_getD]
theorem getD_appI {l : List Int} {y : Int} {s : Nat} (h : s < l.length) : (l ++ [y]).getD s 0 = l.getD s 0 := by
  rw [List.getD_eq_getElem?_getD, List.getElem?_append_left h, ← List.getD_eq_getElem?_getD]
theorem getD_lastN {l : List Nat} {y : Nat} : (l ++ [y]).getD l.length 0 = y := by
  rw [List.getD_eq_getElem?_getD, List.getElem?_append_right (Nat.le_refl _), Nat.sub_self]; rfl
theorem exW_mono {ws : List Int} {x y z k : Nat} (h1 : x ≤ y) (h2 : y ≤ z) : exW ws x y k ≤ exW ws x z k := by
  have := exW_add (ws := ws) h1 h2 k
  omega
/-- The rest of a cake is a fair part, while others have had fair parts. -/
theorem rest_fair {W a b P t A : Nat} (hW : W = a + b) (hP : 1 ≤ P ∧ P ≤ 4) (ht : t + 1 ≤ P) (h : a * P ≤ t * (W + 7000 * A)) : W ≤ b * P + 21500 * A := by
  have e : W * P = a * P + b * P := by rw [hW, Nat.add_mul]
  have hc : (P = 1 ∨ P = 2 ∨ P = 3 ∨ P = 4) ∧ (t = 0 ∨ t = 1 ∨ t = 2 ∨ t = 3) := by omega
  obtain ⟨h1 | h1 | h1 | h1, h2 | h2 | h2 | h2⟩ := hc <;> subst h1 h2 <;> omega
theorem KG.step {p q : Int} {xs : List Int} {t : Nat} {s : KState} (c : DC p q xs) (ht : t + 2 ≤ p.toNat) (g : KG p q xs t s) : KG p q xs (t + 1) (kN p q xs s) := by
  have hUA := UU_eq
  have hp := c.hp
  have hq := c.hq
  have hfq := fI_NV (n := q) (by omega) (by omega)
  have hlp : 0 < s.left.length := by have := g.ll; omega
  have hmem : ∀ k, k < s.left.length → s.left.getD k 0 ∈ s.left := fun k hk => by rw [kgetD hk]; exact List.getElem_mem hk
  -- each one's mark
  have marks : ∀ z ∈ s.left, NV (kM p q xs s.x z) (nvF (kM p q xs s.x z)) ∧ nvF s.x ≤ nvF (kM p q xs s.x z) ∧ nvF (kM p q xs s.x z) ≤ q.toNat * UU ∧
      exW (rowC q z xs) (nvF s.x) (nvF (kM p q xs s.x z)) q.toNat * p.toNat ≤ wAll q xs z + 7000 * AA ∧
      (wAll q xs z ≤ exW (rowC q z xs) (nvF s.x) (nvF (kM p q xs s.x z)) q.toNat * p.toNat + 7000 * AA ∨ nvF (kM p q xs s.x z) = q.toNat * UU) := fun z hz => by
    have hz2 := g.lz z hz
    obtain ⟨r1, r2, r3⟩ := c.row hz2.1 hz2.2
    obtain ⟨A, A1, A2, A3, A4, A5⟩ := c.total hz2.1 hz2.2
    have hpU : 1 * UU ≤ p.toNat * UU := Nat.mul_le_mul_right _ (by omega)
    have hp73 : p.toNat * (73 * UU) = 73 * (p.toNat * UU) := Nat.mul_left_comm _ _ _
    obtain ⟨ω, o1, o2, o3⟩ := div_abs (w := p.toNat) A1 (fI_readN (n := p) p.toNat rfl (by omega) (by omega)) (by omega) (B := 73) (by omega) (by decide) (by decide)
    have e1 : p.toNat * (3 * 73 * AA) ≤ 4 * (3 * 73 * AA) := Nat.mul_le_mul_right _ (by omega)
    have hω : ω ≤ 80 * UU := by
      have : ω * 1 ≤ ω * p.toNat := Nat.mul_le_mul_left _ (by omega)
      omega
    obtain ⟨μ, m1, m2, m3, m4⟩ := mark_abs (q := q) hq r2 g.xv g.xq (w := kW p q xs z) o1 hω r1
    have m1' : NV (kM p q xs s.x z) μ := m1
    have hk := (kn_ok c.valid (by omega) ⟨hz2.1, by omega⟩ g.xv.nb (g.xv.pl (by omega) g.xq) (i := z)).hm
    have hμ : μ ≤ q.toNat * UU := by
      have := hk.2
      rw [plF, Bool.and_eq_true] at this
      exact (leB_NV m1' hfq).1 this.2
    have hv := m1'.val
    have e2 : 1300 * AA * p.toNat ≤ 1300 * AA * 4 := Nat.mul_le_mul_left _ (by omega)
    have hW : wAll q xs z = exW (rowC q z xs) 0 (q.toNat * UU) q.toNat := rfl
    rw [← hv]
    refine ⟨m1', m2, hμ, ?_, ?_⟩
    · have := Nat.mul_le_mul_right p.toNat m3
      rw [Nat.add_mul] at this
      omega
    · rcases m4 with h | h
      · left
        have := Nat.mul_le_mul_right p.toNat h
        rw [Nat.add_mul] at this
        omega
      · exact .inr h
  have hf : ∀ k, k < s.left.length → NV (kM p q xs s.x (s.left.getD k 0)) (nvF (kM p q xs s.x (s.left.getD k 0))) := fun k hk => (marks _ (hmem k hk)).1
  obtain ⟨b1, b2⟩ := kB_min (f := kM p q xs s.x) (zs := s.left) hf _ hlp (Nat.le_refl _)
  have hb := kB_lt (f := kM p q xs s.x) (zs := s.left) _ hlp
  have hv := kB_val (f := kM p q xs s.x) (zs := s.left) _ hlp
  obtain ⟨a1, a2, a3, a4, a5⟩ := marks _ (hmem _ hb)
  have hle : ∀ z ∈ s.left, nvF (kB (kM p q xs s.x) s.left s.left.length).2 ≤ nvF (kM p q xs s.x z) := fun z hz => by
    obtain ⟨j, hj, e⟩ := List.getElem_of_mem hz
    have := b2 j hj
    rwa [kgetD hj, e] at this
  rw [← hv] at a1 a2 a3 a4 a5
  unfold kN
  generalize kB (kM p q xs s.x) s.left s.left.length = b at *
  obtain ⟨b, y⟩ := b
  simp only at *
  have hzb := g.lz _ (hmem b hb)
  have hsub : ∀ z ∈ s.left.eraseIdx b, z ∈ s.left := fun z hz => List.mem_of_mem_eraseIdx hz
  have hne : ∀ z ∈ s.left.eraseIdx b, z ≠ s.left.getD b 0 := fun z hz e => by
    subst e
    rw [List.mem_eraseIdx_iff_getElem] at hz
    obtain ⟨j, hj, hjb, e⟩ := hz
    rw [kgetD hb] at e
    exact hjb ((List.getElem_inj g.nd).1 e)
  refine ⟨?_, g.nd.sublist (List.eraseIdx_sublist _ _), fun z hz => ?_, fun z hz => g.lz z (hsub z hz), fun z hz => ?_, ?_, ?_, ?_, ?_, a1, a3, fun z hz => ?_, fun k hk => ?_⟩
  · show (List.eraseIdx _ _).length + (t + 1) = _
    rw [List.length_eraseIdx, if_pos hb]
    have := g.ll
    omega
  · show z ∉ s.os ++ [s.left.getD b 0]
    rw [List.mem_append, List.mem_singleton]
    rintro (h | h)
    · exact g.dj z (hsub z hz) h
    · exact hne z hz h
  · have hz : z ∈ s.os ++ [s.left.getD b 0] := hz
    rw [List.mem_append, List.mem_singleton] at hz
    rcases hz with h | h
    · exact g.oz z h
    · rw [h]; exact hzb
  · show (s.os ++ [s.left.getD b 0]).Nodup
    refine List.nodup_append.2 ⟨g.on, by simp, fun a ha b' hb' => ?_⟩
    rw [List.mem_singleton] at hb'
    subst hb'
    rintro rfl
    exact g.dj _ (hmem b hb) ha
  · show (_ ++ [_]).length = _
    rw [List.length_append, g.ol]; rfl
  · show (_ ++ [_]).length = _
    rw [List.length_append, g.cl]; rfl
  · show y = cutF (s.cs ++ [y]) (t + 1)
    rw [cutF_succ, ← g.cl, getD_lastN]
  · show exW _ 0 (nvF y) _ * _ ≤ (t + 1) * _
    have h1 := g.wl z (hsub z hz)
    have h2 := marks z (hsub z hz)
    have h3 := exW_add (ws := rowC q z xs) (x := 0) (y := nvF s.x) (z := nvF y) (Nat.zero_le _) a2 q.toNat
    have h4 := exW_mono (ws := rowC q z xs) (x := nvF s.x) (k := q.toNat) a2 (hle z (hsub z hz))
    have h5 := Nat.mul_le_mul_right p.toNat h4
    rw [h3, Nat.add_mul, Nat.succ_mul]
    omega
  · show NV (cutF (s.cs ++ [y]) k) _ ∧ NV ((s.cs ++ [y]).getD k 0) _ ∧ nvF (cutF (s.cs ++ [y]) k) ≤ nvF ((s.cs ++ [y]).getD k 0) ∧ nvF ((s.cs ++ [y]).getD k 0) ≤ _ ∧ wAll q xs ((s.os ++ [s.left.getD b 0]).getD k 0) ≤ exW (rowC q ((s.os ++ [s.left.getD b 0]).getD k 0) xs) (nvF (cutF (s.cs ++ [y]) k)) (nvF ((s.cs ++ [y]).getD k 0)) q.toNat * p.toNat + 21500 * AA
    have hcl := g.cl
    have hol := g.ol
    rw [cutF_app (by omega)]
    by_cases e : k = t
    · subst e
      have e1 : (s.cs ++ [y]).getD k 0 = y := by
        have := getD_lastN (l := s.cs) (y := y)
        rwa [hcl] at this
      have e2 : (s.os ++ [s.left.getD b 0]).getD k 0 = s.left.getD b 0 := by
        rw [List.getD_eq_getElem?_getD, List.getElem?_append_right (by omega), hol, Nat.sub_self]; rfl
      rw [e1, e2, ← g.xe]
      refine ⟨g.xv, a1, a2, a3, ?_⟩
      rcases a5 with h | h
      · have hA := AA_pos
        omega
      · have h3 := exW_add (ws := rowC q (s.left.getD b 0) xs) (x := 0) (y := nvF s.x) (z := nvF y) (Nat.zero_le _) a2 q.toNat
        have h4 := g.wl _ (hmem b hb)
        rw [h] at h3 ⊢
        exact rest_fair h3 (by omega) (by omega) h4
    · have := g.ps k (by omega)
      rw [getD_app (by omega), getD_appI (by omega)]
      exact this
theorem kg_all {p q : Int} {xs : List Int} (c : DC p q xs) : ∀ t, t + 1 ≤ p.toNat → KG p q xs t (kS p q xs t)
  | 0, _ => KG.zero c
  | t + 1, h => (kg_all c t (by omega)).step c h
end Go.Am

namespace Go.Am
set_option linter.unusedSimpArgs false
set_option linter.unusedVariables false
open Ieee
section
variable {p q : Int} {xs : List Int}
theorem kn_len (c : DC p q xs) : (kOs p q xs).length = p.toNat ∧ (kCs p q xs).length = p.toNat := by
  have hp := c.hp
  have g := kg_all c (p.toNat - 1) (by omega)
  rw [kOs_len g.ol rfl, kCs_len g.cl rfl]
  omega
theorem kn_last (c : DC p q xs) : (kCs p q xs).getD (p.toNat - 1) 0 = fI q := by
  have hp := c.hp
  have g := kg_all c (p.toNat - 1) (by omega)
  have := getD_lastN (l := (kS p q xs (p.toNat - 1)).cs) (y := fI q)
  rwa [g.cl] at this
theorem kn_nodup (c : DC p q xs) : (kOs p q xs).Nodup ∧ ∀ z ∈ kOs p q xs, 0 ≤ z ∧ z < p := by
  have hp := c.hp
  have g := kg_all c (p.toNat - 1) (by omega)
  have hl : (kS p q xs (p.toNat - 1)).left.length = 1 := by have := g.ll; omega
  have hm : (kS p q xs (p.toNat - 1)).left.getD 0 0 ∈ (kS p q xs (p.toNat - 1)).left := by
    rw [kgetD (by omega)]; exact List.getElem_mem _
  unfold kOs
  refine ⟨List.nodup_append.2 ⟨g.on, by simp, fun a ha b' hb' => ?_⟩, fun z hz => ?_⟩
  · rw [List.mem_singleton] at hb'
    subst hb'
    rintro rfl
    exact g.dj _ hm ha
  · rw [List.mem_append, List.mem_singleton] at hz
    rcases hz with h | h
    · exact g.oz z h
    · rw [h]; exact g.lz _ hm
theorem kn_own (c : DC p q xs) {k : Nat} (hk : k < p.toNat) : 0 ≤ (kOs p q xs).getD k 0 ∧ (kOs p q xs).getD k 0 < p ∧ ((kOs p q xs).take k).contains ((kOs p q xs).getD k 0) = false := by
  obtain ⟨h1, h2⟩ := kn_nodup c
  obtain ⟨l1, _⟩ := kn_len c
  have e : (kOs p q xs).getD k 0 = (kOs p q xs)[k] := kgetD (by omega)
  have hz := h2 _ (List.getElem_mem (l := kOs p q xs) (n := k) (by omega))
  rw [e]
  refine ⟨hz.1, hz.2, ?_⟩
  cases hc : ((kOs p q xs).take k).contains (kOs p q xs)[k]
  · rfl
  · exfalso
    have hmem : (kOs p q xs)[k] ∈ (kOs p q xs).take k := by simpa using hc
    obtain ⟨j, hj, e2⟩ := List.getElem_of_mem hmem
    rw [List.getElem_take] at e2
    rw [List.length_take] at hj
    have := (List.getElem_inj h1).1 e2
    omega
theorem kn_part (c : DC p q xs) {k : Nat} (hk : k < p.toNat) : NV (cutF (kCs p q xs) k) (nvF (cutF (kCs p q xs) k)) ∧ NV ((kCs p q xs).getD k 0) (nvF ((kCs p q xs).getD k 0)) ∧ nvF (cutF (kCs p q xs) k) ≤ nvF ((kCs p q xs).getD k 0) ∧ nvF ((kCs p q xs).getD k 0) ≤ q.toNat * UU ∧
    wAll q xs ((kOs p q xs).getD k 0) ≤ exW (rowC q ((kOs p q xs).getD k 0) xs) (nvF (cutF (kCs p q xs) k)) (nvF ((kCs p q xs).getD k 0)) q.toNat * p.toNat + 21500 * AA := by
  have hp := c.hp
  have hq := c.hq
  have g := kg_all c (p.toNat - 1) (by omega)
  have hfq := fI_NV (n := q) (by omega) (by omega)
  have hl : (kS p q xs (p.toNat - 1)).left.length = 1 := by have := g.ll; omega
  have hm : (kS p q xs (p.toNat - 1)).left.getD 0 0 ∈ (kS p q xs (p.toNat - 1)).left := by
    rw [kgetD (by omega)]; exact List.getElem_mem _
  have hcl := g.cl
  have hol := g.ol
  unfold kCs kOs
  generalize kS p q xs (p.toNat - 1) = s at *
  by_cases e : k = p.toNat - 1
  · rw [← e] at hcl hol g
    have e1 : (s.cs ++ [fI q]).getD k 0 = fI q := by
      have := getD_lastN (l := s.cs) (y := fI q)
      rwa [hcl] at this
    have e2 : (s.os ++ [s.left.getD 0 0]).getD k 0 = s.left.getD 0 0 := by
      rw [List.getD_eq_getElem?_getD, List.getElem?_append_right (by omega), hol, Nat.sub_self]; rfl
    rw [e1, e2, cutF_app (by omega), ← g.xe, ← hfq.val]
    refine ⟨g.xv, hfq, g.xq, Nat.le_refl _, ?_⟩
    have h3 := exW_add (ws := rowC q (s.left.getD 0 0) xs) (x := 0) (y := nvF s.x) (z := q.toNat * UU) (Nat.zero_le _) g.xq q.toNat
    exact rest_fair h3 (by omega) (by omega) (g.wl _ hm)
  · have := g.ps k (by omega)
    rw [cutF_app (by omega), getD_app (by omega), getD_appI (by omega)]
    exact this
theorem kn_tie (c : DC p q xs) {k : Nat} (hk : k < p.toNat) : tieB q (kCs p q xs) k = true := by
  have hq := c.hq
  obtain ⟨h1, h2, h3, h4, _⟩ := kn_part c hk
  have hpl : plF q ((kCs p q xs).getD k 0) = true := h2.pl (by omega) h4
  rw [tieB, hpl, Bool.true_and]
  by_cases h0 : k = 0
  · rw [decide_eq_true h0]; rfl
  · rw [cutF_pos (by omega)] at h1 h3
    have : ltB ((kCs p q xs).getD k 0) ((kCs p q xs).getD (k - 1) 0) = false := by
      rw [ltB_gt]
      cases hh : gtB ((kCs p q xs).getD (k - 1) 0) ((kCs p q xs).getD k 0)
      · rfl
      · have := (gtB_NV h1 h2).1 hh; omega
    rw [this]; simp
theorem kn_perm (c : DC p q xs) : permB (kOs p q xs) (kOs p q xs).length = true := by
  obtain ⟨l1, l2⟩ := kn_len c
  have hp := c.hp
  refine List.all_eq_true.2 fun k hk => ?_
  have hk := List.mem_range.1 hk
  obtain ⟨h1, h2, h3⟩ := kn_own c (k := k) (by omega)
  rw [h3, decide_eq_true ⟨h1, by omega⟩]; rfl
theorem kn_env (c : DC p q xs) : envK p q xs (kOs p q xs) (kCs p q xs) = true := by
  obtain ⟨l1, l2⟩ := kn_len c
  have hp := c.hp
  have hq := c.hq
  refine envK_yes c.valid (by omega) (by omega) (kn_perm c) (List.all_eq_true.2 fun k hk => kn_tie c (by have := List.mem_range.1 hk; omega)) ?_
  rw [lastEq, l2, kn_last c]
  have := fI_selfK (n := q) (by omega) (by omega)
  have h2 : (single.order (fI q) (fI q) != some .eq) = false := this
  rw [h2]; rfl
abbrev kBs (p q : Int) (xs : List Int) : List Nat := putF (kOs p q xs) (cutF (kCs p q xs)) (kOs p q xs).length
abbrev kEs (p q : Int) (xs : List Int) : List Nat := putF (kOs p q xs) (endF (kCs p q xs)) (kOs p q xs).length
theorem getD_appL {l r : List Nat} {s : Nat} (h : s < l.length) : (l ++ r).getD s 0 = l.getD s 0 := by
  rw [List.getD_eq_getElem?_getD, List.getElem?_append_left h, ← List.getD_eq_getElem?_getD]
theorem flat_get {bs es : List Nat} {n j : Nat} (hj : j < n) : ∀ i k, k < i → ((List.range i).flatMap fun i => rowE xs q bs es i n).getD (k * n + j) 0 = envE xs q bs es k j
  | i + 1, k, hk => by
    rw [List.range_succ, List.flatMap_append]
    have hl : ((List.range i).flatMap fun i => rowE xs q bs es i n).length = i * n := flatE_len i
    by_cases e : k = i
    · subst e
      rw [List.getD_eq_getElem?_getD, List.getElem?_append_right (by omega), hl, show k * n + j - k * n = j by omega]
      simp [rowE, hj]
    · have h1 : (k + 1) * n ≤ i * n := Nat.mul_le_mul_right _ (by omega)
      rw [Nat.succ_mul] at h1
      rw [getD_appL (by omega)]
      exact flat_get hj i k (by omega)
theorem out_get {bs es : List Nat} {n k : Nat} (hk : k < n) : (outE xs q bs es n n 0).getD (k * n + k) 0 = envE xs q bs es k k := by
  have : outE xs q bs es n n 0 = (List.range n).flatMap fun i => rowE xs q bs es i n := by
    rw [outE, rowE]; simp
  rw [this]
  exact flat_get hk n k hk
/-- Nobody would rather have his own part. -/
theorem kn_zero (c : DC p q xs) {k : Nat} (hk : k < p.toNat) : (outE xs q (kBs p q xs) (kEs p q xs) (kOs p q xs).length (kOs p q xs).length 0).getD (k * (kOs p q xs).length + k) 0 = 0 := by
  obtain ⟨l1, l2⟩ := kn_len c
  have hp := c.hp
  have hq := c.hq
  rw [out_get (by omega)]
  have hfit : fitB q (kBs p q xs) (kEs p q xs) k = true := by
    have h1 := fit_all (q := q) (cs := kCs p q xs) (by omega) (kn_perm c)
    have h2 : (List.range (kOs p q xs).length).all (tieB q (kCs p q xs)) = true := List.all_eq_true.2 fun k hk => kn_tie c (by have := List.mem_range.1 hk; omega)
    rw [h2] at h1
    exact List.all_eq_true.1 h1 k (List.mem_range.2 (by omega))
  have hn := eat_nf (i := k) c.valid (by omega) hfit
  rw [envE, fSub, sub_self_fin hn.fin]; rfl
/-- What the law asks of a part. -/
structure PartOk (p q : Int) (xs : List Int) (k : Nat) : Prop where
  l1 : fcmp .lss .f32 ((kCs p q xs).getD k 0) (cutF (kCs p q xs) k) = some false
  w1 : cwK p q ((kOs p q xs).getD k 0) xs (cutF (kCs p q xs) k) ((kCs p q xs).getD k 0) = true
  w2 : cwK p q ((kOs p q xs).getD k 0) xs 0 (fI q) = true
  n1 : NN (wA q xs ((kOs p q xs).getD k 0) (cutF (kCs p q xs) k) ((kCs p q xs).getD k 0))
  n2 : NN (wA q xs ((kOs p q xs).getD k 0) 0 (fI q))
  d1 : floatBits .quo .f64 (wid (wA q xs ((kOs p q xs).getD k 0) 0 (fI q))) (dI p) = some (dDiv (wid (wA q xs ((kOs p q xs).getD k 0) 0 (fI q))) (dI p))
  b1 : floatBits .sub .f64 (dDiv (wid (wA q xs ((kOs p q xs).getD k 0) 0 (fI q))) (dI p)) cent = some (dSub (dDiv (wid (wA q xs ((kOs p q xs).getD k 0) 0 (fI q))) (dI p)) cent)
  l2 : fcmp .lss .f64 (wid (wA q xs ((kOs p q xs).getD k 0) (cutF (kCs p q xs) k) ((kCs p q xs).getD k 0))) (dSub (dDiv (wid (wA q xs ((kOs p q xs).getD k 0) 0 (fI q))) (dI p)) cent) = some false
theorem dI_readI (hp : 1 ≤ p ∧ p ≤ 4) : ∃ m i, double.read (dI p) = .number false m i ∧ -60 ≤ i ∧ i ≤ 0 ∧ m ≠ 0 ∧ V m i = p.toNat * UU := by
  obtain ⟨n, rfl⟩ : ∃ n : Nat, p = (n : Int) := ⟨p.toNat, by omega⟩
  rw [Int.toNat_natCast]
  exact dI_read (by omega) (by omega)
theorem part_law (c : DC p q xs) {k : Nat} (hk : k < p.toNat) : PartOk p q xs k := by
  have hUA := UU_eq
  have hp := c.hp
  have hq := c.hq
  obtain ⟨h1, h2, h3, h4, h5⟩ := kn_part c hk
  obtain ⟨o1, o2, _⟩ := kn_own c hk
  have hfq := fI_NV (n := q) (by omega) (by omega)
  obtain ⟨P, P1, P2, P3, P4⟩ := c.worth o1 o2 h1 h2 h3
  obtain ⟨T, T1, T2, T3, T4, T5⟩ := c.total o1 o2
  obtain ⟨u1, -, u5, ⟨s, u6, u7⟩, -, -⟩ := part64 T1 T4 T5 (dI_readI hp) (by omega)
  obtain ⟨g, g1, g2, g3⟩ := wid_abs P1 (B := 80) (by omega) (by decide)
  have w0 : (validC p q xs && decide (0 ≤ (kOs p q xs).getD k 0 ∧ (kOs p q xs).getD k 0 ≤ p - 1)) = true := by rw [c.valid, decide_eq_true (by omega)]; rfl
  have ngt : ∀ {x y vx vy : Nat}, NV x vx → NV y vy → vx ≤ vy → gtB x y = false := fun {x y vx vy} hx hy h => by
    cases hh : gtB x y
    · rfl
    · have := (gtB_NV hx hy).1 hh; omega
  refine ⟨?_, cwK_yes w0 (h1.pl (by omega) (by omega)) (h2.pl (by omega) h4) (ngt h1 h2 h3), cwK_yes w0 (zero_NV.pl (by omega) (Nat.zero_le _)) (hfq.pl (by omega) (Nat.le_refl _)) (ngt zero_NV hfq (Nat.zero_le _)), P1.nn, T1.nn, u1, u5, ?_⟩
  · rw [f32_lss h2 h1, decide_eq_false (by omega)]
  · have hW : wAll q xs ((kOs p q xs).getD k 0) = exW (rowC q ((kOs p q xs).getD k 0) xs) 0 (q.toNat * UU) q.toNat := rfl
    refine lss_false (e := -274) (by decide) (g1.mono (by decide)) u6 ?_
    refine Nat.le_of_mul_le_mul_right (c := p.toNat) ?_ (by omega)
    have k1 := Nat.mul_le_mul_right p.toNat P3
    have k2 := Nat.mul_le_mul_right p.toNat g3
    rw [Nat.add_mul] at k1 k2 u7
    have k3 : 750 * AA * p.toNat ≤ 750 * AA * 4 := Nat.mul_le_mul_left _ (by omega)
    have k4 : 80 * AA * p.toNat ≤ 80 * AA * 4 := Nat.mul_le_mul_left _ (by omega)
    have k5 : 167600 * AA * 1 ≤ 167600 * AA * p.toNat := Nat.mul_le_mul_left _ (by omega)
    omega
end
end Go.Am

namespace Go.Am
set_option linter.unusedSimpArgs false
set_option linter.unusedVariables false
open Ieee
/-! ## Cakes that are drawn -/
def incF (xs : List Int) (q : Nat) : Nat → List Int
  | 0 => xs
  | s + 1 => (incF xs q s).set (s * q) ((incF xs q s).getD (s * q) 0 + 1)
theorem incF_zero {xs : List Int} {q : Nat} : incF xs q 0 = xs := rfl
theorem incF_step {xs : List Int} {q s : Nat} : (incF xs q s).set (s * q) ((incF xs q s).getD (s * q) 0 + 1) = incF xs q (s + 1) := rfl
theorem incF_len {xs : List Int} {q : Nat} : ∀ s, (incF xs q s).length = xs.length
  | 0 => rfl
  | s + 1 => by rw [incF, List.length_set, incF_len s]
theorem getD_setI {l : List Int} {i k : Nat} {z : Int} (hk : k < l.length) : (l.set i z).getD k 0 = if i = k then z else l.getD k 0 := by
  rw [List.getD_eq_getElem?_getD, List.getElem?_eq_getElem (by rw [List.length_set]; exact hk), List.getElem_set]
  by_cases e : i = k
  · rw [if_pos e, if_pos e]; rfl
  · rw [if_neg e, if_neg e, List.getD_eq_getElem?_getD, List.getElem?_eq_getElem hk]
theorem incF_inv {xs : List Int} {p q : Nat} (hq : 1 ≤ q) (hl : xs.length = p * q) (hx : xs.all v12 = true) : ∀ s, s ≤ p →
    (∀ k, k < xs.length → 0 ≤ (incF xs q s).getD k 0 ∧ (incF xs q s).getD k 0 ≤ 12) ∧ (∀ k, s * q ≤ k → (incF xs q s).getD k 0 = xs.getD k 0) ∧ ∀ i, i < s → 1 ≤ (incF xs q s).getD (i * q) 0
  | 0, _ => by
    have hb : ∀ k, k < xs.length → 0 ≤ xs.getD k 0 ∧ xs.getD k 0 ≤ 11 := fun k hk => by
      rw [kgetD hk]
      exact of_decide_eq_true (List.all_eq_true.1 hx _ (List.getElem_mem hk))
    exact ⟨fun k hk => by have := hb k hk; rw [incF_zero]; omega, fun k _ => rfl, fun i hi => by omega⟩
  | s + 1, h => by
    obtain ⟨h1, h2, h3⟩ := incF_inv hq hl hx s (by omega)
    have hb : ∀ k, k < xs.length → 0 ≤ xs.getD k 0 ∧ xs.getD k 0 ≤ 11 := fun k hk => by
      rw [kgetD hk]
      exact of_decide_eq_true (List.all_eq_true.1 hx _ (List.getElem_mem hk))
    have hs1 : (s + 1) * q ≤ xs.length := by rw [hl]; exact Nat.mul_le_mul_right _ h
    have e1 : (s + 1) * q = s * q + q := Nat.succ_mul _ _
    have hsl : s * q < xs.length := by omega
    have hll := incF_len (xs := xs) (q := q) s
    have h0 := h2 (s * q) (Nat.le_refl _)
    have h4 := hb (s * q) hsl
    refine ⟨fun k hk => ?_, fun k hk => ?_, fun i hi => ?_⟩
    · rw [incF, getD_setI (by omega)]
      split
      · omega
      · exact h1 k hk
    · have hne : s * q ≠ k := by omega
      by_cases hk2 : k < xs.length
      · rw [incF, getD_setI (by omega), if_neg hne]
        exact h2 k (by omega)
      · have h5 := incF_len (xs := xs) (q := q) (s + 1)
        rw [List.getD_eq_getElem?_getD, List.getElem?_eq_none (by omega), List.getD_eq_getElem?_getD, List.getElem?_eq_none (by omega)]
    · have hi2 : i * q ≤ s * q := Nat.mul_le_mul_right _ (by omega)
      rw [incF, getD_setI (by omega)]
      by_cases e : s * q = i * q
      · rw [if_pos e]; omega
      · rw [if_neg e]
        refine h3 i ?_
        by_cases e2 : i = s
        · subst e2; exact absurd rfl e
        · omega
theorem incF_small {xs : List Int} {p q s k : Nat} (hq : 1 ≤ q) (hl : xs.length = p * q) (hx : xs.all v12 = true) (hs : s < p) (hk : k = s * q) : k < xs.length ∧ 0 ≤ (incF xs q s).getD k 0 ∧ (incF xs q s).getD k 0 ≤ 12 := by
  subst hk
  have h1 : (s + 1) * q ≤ p * q := Nat.mul_le_mul_right _ hs
  have e1 : (s + 1) * q = s * q + q := Nat.succ_mul _ _
  have h2 : s * q < xs.length := by omega
  exact ⟨h2, (incF_inv hq hl hx s (by omega)).1 _ h2⟩
theorem dc_of {xs : List Int} {p q : Nat} (hp : 1 ≤ p ∧ p ≤ 4) (hq : 1 ≤ q ∧ q ≤ 6) (hl : xs.length = p * q) (hx : xs.all v12 = true) : DC p q (incF xs q p) := by
  obtain ⟨h1, _, h3⟩ := incF_inv hq.1 hl hx p (Nat.le_refl _)
  have hll := incF_len (xs := xs) (q := q) p
  refine ⟨by omega, by omega, ?_, fun k hk => h1 k (by omega), fun i h0 h4 => ?_⟩
  · rw [hll, hl]; exact Int.natCast_mul p q
  · obtain ⟨j, rfl⟩ := Int.eq_ofNat_of_zero_le h0
    have e : ((j : Int) * (q : Int)).toNat = j * q := by rw [← Int.natCast_mul, Int.toNat_natCast]
    rw [e]
    exact h3 j (by omega)
theorem lk_inG {X G : AHeap} {k j : Nat} {o : AObj} (hk : k = X.length + j) (h : G[j]? = some o) : (X ++ G)[k]? = some o := by
  subst hk; rw [List.getElem?_append_right (Nat.le_add_right _ _), Nat.add_sub_cancel_left]; exact h
theorem lk_outG {X G : AHeap} {k j : Nat} {o : AObj} (hk : k = X.length + j) (h : (X ++ G)[k]? = some o) : G[j]? = some o := by
  subst hk; rw [List.getElem?_append_right (Nat.le_add_right _ _), Nat.add_sub_cancel_left] at h; exact h
theorem set_inG {X g G : AHeap} {k j : Nat} {o o2 : AObj} (hk : k = X.length + j) (hG : g.set j o = G) : (X ++ G).set k o2 = X ++ g.set j o2 := by
  subst hk; subst hG
  rw [List.set_append_right _ _ (Nat.le_add_right _ _), Nat.add_sub_cancel_left, set_set]
/-! ## Operations -/
/-- Two ways that meet again: what is left to show is shown once. -/
theorem meet_thm {A B : Prop} (h : (Unit → A) → B) (hA : A) : B := h fun _ => hA
section
variable {P : Program} {K : Value → AHeap → Prop} {env : Env} {h : AHeap} {dst : Option Tmp} {ty : TypeId} {pos : String} {after : Array Edge} {guard : Option (Nat × Bool)}
/-- A comparison whose answer is known. -/
theorem o_fcmpK {op : BinOp} {t yt : TypeId} {x y : Operand} {k : FloatKind} {p q : Nat} {b : Bool} (hx : aeval env x = .float k p) (hy : aeval env y = .float k q) (hb : fcmp op k p q = some b)
    (hK : K (.bool b) h) : AOp P ⟨dst, .binOp op t x y yt, ty, pos, after, guard⟩ K env h :=
  o_fcmp hx hy hb (fun e => by subst e; exact hK) (fun e => by subst e; exact hK)
theorem o_convI64 {src d : TypeId} {x : Operand} {k : IntKind} {p : Int} {sd : TypeDesc} (hs : P.underlying src = some sd) (hd : P.underlying d = some (.float .f64))
    (hx : aeval env x = .int k p) (hK : K (fd (dI p)) h) : AOp P ⟨dst, .convert src d x, ty, pos, after, guard⟩ K env h := o_convIF hs hd hx hK
end
/-! ## The law's first half -/
section
variable {p q : Int} {xs : List Int}
theorem DC.ngt {x y vx vy : Nat} (hx : NV x vx) (hy : NV y vy) (h : vx ≤ vy) : gtB x y = false := by
  cases hh : gtB x y
  · rfl
  · have := (gtB_NV hx hy).1 hh; omega
structure HalfIn (q : Int) (xs : List Int) : Prop where
  w1 : cwK 2 q 0 xs 0 (ccA q xs) = true
  w2 : cwK 2 q 0 xs 0 (fI q) = true
  w3 : cwK 2 q 1 xs 0 (ccA q xs) = true
  w4 : cwK 2 q 1 xs 0 (fI q) = true
  n1 : NN (wA q xs 0 0 (ccA q xs))
  n2 : NN (wA q xs 0 0 (fI q))
  n3 : NN (wA q xs 1 0 (ccA q xs))
  n4 : NN (wA q xs 1 0 (fI q))
  tu : ccT 2 q xs = .tuple #[fl (ccA q xs), .bool (geB (ccX q xs) (ccY q xs)), .bool true]
theorem half_in (c : DC 2 q xs) : HalfIn q xs := by
  have hUA := UU_eq
  have hcc := cc_of c.valid rfl
  have k1 := cwK_yes hcc.w0 hcc.h0 hcc.h2 hcc.g2
  have k2 := cwK_yes hcc.w1 hcc.h0 hcc.h1 hcc.g1
  obtain ⟨A, A1, A2, A3, A4, A5⟩ := c.total (i := 0) (by decide) (by decide)
  obtain ⟨B, B1, B2, B3, B4, B5⟩ := c.total (i := 1) (by decide) (by decide)
  obtain ⟨r1, r2, r3⟩ := c.row (i := 0) (by decide) (by decide)
  obtain ⟨ω, o1, o2, o3⟩ := div_abs A1 two32_read (by decide) (B := 37) (by omega) (by decide) (by decide)
  obtain ⟨μ, m1, m2, m3, m4⟩ := mark_abs (q := q) c.hq r2 zero_NV (Nat.zero_le _) (w := hf (ccW q xs)) o1 (by omega) r1
  have m1' : NV (ccA q xs) μ := m1
  obtain ⟨a, a1, _⟩ := c.worth (i := 0) (by decide) (by decide) zero_NV m1' (Nat.zero_le _)
  obtain ⟨X, x1, _⟩ := c.worth (i := 1) (by decide) (by decide) zero_NV m1' (Nat.zero_le _)
  exact ⟨k1, hcc.k1, hcc.k3, k2, a1.nn, A1.nn, x1.nn, B1.nn, (cc_yes (ccK_yes c.valid rfl) rfl).symm⟩
/-! ## Knives -/
theorem kn_end (c : DC p q xs) : fcmp .neq .f32 ((kCs p q xs).getD (p.toNat - 1) 0) (fI q) = some false := by
  rw [kn_last c]
  have := fI_selfK (n := q) (by have := c.hq; omega) (by have := c.hq; omega)
  exact congrArg some this
theorem kn_tab (c : DC p q xs) {s : Nat} (hs : s < p.toNat) : fcmp .neq .f32 ((outE xs q (kBs p q xs) (kEs p q xs) (kOs p q xs).length (kOs p q xs).length 0).getD (s * (kOs p q xs).length + s) 0) 0 = some false := by
  rw [kn_zero c hs]
  have h0 : single.order 0 0 = some .eq := by rw [Format.order, read_zero]; rfl
  show some (single.order 0 0 != some .eq) = some false
  rw [h0]; rfl
theorem kn_out (c : DC p q xs) {n : Nat} (hn : (n : Int) = p) : (outE xs q (kBs p q xs) (kEs p q xs) (kOs p q xs).length (kOs p q xs).length 0).length = n * n := by
  rw [outE_len, (kn_len c).1, show p.toNat = n by omega]; rfl
end
end Go.Am

namespace Go.Am
set_option linter.unusedSimpArgs false
set_option linter.unusedVariables false
end Go.Am
