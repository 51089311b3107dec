/-
  The abstract heap: numbers in single precision: that no answer is open where the numbers are small or not below zero. General: no program is named.
-/
import Derived.Test.YtejlkmepnamodaaAmFlt
import Derived.KernelRfl
namespace Go.Am
set_option linter.unusedSimpArgs false
set_option linter.unusedVariables false
open Ieee

theorem s_read (x : Nat) : single.read x = (if x % 2147483648 < 8388608 then .number (x / 2147483648 % 2 == 1) (x % 2147483648) (-149)
    else if x % 2147483648 < 2139095040 then .number (x / 2147483648 % 2 == 1) (8388608 + x % 2147483648 % 8388608) (-149 + (x % 2147483648 / 8388608 - 1 : Nat))
    else if x % 2147483648 = 2139095040 then .infinity (x / 2147483648 % 2 == 1) else .nan (x / 2147483648 % 2 == 1) (x % 2147483648 - 2139095040)) := rfl
theorem s_num {x m : Nat} {s : Bool} {i : Int} (h : single.read x = .number s m i) : m < 16777216 ∧ -149 ≤ i ∧ i ≤ 104 ∧ (m < 8388608 → i = -149) := by
  rw [s_read] at h
  split at h
  · injection h with h1 h2 h3; omega
  · split at h
    · injection h with h1 h2 h3; omega
    · split at h <;> cases h

/-! ## What is written -/
theorem lt_log2 {n : Nat} : n < 2 ^ (n.log2 + 1) := Nat.lt_log2_self
theorem log2_le {n k : Nat} (hn : n ≠ 0) (h : n < 2 ^ (k + 1)) : n.log2 ≤ k := by
  have := (Nat.log2_lt hn).2 h
  omega
theorem cut_le {neg : Bool} {n b f : Nat} (h : n.log2 ≤ f + b) : Toward.even.cut neg n b ≤ 2 ^ (f + 1) := by
  have hg : n / (1 <<< min b (n.log2 + 2)) < 2 ^ (f + 1) := by
    rw [Nat.one_shiftLeft, Nat.div_lt_iff_lt_mul (Nat.two_pow_pos _), ← Nat.pow_add]
    exact Nat.lt_of_lt_of_le lt_log2 (Nat.pow_le_pow_right (by decide) (by omega))
  have : Toward.even.cut neg n b ≤ n / (1 <<< min b (n.log2 + 2)) + 1 := by
    unfold Toward.cut
    simp only
    generalize (decide (1 <<< min b (n.log2 + 2) < 2 * (n % 1 <<< min b (n.log2 + 2))) || _) = c
    cases c <;> simp
  omega
theorem log2_shl {m a : Nat} (hm : m ≠ 0) : (m <<< a).log2 ≤ m.log2 + a := by
  rw [Nat.shiftLeft_eq]
  refine log2_le (Nat.mul_ne_zero hm (Nat.pos_iff_ne_zero.1 (Nat.two_pow_pos _))) ?_
  rw [show m.log2 + a + 1 = (m.log2 + 1) + a by omega, Nat.pow_add]
  exact Nat.mul_lt_mul_of_pos_right lt_log2 (Nat.two_pow_pos _)
theorem pow23 : 8388608 = 2 ^ (22 + 1) := by decide
theorem near_rung (f : Format) (neg : Bool) (mag : Nat) (place : Int) : ∃ r, f.nearest neg mag place = f.word neg r ∧ r ≤ f.infRung ∧
    ∀ E : Nat, (mag = 0 ∨ place + (mag.log2 : Int) - f.fractionBits - f.leastPlace ≤ E) → r ≤ E * f.binade + 2 * f.binade := by
  unfold Format.nearest
  by_cases h0 : mag = 0
  · exact ⟨0, by rw [if_pos h0], Nat.zero_le _, fun _ _ => Nat.zero_le _⟩
  · rw [if_neg h0]
    refine ⟨_, rfl, Nat.min_le_right _ _, fun E hE => ?_⟩
    have hE := hE.resolve_left h0
    generalize hl : max (place + (mag.log2 : Int) - (f.fractionBits : Int)) f.leastPlace = last
    have hk : Toward.even.cut neg (mag <<< (place - last).toNat) (last - place).toNat ≤ 2 * f.binade := by
      have h1 := log2_shl (a := (place - last).toNat) h0
      have := cut_le (neg := neg) (n := mag <<< (place - last).toNat) (b := (last - place).toNat) (f := f.fractionBits) (by omega)
      rw [Nat.pow_succ, Nat.mul_comm] at this
      exact this
    refine Nat.le_trans (Nat.min_le_left _ _) (Nat.add_le_add (Nat.mul_le_mul_right _ ?_) hk)
    omega
theorem s_parts (neg : Bool) (r : Nat) (hr : r < 2147483648) : single.word neg r % 2147483648 = r ∧ (single.word neg r / 2147483648 % 2 == 1) = neg := by
  have e : single.word neg r = if neg then 2147483648 + r else r := rfl
  rw [e]
  cases neg
  · simp only [Bool.false_eq_true, if_false]
    exact ⟨by omega, by rw [show r / 2147483648 % 2 = 0 by omega]; rfl⟩
  · simp only [if_true]
    exact ⟨by omega, by rw [show (2147483648 + r) / 2147483648 % 2 = 1 by omega]; rfl⟩
theorem s_word (neg : Bool) (r : Nat) (hr : r < 2139095040) : ∃ m i, single.read (single.word neg r) = .number neg m i ∧ (m = 0 ∨ i + (m.log2 : Int) ≤ (r / 8388608 : Nat) - 127) := by
  have hw := s_parts neg r (by omega)
  rw [s_read, hw.1, hw.2]
  by_cases c : r < 8388608
  · rw [if_pos c]
    refine ⟨r, -149, rfl, ?_⟩
    by_cases h0 : r = 0
    · exact .inl h0
    · right
      have : r.log2 ≤ 22 := log2_le h0 (pow23 ▸ c)
      omega
  · rw [if_neg c, if_pos hr]
    refine ⟨_, _, rfl, .inr ?_⟩
    have : (8388608 + r % 8388608).log2 ≤ 23 := log2_le (by omega) (by omega)
    omega
theorem s_inf (neg : Bool) : single.read (single.word neg 2139095040) = .infinity neg := by
  have hw := s_parts neg 2139095040 (by omega)
  rw [s_read, hw.1, hw.2, if_neg (by omega), if_neg (by omega), if_pos rfl]
/-- A number between -2^(E+1) and 2^(E+1). -/
def Sm (E : Int) (x : Nat) : Prop := ∃ s m i, single.read x = .number s m i ∧ (m = 0 ∨ i + (m.log2 : Int) ≤ E)
def NN (x : Nat) : Prop := (single.read x).isNaN = false
def Ps (x : Nat) : Prop := (∃ m i, single.read x = .number false m i) ∨ single.read x = .infinity false
theorem Sm.mono {E E' : Int} {x : Nat} (h : Sm E x) (he : E ≤ E') : Sm E' x := by
  obtain ⟨s, m, i, h1, h2⟩ := h
  exact ⟨s, m, i, h1, by omega⟩
theorem Sm.nn {E : Int} {x : Nat} (h : Sm E x) : NN x := by obtain ⟨s, m, i, h1, _⟩ := h; rw [NN, h1]; rfl
theorem Ps.nn {x : Nat} (h : Ps x) : NN x := by
  rcases h with ⟨m, i, h⟩ | h <;> rw [NN, h] <;> rfl
theorem write_small {neg : Bool} {mag : Nat} {place E : Int} (h : mag = 0 ∨ place + (mag.log2 : Int) ≤ E) (h1 : -126 ≤ E) (h2 : E ≤ 120) : ∃ m i, single.read (single.nearest neg mag place) = .number neg m i ∧ (m = 0 ∨ i + (m.log2 : Int) ≤ E + 1) := by
  obtain ⟨r, e, hr, hb⟩ := near_rung single neg mag place
  have hb := hb (E + 126).toNat (by
    rcases h with h | h
    · exact .inl h
    · right
      show place + (mag.log2 : Int) - (23 : Nat) - (-149) ≤ _
      omega)
  have hb : r ≤ (E + 126).toNat * 8388608 + 2 * 8388608 := hb
  obtain ⟨m, i, h3, h4⟩ := s_word neg r (by omega)
  rw [e]
  exact ⟨m, i, h3, by omega⟩
theorem write_any (neg : Bool) (mag : Nat) (place : Int) : (∃ m i, single.read (single.nearest neg mag place) = .number neg m i) ∨ single.read (single.nearest neg mag place) = .infinity neg := by
  obtain ⟨r, e, hr, _⟩ := near_rung single neg mag place
  have hr : r ≤ 2139095040 := hr
  rw [e]
  by_cases c : r = 2139095040
  · rw [c]; exact .inr (s_inf neg)
  · obtain ⟨m, i, h3, _⟩ := s_word neg r (by omega)
    exact .inl ⟨m, i, h3⟩
theorem write_nn (d : Datum) (h : d.isNaN = false) : NN (single.write d) := by
  cases d with
  | number s m i =>
    show NN (single.nearest s m i)
    rcases write_any s m i with ⟨a, b, h1⟩ | h1 <;> rw [NN, h1] <;> rfl
  | infinity s => rw [NN]; show (single.read (single.word s 2139095040)).isNaN = false; rw [s_inf]; rfl
  | nan s n => cases h

/-! ## The operations -/
def fAdd (x y : Nat) : Nat := (single.add x y).getD 0
def fSub (x y : Nat) : Nat := (single.sub x y).getD 0
def fMul (x y : Nat) : Nat := (single.mul x y).getD 0
def fDiv (x y : Nat) : Nat := (single.div x y).getD 0
theorem signed_le {s : Bool} {m a k : Nat} (h : m = 0 ∨ m.log2 + a < k) : (signed s m a).natAbs < 2 ^ k := by
  have hm : m <<< a < 2 ^ k := by
    rw [Nat.shiftLeft_eq]
    rcases h with h | h
    · subst h; rw [Nat.zero_mul]; exact Nat.two_pow_pos _
    · have h1 : m * 2 ^ a < 2 ^ (m.log2 + 1) * 2 ^ a := Nat.mul_lt_mul_of_pos_right lt_log2 (Nat.two_pow_pos _)
      rw [← Nat.pow_add] at h1
      exact Nat.lt_of_lt_of_le h1 (Nat.pow_le_pow_right (by decide) (by omega))
  cases s
  · show ((m <<< a : Nat) : Int).natAbs < _
    rw [Int.natAbs_natCast]; exact hm
  · show (-((m <<< a : Nat) : Int)).natAbs < _
    rw [Int.natAbs_neg, Int.natAbs_natCast]; exact hm
theorem sum_small {s t : Bool} {m n : Nat} {i j E : Int} (h1 : m = 0 ∨ i + (m.log2 : Int) ≤ E) (h2 : n = 0 ∨ j + (n.log2 : Int) ≤ E) : ∃ u g b, (Datum.number s m i).sum (.number t n j) = some (.number u g b) ∧ (g = 0 ∨ b + (g.log2 : Int) ≤ E + 1) := by
  refine ⟨_, _, _, rfl, ?_⟩
  generalize hb : min i j = b
  by_cases h0 : (signed s m (i - b).toNat + signed t n (j - b).toNat).natAbs = 0
  · exact .inl h0
  right
  have k1 := signed_le (s := s) (m := m) (a := (i - b).toNat) (k := (E + 1 - b).toNat) (by omega)
  have k2 := signed_le (s := t) (m := n) (a := (j - b).toNat) (k := (E + 1 - b).toNat) (by omega)
  have k3 : (signed s m (i - b).toNat + signed t n (j - b).toNat).natAbs < 2 ^ ((E + 1 - b).toNat + 1) := by
    have := Int.natAbs_add_le (signed s m (i - b).toNat) (signed t n (j - b).toNat)
    rw [Nat.pow_succ]; omega
  have k4 := log2_le h0 k3
  by_cases hE : 0 ≤ E + 1 - b
  · omega
  · exfalso
    rw [show (E + 1 - b).toNat = 0 by omega] at k1 k2
    simp only [Nat.pow_zero] at k1 k2
    have := Int.natAbs_add_le (signed s m (i - b).toNat) (signed t n (j - b).toNat)
    omega
theorem sub_small {x y : Nat} {E : Int} (hx : Sm E x) (hy : Sm E y) (h1 : -126 ≤ E) (h2 : E ≤ 110) : single.sub x y = some (fSub x y) ∧ Sm (E + 2) (fSub x y) := by
  obtain ⟨s, m, i, e1, b1⟩ := hx
  obtain ⟨t, n, j, e2, b2⟩ := hy
  obtain ⟨u, g, b, e3, b3⟩ := sum_small (s := s) (t := !t) b1 b2
  have e : single.sub x y = some (single.nearest u g b) := by
    rw [Format.sub, e1, e2]
    show ((Datum.number s m i).sum (.number (!t) n j)).map _ = _
    rw [e3]; rfl
  obtain ⟨a, c, e4, b4⟩ := write_small (neg := u) b3 (by omega) (by omega)
  refine ⟨by rw [fSub, e]; rfl, u, a, c, ?_, by omega⟩
  rw [fSub, e]
  exact e4
theorem mul_small {x y : Nat} {E F : Int} (hx : Sm E x) (hy : Sm F y) (h1 : -126 ≤ E + F) (h2 : E + F ≤ 110) : single.mul x y = some (fMul x y) ∧ Sm (E + F + 2) (fMul x y) := by
  obtain ⟨s, m, i, e1, b1⟩ := hx
  obtain ⟨t, n, j, e2, b2⟩ := hy
  have e : single.mul x y = some (single.nearest (s ^^ t) (m * n) (i + j)) := by
    rw [Format.mul, e1, e2]; rfl
  obtain ⟨a, c, e4, b4⟩ := write_small (neg := s ^^ t) (mag := m * n) (place := i + j) (E := E + F + 1) (by
    by_cases h0 : m * n = 0
    · exact .inl h0
    · right
      have hm : m ≠ 0 := fun h => h0 (by rw [h, Nat.zero_mul])
      have hn : n ≠ 0 := fun h => h0 (by rw [h, Nat.mul_zero])
      have : (m * n).log2 ≤ m.log2 + n.log2 + 1 := by
        refine log2_le h0 ?_
        rw [show m.log2 + n.log2 + 1 + 1 = (m.log2 + 1) + (n.log2 + 1) by omega, Nat.pow_add]
        exact Nat.mul_lt_mul'' lt_log2 lt_log2
      omega) (by omega) (by omega)
  refine ⟨by rw [fMul, e]; rfl, s ^^ t, a, c, ?_, by omega⟩
  rw [fMul, e]
  exact e4
theorem mul_pos {x y m n : Nat} {i j : Int} (hx : single.read x = .number false m i) (hy : single.read y = .number false n j) : single.mul x y = some (fMul x y) ∧ Ps (fMul x y) := by
  have e : single.mul x y = some (single.nearest false (m * n) (i + j)) := by rw [Format.mul, hx, hy]; rfl
  refine ⟨by rw [fMul, e]; rfl, ?_⟩
  rw [fMul, e]
  exact write_any false (m * n) (i + j)
theorem add_pos {x y : Nat} (hx : Ps x) (hy : Ps y) : single.add x y = some (fAdd x y) ∧ Ps (fAdd x y) := by
  rcases hx with ⟨m, i, hx⟩ | hx <;> rcases hy with ⟨n, j, hy⟩ | hy
  · have e : ∃ g b, (Datum.number false m i).sum (.number false n j) = some (.number false g b) := by
      refine ⟨(signed false m (i - min i j).toNat + signed false n (j - min i j).toNat).natAbs, min i j, ?_⟩
      show some (Datum.number (if signed false m (i - min i j).toNat + signed false n (j - min i j).toNat = 0 then false && false else decide (signed false m (i - min i j).toNat + signed false n (j - min i j).toNat < 0)) _ _) = _
      have : (if signed false m (i - min i j).toNat + signed false n (j - min i j).toNat = 0 then false && false else decide (signed false m (i - min i j).toNat + signed false n (j - min i j).toNat < 0)) = false := by
        split
        · rfl
        · rw [decide_eq_false]
          have h1 : 0 ≤ signed false m (i - min i j).toNat := Int.natCast_nonneg _
          have h2 : 0 ≤ signed false n (j - min i j).toNat := Int.natCast_nonneg _
          omega
      rw [this]
    obtain ⟨g, b, e⟩ := e
    have e2 : single.add x y = some (single.nearest false g b) := by rw [Format.add, hx, hy, e]; rfl
    exact ⟨by rw [fAdd, e2]; rfl, by rw [fAdd, e2]; exact write_any false g b⟩
  all_goals
    have e2 : single.add x y = some (single.word false 2139095040) := by rw [Format.add, hx, hy]; rfl
    exact ⟨by rw [fAdd, e2]; rfl, by rw [fAdd, e2]; exact .inr (s_inf false)⟩
theorem sub_nn {x y : Nat} {E : Int} (hx : NN x) (hy : Sm E y) : single.sub x y = some (fSub x y) ∧ NN (fSub x y) := by
  obtain ⟨t, n, j, e2, _⟩ := hy
  have key : ∃ d, (single.read x).sum (single.read y).opposite = some d ∧ d.isNaN = false := by
    rw [e2]
    rw [NN] at hx
    cases h : single.read x with
    | number s m i => exact ⟨_, rfl, rfl⟩
    | infinity s => exact ⟨_, rfl, rfl⟩
    | nan s n => rw [h] at hx; cases hx
  obtain ⟨d, e, hd⟩ := key
  have e3 : single.sub x y = some (single.write d) := by rw [Format.sub, e]; rfl
  exact ⟨by rw [fSub, e3]; rfl, by rw [fSub, e3]; exact write_nn d hd⟩
theorem add_nn {x y : Nat} {E : Int} (hx : Sm E x) (hy : NN y) : single.add x y = some (fAdd x y) ∧ NN (fAdd x y) := by
  obtain ⟨t, n, j, e2, _⟩ := hx
  have key : ∃ d, (single.read x).sum (single.read y) = some d ∧ d.isNaN = false := by
    rw [e2]
    rw [NN] at hy
    cases h : single.read y with
    | number s m i => exact ⟨_, rfl, rfl⟩
    | infinity s => exact ⟨_, rfl, rfl⟩
    | nan s n => rw [h] at hy; cases hy
  obtain ⟨d, e, hd⟩ := key
  have e3 : single.add x y = some (single.write d) := by rw [Format.add, e]; rfl
  exact ⟨by rw [fAdd, e3]; rfl, by rw [fAdd, e3]; exact write_nn d hd⟩
theorem div_nn {x y n : Nat} {j : Int} (hx : NN x) (hy : single.read y = .number false n j) (hn : n ≠ 0) : single.div x y = some (fDiv x y) ∧ NN (fDiv x y) := by
  have key : ∃ d, (single.read x).quotient (single.fractionBits + 2) (single.read y) = some d ∧ d.isNaN = false := by
    rw [hy]
    rw [NN] at hx
    cases h : single.read x with
    | number s m i =>
      have e : ∃ a b c, Datum.quotient (single.fractionBits + 2) (.number s m i) (.number false n j) = some (.number a b c) := by
        rw [Datum.quotient, if_neg hn]; exact ⟨_, _, _, rfl⟩
      obtain ⟨a, b, c, e⟩ := e
      exact ⟨_, e, rfl⟩
    | infinity s => exact ⟨_, rfl, rfl⟩
    | nan s n => rw [h] at hx; cases hx
  obtain ⟨d, e, hd⟩ := key
  have e3 : single.div x y = some (single.write d) := by rw [Format.div, e]; rfl
  exact ⟨by rw [fDiv, e3]; rfl, by rw [fDiv, e3]; exact write_nn d hd⟩
end Go.Am
