/-
  The abstract heap: cakes: places, parts and marks in single precision. General: no program is named.
-/
import Derived.Test.YtejlkmepnamodaaAmFlt2
namespace Go.Am
set_option linter.unusedSimpArgs false
set_option linter.unusedVariables false
open Ieee

/-! ## Small whole numbers -/
def fI (n : Int) : Nat := FloatKind.f32.nearest n
def chkF (n : Nat) : Bool := match single.read (fI (n : Int)) with
  | .number false m i => decide ((m = 0) ↔ (n = 0)) && decide (m = 0 ∨ i + (m.log2 : Int) ≤ 10) && (decide (16 < n) || decide (m = 0 ∨ i + (m.log2 : Int) ≤ 4))
  | _ => false
theorem chk_all : ((List.range 1001).all chkF) = true := by kernel_rfl
theorem fI_read {n : Int} (h0 : 0 ≤ n) (h1 : n ≤ 1000) : ∃ m i, single.read (fI n) = .number false m i ∧ ((m = 0) ↔ (n = 0)) ∧ (m = 0 ∨ i + (m.log2 : Int) ≤ 10) ∧ (n ≤ 16 → (m = 0 ∨ i + (m.log2 : Int) ≤ 4)) := by
  have h := List.all_eq_true.1 chk_all n.toNat (List.mem_range.2 (by omega))
  unfold chkF at h
  rw [show ((n.toNat : Nat) : Int) = n by omega] at h
  split at h
  · rename_i m i e
    simp only [Bool.and_eq_true, Bool.or_eq_true, decide_eq_true_eq] at h
    exact ⟨m, i, e, by rw [h.1.1]; omega, h.1.2, fun hn => by omega⟩
  · cases h
theorem fI_sm {n : Int} (h0 : 0 ≤ n) (h1 : n ≤ 1000) : Sm 10 (fI n) := by
  obtain ⟨m, i, e, _, h, _⟩ := fI_read h0 h1
  exact ⟨false, m, i, e, h⟩
theorem read_zero : single.read 0 = .number false 0 (-149) := by rw [s_read]; rfl

/-! ## Orders -/
abbrev ord (x y : Nat) : Option Ordering := single.order x y
theorem ord_def {x y : Nat} : ord x y = (single.read x).order (single.read y) := rfl
theorem ord_some {x y : Nat} (hx : NN x) (hy : NN y) : ∃ o, ord x y = some o := by
  rw [ord_def]; rw [NN] at hx hy
  cases h : single.read x <;> cases h2 : single.read y <;> first | (rw [h] at hx; cases hx; done) | (rw [h2] at hy; cases hy; done) | exact ⟨_, rfl⟩
theorem nn_of_ord {x y : Nat} {o : Ordering} (h : ord x y = some o) : NN x ∧ NN y := by
  rw [ord_def] at h
  constructor <;> rw [NN]
  · cases e : single.read x with
    | nan s n => rw [e] at h; cases h2 : single.read y <;> rw [h2] at h <;> cases h
    | _ => rfl
  · cases e : single.read y with
    | nan s n => rw [e] at h; cases h2 : single.read x <;> rw [h2] at h <;> cases h
    | _ => rfl
def geB (x y : Nat) : Bool := ord x y == some .gt || ord x y == some .eq
def leB (x y : Nat) : Bool := ord x y == some .lt || ord x y == some .eq
def gtB (x y : Nat) : Bool := ord x y == some .gt
def ltB (x y : Nat) : Bool := ord x y == some .lt
theorem not_gt {x y : Nat} (hx : NN x) (hy : NN y) : (!gtB x y) = leB x y := by
  obtain ⟨o, e⟩ := ord_some hx hy
  rw [gtB, leB, e]; cases o <;> rfl

/-- A place of a cake. -/
def plF (p : Int) (x : Nat) : Bool := geB x 0 && leB x (fI p)
def PlD (x : Nat) : Prop := ∃ s m i, single.read x = .number s m i ∧ (s = true → m = 0) ∧ (m = 0 ∨ i + (m.log2 : Int) ≤ 10)
theorem PlD.sm {x : Nat} (h : PlD x) : Sm 10 x := by obtain ⟨s, m, i, e, _, h⟩ := h; exact ⟨s, m, i, e, h⟩
theorem PlD.nn {x : Nat} (h : PlD x) : NN x := h.sm.nn
theorem fI_pl {n : Int} (h0 : 0 ≤ n) (h1 : n ≤ 1000) : PlD (fI n) := by
  obtain ⟨m, i, e, _, h, _⟩ := fI_read h0 h1
  exact ⟨false, m, i, e, by simp, h⟩
theorem signed_false {m a : Nat} : signed false m a = ((m * 2 ^ a : Nat) : Int) := by
  show ((m <<< a : Nat) : Int) = _
  rw [Nat.shiftLeft_eq]
theorem signed_true {m a : Nat} : signed true m a = -((m * 2 ^ a : Nat) : Int) := by
  show -((m <<< a : Nat) : Int) = _
  rw [Nat.shiftLeft_eq]
theorem pow_log2 {m : Nat} (h : m ≠ 0) : 2 ^ m.log2 ≤ m := Nat.log2_self_le h
theorem cmp_small {m n : Nat} {i j E : Int} (h : (n : Nat) = 0 ∨ j + (n.log2 : Int) ≤ E) (c : m * 2 ^ (i - min i j).toNat ≤ n * 2 ^ (j - min i j).toNat) : m = 0 ∨ i + (m.log2 : Int) ≤ E := by
  by_cases hm : m = 0
  · exact .inl hm
  right
  have hpos : 0 < m * 2 ^ (i - min i j).toNat := Nat.mul_pos (by omega) (Nat.two_pow_pos _)
  have hn : n ≠ 0 := by
    rintro rfl
    rw [Nat.zero_mul] at c; omega
  have h := h.resolve_left hn
  have h1 : 2 ^ (m.log2 + (i - min i j).toNat) ≤ m * 2 ^ (i - min i j).toNat := by
    rw [Nat.pow_add]; exact Nat.mul_le_mul_right _ (pow_log2 hm)
  have h2 : n * 2 ^ (j - min i j).toNat < 2 ^ (n.log2 + 1 + (j - min i j).toNat) := by
    rw [Nat.pow_add]; exact Nat.mul_lt_mul_of_pos_right lt_log2 (Nat.two_pow_pos _)
  have h3 := (Nat.pow_lt_pow_iff_right (a := 2) (by decide)).1 (Nat.lt_of_le_of_lt h1 (Nat.lt_of_le_of_lt c h2))
  omega
theorem compare_le {a b : Int} (h : compare a b = .lt ∨ compare a b = .eq) : a ≤ b := by
  rcases h with h | h
  · have := Int.compare_eq_lt.1 h; omega
  · have := Int.compare_eq_eq.1 h; omega
theorem compare_ge {a b : Int} (h : compare a b = .gt ∨ compare a b = .eq) : b ≤ a := by
  rcases h with h | h
  · have := Int.compare_eq_gt.1 h; omega
  · have := Int.compare_eq_eq.1 h; omega
theorem pl_of {p : Int} {x : Nat} (hp : 0 ≤ p ∧ p ≤ 16) (h : plF p x = true) : PlD x := by
  rw [plF, Bool.and_eq_true] at h
  obtain ⟨n, j, e, _, hb, _⟩ := fI_read hp.1 (by omega)
  have h1 := h.1
  have h2 := h.2
  simp only [geB, leB, Bool.or_eq_true, beq_iff_eq] at h1 h2
  rw [ord_def, read_zero] at h1
  rw [ord_def, e] at h2
  cases hx : single.read x with
  | nan s f => rw [hx] at h1; rcases h1 with h1 | h1 <;> cases h1
  | infinity s =>
    rw [hx] at h1 h2
    cases s
    · rcases h2 with h2 | h2 <;> cases h2
    · rcases h1 with h1 | h1 <;> cases h1
  | number s m i =>
    rw [hx] at h1 h2
    have k1 := compare_ge (a := signed s m (i - min i (-149)).toNat) (b := signed false 0 ((-149) - min i (-149)).toNat) (by
      rcases h1 with h1 | h1
      · exact .inl (Option.some.inj h1)
      · exact .inr (Option.some.inj h1))
    have k2 := compare_le (a := signed s m (i - min i j).toNat) (b := signed false n (j - min i j).toNat) (by
      rcases h2 with h2 | h2
      · exact .inl (Option.some.inj h2)
      · exact .inr (Option.some.inj h2))
    rw [signed_false, Nat.zero_mul] at k1
    rw [signed_false] at k2
    cases s
    · rw [signed_false] at k1 k2
      exact ⟨false, m, i, hx, by simp, cmp_small hb (Int.ofNat_le.1 k2)⟩
    · rw [signed_true] at k1
      have : m * 2 ^ (i - min i (-149)).toNat = 0 := by omega
      have hm : m = 0 := by
        rcases Nat.mul_eq_zero.1 this with h | h
        · exact h
        · exact absurd h (Nat.pos_iff_ne_zero.1 (Nat.two_pow_pos _))
      exact ⟨true, m, i, hx, fun _ => hm, .inl hm⟩
theorem ord_eq_read {x y m n : Nat} {i j : Int} (hx : single.read x = .number false m i) (hy : single.read y = .number false n j) (h : ord x y = some .eq) : single.read x = single.read y := by
  have a := s_num hx
  have b := s_num hy
  rw [ord_def, hx, hy] at h
  have k : signed false m (i - min i j).toNat = signed false n (j - min i j).toNat := Int.compare_eq_eq.1 (Option.some.inj h)
  rw [signed_false, signed_false] at k
  have k := Int.ofNat_inj.1 k
  rw [hx, hy]
  rcases Int.lt_trichotomy i j with c | c | c
  · exfalso
    rw [show (i - min i j).toNat = 0 by omega, Nat.pow_zero, Nat.mul_one] at k
    obtain ⟨d, hd⟩ : ∃ d, (j - min i j).toNat = d + 1 := ⟨(j - min i j).toNat - 1, by omega⟩
    rw [hd, Nat.pow_succ] at k
    have hp := Nat.two_pow_pos d
    have : n * 2 ≤ n * (2 ^ d * 2) := Nat.mul_le_mul_left _ (by omega)
    omega
  · subst c
    rw [show (i - min i i).toNat = 0 by omega, Nat.pow_zero, Nat.mul_one, Nat.mul_one] at k
    rw [k]
  · exfalso
    rw [show (j - min i j).toNat = 0 by omega, Nat.pow_zero, Nat.mul_one] at k
    obtain ⟨d, hd⟩ : ∃ d, (i - min i j).toNat = d + 1 := ⟨(i - min i j).toNat - 1, by omega⟩
    rw [hd, Nat.pow_succ] at k
    have hp := Nat.two_pow_pos d
    have : m * 2 ≤ m * (2 ^ d * 2) := Nat.mul_le_mul_left _ (by omega)
    omega

/-! ## A part of a piece -/
def cA (x : Nat) (k : Nat) : Nat := if gtB x (fI k) then x else fI k
def cB (y : Nat) (k : Nat) : Nat := if ltB y (fI ((k : Int) + 1)) then y else fI ((k : Int) + 1)
theorem cA_pl {x k : Nat} (hx : PlD x) (hk : k ≤ 16) : PlD (cA x k) := by
  unfold cA; split
  · exact hx
  · exact fI_pl (by omega) (by omega)
theorem cB_pl {y k : Nat} (hy : PlD y) (hk : k ≤ 16) : PlD (cB y k) := by
  unfold cB; split
  · exact hy
  · exact fI_pl (by omega) (by omega)
theorem cA_yes {x k : Nat} (h : gtB x (fI k) = true) : cA x k = x := by rw [cA, if_pos h]
theorem cA_no {x k : Nat} (h : gtB x (fI k) = false) : cA x k = fI k := by rw [cA, if_neg (by rw [h]; exact Bool.false_ne_true)]
theorem cB_yes {y k : Nat} (h : ltB y (fI ((k : Int) + 1)) = true) : cB y k = y := by rw [cB, if_pos h]
theorem cB_no {y k : Nat} (h : ltB y (fI ((k : Int) + 1)) = false) : cB y k = fI ((k : Int) + 1) := by rw [cB, if_neg (by rw [h]; exact Bool.false_ne_true)]
theorem gtB_of {x y : Nat} {o : Ordering} (h : ord x y = some o) : gtB x y = (some o == some .gt) := by rw [gtB, h]
theorem ltB_of {x y : Nat} {o : Ordering} (h : ord x y = some o) : ltB x y = (some o == some .lt) := by rw [ltB, h]
theorem fmax_of {x y : Nat} {o : Ordering} (h : ord x y = some o) : fmaxB .f32 x y = (match o with | .lt => some y | .gt => some x | .eq => some (if (single.read x).neg then y else x)) := by
  have h' : FloatKind.f32.format.order x y = some o := h
  unfold fmaxB
  rw [h']
  cases o <;> rfl
theorem fmin_of {x y : Nat} {o : Ordering} (h : ord x y = some o) : fminB .f32 x y = (match o with | .lt => some x | .gt => some y | .eq => some (if (single.read x).neg then x else y)) := by
  have h' : FloatKind.f32.format.order x y = some o := h
  unfold fminB
  rw [h']
  cases o <;> rfl
theorem neg_false {x m : Nat} {i : Int} {a b : Nat} (e : single.read x = .number false m i) : (if (single.read x).neg then a else b) = b := by rw [e]; rfl
theorem neg_true {x m : Nat} {i : Int} {a b : Nat} (e : single.read x = .number true m i) : (if (single.read x).neg then a else b) = a := by rw [e]; rfl
theorem max_gen {x y : Nat} (hx : PlD x) {n : Nat} {j : Int} (e2 : single.read y = .number false n j) : ∃ a, fmaxB .f32 x y = some a ∧ single.read a = single.read (if gtB x y then x else y) := by
  obtain ⟨s, m, i, e, hs, hb⟩ := hx
  have hnx : NN x := by rw [NN, e]; rfl
  have hnf : NN y := by rw [NN, e2]; rfl
  obtain ⟨o, ho⟩ := ord_some hnx hnf
  rw [fmax_of ho, gtB_of ho]
  cases o with
  | lt => exact ⟨_, rfl, rfl⟩
  | gt => exact ⟨_, rfl, rfl⟩
  | eq =>
    refine ⟨_, rfl, ?_⟩
    cases s
    · rw [neg_false e]
      exact ord_eq_read e e2 ho
    · rw [neg_true e]; rfl
theorem max_cA {x k : Nat} (hx : PlD x) (hk : k ≤ 16) : ∃ a, fmaxB .f32 x (fI k) = some a ∧ single.read a = single.read (cA x k) := by
  obtain ⟨n, j, e2, _⟩ := fI_read (n := (k : Int)) (by omega) (by omega)
  exact max_gen hx e2
theorem min_gen {x y : Nat} (hx : PlD x) {n : Nat} {j : Int} (e2 : single.read y = .number false n j) (hn : n ≠ 0) : ∃ a, fminB .f32 x y = some a ∧ single.read a = single.read (if ltB x y then x else y) := by
  obtain ⟨s, m, i, e, hs, hb⟩ := hx
  have hnx : NN x := by rw [NN, e]; rfl
  have hnf : NN y := by rw [NN, e2]; rfl
  obtain ⟨o, ho⟩ := ord_some hnx hnf
  rw [fmin_of ho, ltB_of ho]
  cases o with
  | lt => exact ⟨_, rfl, rfl⟩
  | gt => exact ⟨_, rfl, rfl⟩
  | eq =>
    refine ⟨_, rfl, ?_⟩
    cases s
    · rw [neg_false e]; rfl
    · exfalso
      have hm := hs rfl
      subst hm
      rw [ord_def, e, e2] at ho
      have k1 : signed true 0 (i - min i j).toNat = signed false n (j - min i j).toNat := Int.compare_eq_eq.1 (Option.some.inj ho)
      rw [signed_true, signed_false, Nat.zero_mul] at k1
      have : n * 2 ^ (j - min i j).toNat = 0 := by omega
      rcases Nat.mul_eq_zero.1 this with h | h
      · exact hn h
      · exact absurd h (Nat.pos_iff_ne_zero.1 (Nat.two_pow_pos _))
theorem min_cB {y k : Nat} (hy : PlD y) (hk : k ≤ 16) : ∃ b, fminB .f32 y (fI ((k : Int) + 1)) = some b ∧ single.read b = single.read (cB y k) := by
  obtain ⟨n, j, e2, hn, _⟩ := fI_read (n := (k : Int) + 1) (by omega) (by omega)
  exact min_gen hy e2 (fun h => by have := hn.1 h; omega)
theorem sub_read {a a' b b' : Nat} (h1 : single.read a = single.read a') (h2 : single.read b = single.read b') : single.sub a b = single.sub a' b' := by rw [Format.sub, h1, h2]; rfl
def cD (x y k : Nat) : Nat := fSub (cB y k) (cA x k)
theorem cD_ok {x y k : Nat} (hx : PlD x) (hy : PlD y) (hk : k ≤ 16) : single.sub (cB y k) (cA x k) = some (cD x y k) ∧ Sm 12 (cD x y k) := sub_small (cB_pl hy hk).sm (cA_pl hx hk).sm (by decide) (by decide)
theorem cD_imp {x y k a b : Nat} (hx : PlD x) (hy : PlD y) (hk : k ≤ 16) (ha : single.read a = single.read (cA x k)) (hb : single.read b = single.read (cB y k)) : floatBits .sub .f32 b a = some (cD x y k) := by
  show single.sub b a = _
  rw [sub_read hb ha]; exact (cD_ok hx hy hk).1
theorem gt_zero {E : Int} {d : Nat} (h : Sm E d) (c : gtB d 0 = true) : ∃ m i, single.read d = .number false m i := by
  obtain ⟨s, m, i, e, _⟩ := h
  cases s
  · exact ⟨m, i, e⟩
  · exfalso
    rw [gtB, ord_def, e, read_zero, beq_iff_eq] at c
    have := Int.compare_eq_gt.1 (Option.some.inj c)
    rw [signed_true, signed_false] at this
    have h2 : (0 : Int) ≤ ((m * 2 ^ (i - min i (-149)).toNat : Nat) : Int) := Int.natCast_nonneg _
    omega
def cSum (x y : Nat) (ws : List Int) : Nat → Nat
  | 0 => 0
  | k + 1 => if gtB (cD x y k) 0 then fAdd (cSum x y ws k) (fMul (fI (ws.getD k 0)) (cD x y k)) else cSum x y ws k
def okW (ws : List Int) : Prop := ws.length ≤ 16 ∧ ∀ k, k < ws.length → 0 ≤ ws.getD k 0 ∧ ws.getD k 0 ≤ 1000
theorem ps_zero : Ps 0 := .inl ⟨0, -149, read_zero⟩
theorem cSum_step {x y : Nat} {ws : List Int} {k : Nat} (hx : PlD x) (hy : PlD y) (hw : okW ws) (hk : k < ws.length) (hs : Ps (cSum x y ws k)) (c : gtB (cD x y k) 0 = true) :
    single.mul (fI (ws.getD k 0)) (cD x y k) = some (fMul (fI (ws.getD k 0)) (cD x y k)) ∧ single.add (cSum x y ws k) (fMul (fI (ws.getD k 0)) (cD x y k)) = some (cSum x y ws (k + 1)) ∧ Ps (cSum x y ws (k + 1)) := by
  have hd := (cD_ok hx hy (k := k) (by have := hw.1; omega)).2
  obtain ⟨n, j, e2⟩ := gt_zero hd c
  have hb := hw.2 k hk
  obtain ⟨m, i, e1, _⟩ := fI_read hb.1 hb.2
  have h1 := mul_pos e1 e2
  have h2 := add_pos hs h1.2
  refine ⟨h1.1, ?_, ?_⟩
  · rw [cSum, if_pos c]; exact h2.1
  · rw [cSum, if_pos c]; exact h2.2
theorem cSum_skip {x y : Nat} {ws : List Int} {k : Nat} (c : gtB (cD x y k) 0 = false) : cSum x y ws k = cSum x y ws (k + 1) := by
  rw [cSum, c]; rfl
theorem cSum_ps {x y : Nat} {ws : List Int} (hx : PlD x) (hy : PlD y) (hw : okW ws) : ∀ k, k ≤ ws.length → Ps (cSum x y ws k)
  | 0, _ => ps_zero
  | k + 1, hk => by
    have ih := cSum_ps hx hy hw k (by omega)
    by_cases c : gtB (cD x y k) 0 = true
    · exact (cSum_step hx hy hw (by omega) ih c).2.2
    · rw [← cSum_skip (by simpa using c)]; exact ih

/-! ## In double precision -/
theorem d_read (x : Nat) : double.read x = (if x % 9223372036854775808 < 4503599627370496 then .number (x / 9223372036854775808 % 2 == 1) (x % 9223372036854775808) (-1074)
    else if x % 9223372036854775808 < 9218868437227405312 then .number (x / 9223372036854775808 % 2 == 1) (4503599627370496 + x % 9223372036854775808 % 4503599627370496) (-1074 + (x % 9223372036854775808 / 4503599627370496 - 1 : Nat))
    else if x % 9223372036854775808 = 9218868437227405312 then .infinity (x / 9223372036854775808 % 2 == 1) else .nan (x / 9223372036854775808 % 2 == 1) (x % 9223372036854775808 - 9218868437227405312)) := rfl
theorem d_parts (neg : Bool) (r : Nat) (hr : r < 9223372036854775808) : double.word neg r % 9223372036854775808 = r ∧ (double.word neg r / 9223372036854775808 % 2 == 1) = neg := by
  have e : double.word neg r = if neg then 9223372036854775808 + r else r := rfl
  rw [e]
  cases neg
  · simp only [Bool.false_eq_true, if_false]
    exact ⟨by omega, by rw [show r / 9223372036854775808 % 2 = 0 by omega]; rfl⟩
  · simp only [if_true]
    exact ⟨by omega, by rw [show (9223372036854775808 + r) / 9223372036854775808 % 2 = 1 by omega]; rfl⟩
theorem d_inf (neg : Bool) : double.read (double.word neg 9218868437227405312) = .infinity neg := by
  have hw := d_parts neg 9218868437227405312 (by omega)
  rw [d_read, hw.1, hw.2, if_neg (by omega), if_neg (by omega), if_pos rfl]
theorem d_word (neg : Bool) (r : Nat) (hr : r < 9218868437227405312) : ∃ m i, double.read (double.word neg r) = .number neg m i := by
  have hw := d_parts neg r (by omega)
  rw [d_read, hw.1, hw.2]
  by_cases c : r < 4503599627370496
  · rw [if_pos c]; exact ⟨_, _, rfl⟩
  · rw [if_neg c, if_pos hr]; exact ⟨_, _, rfl⟩
/-- What is wide of a number. -/
def wid (x : Nat) : Nat := (floatToFloatBits .f32 x .f64).getD 0
theorem wid_ok {x : Nat} (h : NN x) : floatToFloatBits .f32 x .f64 = some (wid x) ∧ (double.read (wid x)).isNaN = false := by
  have key : ∃ r, floatToFloatBits .f32 x .f64 = some r ∧ (double.read r).isNaN = false := by
    unfold floatToFloatBits
    rw [if_neg (by decide)]
    rw [NN] at h
    show ∃ r, (match single.read x with
      | .nan _ _ => none
      | .infinity s => some (double.write (.infinity s))
      | .number s m e => if (double.read (double.write (.number s m e))).isInfinity then none else some (double.write (.number s m e))) = some r ∧ _
    cases e : single.read x with
    | nan s n => rw [e] at h; cases h
    | infinity s =>
      refine ⟨_, rfl, ?_⟩
      show (double.read (double.word s 9218868437227405312)).isNaN = false
      rw [d_inf]; rfl
    | number s m i =>
      have hb := s_num e
      obtain ⟨r, e2, hr, hl⟩ := near_rung double s m i
      have hl : r ≤ 1149 * 4503599627370496 + 2 * 4503599627370496 := hl 1149 (by
        by_cases h0 : m = 0
        · exact .inl h0
        · right
          have : m.log2 ≤ 23 := log2_le h0 (by omega)
          show i + (m.log2 : Int) - (52 : Nat) - (-1074) ≤ _
          omega)
      obtain ⟨a, b, e3⟩ := d_word s r (by omega)
      have e4 : double.read (double.write (.number s m i)) = .number s a b := by
        show double.read (double.nearest s m i) = _
        rw [e2]; exact e3
      refine ⟨double.write (.number s m i), ?_, ?_⟩
      · show (if (double.read (double.write (.number s m i))).isInfinity then none else some (double.write (.number s m i))) = _
        rw [e4]; rfl
      · rw [e4]; rfl
  obtain ⟨r, e, hr⟩ := key
  have : wid x = r := by rw [wid, e]; rfl
  rw [this]
  exact ⟨e, hr⟩
theorem d_order_self {x : Nat} (h : (double.read x).isNaN = false) : double.order x x = some .eq := by
  rw [Format.order]
  cases e : double.read x with
  | nan s n => rw [e] at h; cases h
  | infinity s => cases s <;> rfl
  | number s m i => exact congrArg some (Int.compare_eq_eq.2 rfl)
/-- One over a zero. -/
theorem d_one_zero {x : Nat} (h : double.order x 0 = some .eq) : ∃ r, floatBits .quo .f64 4607182418800017408 x = some r := by
  rw [Format.order, show double.read 0 = .number false 0 (-1074) by rw [d_read]; rfl] at h
  show ∃ r, double.div 4607182418800017408 x = some r
  have h1 : double.read 4607182418800017408 = .number false 4503599627370496 (-52) := by rw [d_read]; rfl
  rw [Format.div, h1]
  cases e : double.read x with
  | nan s n => rw [e] at h; cases h
  | infinity s => exact ⟨_, rfl⟩
  | number s m i =>
    rw [Datum.quotient]
    by_cases hm : m = 0
    · rw [if_pos hm, if_neg (by decide)]; exact ⟨_, rfl⟩
    · rw [if_neg hm]; exact ⟨_, rfl⟩
end Go.Am
