/-
  The abstract heap: who cuts and who chooses: a cut lies in the cake. General: no program is named.
-/
import Derived.Test.YtejlkmepnamodaaAmFlt6
namespace Go.Am
set_option linter.unusedSimpArgs false
set_option linter.unusedVariables false
open Ieee

/-! ## Numbers not below zero, and not too great -/
def NF (E : Int) (x : Nat) : Prop := ∃ m i, single.read x = .number false m i ∧ (m = 0 ∨ i + (m.log2 : Int) ≤ E)
theorem NF.sm {E : Int} {x : Nat} (h : NF E x) : Sm E x := by obtain ⟨m, i, e, b⟩ := h; exact ⟨false, m, i, e, b⟩
theorem NF.mono {E E' : Int} {x : Nat} (h : NF E x) (he : E ≤ E') : NF E' x := by obtain ⟨m, i, e, b⟩ := h; exact ⟨m, i, e, by omega⟩
theorem NF.fin {E : Int} {x : Nat} (h : NF E x) : finB x = true := by obtain ⟨m, i, e, b⟩ := h; rw [finB, e]
def NB (x : Nat) : Prop := ∃ m i, single.read x = .number false m i
theorem NF.nb {E : Int} {x : Nat} (h : NF E x) : NB x := by obtain ⟨m, i, e, b⟩ := h; exact ⟨m, i, e⟩
theorem NB.ge0 {x : Nat} (h : NB x) : geB x 0 = true := by
  obtain ⟨m, i, e⟩ := h
  rw [geB, ord_def, e, read_zero]
  show (some (compare (signed false m (i - min i (-149)).toNat) (signed false 0 (-149 - min i (-149)).toNat)) == some Ordering.gt || some (compare (signed false m (i - min i (-149)).toNat) (signed false 0 (-149 - min i (-149)).toNat)) == some Ordering.eq) = true
  rw [signed_false, signed_false, Nat.zero_mul]
  have h0 : ((0 : Nat) : Int) ≤ ((m * 2 ^ (i - min i (-149)).toNat : Nat) : Int) := Int.ofNat_le.2 (Nat.zero_le _)
  rcases Int.lt_or_eq_of_le h0 with c | c
  · rw [Int.compare_eq_gt.2 c]; rfl
  · rw [Int.compare_eq_eq.2 c.symm]; rfl
theorem NB.gt0 {x : Nat} (h : NB x) : gtB 0 x = false := by
  obtain ⟨m, i, e⟩ := h
  rw [gtB, ord_def, e, read_zero]
  show (some (compare (signed false 0 (-149 - min (-149) i).toNat) (signed false m (i - min (-149) i).toNat)) == some Ordering.gt) = false
  rw [signed_false, signed_false, Nat.zero_mul]
  have h0 : ((0 : Nat) : Int) ≤ ((m * 2 ^ (i - min (-149) i).toNat : Nat) : Int) := Int.ofNat_le.2 (Nat.zero_le _)
  rcases Int.lt_or_eq_of_le h0 with c | c
  · rw [Int.compare_eq_lt.2 c]; rfl
  · rw [Int.compare_eq_eq.2 c]; rfl
theorem le_gt {x y : Nat} (h : leB x y = true) : gtB x y = false := by
  rw [leB] at h
  rw [gtB]
  cases e : ord x y with
  | none => rfl
  | some o => rw [e] at h; cases o <;> first | rfl | cases h
theorem sum_nf {m n : Nat} {i j E : Int} (h1 : m = 0 ∨ i + (m.log2 : Int) ≤ E) (h2 : n = 0 ∨ j + (n.log2 : Int) ≤ E) : ∃ g b, (Datum.number false m i).sum (.number false n j) = some (.number false g b) ∧ (g = 0 ∨ b + (g.log2 : Int) ≤ E + 1) := by
  obtain ⟨u, g, b, e, hb⟩ := sum_small (s := false) (t := false) h1 h2
  have hs : u = false := by
    have e' : some (Datum.number (if signed false m (i - min i j).toNat + signed false n (j - min i j).toNat = 0 then false && false else decide (signed false m (i - min i j).toNat + signed false n (j - min i j).toNat < 0)) (signed false m (i - min i j).toNat + signed false n (j - min i j).toNat).natAbs (min i j)) = some (.number u g b) := e
    injection e' with e'
    injection e' with e1 e2 e3
    rw [← e1]
    split
    · rfl
    · rw [decide_eq_false]
      have h1 : 0 ≤ signed false m (i - min i j).toNat := Int.natCast_nonneg _
      have h2 : 0 ≤ signed false n (j - min i j).toNat := Int.natCast_nonneg _
      omega
  subst hs
  exact ⟨g, b, e, hb⟩
theorem add_nf {E : Int} {x y : Nat} (hx : NF E x) (hy : NF E y) (h1 : -126 ≤ E) (h2 : E ≤ 110) : NF (E + 2) (fAdd x y) := by
  obtain ⟨m, i, e1, b1⟩ := hx
  obtain ⟨n, j, e2, b2⟩ := hy
  obtain ⟨g, b, e3, b3⟩ := sum_nf b1 b2
  obtain ⟨a, c, e4, b4⟩ := write_small (neg := false) b3 (by omega) (by omega)
  have e : single.add x y = some (single.nearest false g b) := by rw [Format.add, e1, e2, e3]; rfl
  refine ⟨a, c, ?_, by omega⟩
  rw [fAdd, e]; exact e4
theorem sub_nf {E : Int} {x y : Nat} (hx : NF E x) (hy : NF E y) (hle : leB y x = true) (h1 : -126 ≤ E) (h2 : E ≤ 110) : NF (E + 2) (fSub x y) := by
  obtain ⟨m, i, e1, b1⟩ := hx
  obtain ⟨n, j, e2, b2⟩ := hy
  have hv := vle_of_leB e2 e1 hle
  obtain ⟨u, g, b, e3, b3⟩ := sum_small (s := false) (t := true) b1 b2
  have hs : u = false := by
    have e' : some (Datum.number (if signed false m (i - min i j).toNat + signed true n (j - min i j).toNat = 0 then false && true else decide (signed false m (i - min i j).toNat + signed true n (j - min i j).toNat < 0)) (signed false m (i - min i j).toNat + signed true n (j - min i j).toNat).natAbs (min i j)) = some (.number u g b) := e3
    injection e' with e'
    injection e' with e1 e2 e3
    rw [← e1]
    split
    · rfl
    · rw [decide_eq_false]
      rw [signed_false, signed_true]
      unfold vle at hv
      rw [Int.min_comm j i] at hv
      have := Int.ofNat_le.2 hv
      omega
  subst hs
  obtain ⟨a, c, e4, b4⟩ := write_small (neg := false) b3 (by omega) (by omega)
  have e : single.sub x y = some (single.nearest false g b) := by
    rw [Format.sub, e1, e2]
    show ((Datum.number false m i).sum (.number true n j)).map _ = _
    rw [e3]; rfl
  refine ⟨a, c, ?_, by omega⟩
  rw [fSub, e]; exact e4
theorem mul_nf {x y : Nat} {E F : Int} (hx : NF E x) (hy : NF F y) (h1 : -126 ≤ E + F) (h2 : E + F ≤ 110) : NF (E + F + 2) (fMul x y) := by
  obtain ⟨m, i, e1, b1⟩ := hx
  obtain ⟨n, j, e2, b2⟩ := hy
  have e : single.mul x y = some (single.nearest false (m * n) (i + j)) := by rw [Format.mul, e1, e2]; rfl
  obtain ⟨a, c, e4, b4⟩ := write_small (neg := false) (mag := m * n) (place := i + j) (E := E + F + 1) (by
    by_cases h0 : m * n = 0
    · exact .inl h0
    · right
      have hm : m ≠ 0 := fun h => h0 (by rw [h, Nat.zero_mul])
      have hn : n ≠ 0 := fun h => h0 (by rw [h, Nat.mul_zero])
      have : (m * n).log2 ≤ m.log2 + n.log2 + 1 := by
        refine log2_le h0 ?_
        rw [show m.log2 + n.log2 + 1 + 1 = (m.log2 + 1) + (n.log2 + 1) by omega, Nat.pow_add]
        exact Nat.mul_lt_mul'' lt_log2 lt_log2
      omega) (by omega) (by omega)
  refine ⟨a, c, ?_, by omega⟩
  rw [fMul, e]; exact e4
theorem fI_nf {n : Int} (h0 : 0 ≤ n) (h1 : n ≤ 1000) : NF 10 (fI n) := by
  obtain ⟨m, i, e, _, h, _⟩ := fI_read h0 h1
  exact ⟨m, i, e, h⟩
theorem cSum_nf {x y : Nat} {ws : List Int} (hx : PlD x) (hy : PlD y) (hw : okW ws) : ∀ k : Nat, k ≤ ws.length → NF (24 + 2 * k) (cSum x y ws k)
  | 0, _ => ⟨0, -149, read_zero, .inl rfl⟩
  | k + 1, hk => by
    have ih := cSum_nf hx hy hw k (by omega)
    have hl := hw.1
    rw [cSum]
    split
    · rename_i c
      have hd := (cD_ok hx hy (k := k) (by omega)).2
      have hd2 : NF 12 (cD x y k) := by
        obtain ⟨n, j, e2⟩ := gt_zero hd c
        obtain ⟨s, m, i, e3, b3⟩ := hd
        rw [e2] at e3
        injection e3 with h1 h2 h3
        subst h1 h2 h3
        exact ⟨n, j, e2, b3⟩
      have hb := hw.2 k (by omega)
      have h1 := mul_nf (fI_nf hb.1 hb.2) hd2 (by decide) (by decide)
      exact (add_nf ih (h1.mono (by omega)) (by omega) (by omega)).mono (by omega)
    · exact ih.mono (by omega)
def hf (x : Nat) : Nat := fDiv x 1073741824
theorem half_ok {E : Int} {x : Nat} (h : NF E x) (h1 : 0 ≤ E) (h2 : E ≤ 100) : floatBits .quo .f32 x 1073741824 = some (hf x) ∧ floatBits .mul .f32 1056964608 x = some (hf x) ∧ NF (E + 1) (hf x) := by
  obtain ⟨m, i, e, b⟩ := h
  have hh := half_eq e
  have hd : hf x = single.nearest false m (i - 1) := by rw [hf, fDiv, hh.1]; rfl
  rw [hd]
  obtain ⟨a, c, e4, b4⟩ := write_small (neg := false) (mag := m) (place := i - 1) (E := E) (by omega) (by omega) (by omega)
  exact ⟨hh.1, hh.2, a, c, e4, b4⟩

/-! ## Whole numbers -/
theorem t_one : ((List.range 16).all fun k => fSub (fI ((k : Int) + 1)) (fI (k : Int)) == fI 1) = true := by kernel_rfl
theorem t_mul : ((List.range 1001).all fun n => fMul (fI (n : Int)) (fI 1) == fI (n : Int)) = true := by kernel_rfl
def chkK (k : Nat) : Bool := match single.read (fI (k : Int)) with
  | .number false m i => decide (i ≤ 0) && (m == k * 2 ^ (-i).toNat)
  | _ => false
theorem t_val : ((List.range 17).all chkK) = true := by kernel_rfl
theorem fI_val {k : Nat} (h : k ≤ 16) : ∃ m i, single.read (fI (k : Int)) = .number false m i ∧ i ≤ 0 ∧ m = k * 2 ^ (-i).toNat := by
  have hh := List.all_eq_true.1 t_val k (List.mem_range.2 (by omega))
  unfold chkK at hh
  split at hh
  · rename_i m i e
    rw [Bool.and_eq_true, decide_eq_true_eq, beq_iff_eq] at hh
    exact ⟨m, i, e, hh.1, hh.2⟩
  · cases hh
theorem read_one : single.read (fI 1) = .number false 8388608 (-23) := by
  have : fI 1 = 1065353216 := by kernel_rfl
  rw [this, s_read]; rfl
theorem cA_zero {k : Nat} (h : k ≤ 16) : cA 0 k = fI (k : Int) := cA_no (NB.gt0 (fI_nf (n := (k : Int)) (by omega) (by omega)).nb)
theorem mP_zero {ws : List Int} {k : Nat} (hw : okW ws) (hk : k < ws.length) : mP 0 ws k = fI (ws.getD k 0) := by
  have hl := hw.1
  have hb := hw.2 k hk
  rw [mP, cA_zero (by omega)]
  have h1 := List.all_eq_true.1 t_one k (List.mem_range.2 (by omega))
  rw [beq_iff_eq] at h1
  have h2 := List.all_eq_true.1 t_mul (ws.getD k 0).toNat (List.mem_range.2 (by omega))
  rw [beq_iff_eq, show (((ws.getD k 0).toNat : Nat) : Int) = ws.getD k 0 by omega] at h2
  rw [h1, h2]
theorem gt_next {k : Nat} (h : k < 16) : gtB (fI ((k : Int) + 1)) 0 = true := by
  rw [fI_pos (by omega) (by omega), decide_eq_true (by omega)]
theorem mLeft_nf {w : Nat} {ws : List Int} {E : Int} (hw : okW ws) (h0 : NF E w) (hE : 10 ≤ E ∧ E ≤ 60) : ∀ k : Nat, k ≤ ws.length → (∀ j, j < k → mHit 0 w ws j = false) → NF (E + 2 * k) (mLeft 0 w ws k)
  | 0, _, _ => h0.mono (by omega)
  | k + 1, hk, hj => by
    have hl := hw.1
    have hb := hw.2 k (by omega)
    have ih := mLeft_nf hw h0 hE k (by omega) fun j hjk => hj j (by omega)
    rw [mLeft, if_pos (gt_next (by omega)), mP_zero hw (by omega)]
    have hn := fI_nf hb.1 hb.2
    have hle : leB (fI (ws.getD k 0)) (mLeft 0 w ws k) = true := by
      have hh := hj k (by omega)
      rw [mHit, gt_next (by omega), mP_zero hw (by omega), Bool.true_and, Bool.and_eq_false_iff] at hh
      rcases hh with hh | hh
      · obtain ⟨o, ho⟩ := ord_some hn.sm.nn ih.sm.nn
        rw [geB, ho] at hh
        rw [leB, ho]
        cases o <;> first | rfl | cases hh
      · have : ws.getD k 0 = 0 := by have := of_decide_eq_false hh; omega
        rw [this]
        obtain ⟨m, i, e, _⟩ := ih
        obtain ⟨a, c, e2, h2, _⟩ := fI_read (n := 0) (by decide) (by decide)
        refine leB_of_vle e2 e ?_
        rw [vle, h2.2 rfl, Nat.zero_mul]; exact Nat.zero_le _
    exact (sub_nf ih (hn.mono (by omega)) hle (by omega) (by omega)).mono (by omega)
theorem div_le {l n : Nat} (hl : NB l) (hn : NB n) (hpos : ∃ m i, single.read n = .number false m i ∧ m ≠ 0) (hle : leB l n = true) : NB (fDiv l n) ∧ leB (fDiv l n) (fI 1) = true := by
  obtain ⟨ml, il, e1⟩ := hl
  obtain ⟨mn, jn, e2, hmn⟩ := hpos
  have hv := vle_of_leB e1 e2 hle
  have hb1 := s_num e1
  have hb2 := s_num e2
  generalize hmore : 25 + mn.log2 - ml.log2 = more
  have hq : single.div l n = some (single.nearest false (2 * ((ml <<< more) / mn) + ((ml <<< more) % mn != 0).toNat) (il - jn - (more : Int) - 1)) := by
    rw [Format.div, e1, e2]
    show (Datum.quotient 25 (.number false ml il) (.number false mn jn)).map single.write = _
    rw [Datum.quotient, if_neg hmn, hmore]; rfl
  have hvl : vle (2 * ((ml <<< more) / mn) + ((ml <<< more) % mn != 0).toNat) (il - jn - (more : Int) - 1) 8388608 (-23) := by
    by_cases h0 : ml = 0
    · subst h0
      rw [Nat.zero_shiftLeft, Nat.zero_div, Nat.zero_mod, vle]
      simp
    have hlog := (cmp_small (E := jn + (mn.log2 : Int)) (.inr (Int.le_refl _)) hv).resolve_left h0
    obtain ⟨e, he⟩ : ∃ e : Nat, (e : Int) = (more : Int) + jn - il := ⟨((more : Int) + jn - il).toNat, by omega⟩
    have he25 : 25 ≤ e := by omega
    have hD : ml <<< more ≤ mn * 2 ^ e := by
      rw [Nat.shiftLeft_eq]
      unfold vle at hv
      by_cases c : il ≤ jn
      · rw [show (il - min il jn).toNat = 0 by omega, Nat.pow_zero, Nat.mul_one] at hv
        have := Nat.mul_le_mul_right (2 ^ more) hv
        rw [Nat.mul_assoc, ← Nat.pow_add, show (jn - min il jn).toNat + more = e by omega] at this
        exact this
      · rw [show (jn - min il jn).toNat = 0 by omega, Nat.pow_zero, Nat.mul_one] at hv
        have := Nat.mul_le_mul_right (2 ^ e) hv
        rw [Nat.mul_assoc, ← Nat.pow_add, show (il - min il jn).toNat + e = more by omega] at this
        exact this
    have hQ : 2 * ((ml <<< more) / mn) + ((ml <<< more) % mn != 0).toNat ≤ 2 * 2 ^ e := by
      generalize ml <<< more = D at hD
      have hpos : 0 < mn := by omega
      have h1 : D / mn ≤ 2 ^ e := Nat.div_le_of_le_mul hD
      have h2 : (D % mn != 0).toNat ≤ 1 := Bool.toNat_le _
      by_cases c : D / mn = 2 ^ e
      · have h3 := Nat.div_add_mod D mn
        rw [c] at h3
        have h4 : D % mn = 0 := by omega
        rw [h4, c]; simp
      · omega
    unfold vle
    rw [show (il - jn - (more : Int) - 1 - min (il - jn - (more : Int) - 1) (-23)).toNat = 0 by omega, Nat.pow_zero, Nat.mul_one]
    rw [show (-23 - min (il - jn - (more : Int) - 1) (-23)).toNat = e - 22 by omega, show 8388608 = 2 ^ 23 from by decide, ← Nat.pow_add, show 23 + (e - 22) = e + 1 by omega, Nat.pow_succ, Nat.mul_comm (2 ^ e)]
    exact hQ
  have hr := near_le read_one hvl
  rw [show fDiv l n = single.nearest false (2 * ((ml <<< more) / mn) + ((ml <<< more) % mn != 0).toNat) (il - jn - (more : Int) - 1) by rw [fDiv, hq]; rfl]
  exact hr
theorem one_le {r m : Nat} {i : Int} (e : single.read r = .number false m i) (h : leB r (fI 1) = true) : i ≤ 0 ∧ m ≤ 2 ^ (-i).toNat := by
  have hv := vle_of_leB e read_one h
  have hb := s_num e
  unfold vle at hv
  by_cases c : i ≤ -23
  · refine ⟨by omega, ?_⟩
    rw [show (i - min i (-23)).toNat = 0 by omega, Nat.pow_zero, Nat.mul_one, show 8388608 = 2 ^ 23 from by decide, ← Nat.pow_add, show 23 + (-23 - min i (-23)).toNat = (-i).toNat by omega] at hv
    exact hv
  · rw [show (-23 - min i (-23)).toNat = 0 by omega, Nat.pow_zero, Nat.mul_one, show (i - min i (-23)).toNat = (i + 23).toNat by omega] at hv
    by_cases c2 : i ≤ 0
    · refine ⟨c2, ?_⟩
      rw [show 8388608 = 2 ^ ((-i).toNat + (i + 23).toNat) by rw [show (-i).toNat + (i + 23).toNat = 23 by omega], Nat.pow_add] at hv
      exact Nat.le_of_mul_le_mul_right hv (Nat.two_pow_pos _)
    · exfalso
      have h24 : 16777216 ≤ 2 ^ (i + 23).toNat := by
        rw [show 16777216 = 2 ^ 24 from by decide]; exact Nat.pow_le_pow_right (by decide) (by omega)
      have hm : m ≠ 0 := by rintro rfl; omega
      have := Nat.mul_le_mul (show 1 ≤ m by omega) h24
      omega
theorem add_le {k r : Nat} {q : Int} (hk : (k : Int) + 1 ≤ q) (hq : q ≤ 16) (hr : NB r) (h1 : leB r (fI 1) = true) : NB (fAdd (fI (k : Int)) r) ∧ leB (fAdd (fI (k : Int)) r) (fI q) = true := by
  obtain ⟨mk, ik, e1, hik, hmk⟩ := fI_val (k := k) (by omega)
  obtain ⟨m, i, e2⟩ := hr
  have ho := one_le e2 h1
  obtain ⟨M, J, e3, hJ, hM⟩ := fI_val (k := q.toNat) (by omega)
  rw [show ((q.toNat : Nat) : Int) = q by omega] at e3
  have hs : (Datum.number false mk ik).sum (.number false m i) = some (.number false (mk * 2 ^ (ik - min ik i).toNat + m * 2 ^ (i - min ik i).toNat) (min ik i)) := by
    show some (Datum.number (if signed false mk (ik - min ik i).toNat + signed false m (i - min ik i).toNat = 0 then false && false else decide (signed false mk (ik - min ik i).toNat + signed false m (i - min ik i).toNat < 0)) (signed false mk (ik - min ik i).toNat + signed false m (i - min ik i).toNat).natAbs (min ik i)) = _
    rw [signed_false, signed_false, ← Int.natCast_add, Int.natAbs_natCast]
    have : (if ((mk * 2 ^ (ik - min ik i).toNat + m * 2 ^ (i - min ik i).toNat : Nat) : Int) = 0 then false && false else decide (((mk * 2 ^ (ik - min ik i).toNat + m * 2 ^ (i - min ik i).toNat : Nat) : Int) < 0)) = false := by
      split
      · rfl
      · rw [decide_eq_false]
        have := Int.natCast_nonneg (mk * 2 ^ (ik - min ik i).toNat + m * 2 ^ (i - min ik i).toNat)
        omega
    rw [this]
  have e : single.add (fI (k : Int)) r = some (single.nearest false (mk * 2 ^ (ik - min ik i).toNat + m * 2 ^ (i - min ik i).toNat) (min ik i)) := by rw [Format.add, e1, e2, hs]; rfl
  have hv : vle (mk * 2 ^ (ik - min ik i).toNat + m * 2 ^ (i - min ik i).toNat) (min ik i) M J := by
    have a1 : mk * 2 ^ (ik - min ik i).toNat = k * 2 ^ (-min ik i).toNat := by
      rw [hmk, Nat.mul_assoc, ← Nat.pow_add, show (-ik).toNat + (ik - min ik i).toNat = (-min ik i).toNat by omega]
    have a2 : m * 2 ^ (i - min ik i).toNat ≤ 2 ^ (-min ik i).toNat := by
      have := Nat.mul_le_mul_right (2 ^ (i - min ik i).toNat) ho.2
      rw [← Nat.pow_add, show (-i).toNat + (i - min ik i).toNat = (-min ik i).toNat by omega] at this
      exact this
    generalize hb : min ik i = b at *
    have a3 : mk * 2 ^ (ik - b).toNat + m * 2 ^ (i - b).toNat ≤ q.toNat * 2 ^ (-b).toNat := by
      have h3 : (k + 1) * 2 ^ (-b).toNat ≤ q.toNat * 2 ^ (-b).toNat := Nat.mul_le_mul_right _ (by omega)
      rw [Nat.add_mul, Nat.one_mul] at h3
      omega
    unfold vle
    have a4 := Nat.mul_le_mul_right (2 ^ (b - min b J).toNat) a3
    rw [Nat.mul_assoc q.toNat, ← Nat.pow_add, show (-b).toNat + (b - min b J).toNat = (-min b J).toNat by omega] at a4
    rw [hM, Nat.mul_assoc, ← Nat.pow_add, show (-J).toNat + (J - min b J).toNat = (-min b J).toNat by omega]
    exact a4
  have hr := near_le e3 hv
  rw [show fAdd (fI (k : Int)) r = single.nearest false (mk * 2 ^ (ik - min ik i).toNat + m * 2 ^ (i - min ik i).toNat) (min ik i) by rw [fAdd, e]; rfl]
  exact hr
theorem ge_le {x y : Nat} (hx : NB x) (hy : NB y) (h : geB x y = true) : leB y x = true := by
  obtain ⟨m, i, e1⟩ := hx
  obtain ⟨n, j, e2⟩ := hy
  rw [geB, ord_def, e1, e2] at h
  have h : (some (compare (signed false m (i - min i j).toNat) (signed false n (j - min i j).toNat)) == some Ordering.gt || some (compare (signed false m (i - min i j).toNat) (signed false n (j - min i j).toNat)) == some Ordering.eq) = true := h
  simp only [Bool.or_eq_true, beq_iff_eq, Option.some.injEq] at h
  have := compare_ge h
  rw [signed_false, signed_false] at this
  refine leB_of_vle e2 e1 ?_
  unfold vle
  rw [Int.min_comm j i]
  exact Int.ofNat_le.1 this
theorem le_self {x : Nat} (h : NB x) : leB x x = true := by
  obtain ⟨m, i, e⟩ := h
  exact leB_of_vle e e (Nat.le_refl _)
/-- A cut lies in the cake. -/
theorem cut_in {q : Int} {w : Nat} {ws : List Int} {E : Int} (hq : 1 ≤ q ∧ q ≤ 16) (hl : (ws.length : Int) = q) (hw : okW ws) (h0 : NF E w) (hE : 10 ≤ E ∧ E ≤ 60) : NB (mAll q 0 w ws) ∧ leB (mAll q 0 w ws) (fI q) = true := by
  have hfq := (fI_nf (n := q) (by omega) (by omega)).nb
  rw [mAll]
  split
  · rename_i hc
    obtain ⟨k, hk, hh, he⟩ := (idxTo_lt (g := mHitI 0 w ws) (ys := cntL q.toNat) q.toNat).1 hc
    have he' : mFir 0 w ws q.toNat = (k : Int) := he
    have hbefore : ∀ j, j < k → mHit 0 w ws j = false := fun j hj => by
      have := idxTo_first (f := mHitI 0 w ws) _ he hj
      rw [cntL_get (by omega)] at this
      exact this
    rw [he']
    rw [cntL_get hk] at hh
    have hh' : mHit 0 w ws k = true := hh
    have hkl : k < ws.length := by omega
    have hb := hw.2 k hkl
    simp only [mHit, Bool.and_eq_true, decide_eq_true_eq] at hh'
    rw [mP_zero hw hkl] at hh'
    have hL := (mLeft_nf hw h0 hE k (by omega) hbefore).nb
    have hN := (fI_nf hb.1 hb.2).nb
    obtain ⟨a, c, e2, h2, _⟩ := fI_read hb.1 hb.2
    have hd := div_le hL hN ⟨a, c, e2, fun h => by have := h2.1 h; omega⟩ (ge_le hN hL hh'.2.1)
    show NB (mRes 0 w ws k) ∧ leB (mRes 0 w ws k) (fI q) = true
    rw [mRes, cA_zero (by omega)]
    exact add_le (by omega) hq.2 hd.1 hd.2
  · exact ⟨hfq, le_self hfq⟩
end Go.Am
