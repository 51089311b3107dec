/-
  The abstract heap: more plain laws of ways and trees. General: no program is named.
-/
import Derived.Test.YtnfefjofojmokaaAmLib8
namespace Go.Am
set_option linter.unusedSimpArgs false
set_option linter.unusedVariables false

/-! ## Ways -/
def wayC (cs : List Int) (m : Int) (i k : Nat) : Int := cs.getD ((i : Int) * m + (k : Int)).toNat 0
def WaysP (p : Int) (cs : List Int) : Prop := (1 ≤ p ∧ p ≤ 6) ∧ (cs.length : Int) = (p + 1) * (p + 1) ∧
  ∀ i k : Nat, (i : Int) < p + 1 → (k : Int) < p + 1 → (0 ≤ wayC cs (p + 1) i k ∧ wayC cs (p + 1) i k ≤ 1000) ∧ wayC cs (p + 1) i k = wayC cs (p + 1) k i ∧ (i = k → wayC cs (p + 1) i k = 0)
noncomputable def waysV (p : Int) (cs : List Int) : Bool := @decide (WaysP p cs) (Classical.propDecidable _)
theorem waysV_yes {p : Int} {cs : List Int} (h : WaysP p cs) : waysV p cs = true := @decide_eq_true _ (Classical.propDecidable _) h
theorem waysV_no {p : Int} {cs : List Int} (h : ¬ WaysP p cs) : waysV p cs = false := @decide_eq_false _ (Classical.propDecidable _) h
theorem waysV_get {p : Int} {cs : List Int} (h : waysV p cs = true) : WaysP p cs := @of_decide_eq_true _ (Classical.propDecidable _) h
theorem way_all {p : Int} {cs : List Int} (hp : 1 ≤ p ∧ p ≤ 6) (hl : (cs.length : Int) = (p + 1) * (p + 1)) (ha : cs.all (fun n => decide (0 ≤ n ∧ n ≤ 1000)) = true) {i k : Nat} (hi : (i : Int) < p + 1) (hk : (k : Int) < p + 1) : 0 ≤ wayC cs (p + 1) i k ∧ wayC cs (p + 1) i k ≤ 1000 := by
  have hcb := cell_bnd (i := (i : Int)) (p := p + 1) (q := p + 1) (n := (cs.length : Int)) (k := k) ⟨by omega, hi⟩ hk hl
  exact of_decide_eq_true (all_get (f := fun n => decide (0 ≤ n ∧ n ≤ 1000)) ha (k := ((i : Int) * (p + 1) + (k : Int)).toNat) (by omega))
/-- The first s places have ways as they should. -/
def WayS (m : Int) (cs : List Int) (s : Nat) : Prop := ∀ i : Nat, i < s → wayC cs m i i = 0 ∧ ∀ k : Nat, k < i → wayC cs m i k = wayC cs m k i
theorem ways_yes {p : Int} {cs : List Int} (hp : 1 ≤ p ∧ p ≤ 6) (hl : (cs.length : Int) = (p + 1) * (p + 1)) (ha : cs.all (fun n => decide (0 ≤ n ∧ n ≤ 1000)) = true) {s : Nat} (hs : ¬ (s : Int) < p + 1) (h : WayS (p + 1) cs s) : waysV p cs = true := by
  refine waysV_yes ⟨hp, hl, fun i k hi hk => ⟨way_all hp hl ha hi hk, ?_, fun e => ?_⟩⟩
  · rcases Nat.lt_trichotomy k i with e | e | e
    · exact (h i (by omega)).2 k e
    · subst e; rfl
    · exact ((h k (by omega)).2 i e).symm
  · subst e; exact (h i (by omega)).1
theorem ways_noM {p : Int} {cs : List Int} (c : (decide ((p + 1) * (p + 1) ≤ cs.length ∧ (cs.length : Int) ≤ (p + 1) * (p + 1)) && cs.all fun n => decide (0 ≤ n ∧ n ≤ 1000)) = false) : waysV p cs = false := by
  refine waysV_no fun ⟨hp, hl, h⟩ => ?_
  rcases Bool.and_eq_false_iff.1 c with c | c
  · have := of_decide_eq_false c; omega
  · have : cs.all (fun n => decide (0 ≤ n ∧ n ≤ 1000)) = true := by
      refine List.all_eq_true.2 fun x hx => decide_eq_true ?_
      obtain ⟨j, hj, rfl⟩ := List.getElem_of_mem hx
      have h1 : (0 : Int) < p + 1 := by omega
      have hd : (p + 1) * ((j : Int) / (p + 1)) + (j : Int) % (p + 1) = (j : Int) := by first | exact Int.mul_ediv_add_emod _ _ | exact Int.ediv_add_emod _ _ | exact Int.ediv_add_emod' _ _
      have h2 := Int.emod_nonneg (j : Int) (show p + 1 ≠ 0 by omega)
      have h3 := Int.emod_lt_of_pos (j : Int) h1
      have h4 : (j : Int) / (p + 1) < p + 1 := Int.ediv_lt_of_lt_mul h1 (by omega)
      have h5 : 0 ≤ (j : Int) / (p + 1) := Int.ediv_nonneg (by omega) (by omega)
      have h6 := (h ((j : Int) / (p + 1)).toNat ((j : Int) % (p + 1)).toNat (by omega) (by omega)).1
      have e : (((((j : Int) / (p + 1)).toNat : Nat) : Int) * (p + 1) + ((((j : Int) % (p + 1)).toNat : Nat) : Int)).toNat = j := by
        rw [Int.toNat_of_nonneg h5, Int.toNat_of_nonneg h2, Int.mul_comm]
        omega
      rw [wayC, e, getD_at hj] at h6
      exact h6
    rw [this] at c; cases c
theorem ways_noD {p : Int} {cs : List Int} {s : Nat} (hs : (s : Int) < p + 1) (c : ¬ wayC cs (p + 1) s s = 0) : waysV p cs = false := waysV_no fun ⟨_, _, h⟩ => c ((h s s hs hs).2.2 rfl)
theorem ways_noS {p : Int} {cs : List Int} {s k : Nat} (hs : (s : Int) < p + 1) (hk : (k : Int) < p + 1) (c : ¬ wayC cs (p + 1) s k = wayC cs (p + 1) k s) : waysV p cs = false := waysV_no fun ⟨_, _, h⟩ => c (h s k hs hk).2.1
theorem ways_noR {p : Int} {cs : List Int} {s k : Nat} (hs : (s : Int) < p + 1) (hk : (k : Int) < p + 1) (c : decide (0 ≤ wayC cs (p + 1) s k ∧ wayC cs (p + 1) s k ≤ 1000) = false) : waysV p cs = false := waysV_no fun ⟨_, _, h⟩ => (of_decide_eq_false c) (h s k hs hk).1
/-- Row i is right up to place k. -/
def WayR (m : Int) (cs : List Int) (i s : Nat) : Prop := ∀ k : Nat, k < s → (0 ≤ wayC cs m i k ∧ wayC cs m i k ≤ 1000) ∧ wayC cs m i k = wayC cs m k i ∧ (i = k → wayC cs m i k = 0)
theorem ways_rows {p : Int} {cs : List Int} (hp : 1 ≤ p ∧ p ≤ 6) (hl : (cs.length : Int) = (p + 1) * (p + 1)) {s : Nat} (hs : ¬ (s : Int) < p + 1) (h : ∀ i, i < s → WayR (p + 1) cs i (p + 1).toNat) : waysV p cs = true :=
  waysV_yes ⟨hp, hl, fun i k hi hk => h i (by omega) k (by omega)⟩
theorem wayR_step {m : Int} {cs : List Int} {i s : Nat} (h : WayR m cs i s) (h1 : 0 ≤ wayC cs m i s ∧ wayC cs m i s ≤ 1000) (h2 : wayC cs m i s = wayC cs m s i) (h3 : i = s → wayC cs m i s = 0) : WayR m cs i (s + 1) := fun k hk => by
  by_cases e : k = s
  · subst e; exact ⟨h1, h2, h3⟩
  · exact h k (by omega)

/-! ## Joining -/
def plcP (s : Nat) : Nat := s * 2 ||| 1
theorem plc_ok : ∀ s < 64, pop (plcP s) = pop s + 1 ∧ plcP s < 128 ∧ Nat.testBit (plcP s) 0 = true := by decide +kernel
theorem plc_bit : ∀ s < 64, ∀ k < 7, 0 < k → Nat.testBit (plcP s) k = Nat.testBit s (k - 1) := by decide +kernel
theorem plc_hi : ∀ p < 7, ∀ s < 2 ^ p, ∀ k < 7, Nat.testBit (plcP s) k = true → k < p + 1 := by decide +kernel
/-- What stands behind t ways. -/
structure JOk (J P t : Nat) : Prop where
  lt : J < 128
  sub : (J &&& P) = J
  zero : J.testBit 0 = true
  cnt : pop J = t + 1
theorem jok_zero {s : Nat} (hs : s < 64) : JOk 1 (plcP s) 0 := by
  have : ∀ s < 64, (1 &&& plcP s) = 1 := by decide +kernel
  exact ⟨by decide, this s hs, by decide, by decide +kernel⟩
theorem jok_done {J t s : Nat} (hs : s < 64) (h : JOk J (plcP s) t) (e : J = plcP s) : t = pop s := by
  have h1 := (plc_ok s hs).1
  have h2 := h.cnt
  rw [e, h1] at h2; omega
theorem jok_more {J t s : Nat} (hs : s < 64) (h : JOk J (plcP s) t) (e : J ≠ plcP s) : t < pop s := by
  have h1 := plc_ok s hs
  have h2 := (sub_or J h.lt (plcP s) h1.2.1 h.sub e).1
  have h3 := h.cnt
  omega
/-- The next way. -/
theorem jok_sel {cs : List Int} {m : Int} {J t s p : Nat} (hp : p < 7) (hs : s < 2 ^ p) (h : JOk J (plcP s) t) (e : J ≠ plcP s) :
    ∃ k : Nat, (selA cs m J (plcP s) (p + 1) (p + 1)).1 = (k : Int) ∧ k < p + 1 ∧ 0 < k ∧ J.testBit k = false ∧ JOk (J ||| 2 ^ k) (plcP s) (t + 1) := by
  have hs6 := Nat.pow_le_pow_right (show 0 < 2 by decide) (show p ≤ 6 by omega)
  have hs64 : s < 64 := by omega
  have h1 := plc_ok s hs64
  obtain ⟨-, k0, hk0, hb1, hb2⟩ := sub_or J h.lt (plcP s) h1.2.1 h.sub e
  have hk1 := plc_hi p hp s hs k0 hk0 hb2
  have hpos := sel_some (cs := cs) (m := m) (n := p + 1) (by omega) hk1 h.zero hb1 hb2
  rcases selA_ok (cs := cs) (m := m) (J := J) (P := plcP s) (n := p + 1) (p + 1) with h9 | ⟨k, e1, hk, hj, hP⟩
  · rw [h9] at hpos; exact absurd hpos (by decide)
  · have hkpos : 0 < k := by
      refine Nat.pos_of_ne_zero fun e0 => ?_
      subst e0; rw [h.zero] at hj; cases hj
    have h2 := pop_or J h.lt k (by omega) hj
    refine ⟨k, e1, hk, hkpos, hj, h2.2, ?_, ?_, by rw [h2.1, h.cnt]⟩
    · apply Nat.eq_of_testBit_eq
      intro i
      have hsub : ∀ i, J.testBit i = true → (plcP s).testBit i = true := fun i hi => by
        have : (J &&& plcP s).testBit i = true := by rw [h.sub]; exact hi
        rw [Nat.testBit_and, Bool.and_eq_true] at this
        exact this.2
      rw [Nat.testBit_and, Nat.testBit_or, Nat.testBit_two_pow]
      by_cases hi : J.testBit i = true
      · rw [hi, hsub i hi]; rfl
      · have hi' : J.testBit i = false := by simpa using hi
        rw [hi']
        by_cases hk' : k = i
        · subst hk'; rw [hP]; simp
        · simp [hk']
    · rw [Nat.testBit_or, h.zero]; rfl
theorem sel_skip {J P i k : Nat} (h : J.testBit i = false ∨ J.testBit k = true ∨ P.testBit k = false) : selC J P i k = false := by
  unfold selC
  rcases h with h | h | h <;> simp [h]
theorem sel_take {J P i k : Nat} (h1 : J.testBit i = true) (h2 : J.testBit k = false) (h3 : P.testBit k = true) : selC J P i k = true := by
  unfold selC; rw [h1, h2, h3]; rfl
theorem selR_skip {cs : List Int} {m : Int} {J P i k : Nat} {st : TSt} (h : J.testBit i = false ∨ J.testBit k = true ∨ P.testBit k = false) : selR cs m J P i st (k + 1) = selR cs m J P i st k :=
  selR_old fun ⟨h1, _⟩ => by rw [sel_skip h] at h1; cases h1
theorem selR_one {cs : List Int} {m : Int} {J P i : Nat} {st : TSt} (h : J.testBit 0 = true) : selR cs m J P i st 1 = st := selR_skip (.inr (.inl h))
/-- What each place pays. -/
def joinL (cs : List Int) (p : Int) (s : Nat) : List Int := (joinT cs (p + 1) (p + 1).toNat (plcP s) (pop s)).2
theorem joinL_len {cs : List Int} {p : Int} {s : Nat} : (joinL cs p s).length = (p + 1).toNat := joinT_len _
def treeF (cs : List Int) (p : Int) (s : Nat) : Int := sumW (joinL cs p s)
def treeD (cs : List Int) (p : Int) (s : Nat) : List Int := (joinL cs p s).drop 1
theorem treeD_len {cs : List Int} {p : Int} (hp : 0 ≤ p) {s : Nat} : (treeD cs p s).length = p.toNat := by
  rw [treeD, List.length_drop, joinL_len]; omega
theorem sumW_zero {l : List Int} (h0 : 0 < l.length) (h : l.getD 0 0 = 0) : sumW l = sumW (l.drop 1) := by
  cases l with
  | nil => simp at h0
  | cons x l =>
    have : x = 0 := by simpa using h
    subst this
    show (IntKind.i64.wrap (0 + 0) : Int) |> fun a => l.foldl (fun a x => IntKind.i64.wrap (a + x)) a = _
    have e : IntKind.i64.wrap (0 + 0) = 0 := by decide
    rw [e]; rfl
/-- Truth values of a set. -/
def bitsB (n J : Nat) : List Bool := (List.range n).map fun i => J.testBit i
theorem bitsB_len {n J : Nat} : (bitsB n J).length = n := by simp [bitsB]
theorem bitsB_get {n J k : Nat} (h : k < n) : (bitsB n J).getD k false = J.testBit k := by
  rw [List.getD_eq_getElem?_getD, bitsB, List.getElem?_map, List.getElem?_range h]; rfl
theorem bitsB_set {n J k : Nat} (h : k < n) : (bitsB n J).set k true = bitsB n (J ||| 2 ^ k) := by
  apply List.ext_getElem
  · simp [bitsB]
  · intro i h1 h2
    rw [List.getElem_set]
    simp only [bitsB, List.getElem_map, List.getElem_range, Nat.testBit_or, Nat.testBit_two_pow]
    split
    · rename_i e; subst e; simp
    · rename_i e; simp [e]
theorem bitsB_one {n : Nat} : (List.replicate n false).set 0 true = bitsB n 1 := by
  apply List.ext_getElem
  · simp [bitsB]
  · intro i h1 h2
    rw [List.getElem_set]
    simp only [bitsB, List.getElem_map, List.getElem_range, List.getElem_replicate]
    have : Nat.testBit 1 i = decide (i = 0) := by
      cases i with
      | zero => rfl
      | succ i => rw [Nat.testBit_succ]; simp
    rw [this]
    split
    · rename_i e; subst e; rfl
    · rename_i e; exact (decide_eq_false (fun h => e h.symm)).symm
theorem drop_set {l : List Int} {k : Nat} {x : Int} (hk : 0 < k) : (l.drop 1).set (k - 1) x = (l.set k x).drop 1 := by
  cases l with
  | nil => simp
  | cons y l =>
    cases k with
    | zero => omega
    | succ k => simp

theorem all_step {Q : Nat → Prop} {s : Nat} (h : ∀ k, k < s → Q k) (h1 : Q s) : ∀ k, k < s + 1 → Q k := fun k hk => by
  by_cases e : k = s
  · subst e; exact h1
  · exact h k (by omega)
theorem pow_k {k : Nat} (h : k < 7) : (0 : Int) < 2 ^ (k : Int).toNat ∧ (2 : Int) ^ (k : Int).toNat ≤ 64 := by
  rw [Int.toNat_natCast]
  have e : ((2 ^ k : Nat) : Int) = (2 : Int) ^ k := by simp
  have h10 : 0 < (2 : Nat) ^ k := Nat.two_pow_pos _
  have h9 : (2 : Nat) ^ k ≤ 2 ^ 6 := Nat.pow_le_pow_right (by omega) (by omega)
  omega
theorem nbit0 {s i : Nat} (c : ((s / 2 ^ (i : Int).toNat &&& 1 : Nat) : Int) = 0) : s.testBit i = false := by have h := bit_not c; rwa [Int.toNat_natCast] at h
theorem nbit1 {s i : Nat} (c : ¬ ((s / 2 ^ (i : Int).toNat &&& 1 : Nat) : Int) = 0) : s.testBit i = true := by have h := bit_yes c; rwa [Int.toNat_natCast] at h
theorem ybit1 {s i : Nat} (c : ((s / 2 ^ (i : Int).toNat &&& 1 : Nat) : Int) = 1) : s.testBit i = true := by have h := bit_is.1 c; rwa [Int.toNat_natCast] at h
theorem ybit0 {s i : Nat} (c : ¬ ((s / 2 ^ (i : Int).toNat &&& 1 : Nat) : Int) = 1) : s.testBit i = false := Bool.eq_false_iff.2 fun e => c (bit_is.2 (by rw [Int.toNat_natCast]; exact e))

theorem pow_kn {k : Nat} (h : k < 7) : 0 < (2 : Nat) ^ (k : Int).toNat ∧ (2 : Nat) ^ (k : Int).toNat ≤ 64 := by
  rw [Int.toNat_natCast]
  have h10 : 0 < (2 : Nat) ^ k := Nat.two_pow_pos _
  have h9 : (2 : Nat) ^ k ≤ 2 ^ 6 := Nat.pow_le_pow_right (by omega) (by omega)
  omega
theorem jt_zero {h : AHeap} {cs : List Int} {m : Int} {P n q : Nat} (e : q + 1 = n) : h ++ [lstB ((List.replicate n false).set 0 true)] ++ [lst (List.replicate q 0)] = h ++ [lstB (bitsB n (joinT cs m n P 0).1)] ++ [lst ((joinT cs m n P 0).2.drop 1)] := by
  subst e
  rw [bitsB_one]; rfl
/-- The first place pays nothing. -/
theorem joinT_get0 {cs : List Int} {m : Int} {s p : Nat} (hp : p < 7) (hs : s < 2 ^ p) : ∀ t, t ≤ pop s → JOk (joinT cs m (p + 1) (plcP s) t).1 (plcP s) t ∧ (joinT cs m (p + 1) (plcP s) t).2.getD 0 0 = 0
  | 0, _ => by
    have hs6 := Nat.pow_le_pow_right (show 0 < 2 by decide) (show p ≤ 6 by omega)
    exact ⟨jok_zero (by omega), rfl⟩
  | t + 1, ht => by
    have hs6 := Nat.pow_le_pow_right (show 0 < 2 by decide) (show p ≤ 6 by omega)
    have hs64 : s < 64 := by omega
    obtain ⟨hj, h0⟩ := joinT_get0 (cs := cs) (m := m) hp hs t (by omega)
    have hne : (joinT cs m (p + 1) (plcP s) t).1 ≠ plcP s := fun e => by have := jok_done hs64 hj e; omega
    obtain ⟨k, hk, hkn, hk0, hkb, hkj⟩ := jok_sel (cs := cs) (m := m) hp hs hj hne
    simp only [joinT, hk, Int.toNat_natCast]
    refine ⟨hkj, ?_⟩
    rw [List.getD_eq_getElem?_getD, List.getElem?_set_ne (by omega), ← List.getD_eq_getElem?_getD]
    exact h0
theorem treeF_sum {cs : List Int} {p : Int} {s : Nat} (hp : 1 ≤ p ∧ p ≤ 6) (hs : s < 2 ^ p.toNat) : treeF cs p s = sumW (treeD cs p s) := by
  have e : (p + 1).toNat = p.toNat + 1 := by omega
  have h0 := (joinT_get0 (cs := cs) (m := p + 1) (p := p.toNat) (by omega) hs (pop s) (Nat.le_refl _)).2
  rw [treeF, treeD]
  refine sumW_zero (by rw [joinL_len]; omega) ?_
  rw [joinL, e]; exact h0
/-- What is paid is a cost of the table, or nothing. -/
theorem selA_val {cs : List Int} {m : Int} {J P n : Nat} {B : Int} (hB : 0 ≤ B) (h : ∀ i k : Nat, i < n → k < n → 0 ≤ wayC cs m i k ∧ wayC cs m i k ≤ B) : ∀ i, i ≤ n → 0 ≤ (selA cs m J P n i).2 ∧ (selA cs m J P n i).2 ≤ B
  | 0, _ => ⟨Int.le_refl 0, hB⟩
  | i + 1, hi => by
    have hR : ∀ k, k ≤ n → 0 ≤ (selR cs m J P i (selA cs m J P n i) k).2 ∧ (selR cs m J P i (selA cs m J P n i) k).2 ≤ B := by
      intro k
      induction k with
      | zero => exact fun _ => selA_val hB h i (by omega)
      | succ k ih =>
        intro hk
        rw [selR, selStep]
        split
        · exact h i k (by omega) (by omega)
        · exact ih (by omega)
    exact hR n (Nat.le_refl _)
theorem joinT_bnd {cs : List Int} {m : Int} {P n : Nat} {B : Int} (hB : 0 ≤ B) (h : ∀ i k : Nat, i < n → k < n → 0 ≤ wayC cs m i k ∧ wayC cs m i k ≤ B) : ∀ t, ∀ x ∈ (joinT cs m n P t).2, 0 ≤ x ∧ x ≤ B
  | 0, x, hx => by
    rw [joinT] at hx
    have := List.eq_of_mem_replicate hx
    omega
  | t + 1, x, hx => by
    rw [joinT] at hx
    rcases List.mem_or_eq_of_mem_set hx with h1 | h1
    · exact joinT_bnd hB h t x h1
    · rw [h1]; exact selA_val hB h n (Nat.le_refl _)
theorem sumW_bnd {B : Int} (hB : 0 ≤ B ∧ B ≤ 1000000) : ∀ l : List Int, (∀ x ∈ l, 0 ≤ x ∧ x ≤ B) → l.length ≤ 64 → ∀ k, k ≤ l.length → 0 ≤ sumW (l.take k) ∧ sumW (l.take k) ≤ B * (k : Int) := by
  intro l hl hn k
  induction k with
  | zero => intro _; rw [List.take_zero]; exact ⟨Int.le_refl 0, by show (0 : Int) ≤ B * 0; omega⟩
  | succ k ih =>
    intro hk
    obtain ⟨h1, h2⟩ := ih (by omega)
    have hx := hl (l.getD k 0) (by rw [getD_at (by omega)]; exact List.getElem_mem _)
    have hm : B * (k : Int) ≤ 1000000 * 64 := by
      have a1 : B * (k : Int) ≤ 1000000 * (k : Int) := Int.mul_le_mul_of_nonneg_right hB.2 (by omega)
      omega
    have he : B * ((k + 1 : Nat) : Int) = B * (k : Int) + B := by rw [Int.natCast_add, Int.mul_add]; omega
    rw [← sumW_step (by omega), wrap_id (by omega) (by omega)]
    omega
theorem tree_isW {cs : List Int} {p : Int} (hW : waysV p cs = true) : isW 10000 p (mapR (treeF cs p) p) = true := by
  obtain ⟨hp, hl, hw⟩ := waysV_get hW
  have hb : ∀ s, ∀ x ∈ joinL cs p s, 0 ≤ x ∧ x ≤ 1000 := fun s => joinT_bnd (by decide) (fun i k hi hk => (hw i k (by omega) (by omega)).1) _
  refine mapR_isW hp ?_ fun s => ?_
  · show sumW (List.replicate (p + 1).toNat 0) = 0
    have hz : ∀ n : Nat, sumW (List.replicate n (0 : Int)) = 0 := by
      intro n
      induction n with
      | zero => rfl
      | succ n ih => exact ih
    exact hz _
  · have h1 := sumW_bnd (B := 1000) (by decide) (joinL cs p s) (hb s) (by rw [joinL_len]; omega) (joinL cs p s).length (Nat.le_refl _)
    rw [List.take_length] at h1
    have h2 : (joinL cs p s).length = (p + 1).toNat := joinL_len
    show -10000 ≤ sumW (joinL cs p s) ∧ sumW (joinL cs p s) ≤ 10000
    omega
theorem tree_cons {cs : List Int} {p : Int} {s : Nat} (hp : 1 ≤ p ∧ p ≤ 6) (hs : s < 2 ^ p.toNat) : joinL cs p s = 0 :: treeD cs p s := by
  have e : (p + 1).toNat = p.toNat + 1 := by omega
  have h0 := (joinT_get0 (cs := cs) (m := p + 1) (p := p.toNat) (by omega) hs (pop s) (Nat.le_refl _)).2
  have h1 : (joinL cs p s).getD 0 0 = 0 := by rw [joinL, e]; exact h0
  have h2 : (joinL cs p s).length = (p + 1).toNat := joinL_len
  rw [treeD]
  cases hl : joinL cs p s with
  | nil => rw [hl] at h2; simp at h2; omega
  | cons x l => rw [hl] at h1; rw [show x = 0 from h1]; rfl
/-! ## A list without its first item -/
abbrev slT (k n : Nat) : Value := .slice (some ⟨k, 1, some (n + 1)⟩) n n
/-- (part of a list, true) -/
abbrev VT (n : Nat) (k : Nat) : Value := .tuple #[slT k n, .bool true]
theorem retT_of {P : Program} {f : FuncId} {args : List Value} {h : AHeap} {ok : Bool} {n : Nat} {l : List Int} (t : Tri P f args h (OptQ ok (VT n) (lst l) NL h)) : RetO P f args h ok (VT n) (lst l) NL :=
  reto_of (fun _ _ => .tup2 .slice (.prim rfl)) (.tup2 (.slice (by omega)) (.prim rfl)) lst_prim within_nilb t
theorem Ints.tail {h : AHeap} {k n : Nat} {x : Int} {xs : List Int} (ho : h[k]? = some (lst (x :: xs))) (hn : xs.length = n) : Ints h (slT k n) xs := by
  subst hn
  exact .inr ⟨k, 1, xs.length + 1, xs.length, _, rfl, ho, by simp [lst], rfl, Nat.le_refl _, by omega, fun i z hz => by
    rw [Nat.add_comm]; simp [lst, hz]⟩
theorem elemT {k n i : Nat} {p : Value} (h : IsElem (slT k n) i p) : IsElem (sl k (n + 1)) (i + 1) p := by
  have e : p = .pointer (some ⟨k, 1 + i, some (n + 1)⟩) := h
  subst e
  show _ = _
  rw [Nat.add_comm 1 i, Nat.zero_add]
theorem subv_tail {k n m q : Nat} (h : n = m) (hq : n = q + 1) : subv (sl k n) (Int.toNat 1) m = slT k q := by
  subst h; subst hq; rfl
end Go.Am
