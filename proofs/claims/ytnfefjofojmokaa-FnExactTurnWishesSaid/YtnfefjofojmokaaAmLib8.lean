/-
  The abstract heap: plain laws of trees. General: no program is named.
-/
import Derived.Test.YtnfefjofojmokaaAmLib7
namespace Go.Am
set_option linter.unusedSimpArgs false
set_option linter.unusedVariables false

/-! ## Ways between places -/
abbrev TSt := Int × Int
def selC (J P i k : Nat) : Bool := J.testBit i && (!J.testBit k && P.testBit k)
def selStep (cs : List Int) (m : Int) (J P i k : Nat) (r : TSt) : TSt :=
  if selC J P i k = true ∧ (r.1 < 0 ∨ cs.getD ((i : Int) * m + (k : Int)).toNat 0 < r.2) then ((k : Int), cs.getD ((i : Int) * m + (k : Int)).toNat 0) else r
def selR (cs : List Int) (m : Int) (J P i : Nat) (st : TSt) : Nat → TSt
  | 0 => st
  | k + 1 => selStep cs m J P i k (selR cs m J P i st k)
def selA (cs : List Int) (m : Int) (J P n : Nat) : Nat → TSt
  | 0 => (-1, 0)
  | i + 1 => selR cs m J P i (selA cs m J P n i) n
theorem selR_new {cs : List Int} {m : Int} {J P i k : Nat} {st : TSt} (hc : selC J P i k = true) (h : (selR cs m J P i st k).1 < 0 ∨ cs.getD ((i : Int) * m + (k : Int)).toNat 0 < (selR cs m J P i st k).2) :
    selR cs m J P i st (k + 1) = ((k : Int), cs.getD ((i : Int) * m + (k : Int)).toNat 0) := by rw [selR, selStep, if_pos ⟨hc, h⟩]
theorem selR_old {cs : List Int} {m : Int} {J P i k : Nat} {st : TSt} (h : ¬ (selC J P i k = true ∧ ((selR cs m J P i st k).1 < 0 ∨ cs.getD ((i : Int) * m + (k : Int)).toNat 0 < (selR cs m J P i st k).2))) :
    selR cs m J P i st (k + 1) = selR cs m J P i st k := by rw [selR, selStep, if_neg h]
/-- Where something is chosen, it is a place that is not yet joined. -/
def SelOk (J P n : Nat) (r : TSt) : Prop := r.1 = -1 ∨ ∃ k : Nat, r.1 = (k : Int) ∧ k < n ∧ J.testBit k = false ∧ P.testBit k = true
theorem selStep_ok {cs : List Int} {m : Int} {J P n i k : Nat} {r : TSt} (hk : k < n) (h : SelOk J P n r) : SelOk J P n (selStep cs m J P i k r) := by
  unfold selStep
  split
  · rename_i hc
    have hc1 := hc.1
    simp only [selC, Bool.and_eq_true, Bool.not_eq_true'] at hc1
    exact .inr ⟨k, rfl, hk, hc1.2.1, hc1.2.2⟩
  · exact h
theorem selR_ok {cs : List Int} {m : Int} {J P n i : Nat} {st : TSt} (h : SelOk J P n st) : ∀ k, k ≤ n → SelOk J P n (selR cs m J P i st k)
  | 0, _ => h
  | k + 1, hk => selStep_ok (by omega) (selR_ok h k (by omega))
theorem selA_ok {cs : List Int} {m : Int} {J P n : Nat} : ∀ i, SelOk J P n (selA cs m J P n i)
  | 0 => .inl rfl
  | i + 1 => selR_ok (selA_ok i) n (Nat.le_refl _)
/-- Once something is chosen, something stays chosen. -/
theorem selR_keep {cs : List Int} {m : Int} {J P i : Nat} {st : TSt} (h : 0 ≤ st.1) : ∀ k, 0 ≤ (selR cs m J P i st k).1
  | 0 => h
  | k + 1 => by
    rw [selR, selStep]
    split
    · show (0 : Int) ≤ (k : Int); omega
    · exact selR_keep h k
theorem selR_some {cs : List Int} {m : Int} {J P i : Nat} {st : TSt} {k0 : Nat} (hc : selC J P i k0 = true) : ∀ k, k0 < k → 0 ≤ (selR cs m J P i st k).1
  | 0, h => by omega
  | k + 1, h => by
    rw [selR, selStep]
    split
    · show (0 : Int) ≤ (k : Int); omega
    · rename_i hn
      by_cases e : k0 = k
      · subst e
        refine Classical.byContradiction fun h9 => hn ⟨hc, .inl (by omega)⟩
      · exact selR_some hc k (by omega)
theorem selA_keep {cs : List Int} {m : Int} {J P n i0 : Nat} (h : 0 ≤ (selA cs m J P n i0).1) : ∀ i, i0 ≤ i → 0 ≤ (selA cs m J P n i).1
  | 0, hi => by have : i0 = 0 := by omega
                subst this; exact h
  | i + 1, hi => by
    by_cases e : i0 = i + 1
    · subst e; exact h
    · exact selR_keep (selA_keep h i (by omega)) n
theorem sel_some {cs : List Int} {m : Int} {J P n k0 : Nat} (hn : 0 < n) (hk : k0 < n) (h0 : J.testBit 0 = true) (h1 : J.testBit k0 = false) (h2 : P.testBit k0 = true) : 0 ≤ (selA cs m J P n n).1 := by
  refine selA_keep (i0 := 1) ?_ n hn
  rw [selA]
  exact selR_some (k0 := k0) (by rw [selC, h0, h1, h2]; rfl) n hk
/-- Who is joined, and what each one pays, after t ways. -/
def joinT (cs : List Int) (m : Int) (n P : Nat) : Nat → Nat × List Int
  | 0 => (1, List.replicate n 0)
  | t + 1 =>
    let r := selA cs m (joinT cs m n P t).1 P n n
    ((joinT cs m n P t).1 ||| 2 ^ r.1.toNat, (joinT cs m n P t).2.set r.1.toNat r.2)
theorem joinT_len {cs : List Int} {m : Int} {n P : Nat} : ∀ t, (joinT cs m n P t).2.length = n
  | 0 => by simp [joinT]
  | t + 1 => by rw [joinT]; simp [joinT_len t]
def sub7 (J P : Nat) : Bool := (J &&& P == J)
theorem pop_or : ∀ J < 128, ∀ k < 7, Nat.testBit J k = false → pop (J ||| 2 ^ k) = pop J + 1 ∧ J ||| 2 ^ k < 128 := by decide +kernel
theorem sub_or : ∀ J < 128, ∀ P < 128, (J &&& P) = J → J ≠ P → (pop J < pop P ∧ ∃ k, k < 7 ∧ Nat.testBit J k = false ∧ Nat.testBit P k = true) := by
  intro J hJ P hP h hne
  have : ∀ J < 128, ∀ P < 128, ((J &&& P) == J && J != P) = true → (decide (pop J < pop P) && (List.range 7).any fun k => !Nat.testBit J k && Nat.testBit P k) = true := by decide +kernel
  have h1 := this J hJ P hP (by simp [h, hne])
  rw [Bool.and_eq_true, decide_eq_true_eq, List.any_eq_true] at h1
  obtain ⟨h2, k, hk, h3⟩ := h1
  rw [Bool.and_eq_true, Bool.not_eq_true'] at h3
  exact ⟨h2, k, List.mem_range.1 hk, h3.1, h3.2⟩

/-! ## The least part, more -/
def minTo (l : List Int) : Nat → Int
  | 0 => l.getD 0 0
  | n + 1 => min (minTo l n) (l.getD n 0)
theorem minTo_one {l : List Int} : minTo l 1 = l.getD 0 0 := by
  show min (l.getD 0 0) (l.getD 0 0) = _
  omega
def pF (xs os : List Int) (q i : Int) (j : Nat) : Int := partF xs os q i j
theorem minTo_parts {xs os : List Int} {q i : Int} {n : Nat} (hn : 0 < n) : ∀ k, k ≤ n → minTo ((List.range n).map (pF xs os q i)) k = minP xs os q i k
  | 0, _ => by rw [minTo, map_get hn]; rfl
  | k + 1, hk => by rw [minTo, minP, minTo_parts hn k (by omega), map_get (by omega)]; rfl
theorem minTo_all {xs os : List Int} {q i : Int} {n : Nat} (hn : 0 < n) : minTo ((List.range n).map (pF xs os q i)) ((List.range n).map (pF xs os q i)).length = minP xs os q i n := by
  rw [map_len]; exact minTo_parts hn n (Nat.le_refl _)
def allN8 (p q : Int) : Nat := (p ^ q.toNat).toNat
theorem fewB_no {p q : Int} {s : Nat} (hp : 1 ≤ p) (hs : s + 1 ≤ q.toNat) (h : 4096 < p ^ s * p) : fewB p q = false := by
  have := pow_mono hp hs
  rw [Int.pow_succ] at this
  exact decide_eq_false (by omega)
theorem carry_no {p q : Int} {s : Nat} (hp : 1 ≤ p) (hs : (s : Int) < p ^ q.toNat) (h : (!(incK p (ownN p q.toNat s) q.toNat).2) = true) : ((s + 1 : Nat) : Int) < p ^ q.toNat := by
  have h1 := (ownN_last (q := q.toNat) hp s hs).2
  rw [Bool.not_eq_true'] at h
  have : ¬ (s : Int) + 1 = p ^ q.toNat := fun e => by rw [h1.2 e] at h; cases h
  omega
theorem carry_yes {p q : Int} {s : Nat} (hp : 1 ≤ p) (hs : (s : Int) < p ^ q.toNat) (h : (!(incK p (ownN p q.toNat s) q.toNat).2) = false) : allN8 p q = s + 1 := by
  have h1 := (ownN_last (q := q.toNat) hp s hs).2
  rw [Bool.not_eq_false'] at h
  have := h1.1 h
  unfold allN8; omega
def leastAll (p q : Int) (xs : List Int) (i : Nat) : Int := leastN p q xs i (allN8 p q)

end Go.Am
