/-
  The abstract heap: plain laws of the kernel's step. General: no program is named.
-/
import Derived.Test.YtnfefjofojmokaaAmLib5
namespace Go.Am
set_option linter.unusedSimpArgs false
set_option linter.unusedVariables false

def meanT (i k : Int) (s : Nat) : Bool := s.testBit i.toNat && !s.testBit k.toNat
def surF (xs ss : List Int) (i k : Int) : Int := (worstS (compF xs ss 1) (meanT i k) xs.length).1
def diffF (xs ss : List Int) (i k : Int) : Int := IntKind.i64.wrap (surF xs ss i k - surF xs ss k i)
abbrev KSt := Int × Int × Int
def kerStep (d : Int → Int → Int) (i k : Nat) (r : KSt) : KSt := if i = k then r else if r.2.1 < 0 ∨ r.1 < d i k then (d i k, (i : Int), (k : Int)) else r
def kerR (d : Int → Int → Int) (i : Nat) (st : KSt) : Nat → KSt
  | 0 => st
  | k + 1 => kerStep d i k (kerR d i st k)
def kerA (d : Int → Int → Int) (n : Nat) : Nat → KSt
  | 0 => (0, -1, -1)
  | i + 1 => kerR d i (kerA d n i) n
def KOk (n : Nat) (r : KSt) : Prop := (r.2.1 < 0 ∧ r = (0, -1, -1)) ∨ (0 ≤ r.2.1 ∧ r.2.1 < n ∧ 0 ≤ r.2.2 ∧ r.2.2 < n ∧ r.2.1 ≠ r.2.2)
theorem kerStep_ok {d : Int → Int → Int} {n i k : Nat} {r : KSt} (hi : i < n) (hk : k < n) (h : KOk n r) : KOk n (kerStep d i k r) := by
  unfold kerStep
  split
  · exact h
  · split
    · right
      show 0 ≤ (i : Int) ∧ (i : Int) < n ∧ 0 ≤ (k : Int) ∧ (k : Int) < n ∧ (i : Int) ≠ (k : Int)
      omega
    · exact h
theorem kerR_ok {d : Int → Int → Int} {n i : Nat} {st : KSt} (hi : i < n) (h : KOk n st) : ∀ k, k ≤ n → KOk n (kerR d i st k)
  | 0, _ => h
  | k + 1, hk => kerStep_ok hi (by omega) (kerR_ok hi h k (by omega))
theorem kerA_ok {d : Int → Int → Int} {n : Nat} : ∀ i, i ≤ n → KOk n (kerA d n i)
  | 0, _ => .inl ⟨by show (-1 : Int) < 0; decide, rfl⟩
  | i + 1, hi => kerR_ok (by omega) (kerA_ok i (by omega)) n (Nat.le_refl _)
theorem kerR_same {d : Int → Int → Int} {i k : Nat} {st : KSt} (h : (i : Int) = k) : kerR d i st (k + 1) = kerR d i st k := by
  rw [kerR, kerStep, if_pos (by omega)]
theorem kerR_new {d : Int → Int → Int} {i k : Nat} {st : KSt} (h : ¬ (i : Int) = k) (h2 : (kerR d i st k).2.1 < 0 ∨ (kerR d i st k).1 < d i k) : kerR d i st (k + 1) = (d i k, (i : Int), (k : Int)) := by
  rw [kerR, kerStep, if_neg (by omega), if_pos h2]
theorem kerR_old {d : Int → Int → Int} {i k : Nat} {st : KSt} (h : ¬ (i : Int) = k) (h2 : ¬ ((kerR d i st k).2.1 < 0 ∨ (kerR d i st k).1 < d i k)) : kerR d i st (k + 1) = kerR d i st k := by
  rw [kerR, kerStep, if_neg (by omega), if_neg h2]
def zpos (x : Int) : Int := if x < 0 then 0 else x
theorem zpos_eq {n : Nat} {r : KSt} (h : KOk n r) : zpos r.2.1 = zpos r.2.2 ↔ r.2.1 < 0 := by
  rcases h with ⟨h1, h2⟩ | ⟨h1, h2, h3, h4, h5⟩
  · rw [h2]; simp [zpos]
  · unfold zpos
    rw [if_neg (by omega), if_neg (by omega)]
    omega
theorem zpos_nat {k : Nat} : zpos (k : Int) = k := if_neg (by omega)
abbrev kerT (xs ss : List Int) (p : Int) : KSt := kerA (diffF xs ss) p.toNat p.toNat
/-- The shares behind the step. -/
def kerL (ss : List Int) (r : KSt) : List Int :=
  if 2 ≤ r.1 then ((ss.set r.2.1.toNat (IntKind.i64.wrap (ss.getD r.2.1.toNat 0 + r.1 / 2))).set r.2.2.toNat
    (IntKind.i64.wrap ((ss.set r.2.1.toNat (IntKind.i64.wrap (ss.getD r.2.1.toNat 0 + r.1 / 2))).getD r.2.2.toNat 0 - r.1 / 2))) else ss
theorem kerL_len {ss : List Int} {r : KSt} : (kerL ss r).length = ss.length := by unfold kerL; split <;> simp
theorem kerL_yes {ss : List Int} {r : KSt} (h : 2 ≤ r.1) : kerL ss r = (ss.set r.2.1.toNat (IntKind.i64.wrap (ss.getD r.2.1.toNat 0 + r.1 / 2))).set r.2.2.toNat
    (IntKind.i64.wrap ((ss.set r.2.1.toNat (IntKind.i64.wrap (ss.getD r.2.1.toNat 0 + r.1 / 2))).getD r.2.2.toNat 0 - r.1 / 2)) := if_pos h
theorem kerL_no {ss : List Int} {r : KSt} (h : ¬ 2 ≤ r.1) : kerL ss r = ss := if_neg h
theorem ker_pos {n : Nat} {r : KSt} (h : KOk n r) (h2 : 2 ≤ r.1) : (0 ≤ r.2.1 ∧ r.2.1 < n) ∧ (0 ≤ r.2.2 ∧ r.2.2 < n) := by
  rcases h with ⟨_, h3⟩ | ⟨h1, h3, h4, h5, _⟩
  · rw [h3] at h2; simp at h2
  · exact ⟨⟨h1, h3⟩, h4, h5⟩

theorem kerR_le {xs ss : List Int} {i : Nat} {st : KSt} (h : st.1 ≤ 9223372036854775807) : ∀ k, (kerR (diffF xs ss) i st k).1 ≤ 9223372036854775807
  | 0 => h
  | k + 1 => by
    have ih := kerR_le (xs := xs) (ss := ss) (i := i) h k
    rw [kerR, kerStep]
    split
    · exact ih
    · split
      · show IntKind.i64.wrap _ ≤ _
        rw [IntKind.wrap_i64]; omega
      · exact ih
theorem kerA_le {xs ss : List Int} {n : Nat} : ∀ i, (kerA (diffF xs ss) n i).1 ≤ 9223372036854775807
  | 0 => by show (0 : Int) ≤ _; decide
  | i + 1 => kerR_le (kerA_le i) n
theorem ker_le {xs ss : List Int} {p : Int} : (kerA (diffF xs ss) p.toNat p.toNat).1 ≤ 9223372036854775807 := kerA_le _

end Go.Am
