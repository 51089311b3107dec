/-
  The abstract heap: who cuts and who chooses, as the walks see it. General: no program is named.
-/
import Derived.Test.YtejlkmepnamodaaAmFlt7
namespace Go.Am
set_option linter.unusedSimpArgs false
set_option linter.unusedVariables false
open Ieee
abbrev ccW (q : Int) (xs : List Int) : Nat := cSum 0 (fI q) (rowC q 0 xs) q.toNat
abbrev ccA (q : Int) (xs : List Int) : Nat := mAll q 0 (hf (ccW q xs)) (rowC q 0 xs)
abbrev ccX (q : Int) (xs : List Int) : Nat := cSum 0 (ccA q xs) (rowC q 1 xs) q.toNat
abbrev ccY (q : Int) (xs : List Int) : Nat := cSum (ccA q xs) (fI q) (rowC q 1 xs) q.toNat
def ccK (p q : Int) (xs : List Int) : Bool := validC p q xs && decide (p = 2)
def ccRA (p q : Int) (xs : List Int) : Nat := if ccK p q xs then ccA q xs else 0
def ccRB (p q : Int) (xs : List Int) : Bool := ccK p q xs && geB (ccX q xs) (ccY q xs)
def ccT (p q : Int) (xs : List Int) : Value := .tuple #[fl (ccRA p q xs), .bool (ccRB p q xs), .bool (ccK p q xs)]
structure CC (p q : Int) (xs : List Int) : Prop where
  w0 : (validC p q xs && decide ((0 : Int) ≤ 0 ∧ (0 : Int) ≤ p - 1)) = true
  w1 : (validC p q xs && decide ((0 : Int) ≤ 1 ∧ (1 : Int) ≤ p - 1)) = true
  h0 : plF q 0 = true
  h1 : plF q (fI q) = true
  h2 : plF q (ccA q xs) = true
  g1 : gtB 0 (fI q) = false
  g2 : gtB 0 (ccA q xs) = false
  g3 : gtB (ccA q xs) (fI q) = false
  f5 : floatBits .quo .f32 (ccW q xs) 1073741824 = some (hf (ccW q xs))
  f6 : floatBits .mul .f32 1056964608 (ccW q xs) = some (hf (ccW q xs))
  m1 : geB (hf (ccW q xs)) 0 = true
  m2 : finB (hf (ccW q xs)) = true
  nn : NN (ccA q xs)
theorem zero_nb : NB 0 := ⟨0, -149, read_zero⟩
theorem cc_of {p q : Int} {xs : List Int} (h : validC p q xs = true) (hp : p = 2) : CC p q xs := by
  subst hp
  obtain ⟨_, hq, hxq, _⟩ := validC_get h
  have hfq := fI_nf (n := q) (by omega) (by omega)
  have hr0 := rowC_ok (i := 0) h (by omega)
  have hX : PlD 0 := ⟨false, 0, -149, read_zero, by simp, .inl rfl⟩
  have hY : PlD (fI q) := fI_pl (by omega) (by omega)
  have hs := (cSum_nf hX hY hr0.2.2.2.1 q.toNat (by have := hr0.2.2.1; omega)).mono (E' := 56) (by omega)
  have hh := half_ok hs (by decide) (by decide)
  have hc := cut_in hq hr0.2.2.1 hr0.2.2.2.1 (hh.2.2.mono (E' := 60) (by decide)) (by decide)
  have hle0 : leB 0 (fI q) = true := by
    obtain ⟨m, i, e, _⟩ := hfq
    exact leB_of_vle read_zero e (by rw [vle, Nat.zero_mul]; exact Nat.zero_le _)
  have p0 : plF q 0 = true := by rw [plF, zero_nb.ge0, hle0]; rfl
  have p1 : plF q (fI q) = true := by rw [plF, hfq.nb.ge0, le_self hfq.nb]; rfl
  have p2 : plF q (ccA q xs) = true := by rw [plF, hc.1.ge0, hc.2]; rfl
  refine ⟨by rw [h]; rfl, by rw [h]; rfl, p0, p1, p2, hfq.nb.gt0, hc.1.gt0, le_gt hc.2, hh.1, hh.2.1, hh.2.2.nb.ge0, hh.2.2.fin, ?_⟩
  obtain ⟨m, i, e⟩ := hc.1
  rw [NN, e]; rfl
section
variable {p q : Int} {xs : List Int}
theorem CC.k1 (c : CC p q xs) : cwK p q 0 xs 0 (fI q) = true := cwK_yes c.w0 c.h0 c.h1 c.g1
theorem CC.k2 (c : CC p q xs) : cmK p q 0 xs 0 (hf (ccW q xs)) = true := cmK_yes c.w0 c.h0 c.m1 c.m2
theorem CC.k3 (c : CC p q xs) : cwK p q 1 xs 0 (ccA q xs) = true := cwK_yes c.w1 c.h0 c.h2 c.g2
theorem CC.k4 (c : CC p q xs) : cwK p q 1 xs (ccA q xs) (fI q) = true := cwK_yes c.w1 c.h2 c.h1 c.g3
theorem cc_no1 (h : validC p q xs = false) : ccK p q xs = false := by rw [ccK, h]; rfl
theorem cc_no2 (h : ¬ p = 2) : ccK p q xs = false := by rw [ccK, decide_eq_false h, Bool.and_false]
theorem ccK_yes (h : validC p q xs = true) (hp : p = 2) : ccK p q xs = true := by rw [ccK, h, decide_eq_true hp]; rfl
theorem cc_no (h : ccK p q xs = false) : Value.tuple #[fl 0, .bool false, .bool false] = ccT p q xs := by rw [ccT, ccRA, ccRB, h]; rfl
theorem cc_yes (h : ccK p q xs = true) {b : Bool} (hb : geB (ccX q xs) (ccY q xs) = b) : Value.tuple #[fl (ccA q xs), .bool b, .bool true] = ccT p q xs := by rw [ccT, ccRA, ccRB, h, hb]; rfl
theorem cc_nn : NN (ccRA p q xs) := by
  rw [ccRA]
  by_cases h : ccK p q xs = true
  · rw [if_pos h]
    rw [ccK, Bool.and_eq_true, decide_eq_true_eq] at h
    exact (cc_of h.1 h.2).nn
  · rw [if_neg h]; exact ps_zero.nn
end
end Go.Am
