/-
  The abstract heap: plain laws of friends and rooms. General: no program is named.
-/
import Derived.Test.YtnbpakikglpkcaaAmLib14
namespace Go.Am
set_option linter.unusedSimpArgs false
set_option linter.unusedVariables false
/-! ## Places -/
def plc (xs : List Int) (x : Int) : Int := if 0 ≤ idxI xs x then idxI xs x else xs.length
theorem plc_yes {xs : List Int} {x : Int} (h : 0 ≤ idxI xs x) : idxI xs x = plc xs x := by rw [plc, if_pos h]
theorem plc_no {xs : List Int} {x : Int} (h : ¬ 0 ≤ idxI xs x) : (xs.length : Int) = plc xs x := by rw [plc, if_neg h]
theorem plc_at {xs : List Int} {x : Int} {s : Nat} (h : idxTo (fun y => decide (x = y)) xs xs.length = (s : Int)) : (s : Int) = plc xs x := by
  have h' : idxI xs x = (s : Int) := h
  rw [plc, h', if_pos (by omega)]
theorem plc_none {xs : List Int} {x : Int} (h : idxTo (fun y => decide (x = y)) xs xs.length = -1) : (xs.length : Int) = plc xs x := by
  have h' : idxI xs x = -1 := h
  rw [plc, h', if_neg (by omega)]
def dearB (xs : List Int) (a b : Int) : Bool := decide (plc xs a < plc xs b)
/-! ## Orders -/
theorem perm_row {xs : List Int} {n : Int} (hn : (xs.length : Int) = n) : ∀ t, permB xs t = rowT n xs t
  | 0 => rfl
  | t + 1 => by
    subst hn
    rw [permB_step, rowT, perm_row rfl t, hasAt, inR, part_zero]
theorem perm_wish {xs : List Int} {n : Int} (hn : (xs.length : Int) = n) : permB xs xs.length = wishL n xs := perm_row hn _

/-! ## Lists without repetition -/
def dist (xs : List Int) : Prop := ∀ i j, i < j → j < xs.length → xs.getD i 0 ≠ xs.getD j 0
theorem dist_of {n : Int} {xs : List Int} (h : wishL n xs = true) : (∀ k, k < xs.length → 0 ≤ xs.getD k 0 ∧ xs.getD k 0 < n) ∧ dist xs := by
  have key : ∀ t, t ≤ xs.length → rowT n xs t = true → ∀ k, k < t → inR n (xs.getD k 0) = true ∧ hasAt xs k = false := fun t => by
    induction t with
    | zero => intro _ _ k hk; omega
    | succ t ih =>
      intro ht hr k hk
      simp only [rowT, Bool.and_eq_true, Bool.not_eq_true'] at hr
      by_cases e : k = t
      · subst e; exact hr.2
      · exact ih (by omega) hr.1 k (by omega)
  have hk := key _ (Nat.le_refl _) h
  refine ⟨fun k hl => ?_, fun i j hij hj e => ?_⟩
  · have := (hk k hl).1
    simp only [inR, decide_eq_true_eq] at this
    omega
  · have h2 := (hk j hj).2
    rw [hasAt, part_zero, ← e] at h2
    have : (xs.take j).contains (xs.getD i 0) = true := by
      rw [List.contains_iff_mem]
      refine List.mem_of_getElem? (i := i) ?_
      rw [List.getElem?_take, if_pos hij, getD_at (by omega)]
      exact List.getElem?_eq_getElem _
    rw [this] at h2; cases h2
theorem pigeon : ∀ (n : Nat) (l : List Int), (∀ x ∈ l, 0 ≤ x ∧ x < n) → l.Nodup → l.length ≤ n
  | 0, [], _, _ => Nat.le_refl _
  | 0, x :: l, h, _ => by have := h x (by simp); omega
  | n + 1, l, h, hd => by
    have h1 := pigeon n (l.filter fun x => decide (x ≠ (n : Int))) (fun x hx => by
      simp only [List.mem_filter, decide_eq_true_eq] at hx
      have := h x hx.1
      omega) (hd.filter _)
    have h2 : l.length ≤ (l.filter fun x => decide (x ≠ (n : Int))).length + 1 := by
      clear h h1
      induction l with
      | nil => simp
      | cons a l ih =>
        have hc := List.nodup_cons.1 hd
        by_cases e : a = (n : Int)
        · have : l.filter (fun x => decide (x ≠ (n : Int))) = l := by
            rw [List.filter_eq_self]
            intro x hx
            simp only [decide_eq_true_eq]
            intro e2
            exact hc.1 (by rw [e, ← e2]; exact hx)
          rw [List.filter_cons_of_neg (by simp [e]), this]
          simp
        · rw [List.filter_cons_of_pos (by simp [e])]
          have := ih hc.2
          simp only [List.length_cons]; omega
    omega
theorem dist_nodup {xs : List Int} (h : dist xs) : xs.Nodup := by
  rw [List.Nodup, List.pairwise_iff_getElem]
  intro i j hi hj hij
  have := h i j hij hj
  rwa [getD_at hi, getD_at hj] at this
/-! ## Friends -/
/-! ## Rooms -/
theorem rng_step {f : Nat → Bool} {s : Nat} (h : (List.range s).all f = true) (hf : f s = true) : (List.range (s + 1)).all f = true := range_all_step h hf
theorem rng_no {f : Nat → Bool} {s n : Nat} (hs : s < n) (hf : f s = false) : (List.range n).all f = false := by
  rw [List.all_eq_false]; exact ⟨s, List.mem_range.2 hs, by simp [hf]⟩
end Go.Am
