/-
  The abstract heap: what the walks of houses by rings need. General: no program is named.
-/
import Derived.Test.YtnbpakikglpkcaaAmLib22
namespace Go.Am
set_option linter.unusedSimpArgs false
set_option linter.unusedVariables false
theorem lists_cells {h : AHeap} {v : Value} {xss : List (List Int)} (hv : Lists h v xss) : v.cells.toList = [v] := by
  rcases hv with ⟨rfl, _⟩ | ⟨k, off, ver, cap, o, rfl, _⟩ <;> rfl
theorem free_idx {L : List Bool} {n : Nat} (hn : L.length = n) : decide (0 ≤ idxTo (leftG L) (cntL n) n) = decide (0 < freeB L) := by
  obtain ⟨h1, h2⟩ := idxTo_lt (g := leftG L) (ys := cntL n) n
  by_cases c : 0 ≤ idxTo (leftG L) (cntL n) n
  · obtain ⟨k, hk, hg, _⟩ := h1 c
    rw [cntL_get hk] at hg
    have := un_free1 (L := L) (k := k) hg
    rw [decide_eq_true c, decide_eq_true (by omega)]
  · rw [decide_eq_false c, decide_eq_false]
    intro hf
    obtain ⟨k, hk, hk2⟩ := free_at hf
    have := h2 (by omega) k (by omega)
    rw [cntL_get (by omega), leftG, show ((k : Int)).toNat = k from rfl, hk2] at this
    cases this
theorem cnt_left {L : List Bool} {n t : Nat} (h : t < n) : leftG L ((cntL n).getD t 0) = L.getD t false := by rw [cntL_get h]; rfl
theorem freeB_le {L : List Bool} : freeB L ≤ L.length := List.countP_le_length
theorem in_no1 {xss : List (List Int)} {L : List Bool} {t : Nat} (h : L.getD t false = false) : inH xss L (t : Int) = false := by
  rw [inH, show ((t : Int)).toNat = t from rfl, h]; rfl
theorem in_no2 {xss : List (List Int)} {L : List Bool} {t : Nat} {a : Int} (hs : seekH (dearI xss L) t xss.length (dearI xss L t) = a) (h : ¬ a = (t : Int)) : inH xss L (t : Int) = false := by
  rw [inH, hs, decide_eq_false h, Bool.and_false]
theorem in_yes {xss : List (List Int)} {L : List Bool} {t : Nat} {a : Int} (hl : L.getD t false = true) (hs : seekH (dearI xss L) t xss.length (dearI xss L t) = a) (h : a = (t : Int)) : inH xss L (t : Int) = true := by
  rw [inH, hs, decide_eq_true h, show ((t : Int)).toNat = t from rfl, hl]; rfl
theorem seek_end1 {f : Int → Int} {i a S : Int} {k : Nat} (h : seekH f i k a = S) (c : a = i) : S = a := by subst c; rw [← h, seek_here]
theorem seek_end2 {f : Int → Int} {i a S : Int} {k : Nat} (h : seekH f i k a = S) (c : k = 0) : S = a := by subst c; exact h.symm
theorem seek_next {f : Int → Int} {i a S : Int} {n j : Nat} (h : seekH f i (n - j) a = S) (hj : j < n) (c : ¬ a = i) : seekH f i (n - (j + 1)) (f a) = S := by
  rw [← h, show n - j = n - (j + 1) + 1 by omega, seek_on c]
/-- The first that is left, so far. -/
def pfH (xs : List Int) (L : List Bool) (t : Nat) : Int := if idxTo (leftG L) xs t < 0 then -1 else xs.getD (idxTo (leftG L) xs t).toNat 0
theorem pf_neg {xs : List Int} {L : List Bool} {t n : Nat} (hb : ∀ k, k < xs.length → 0 ≤ xs.getD k 0 ∧ xs.getD k 0 < n) (ht : t ≤ xs.length) (h : pfH xs L t < 0) : idxTo (leftG L) xs t = -1 := by
  have h1 := idxTo_bnd (g := leftG L) (xs := xs) t
  rw [pfH] at h
  split at h
  · omega
  · have := hb (idxTo (leftG L) xs t).toNat (by omega)
    omega
theorem pf_hit {xs : List Int} {L : List Bool} {t : Nat} (h : idxTo (leftG L) xs t = -1) (hg : leftG L (xs.getD t 0) = true) : xs.getD t 0 = pfH xs L (t + 1) := by
  rw [pfH, idxTo_some h hg (t + 1) (Nat.le_refl _), if_neg (by omega)]; rfl
theorem pf_miss {xs : List Int} {L : List Bool} {t : Nat} (h : idxTo (leftG L) xs t = -1) (hg : leftG L (xs.getD t 0) = false) : pfH xs L t = pfH xs L (t + 1) := by
  rw [pfH, pfH, h, idxTo_none h hg]
theorem pf_keep {xs : List Int} {L : List Bool} {t : Nat} (h : ¬ pfH xs L t < 0) : pfH xs L t = pfH xs L (t + 1) := by
  have h1 := idxTo_bnd (g := leftG L) (xs := xs) t
  rw [pfH] at h
  split at h
  · omega
  · rename_i hc
    have e : idxTo (leftG L) xs (t + 1) = idxTo (leftG L) xs t := by rw [idxTo, if_pos (by omega)]
    rw [pfH, pfH, e]
theorem pf_full {xs : List Int} {L : List Bool} (h : 0 ≤ idxTo (leftG L) xs xs.length) : pfH xs L xs.length = dearT xs L := by rw [pfH, if_neg (by omega), dearT]
def dearF (xss : List (List Int)) (L : List Bool) (s : Nat) : Int := dearI xss L (s : Int)
theorem dearF_get {xss : List (List Int)} {L : List Bool} {n : Nat} {a : Int} (h : 0 ≤ a ∧ a < (n : Int)) : (fillZ (dearF xss L) n n).getD a.toNat 0 = dearI xss L a := by
  rw [fillZ_full rfl, map_get (show a.toNat < n by omega), dearF, show ((a.toNat : Nat) : Int) = a by omega]
theorem dearF_getN {xss : List (List Int)} {L : List Bool} {n t : Nat} (h : t < n) : (fillZ (dearF xss L) n n).getD t 0 = dearI xss L (t : Int) := by
  rw [fillZ_full rfl, map_get h, dearF]
theorem dearF_pf {xss : List (List Int)} {os : List Int} (h : OkR xss os) {s : Nat} (hs : s < xss.length) : pfH (rowAt xss s) (lftH os) (rowAt xss s).length = dearF xss (lftH os) s := by
  have := dear_on h (i := (s : Int)) ⟨by omega, by omega⟩
  rw [show ((s : Int)).toNat = s from rfl] at this
  rw [pf_full this.1]; rfl
theorem lft_at {os : List Int} {x : Int} (h : x.toNat < os.length) : leftG (lftH os) x = decide (os.getD x.toNat 0 < 0) := by rw [leftG, lft_get h]
theorem rep_step {n : Nat} {x : Int} : List.replicate n x ++ [x] = List.replicate (n + 1) x := by rw [List.replicate_succ']
theorem free_start {n : Nat} : freeB (lftH (List.replicate n (-1))) = n := by rw [lft_new]; simp [freeB, List.countP_replicate]
end Go.Am
