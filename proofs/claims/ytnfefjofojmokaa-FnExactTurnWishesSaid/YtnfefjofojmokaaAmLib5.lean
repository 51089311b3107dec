/-
  The abstract heap: plain laws of votes. General: no program is named.
-/
import Derived.Test.YtnfefjofojmokaaAmLib4
namespace Go.Am
set_option linter.unusedSimpArgs false
set_option linter.unusedVariables false

def votesV (p : Int) (xs : List Int) : Bool := isW 10000 p xs && xs.all (fun n => decide (0 ≤ n ∧ n ≤ 1)) && decide (xs.getD (xs.length - 1) 0 = 1)
theorem votesV_get {p : Int} {xs : List Int} (h : votesV p xs = true) : isW 10000 p xs = true := by
  simp only [votesV, Bool.and_eq_true] at h
  exact h.1.1
/-- All won sets before s have a player. -/
def vetoS (xs : List Int) (i n : Nat) : Bool := (List.range n).all fun s => !decide (xs.getD s 0 = 1) || s.testBit i
theorem vetoS_step {xs : List Int} {i s : Nat} : vetoS xs i (s + 1) = (vetoS xs i s && (!decide (xs.getD s 0 = 1) || s.testBit i)) := by
  rw [vetoS, List.range_succ, List.all_append]; simp [vetoS]
theorem vetoS_keep {xs : List Int} {i s : Nat} (h : ¬ xs.getD s 0 = 1 ∨ s.testBit (i : Int).toNat = true) : vetoS xs i (s + 1) = vetoS xs i s := by
  rw [Int.toNat_natCast] at h
  rw [vetoS_step]
  rcases h with h | h
  · rw [decide_eq_false h]; simp
  · rw [h]; simp
theorem vetoS_no {xs : List Int} {i s : Nat} (h1 : xs.getD s 0 = 1) (h2 : s.testBit (i : Int).toNat = false) : vetoS xs i (s + 1) = false := by
  rw [Int.toNat_natCast] at h2
  rw [vetoS_step, h2, decide_eq_true h1]; simp
def vetoF (xs : List Int) (i : Nat) : Bool := vetoS xs i xs.length
/-- The numbers below n of which something holds. -/
def fltL (f : Nat → Bool) (n : Nat) : List Int := ((List.range n).filter f).map fun (i : Nat) => (i : Int)
theorem fltL_in {f : Nat → Bool} {s : Nat} (h : f s = true) : fltL f (s + 1) = fltL f s ++ [(s : Int)] := by
  rw [fltL, fltL, List.range_succ, List.filter_append, List.map_append]; simp [h]
theorem fltL_out {f : Nat → Bool} {s : Nat} (h : f s = false) : fltL f (s + 1) = fltL f s := by
  rw [fltL, fltL, List.range_succ, List.filter_append, List.map_append]; simp [h]
theorem fltL_le {f : Nat → Bool} {s : Nat} : (fltL f s).length ≤ s := by
  rw [fltL, List.length_map]
  have := List.length_filter_le f (List.range s)
  simpa using this
def bothS (xs : List Int) : Nat → Nat
  | 0 => xs.length - 1
  | s + 1 => if xs.getD s 0 = 1 then bothS xs s &&& s else bothS xs s
theorem bothS_in {xs : List Int} {s : Nat} (h : xs.getD s 0 = 1) : bothS xs (s + 1) = bothS xs s &&& s := by rw [bothS, if_pos h]
theorem bothS_out {xs : List Int} {s : Nat} (h : ¬ xs.getD s 0 = 1) : bothS xs (s + 1) = bothS xs s := by rw [bothS, if_neg h]
theorem bothS_le {xs : List Int} : ∀ s, bothS xs s ≤ xs.length - 1
  | 0 => Nat.le_refl _
  | s + 1 => by
    have := bothS_le (xs := xs) s
    rw [bothS]
    split
    · exact Nat.le_trans Nat.and_le_left this
    · exact this
theorem both_bit {xs : List Int} {p i : Nat} (hx : xs.length = 2 ^ p) (hi : i < p) : ∀ s, (bothS xs s).testBit i = vetoS xs i s
  | 0 => by
    rw [bothS, hx, Nat.testBit_two_pow_sub_one, decide_eq_true hi]; rfl
  | s + 1 => by
    have ih := both_bit hx hi s
    by_cases h : xs.getD s 0 = 1
    · rw [bothS_in h, Nat.testBit_and, ih, vetoS_step, decide_eq_true h]; rfl
    · rw [bothS_out h, ih, vetoS_keep (.inl h)]
theorem both_veto {xs : List Int} {p : Int} {i : Nat} {b : Bool} (hx : xs.length = 2 ^ p.toNat) (hi : (i : Int) < p) (h : (bothS xs xs.length).testBit (i : Int).toNat = b) : vetoF xs i = b := by
  rw [Int.toNat_natCast] at h
  rw [vetoF, ← both_bit hx (by omega)]; exact h

/-! ## Least winners -/
/-- A set wins, and none of it without one of the first n players does. -/
def leastS (xs : List Int) (s n : Nat) : Bool := decide (xs.getD s 0 = 1) && (List.range n).all fun i => !(s.testBit i && decide (xs.getD (s - 2 ^ i) 0 = 1))
theorem leastS_step {xs : List Int} {s n : Nat} : leastS xs s (n + 1) = (leastS xs s n && !(s.testBit n && decide (xs.getD (s - 2 ^ n) 0 = 1))) := by
  rw [leastS, leastS, List.range_succ, List.all_append, Bool.and_assoc]; simp
theorem leastS_keep {xs : List Int} {s n : Nat} (h : s.testBit (n : Int).toNat = false ∨ ¬ xs.getD (s - 2 ^ (n : Int).toNat) 0 = 1) : leastS xs s (n + 1) = leastS xs s n := by
  rw [Int.toNat_natCast] at h
  rw [leastS_step]
  rcases h with h | h
  · rw [h]; simp
  · rw [decide_eq_false h]; simp
theorem leastS_no {xs : List Int} {s n : Nat} (h1 : s.testBit (n : Int).toNat = true) (h2 : xs.getD (s - 2 ^ (n : Int).toNat) 0 = 1) : leastS xs s (n + 1) = false := by
  rw [Int.toNat_natCast] at h1 h2
  rw [leastS_step, h1, decide_eq_true h2]; simp
theorem leastS_zero {xs : List Int} {s : Nat} : leastS xs s 0 = decide (xs.getD s 0 = 1) := by simp [leastS]
def leastF (xs : List Int) (p : Int) (s : Nat) : Bool := leastS xs s p.toNat
/-- What drops out where one player leaves. -/
def dropG (xs : List Int) (s : Nat) (i : Int) : Bool := s.testBit i.toNat && decide (xs.getD (s - 2 ^ i.toNat) 0 = 1)
def cntL (n : Nat) : List Int := (List.range n).map fun (i : Nat) => (i : Int)
theorem cntL_len {n : Nat} : (cntL n).length = n := by simp [cntL]
theorem cntL_get {n k : Nat} (h : k < n) : (cntL n).getD k 0 = (k : Int) := map_get (f := fun (i : Nat) => (i : Int)) h
/-- The first place of which something holds, before n; -1 for none. -/
def idxTo (g : Int → Bool) (ys : List Int) : Nat → Int
  | 0 => -1
  | n + 1 => if 0 ≤ idxTo g ys n then idxTo g ys n else if g (ys.getD n 0) then (n : Int) else -1
theorem idxTo_none {g : Int → Bool} {ys : List Int} {s : Nat} (h : idxTo g ys s = -1) (hg : g (ys.getD s 0) = false) : idxTo g ys (s + 1) = -1 := by
  rw [idxTo, h, if_neg (by omega), if_neg (by rw [hg]; decide)]
theorem idxTo_some {g : Int → Bool} {ys : List Int} {s : Nat} (h : idxTo g ys s = -1) (hg : g (ys.getD s 0) = true) : ∀ n, s + 1 ≤ n → idxTo g ys n = (s : Int)
  | 0, hn => by omega
  | n + 1, hn => by
    by_cases e : n = s
    · subst e; rw [idxTo, h, if_neg (by omega), if_pos hg]
    · rw [idxTo, idxTo_some h hg n (by omega), if_pos (by omega)]
theorem idxTo_lt {g : Int → Bool} {ys : List Int} : ∀ n, (0 ≤ idxTo g ys n → ∃ k, k < n ∧ g (ys.getD k 0) = true ∧ idxTo g ys n = (k : Int)) ∧ (idxTo g ys n < 0 → ∀ k, k < n → g (ys.getD k 0) = false)
  | 0 => ⟨fun h => by simp [idxTo] at h, fun _ k hk => by omega⟩
  | n + 1 => by
    obtain ⟨h1, h2⟩ := idxTo_lt (g := g) (ys := ys) n
    rw [idxTo]
    by_cases h : 0 ≤ idxTo g ys n
    · rw [if_pos h]
      obtain ⟨k, hk, hg, he⟩ := h1 h
      exact ⟨fun _ => ⟨k, by omega, hg, he⟩, fun h9 => by omega⟩
    · rw [if_neg h]
      by_cases hg : g (ys.getD n 0) = true
      · rw [if_pos hg]
        exact ⟨fun _ => ⟨n, by omega, hg, rfl⟩, fun h9 => by omega⟩
      · rw [if_neg hg]
        refine ⟨fun h9 => by omega, fun _ k hk => ?_⟩
        by_cases e : k = n
        · subst e; simpa using hg
        · exact h2 (by omega) k (by omega)
theorem least_idx {xs : List Int} {p : Int} {s : Nat} (h1 : xs.getD s 0 = 1) : leastF xs p s = !decide (0 ≤ idxTo (dropG xs s) (cntL p.toNat) p.toNat) := by
  obtain ⟨a, b⟩ := idxTo_lt (g := dropG xs s) (ys := cntL p.toNat) p.toNat
  by_cases h : 0 ≤ idxTo (dropG xs s) (cntL p.toNat) p.toNat
  · rw [decide_eq_true h]
    obtain ⟨k, hk, hg, -⟩ := a h
    rw [cntL_get hk] at hg
    simp only [dropG, Int.toNat_natCast, Bool.and_eq_true, decide_eq_true_eq] at hg
    have : (List.range p.toNat).all (fun i => !(s.testBit i && decide (xs.getD (s - 2 ^ i) 0 = 1))) = false :=
      List.all_eq_false.2 ⟨k, List.mem_range.2 hk, by rw [hg.1, decide_eq_true hg.2]; decide⟩
    rw [leastF, leastS, this, Bool.and_false]; rfl
  · rw [decide_eq_false h, leastF, leastS, decide_eq_true h1, Bool.true_and]
    refine List.all_eq_true.2 fun k hk => ?_
    have hk' := List.mem_range.1 hk
    have hg := b (by omega) k hk'
    rw [cntL_get hk'] at hg
    simp only [dropG, Int.toNat_natCast] at hg
    rw [hg]; rfl

end Go.Am
