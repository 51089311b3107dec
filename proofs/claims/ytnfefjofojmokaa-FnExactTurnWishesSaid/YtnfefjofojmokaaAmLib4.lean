/-
  The abstract heap: plain laws of parts of things, of envy and of rents. General: no program is named.
-/
import Derived.Test.YtnfefjofojmokaaAmLib3
namespace Go.Am
set_option linter.unusedSimpArgs false
set_option linter.unusedVariables false

theorem allN_yes {b : Bool} {p : Int} {s : Nat} {F : Nat → Nat → Bool} (hb : b = true) (h : (List.range s).all (fun a => (List.range p.toNat).all (F a)) = true) (hs : ¬ (s : Int) < p) : true = (b && allN p.toNat F) := by
  rw [hb, Bool.true_and]; exact (rise_row h hs).symm
theorem allN_off {b : Bool} {p : Int} {s t : Nat} {F : Nat → Nat → Bool} (hs : (s : Int) < p) (ht : (t : Int) < p) (h : F s t = false) : false = (b && allN p.toNat F) := by
  rw [allN_no (s := s) (t := t) (by omega) (by omega) h, Bool.and_false]
def all1 (n : Nat) (F : Nat → Bool) : Bool := (List.range n).all F
theorem all1_yes {b : Bool} {p : Int} {s : Nat} {F : Nat → Bool} (hb : b = true) (h : (List.range s).all F = true) (hs : ¬ (s : Int) < p) : true = (b && all1 p.toNat F) := by
  rw [hb, Bool.true_and]; exact (rise_row h hs).symm
theorem all1_off {b : Bool} {p : Int} {s : Nat} {F : Nat → Bool} (hs : (s : Int) < p) (h : F s = false) : false = (b && all1 p.toNat F) := by
  have : all1 p.toNat F = false := List.all_eq_false.2 ⟨s, List.mem_range.2 (by omega), by rw [h]; decide⟩
  rw [this, Bool.and_false]

/-! ## Even shares -/
def rowS (xs : List Int) (q i : Int) : Nat → Int
  | 0 => 0
  | k + 1 => IntKind.i64.wrap (rowS xs q i k + xs.getD (i * q + (k : Int)).toNat 0)
theorem part_get {xs : List Int} {l r k : Nat} (hk : k < r - l) : (part xs l r).getD k 0 = xs.getD (l + k) 0 := by
  rw [part, List.getD_eq_getElem?_getD, List.getD_eq_getElem?_getD, List.getElem?_take_of_lt hk, List.getElem?_drop]
theorem rowS_sum {xs : List Int} {q i : Int} (h0 : 0 ≤ i * q) (h1 : (i + 1) * q ≤ xs.length) (hq : 0 ≤ q) : ∀ k : Nat, (k : Int) ≤ q → rowS xs q i k = sumW ((part xs (i * q).toNat ((i + 1) * q).toNat).take k)
  | 0, _ => rfl
  | k + 1, hk => by
    have e : (i + 1) * q = i * q + q := by rw [Int.add_mul, Int.one_mul]
    have hl : (part xs (i * q).toNat ((i + 1) * q).toNat).length = ((i + 1) * q).toNat - (i * q).toNat := part_len (by omega) (by omega)
    rw [rowS, rowS_sum h0 h1 hq k (by omega), ← sumW_step (by omega), part_get (by omega)]
    have : (i * q + (k : Int)).toNat = (i * q).toNat + k := by omega
    rw [this]
theorem rowS_eq {xs : List Int} {q i : Int} (h0 : 0 ≤ i * q) (h1 : (i + 1) * q ≤ xs.length) (hq : 0 ≤ q) : rowS xs q i q.toNat = sumW (part xs (i * q).toNat ((i + 1) * q).toNat) := by
  have e : (i + 1) * q = i * q + q := by rw [Int.add_mul, Int.one_mul]
  have hl : (part xs (i * q).toNat ((i + 1) * q).toNat).length = ((i + 1) * q).toNat - (i * q).toNat := part_len (by omega) (by omega)
  rw [rowS_sum h0 h1 hq _ (by omega), List.take_of_length_le (by omega)]
def evenS (p q : Int) (xs os : List Int) (i : Nat) : Bool := decide (¬ IntKind.i64.wrap (ownF xs os q i * p) < sumW (part xs ((i : Int) * q).toNat (((i : Int) + 1) * q).toNat))

/-! ## The greatest of a list -/
def maxTo (l : List Int) : Nat → Int
  | 0 => l.getD 0 0
  | n + 1 => max (maxTo l n) (l.getD n 0)
theorem maxTo_one {l : List Int} : maxTo l 1 = l.getD 0 0 := by
  show max (l.getD 0 0) (l.getD 0 0) = _
  omega
theorem maxTo_le {l : List Int} : ∀ n, 0 < n → (maxTo l n ≤ 0 ↔ ∀ k, k < n → l.getD k 0 ≤ 0)
  | 0, h => by omega
  | 1, _ => by
    rw [maxTo_one]
    exact ⟨fun h k hk => by have : k = 0 := by omega
                            subst this; exact h, fun h => h 0 (by omega)⟩
  | n + 2, _ => by
    have ih := maxTo_le (l := l) (n + 1) (by omega)
    rw [maxTo]
    constructor
    · intro h k hk
      by_cases e : k = n + 1
      · subst e; omega
      · exact ih.1 (by omega) k (by omega)
    · intro h
      have h1 := ih.2 fun k hk => h k (by omega)
      have h2 := h (n + 1) (by omega)
      omega
def noneB (l : List Int) : Bool := l.all fun x => decide (x ≤ 0)
theorem noneB_max {l : List Int} (h : 0 < l.length) : noneB l = decide (maxTo l l.length ≤ 0) := by
  by_cases c : maxTo l l.length ≤ 0
  · rw [decide_eq_true c]
    refine List.all_eq_true.2 fun x hx => decide_eq_true ?_
    obtain ⟨k, hk, rfl⟩ := List.getElem_of_mem hx
    have := (maxTo_le _ h).1 c k hk
    rwa [getD_at hk] at this
  · rw [decide_eq_false c]
    refine Bool.eq_false_iff.2 fun hh => c ((maxTo_le _ h).2 fun k hk => ?_)
    rw [getD_at hk]
    exact of_decide_eq_true (List.all_eq_true.1 hh _ (List.getElem_mem hk))
theorem noneB_no {l : List Int} {s : Nat} (hs : s < l.length) (h : 0 < l.getD s 0) : noneB l = false := all_false (p := fun x => decide (x ≤ 0)) hs (decide_eq_false (by omega))

/-! ## Rents -/
def rentV (p q : Int) (xs os ps : List Int) : Bool := validV p q xs && decide (p = q) && decide ((os.length : Int) = p) && permB os os.length && (decide ((ps.length : Int) = p) && ps.all fun n => decide (-1000000000 ≤ n ∧ n ≤ 1000000000))
theorem perm_all {os : List Int} {n : Int} (hn : (os.length : Int) = n) (h : permB os os.length = true) : os.all (fun x => decide (0 ≤ x ∧ x ≤ n - 1)) = true := by
  refine List.all_eq_true.2 fun x hx => decide_eq_true ?_
  obtain ⟨k, hk, rfl⟩ := List.getElem_of_mem hx
  have := (permB_get h hk).1
  rw [getD_at hk] at this
  omega
def rentF (xs ps : List Int) (p q i j : Int) : Int := IntKind.i64.wrap (IntKind.i64.wrap (xs.getD (i * q + j).toNat 0 * p) - ps.getD j.toNat 0)
def fairS (xs os ps : List Int) (p q : Int) (i j : Nat) : Bool := decide (¬ rentF xs ps p q i (os.getD i 0) < rentF xs ps p q i j)
theorem rent_noO {p q : Int} {xs os ps : List Int} (hpq : p = q) (c : (os.all (fun n => decide (0 ≤ n ∧ n ≤ p - 1)) && decide ((os.length : Int) = q)) = false) : rentV p q xs os ps = false := by
  refine Bool.eq_false_iff.2 fun h => ?_
  simp only [rentV, Bool.and_eq_true, decide_eq_true_eq] at h
  have h1 : (os.length : Int) = p := h.1.1.2
  have h2 := perm_all h1 h.1.2
  rw [h2, decide_eq_true (by omega)] at c
  cases c
theorem rent_noL {p q : Int} {xs os ps : List Int} (c : ¬ (ps.length : Int) = os.length) : rentV p q xs os ps = false := by
  refine Bool.eq_false_iff.2 fun h => ?_
  simp only [rentV, Bool.and_eq_true, decide_eq_true_eq] at h
  have h1 : (os.length : Int) = p := h.1.1.2
  have h2 : (ps.length : Int) = p := h.2.1
  omega
theorem rent_noP {p q : Int} {xs os ps : List Int} {s : Nat} (hs : s < ps.length) (c : decide (-1000000000 ≤ ps.getD s 0 ∧ ps.getD s 0 ≤ 1000000000) = false) : rentV p q xs os ps = false := by
  rw [rentV, all_false (p := fun n => decide (-1000000000 ≤ n ∧ n ≤ 1000000000)) hs c]; simp
theorem has_step {ys : List Int} {s : Nat} {x : Int} (hs : s < ys.length) (h : (ys.take s).contains x = false) (c : ¬ ys.getD s 0 = x) : (ys.take (s + 1)).contains x = false := by
  rw [← take_app hs, List.contains_append, h]
  generalize ys.getD s 0 = y at c
  have : ¬ x = y := fun e => c e.symm
  simp [this]
theorem has_yes {ys : List Int} {s : Nat} {x : Int} (hs : s < ys.length) (c : ys.getD s 0 = x) : ys.contains x = true := by
  rw [List.contains_iff_mem, ← c, getD_at hs]
  exact List.getElem_mem hs
theorem part_zero {xs : List Int} {s : Nat} : part xs 0 s = xs.take s := by simp [part]
theorem rent_many {n : Int} {ps : List Int} (c : (decide (n ≤ ps.length ∧ (ps.length : Int) ≤ n) && ps.all fun x => decide (-1000000000 ≤ x ∧ x ≤ 1000000000)) = false) : (decide ((ps.length : Int) = n) && ps.all fun x => decide (-1000000000 ≤ x ∧ x ≤ 1000000000)) = false := by
  rcases Bool.and_eq_false_iff.1 c with c | c
  · rw [decide_eq_false (by have := of_decide_eq_false c; omega)]; rfl
  · rw [c]; simp
/-- The first s rooms are each there once, and the first s prices are right. -/
def roomsB (os ps : List Int) (s : Nat) : Bool := (List.range s).all fun t => !(os.take t).contains (os.getD t 0) && decide (-1000000000 ≤ ps.getD t 0 ∧ ps.getD t 0 ≤ 1000000000)
theorem roomsB_step {os ps : List Int} {s : Nat} (h : roomsB os ps s = true) (h1 : (os.take s).contains (os.getD s 0) = false) (h2 : decide (-1000000000 ≤ ps.getD s 0 ∧ ps.getD s 0 ≤ 1000000000) = true) : roomsB os ps (s + 1) = true :=
  range_all_step h (by rw [h1, h2]; rfl)
theorem rooms_yes {os ps : List Int} {n : Int} (hn : (os.length : Int) = n) (hp : ps.length = os.length) (ha : os.all (fun x => decide (0 ≤ x ∧ x ≤ n - 1)) = true) (h : roomsB os ps os.length = true) : permB os os.length = true ∧ (decide ((ps.length : Int) = n) && ps.all fun x => decide (-1000000000 ≤ x ∧ x ≤ 1000000000)) = true := by
  have hg : ∀ t, t < os.length → (os.take t).contains (os.getD t 0) = false ∧ decide (-1000000000 ≤ ps.getD t 0 ∧ ps.getD t 0 ≤ 1000000000) = true := fun t ht => by
    have := List.all_eq_true.1 h t (List.mem_range.2 ht)
    simpa only [Bool.and_eq_true, Bool.not_eq_true'] using this
  refine ⟨List.all_eq_true.2 fun t ht => ?_, ?_⟩
  · have ht' := List.mem_range.1 ht
    have h1 := all_get ha ht'
    rw [(hg t ht').1, hn, h1]; rfl
  · rw [decide_eq_true (by omega), Bool.true_and]
    refine List.all_eq_true.2 fun x hx => ?_
    obtain ⟨k, hk, rfl⟩ := List.getElem_of_mem hx
    have := (hg k (by omega)).2
    rwa [getD_at hk] at this
theorem rooms_noP {os : List Int} {s : Nat} (hs : s < os.length) (h : (os.take s).contains (os.getD s 0) = true) : permB os os.length = false := permB_no hs (by rw [h]; simp)
theorem rentV_get {p q : Int} {xs os ps : List Int} (h : rentV p q xs os ps = true) : validV p q xs = true ∧ p = q ∧ (os.length : Int) = p ∧ permB os os.length = true ∧ (ps.length : Int) = p := by
  simp only [rentV, Bool.and_eq_true, decide_eq_true_eq] at h
  exact ⟨h.1.1.1.1, h.1.1.1.2, h.1.1.2, h.1.2, h.2.1⟩

end Go.Am
