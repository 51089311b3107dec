/-
  The abstract heap: plain laws of friends and rooms. General: no program is named.
-/
import Derived.Test.YtnfefjofojmokaaAmLib14
namespace Go.Am
set_option linter.unusedSimpArgs false
set_option linter.unusedVariables false
/-! ## Places -/
def plc (xs : List Int) (x : Int) : Int := if 0 ≤ idxI xs x then idxI xs x else xs.length
theorem plc_yes {xs : List Int} {x : Int} (h : 0 ≤ idxI xs x) : idxI xs x = plc xs x := by rw [plc, if_pos h]
theorem plc_no {xs : List Int} {x : Int} (h : ¬ 0 ≤ idxI xs x) : (xs.length : Int) = plc xs x := by rw [plc, if_neg h]
theorem plc_at {xs : List Int} {x : Int} {s : Nat} (h : idxTo (fun y => decide (x = y)) xs xs.length = (s : Int)) : (s : Int) = plc xs x := by
  have h' : idxI xs x = (s : Int) := h
  rw [plc, h', if_pos (by omega)]
theorem plc_none {xs : List Int} {x : Int} (h : idxTo (fun y => decide (x = y)) xs xs.length = -1) : (xs.length : Int) = plc xs x := by
  have h' : idxI xs x = -1 := h
  rw [plc, h', if_neg (by omega)]
def dearB (xs : List Int) (a b : Int) : Bool := decide (plc xs a < plc xs b)
theorem dear_same {xs : List Int} {a : Int} : dearB xs a a = false := by rw [dearB, decide_eq_false (by omega)]

/-! ## Orders -/
theorem perm_row {xs : List Int} {n : Int} (hn : (xs.length : Int) = n) : ∀ t, permB xs t = rowT n xs t
  | 0 => rfl
  | t + 1 => by
    subst hn
    rw [permB_step, rowT, perm_row rfl t, hasAt, inR, part_zero]
theorem perm_wish {xs : List Int} {n : Int} (hn : (xs.length : Int) = n) : permB xs xs.length = wishL n xs := perm_row hn _

/-! ## Lists without repetition -/
def dist (xs : List Int) : Prop := ∀ i j, i < j → j < xs.length → xs.getD i 0 ≠ xs.getD j 0
theorem dist_of {n : Int} {xs : List Int} (h : wishL n xs = true) : (∀ k, k < xs.length → 0 ≤ xs.getD k 0 ∧ xs.getD k 0 < n) ∧ dist xs := by
  have key : ∀ t, t ≤ xs.length → rowT n xs t = true → ∀ k, k < t → inR n (xs.getD k 0) = true ∧ hasAt xs k = false := fun t => by
    induction t with
    | zero => intro _ _ k hk; omega
    | succ t ih =>
      intro ht hr k hk
      simp only [rowT, Bool.and_eq_true, Bool.not_eq_true'] at hr
      by_cases e : k = t
      · subst e; exact hr.2
      · exact ih (by omega) hr.1 k (by omega)
  have hk := key _ (Nat.le_refl _) h
  refine ⟨fun k hl => ?_, fun i j hij hj e => ?_⟩
  · have := (hk k hl).1
    simp only [inR, decide_eq_true_eq] at this
    omega
  · have h2 := (hk j hj).2
    rw [hasAt, part_zero, ← e] at h2
    have : (xs.take j).contains (xs.getD i 0) = true := by
      rw [List.contains_iff_mem]
      refine List.mem_of_getElem? (i := i) ?_
      rw [List.getElem?_take, if_pos hij, getD_at (by omega)]
      exact List.getElem?_eq_getElem _
    rw [this] at h2; cases h2
theorem pigeon : ∀ (n : Nat) (l : List Int), (∀ x ∈ l, 0 ≤ x ∧ x < n) → l.Nodup → l.length ≤ n
  | 0, [], _, _ => Nat.le_refl _
  | 0, x :: l, h, _ => by have := h x (by simp); omega
  | n + 1, l, h, hd => by
    have h1 := pigeon n (l.filter fun x => decide (x ≠ (n : Int))) (fun x hx => by
      simp only [List.mem_filter, decide_eq_true_eq] at hx
      have := h x hx.1
      omega) (hd.filter _)
    have h2 : l.length ≤ (l.filter fun x => decide (x ≠ (n : Int))).length + 1 := by
      clear h h1
      induction l with
      | nil => simp
      | cons a l ih =>
        have hc := List.nodup_cons.1 hd
        by_cases e : a = (n : Int)
        · have : l.filter (fun x => decide (x ≠ (n : Int))) = l := by
            rw [List.filter_eq_self]
            intro x hx
            simp only [decide_eq_true_eq]
            intro e2
            exact hc.1 (by rw [e, ← e2]; exact hx)
          rw [List.filter_cons_of_neg (by simp [e]), this]
          simp
        · rw [List.filter_cons_of_pos (by simp [e])]
          have := ih hc.2
          simp only [List.length_cons]; omega
    omega
theorem dist_nodup {xs : List Int} (h : dist xs) : xs.Nodup := by
  rw [List.Nodup, List.pairwise_iff_getElem]
  intro i j hi hj hij
  have := h i j hij hj
  rwa [getD_at hi, getD_at hj] at this
/-- All others are in a list of all others. -/
theorem all_others {n : Nat} {xs : List Int} {i k : Int} (hw : wishL n xs = true) (hl : (xs.length : Int) = (n : Int) - 1) (hi : 0 ≤ i ∧ i < n) (hni : xs.contains i = false) (hk : 0 ≤ k ∧ k < n) (hne : k ≠ i) : ∃ t, t < xs.length ∧ xs.getD t 0 = k := by
  obtain ⟨h1, h2⟩ := dist_of hw
  have hni' : i ∉ xs := fun hm => by rw [← Bool.not_eq_true, List.contains_iff_mem] at hni; exact hni hm
  by_cases hm : k ∈ xs
  · obtain ⟨t, ht, e⟩ := List.getElem_of_mem hm
    exact ⟨t, ht, by rw [getD_at ht]; exact e⟩
  · exfalso
    have := pigeon n (i :: k :: xs) (fun x hx => by
      simp only [List.mem_cons] at hx
      rcases hx with rfl | rfl | hx
      · exact hi
      · exact hk
      · obtain ⟨t, ht, rfl⟩ := List.getElem_of_mem hx
        have := h1 t ht
        rwa [getD_at ht] at this) (by
      rw [List.nodup_cons, List.nodup_cons]
      exact ⟨by simp [hni', hne.symm], hm, dist_nodup h2⟩)
    simp only [List.length_cons] at this
    omega

/-! ## Friends -/
def frow (n : Int) (xss : List (List Int)) (s : Nat) : Bool := wishL n (rowAt xss s) && (decide (((rowAt xss s).length : Int) = n - 1) && !(rowAt xss s).contains (s : Int))
def frA (n : Int) (xss : List (List Int)) (s : Nat) : Bool := (List.range s).all (frow n xss)
def okF (xss : List (List Int)) : Bool := decide (2 ≤ (xss.length : Int) ∧ (xss.length : Int) ≤ 8) && decide ((xss.length : Int) % 2 = 0) && frA xss.length xss xss.length
theorem frA_no {n : Int} {xss : List (List Int)} {s m : Nat} (hs : s < m) (h : frow n xss s = false) : frA n xss m = false := by
  rw [frA, List.all_eq_false]; exact ⟨s, List.mem_range.2 hs, by simp [h]⟩
theorem frow_1 {n : Int} {xss : List (List Int)} {s : Nat} (h : ¬ ((rowAt xss s).length : Int) = n - 1) : frow n xss s = false := by rw [frow, decide_eq_false h]; simp
theorem frow_2 {n : Int} {xss : List (List Int)} {s : Nat} (h : (rowAt xss s).contains (s : Int) = true) : frow n xss s = false := by rw [frow, h]; simp
theorem frow_3 {n : Int} {xss : List (List Int)} {s : Nat} (h : ((rowAt xss s).all fun x => decide (0 ≤ x ∧ x ≤ n - 1)) = false) : frow n xss s = false := by rw [frow, wishL_eq, h]; simp
theorem frow_4 {n : Int} {xss : List (List Int)} {s : Nat} (h : twiceT (rowAt xss s) (rowAt xss s).length = true) : frow n xss s = false := by rw [frow, wishL_eq, h]; simp
theorem frow_yes {n : Int} {xss : List (List Int)} {s : Nat} (h1 : ((rowAt xss s).length : Int) = n - 1) (h2 : ((rowAt xss s).all fun x => decide (0 ≤ x ∧ x ≤ n - 1)) = true) (h3 : twiceT (rowAt xss s) (rowAt xss s).length = false) (h4 : (rowAt xss s).contains (s : Int) = false) : frow n xss s = true := by
  rw [frow, wishL_eq, h2, h3, h4, decide_eq_true h1]; rfl
theorem frow_yes2 {n : Int} {xss : List (List Int)} {s : Nat} (hw : xss.all (wishL n) = true) (hs : s < xss.length) (h1 : ((rowAt xss s).length : Int) = n - 1) (h4 : (rowAt xss s).contains (s : Int) = false) : frow n xss s = true := by
  rw [frow, allL_get hw hs, h4, decide_eq_true h1]; rfl
theorem okF_no1 {xss : List (List Int)} (h : ¬ (2 ≤ (xss.length : Int) ∧ (xss.length : Int) ≤ 8)) : okF xss = false := by rw [okF, decide_eq_false h]; rfl
theorem okF_no2 {xss : List (List Int)} (h : ¬ (xss.length : Int) % 2 = 0) : okF xss = false := by rw [okF, decide_eq_false h]; simp
theorem okF_no3 {xss : List (List Int)} {s : Nat} (hs : s < xss.length) (h : frow xss.length xss s = false) : okF xss = false := by rw [okF, frA_no hs h]; simp
theorem okF_noW {xss : List (List Int)} (h : (xss.all (wishL xss.length) && decide ((xss.length : Int) = xss.length)) = false) : okF xss = false := by
  rw [decide_eq_true rfl, Bool.and_true] at h
  obtain ⟨r, hr, hw⟩ := List.all_eq_false.1 h
  obtain ⟨s, hs, rfl⟩ := List.getElem_of_mem hr
  refine okF_no3 hs ?_
  have e : rowAt xss s = xss[s] := by have := rowAt_some hs; rw [List.getElem?_eq_getElem hs, Option.some.injEq] at this; exact this.symm
  rw [frow, e]
  simp only [Bool.not_eq_true] at hw
  rw [hw]; rfl
theorem okF_yes {xss : List (List Int)} {s : Nat} (h1 : 2 ≤ (xss.length : Int) ∧ (xss.length : Int) ≤ 8) (h2 : (xss.length : Int) % 2 = 0) (hs : s = xss.length) (h3 : frA xss.length xss s = true) : okF xss = true := by
  subst hs; rw [okF, decide_eq_true h1, decide_eq_true h2, h3]; rfl
theorem okF_get {xss : List (List Int)} (h : okF xss = true) : (2 ≤ xss.length ∧ xss.length ≤ 8) ∧ ∀ s, s < xss.length → wishL xss.length (rowAt xss s) = true ∧ ((rowAt xss s).length : Int) = (xss.length : Int) - 1 ∧ (rowAt xss s).contains (s : Int) = false := by
  simp only [okF, Bool.and_eq_true, decide_eq_true_eq] at h
  refine ⟨by omega, fun s hs => ?_⟩
  have := List.all_eq_true.1 h.2 s (List.mem_range.2 hs)
  simp only [frow, Bool.and_eq_true, decide_eq_true_eq, Bool.not_eq_true'] at this
  exact ⟨this.1, this.2.1, this.2.2⟩

/-! ## Rooms -/
def pairB (os : List Int) (s : Nat) : Bool := decide (os.getD s 0 ≠ (s : Int)) && decide (os.getD (os.getD s 0).toNat 0 = (s : Int))
def rmV (xss : List (List Int)) (os : List Int) : Bool := okF xss && (decide ((os.length : Int) = xss.length) && wishL xss.length os) && (List.range os.length).all (pairB os)
def badP (xss : List (List Int)) (os : List Int) (i k : Int) : Bool := dearB (rowAt xss i.toNat) k (os.getD i.toNat 0) && dearB (rowAt xss k.toNat) i (os.getD k.toNat 0)
def keepR (xss : List (List Int)) (os : List Int) (s t : Nat) : Bool := !badP xss os (s : Int) ((rowAt xss s).getD t 0)
def keepB (xss : List (List Int)) (os : List Int) : Bool := (List.range xss.length).all fun s => (List.range (rowAt xss s).length).all (keepR xss os s)
def quietR (xss : List (List Int)) (os : List Int) (s t : Nat) : Bool := decide (s = t) || decide (os.getD s 0 = (t : Int)) || !badP xss os (s : Int) (t : Int)
def quietB (xss : List (List Int)) (os : List Int) : Bool := (List.range os.length).all fun s => (List.range os.length).all (quietR xss os s)
theorem keep_quiet {xss : List (List Int)} {os : List Int} (hF : okF xss = true) (hl : (os.length : Int) = xss.length) : keepB xss os = quietB xss os := by
  obtain ⟨hn, hrow⟩ := okF_get hF
  have key : keepB xss os = true ↔ quietB xss os = true := by
    simp only [keepB, quietB, List.all_eq_true, List.mem_range]
    constructor
    · intro h s hs t ht
      obtain ⟨r1, r2, r3⟩ := hrow s (by omega)
      simp only [quietR, Bool.or_eq_true, decide_eq_true_eq]
      by_cases e : s = t
      · exact .inl (.inl e)
      · right
        obtain ⟨j, hj, ej⟩ := all_others (n := xss.length) (k := (t : Int)) r1 r2 ⟨by omega, by omega⟩ r3 ⟨by omega, by omega⟩ (by omega)
        have := h s (by omega) j hj
        rwa [keepR, ej] at this
    · intro h s hs t ht
      obtain ⟨r1, r2, r3⟩ := hrow s hs
      have hb := (dist_of r1).1 t ht
      obtain ⟨k, hk⟩ : ∃ k : Nat, (rowAt xss s).getD t 0 = (k : Int) := ⟨_, (Int.toNat_of_nonneg hb.1).symm⟩
      have hne : s ≠ k := fun e => by
        subst e
        rw [has_yes ht hk] at r3; cases r3
      have := h s (by omega) k (by omega)
      simp only [quietR, Bool.or_eq_true, decide_eq_true_eq] at this
      rw [keepR, hk]
      rcases this with (e | e) | e
      · exact absurd e hne
      · rw [badP, show ((s : Int)).toNat = s from rfl, e, dear_same]; rfl
      · exact e
  cases h1 : keepB xss os <;> cases h2 : quietB xss os <;> simp_all
theorem rng_step {f : Nat → Bool} {s : Nat} (h : (List.range s).all f = true) (hf : f s = true) : (List.range (s + 1)).all f = true := range_all_step h hf
theorem rng_no {f : Nat → Bool} {s n : Nat} (hs : s < n) (hf : f s = false) : (List.range n).all f = false := by
  rw [List.all_eq_false]; exact ⟨s, List.mem_range.2 hs, by simp [hf]⟩
theorem rmV_noF {xss : List (List Int)} {os : List Int} (h : okF xss = false) : rmV xss os = false := by rw [rmV, h]; rfl
theorem rmV_noL {xss : List (List Int)} {os : List Int} (h : ¬ (os.length : Int) = xss.length) : rmV xss os = false := by rw [rmV, decide_eq_false h]; simp
theorem rmV_noO {xss : List (List Int)} {os : List Int} (hl : (os.length : Int) = xss.length) (h : permB os os.length = false) : rmV xss os = false := by rw [rmV, ← perm_wish hl, h]; simp
theorem rmV_noW {xss : List (List Int)} {os : List Int} (h : (wishL xss.length os && decide ((os.length : Int) = xss.length)) = false) : rmV xss os = false := by rw [rmV, Bool.and_comm (decide _), h]; simp
theorem rmV_noP {xss : List (List Int)} {os : List Int} {s : Nat} (hs : s < os.length) (h : pairB os s = false) : rmV xss os = false := by rw [rmV, rng_no hs h]; simp
theorem pair_1 {os : List Int} {s : Nat} (h : os.getD s 0 = (s : Int)) : pairB os s = false := by rw [pairB, decide_eq_false (by simpa using h)]; rfl
theorem pair_2 {os : List Int} {s : Nat} (h : ¬ os.getD (os.getD s 0).toNat 0 = (s : Int)) : pairB os s = false := by rw [pairB, decide_eq_false h]; simp
theorem pair_yes {os : List Int} {s : Nat} (h1 : ¬ os.getD s 0 = (s : Int)) (h2 : os.getD (os.getD s 0).toNat 0 = (s : Int)) : pairB os s = true := by rw [pairB, decide_eq_true h1, decide_eq_true h2]; rfl
theorem rmV_yes {xss : List (List Int)} {os : List Int} {s : Nat} (h1 : okF xss = true) (h2 : (os.length : Int) = xss.length) (h3 : wishL xss.length os = true) (hs : s = os.length) (h4 : (List.range s).all (pairB os) = true) : rmV xss os = true := by
  subst hs; rw [rmV, h1, decide_eq_true h2, h3, h4]; rfl
theorem keep_1 {xss : List (List Int)} {os : List Int} {s t : Nat} (h : dearB (rowAt xss s) ((rowAt xss s).getD t 0) (os.getD s 0) = false) : keepR xss os s t = true := by
  rw [keepR, badP, show ((s : Int)).toNat = s from rfl, h]; rfl
theorem keep_2 {xss : List (List Int)} {os : List Int} {s t : Nat} (h : dearB (rowAt xss ((rowAt xss s).getD t 0).toNat) (s : Int) (os.getD ((rowAt xss s).getD t 0).toNat 0) = false) : keepR xss os s t = true := by
  rw [keepR, badP, h, Bool.and_false]; rfl
theorem keep_3 {xss : List (List Int)} {os : List Int} {s t : Nat} (h1 : dearB (rowAt xss s) ((rowAt xss s).getD t 0) (os.getD s 0) = true) (h : dearB (rowAt xss ((rowAt xss s).getD t 0).toNat) (s : Int) (os.getD ((rowAt xss s).getD t 0).toNat 0) = true) : keepR xss os s t = false := by
  rw [keepR, badP, h, show ((s : Int)).toNat = s from rfl, h1]; rfl
theorem quiet_0 {xss : List (List Int)} {os : List Int} {s t : Nat} (h : (s : Int) = t) : quietR xss os s t = true := by rw [quietR, decide_eq_true (by omega)]; rfl
theorem quiet_1 {xss : List (List Int)} {os : List Int} {s t : Nat} (h : os.getD s 0 = (t : Int)) : quietR xss os s t = true := by rw [quietR, decide_eq_true h]; simp
theorem quiet_2 {xss : List (List Int)} {os : List Int} {s t : Nat} (h : dearB (rowAt xss s) (t : Int) (os.getD s 0) = false) : quietR xss os s t = true := by
  rw [quietR, badP, show ((s : Int)).toNat = s from rfl, h]; simp
theorem quiet_3 {xss : List (List Int)} {os : List Int} {s t : Nat} (h : dearB (rowAt xss t) (s : Int) (os.getD t 0) = false) : quietR xss os s t = true := by
  rw [quietR, badP, show ((t : Int)).toNat = t from rfl, h]; simp
theorem quiet_4 {xss : List (List Int)} {os : List Int} {s t : Nat} (h0 : ¬ (s : Int) = t) (h1 : ¬ os.getD s 0 = (t : Int)) (h2 : dearB (rowAt xss s) (t : Int) (os.getD s 0) = true) (h3 : dearB (rowAt xss t) (s : Int) (os.getD t 0) = true) : quietR xss os s t = false := by
  rw [quietR, badP, show ((s : Int)).toNat = s from rfl, show ((t : Int)).toNat = t from rfl, h2, h3, decide_eq_false h1, decide_eq_false (by omega)]; rfl
end Go.Am
