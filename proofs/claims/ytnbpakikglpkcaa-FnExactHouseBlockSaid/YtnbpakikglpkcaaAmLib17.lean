/-
  The abstract heap: plain laws of houses in turn. General: no program is named.
-/
import Derived.Test.YtnbpakikglpkcaaAmLib16
namespace Go.Am
set_option linter.unusedSimpArgs false
set_option linter.unusedVariables false
def hrow (n : Int) (xss : List (List Int)) (s : Nat) : Bool := wishL n (rowAt xss s) && decide (((rowAt xss s).length : Int) = n)
def okH (xss : List (List Int)) : Bool := decide (1 ≤ (xss.length : Int) ∧ (xss.length : Int) ≤ 8) && (List.range xss.length).all (hrow xss.length xss)
theorem hrow_1 {n : Int} {xss : List (List Int)} {s : Nat} (h : ¬ ((rowAt xss s).length : Int) = n) : hrow n xss s = false := by rw [hrow, decide_eq_false h]; simp
theorem hrow_2 {n : Int} {xss : List (List Int)} {s : Nat} (hl : ((rowAt xss s).length : Int) = n) (h : permB (rowAt xss s) (rowAt xss s).length = false) : hrow n xss s = false := by rw [hrow, ← perm_wish hl, h]; rfl
theorem hrow_yes {n : Int} {xss : List (List Int)} {s : Nat} (hl : ((rowAt xss s).length : Int) = n) (h : permB (rowAt xss s) (rowAt xss s).length = true) : hrow n xss s = true := by rw [hrow, ← perm_wish hl, h, decide_eq_true hl]; rfl
theorem hrow_yes2 {n : Int} {xss : List (List Int)} {s : Nat} (hw : xss.all (wishL n) = true) (hs : s < xss.length) (hl : ((rowAt xss s).length : Int) = n) : hrow n xss s = true := by rw [hrow, allL_get hw hs, decide_eq_true hl]; rfl
theorem okH_no1 {xss : List (List Int)} (h : ¬ (1 ≤ (xss.length : Int) ∧ (xss.length : Int) ≤ 8)) : okH xss = false := by rw [okH, decide_eq_false h]; rfl
theorem okH_no3 {xss : List (List Int)} {s : Nat} (hs : s < xss.length) (h : hrow xss.length xss s = false) : okH xss = false := by rw [okH, rng_no hs h]; simp
theorem okH_noW {xss : List (List Int)} (h : (xss.all (wishL xss.length) && decide ((xss.length : Int) = xss.length)) = false) : okH xss = false := by
  rw [decide_eq_true rfl, Bool.and_true] at h
  obtain ⟨r, hr, hw⟩ := List.all_eq_false.1 h
  obtain ⟨s, hs, rfl⟩ := List.getElem_of_mem hr
  refine okH_no3 hs ?_
  have e : rowAt xss s = xss[s] := by have := rowAt_some hs; rw [List.getElem?_eq_getElem hs, Option.some.injEq] at this; exact this.symm
  rw [hrow, e]
  simp only [Bool.not_eq_true] at hw
  rw [hw]; rfl
theorem okH_yes {xss : List (List Int)} {s : Nat} (h1 : 1 ≤ (xss.length : Int) ∧ (xss.length : Int) ≤ 8) (hs : s = xss.length) (h3 : (List.range s).all (hrow xss.length xss) = true) : okH xss = true := by
  subst hs; rw [okH, decide_eq_true h1, h3]; rfl
theorem okH_get {xss : List (List Int)} (h : okH xss = true) : (1 ≤ xss.length ∧ xss.length ≤ 8) ∧ ∀ s, s < xss.length → wishL xss.length (rowAt xss s) = true ∧ (rowAt xss s).length = xss.length := by
  simp only [okH, Bool.and_eq_true, decide_eq_true_eq] at h
  refine ⟨by omega, fun s hs => ?_⟩
  have := List.all_eq_true.1 h.2 s (List.mem_range.2 hs)
  simp only [hrow, Bool.and_eq_true, decide_eq_true_eq] at this
  exact ⟨this.1, by omega⟩
/-- All numbers are in an order. -/
theorem all_in {n : Nat} {xs : List Int} {k : Int} (hw : wishL n xs = true) (hl : xs.length = n) (hk : 0 ≤ k ∧ k < n) : ∃ t, t < xs.length ∧ xs.getD t 0 = k := by
  obtain ⟨h1, h2⟩ := dist_of hw
  by_cases hm : k ∈ xs
  · obtain ⟨t, ht, e⟩ := List.getElem_of_mem hm
    exact ⟨t, ht, by rw [getD_at ht]; exact e⟩
  · exfalso
    have := pigeon n (k :: xs) (fun x hx => by
      simp only [List.mem_cons] at hx
      rcases hx with rfl | hx
      · exact hk
      · obtain ⟨t, ht, rfl⟩ := List.getElem_of_mem hx
        have := h1 t ht
        rwa [getD_at ht] at this) (by
      rw [List.nodup_cons]
      exact ⟨hm, dist_nodup h2⟩)
    simp only [List.length_cons] at this
    omega

/-! ## Turns -/
def freeB (L : List Bool) : Nat := L.countP id
def turnV (xss : List (List Int)) (os : List Int) : Bool := okH xss && (decide ((os.length : Int) = xss.length) && wishL xss.length os)
theorem turnV_noF {xss : List (List Int)} {os : List Int} (h : okH xss = false) : turnV xss os = false := by rw [turnV, h]; rfl
theorem turnV_noL {xss : List (List Int)} {os : List Int} (h : ¬ (os.length : Int) = xss.length) : turnV xss os = false := by rw [turnV, decide_eq_false h]; simp
theorem turnV_noO {xss : List (List Int)} {os : List Int} (hl : (os.length : Int) = xss.length) (h : permB os os.length = false) : turnV xss os = false := by rw [turnV, ← perm_wish hl, h]; simp
theorem turnV_noW {xss : List (List Int)} {os : List Int} (h : (wishL xss.length os && decide ((os.length : Int) = xss.length)) = false) : turnV xss os = false := by rw [turnV, Bool.and_comm (decide _), h]; simp
theorem turnV_yes {xss : List (List Int)} {os : List Int} (h1 : okH xss = true) (h2 : (os.length : Int) = xss.length) (h3 : wishL xss.length os = true) : turnV xss os = true := by rw [turnV, h1, decide_eq_true h2, h3]; rfl
theorem turnV_get {xss : List (List Int)} {os : List Int} (h : turnV xss os = true) : okH xss = true ∧ (os.length : Int) = xss.length ∧ wishL xss.length os = true := by
  simp only [turnV, Bool.and_eq_true, decide_eq_true_eq] at h; exact ⟨h.1, h.2.1, h.2.2⟩

/-! ## Lists of lists somewhere in a heap -/
def Spl (h : AHeap) (k : Nat) (xss yss : List (List Int)) (X X' : AHeap) : Prop := ∃ g, X = h ++ lls k xss ++ g ∧ X' = h ++ lls k yss ++ g
theorem spl_here {h : AHeap} {k : Nat} {xss yss : List (List Int)} : Spl h k xss yss (h ++ lls k xss) (h ++ lls k yss) := ⟨[], by simp, by simp⟩
theorem spl_more {h : AHeap} {k : Nat} {xss yss : List (List Int)} {X X' t : AHeap} (s : Spl h k xss yss X X') : Spl h k xss yss (X ++ t) (X' ++ t) := by
  obtain ⟨g, rfl, rfl⟩ := s
  exact ⟨g ++ t, by simp only [List.append_assoc], by simp only [List.append_assoc]⟩
theorem mark_spl {P : Program} {f : FuncId} {a : List Value} {v : Value} {h X X' : AHeap} {k : Nat} {xss yss : List (List Int)} (s : Spl h k xss yss X X') (r : ∀ g, Ret P f a (h ++ lls k xss ++ g) v (h ++ lls k yss ++ g)) : Ret P f a X v X' := by
  obtain ⟨g, rfl, rfl⟩ := s
  exact r g

section
variable {P : Program} {K : Value → AHeap → Prop} {env : Env} {h : AHeap} {dst : Option Tmp} {ty : TypeId} {pos : String} {after : Array Edge} {guard : Option (Nat × Bool)}
theorem o_loadLG {t : TypeId} {x : Operand} {v p : Value} {dd : TypeDesc} {xss : List (List Int)} {i : Nat} {h0 : AHeap} (hu : P.underlying t = some dd) (hd : aggD dd = false) (hx : aeval env x = p) (hp : IsElem v i p) (hv : Lists h0 v xss) (hg : Grown h0 h) (hlt : i < xss.length)
    (hK : ∀ u, Ints h0 u (rowAt xss i) → K u h) : AOp P ⟨dst, .load t x, ty, pos, after, guard⟩ K env h := by
  obtain ⟨g, rfl⟩ := hg
  rcases hv with ⟨rfl, rfl⟩ | ⟨k, off, ver, cap, o, rfl, h2, h3, h4, h5, h6, h7⟩
  · simp at hlt
  · obtain ⟨u, g1, g2⟩ := h7 i _ (rowAt_some hlt)
    exact aop_load hu hd (hx.trans hp) (lk_prev h2) h3 g1 (hK u g2)
end
section
variable {P : Program} {ops : Array Oper} {KE : Env → AHeap → Prop} {os : List Oper} {env : Env} {h : AHeap} {d : Option Tmp} {ty : TypeId} {pos : String} {af : Array Edge} {g : Option (Nat × Bool)}
theorem d_loadLG {t : TypeId} {x : Operand} {v p : Value} {dd : TypeDesc} {xss : List (List Int)} {i : Nat} {h0 : AHeap} (hw : wantedA ops env ⟨d, .load t x, ty, pos, af, g⟩ = some true) (hu : P.underlying t = some dd) (hd : aggD dd = false) (hx : aeval env x = p) (hp : IsElem v i p) (hv : Lists h0 v xss) (hg : Grown h0 h) (hlt : i < xss.length)
    (hK : ∀ u, Ints h0 u (rowAt xss i) → DRun P ops KE os (env.put d u) h) : DRun P ops KE (⟨d, .load t x, ty, pos, af, g⟩ :: os) env h := by
  obtain ⟨g, rfl⟩ := hg
  rcases hv with ⟨rfl, rfl⟩ | ⟨k, off, ver, cap, o, rfl, h2, h3, h4, h5, h6, h7⟩
  · simp at hlt
  · obtain ⟨u, g1, g2⟩ := h7 i _ (rowAt_some hlt)
    exact d_do hw (aop_load hu hd (hx.trans hp) (lk_prev h2) h3 g1 ⟨rfl, rfl⟩) (by rw [List.length_append]; exact g2.within.mono (by omega)) (hK u g2)
end
end Go.Am
