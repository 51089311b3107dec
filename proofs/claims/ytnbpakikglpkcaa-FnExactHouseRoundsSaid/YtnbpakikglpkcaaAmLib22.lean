/-
  The abstract heap: plain laws of houses by rings. General: no program is named.
-/
import Derived.Test.YtnbpakikglpkcaaAmLib21
namespace Go.Am
set_option linter.unusedSimpArgs false
set_option linter.unusedVariables false

/-! ## Who still has a house -/
def lftH (os : List Int) : List Bool := os.map fun x => decide (x < 0)
theorem lft_len {os : List Int} : (lftH os).length = os.length := List.length_map ..
theorem lft_get {os : List Int} {j : Nat} (h : j < os.length) : (lftH os).getD j false = decide (os.getD j 0 < 0) := by
  rw [lftH, List.getD_eq_getElem?_getD, List.getElem?_map, List.getElem?_eq_getElem h, getD_at h]; rfl
theorem lft_set {os : List Int} {j : Nat} {x : Int} (h : 0 ≤ x) : lftH (os.set j x) = (lftH os).set j false := by
  rw [lftH, List.map_set, decide_eq_false (by omega)]; rfl
theorem lft_new {n : Nat} : lftH (List.replicate n (-1)) = List.replicate n true := by rw [lftH, List.map_replicate]; rfl
def dearI (xss : List (List Int)) (L : List Bool) (i : Int) : Int := dearT (rowAt xss i.toNat) L
/-- From one to the next until one is met, at most so often. -/
def seekH (f : Int → Int) (i : Int) : Nat → Int → Int
  | 0, a => a
  | k + 1, a => if a = i then a else seekH f i k (f a)
theorem seek_here {f : Int → Int} {i : Int} {k : Nat} : seekH f i k i = i := by
  cases k with
  | zero => rfl
  | succ k => rw [seekH, if_pos rfl]
theorem seek_on {f : Int → Int} {i a : Int} {k : Nat} (h : a ≠ i) : seekH f i (k + 1) a = seekH f i k (f a) := by rw [seekH, if_neg h]
def inH (xss : List (List Int)) (L : List Bool) (i : Int) : Bool := L.getD i.toNat false && decide (seekH (dearI xss L) i xss.length (dearI xss L i) = i)
def goneH (xss : List (List Int)) (L : List Bool) (t : Nat) : List Int := (cntL t).filter (inH xss L)
theorem cntL_step {t : Nat} : cntL (t + 1) = cntL t ++ [(t : Int)] := by rw [cntL, List.range_succ, List.map_append]; rfl
theorem gone_yes {xss : List (List Int)} {L : List Bool} {t : Nat} (h : inH xss L (t : Int) = true) : goneH xss L t ++ [(t : Int)] = goneH xss L (t + 1) := by
  rw [goneH, goneH, cntL_step, List.filter_append, List.filter_cons_of_pos h, List.filter_nil]
theorem gone_no {xss : List (List Int)} {L : List Bool} {t : Nat} (h : inH xss L (t : Int) = false) : goneH xss L t = goneH xss L (t + 1) := by
  rw [goneH, goneH, cntL_step, List.filter_append, List.filter_cons_of_neg (by rw [h]; decide), List.filter_nil, List.append_nil]
theorem gone_le {xss : List (List Int)} {L : List Bool} {t : Nat} : (goneH xss L t).length ≤ t := by
  have := List.length_filter_le (inH xss L) (cntL t)
  rw [cntL_len] at this
  exact this
theorem gone_mem {xss : List (List Int)} {L : List Bool} {t : Nat} {x : Int} (h : x ∈ goneH xss L t) : 0 ≤ x ∧ x < (t : Int) ∧ L.getD x.toNat false = true := by
  obtain ⟨h1, h2⟩ := List.mem_filter.1 h
  obtain ⟨k, hk, rfl⟩ := List.mem_map.1 h1
  have hk := List.mem_range.1 hk
  rw [inH, Bool.and_eq_true] at h2
  exact ⟨by omega, by omega, h2.1⟩
theorem gone_get {xss : List (List Int)} {L : List Bool} {t k : Nat} (h : k < (goneH xss L t).length) : 0 ≤ (goneH xss L t).getD k 0 ∧ (goneH xss L t).getD k 0 < (t : Int) := by
  rw [getD_at h]
  have := gone_mem (List.getElem_mem h)
  omega
theorem cntL_nodup {n : Nat} : (cntL n).Nodup := by
  rw [List.Nodup, List.pairwise_iff_getElem]
  intro i j hi hj hij
  rw [cntL_len] at hi hj
  rw [← getD_at (by rw [cntL_len]; exact hi), ← getD_at (by rw [cntL_len]; exact hj), cntL_get hi, cntL_get hj]
  omega
theorem gone_nodup {xss : List (List Int)} {L : List Bool} {t : Nat} : (goneH xss L t).Nodup := cntL_nodup.filter _

/-! ## One round -/
def setG (f : Int → Int) (os gs : List Int) (t : Nat) : List Int := (gs.take t).foldl (fun o i => o.set i.toNat (f i)) os
theorem setG_step {f : Int → Int} {os gs : List Int} {t : Nat} (h : t < gs.length) : (setG f os gs t).set (gs.getD t 0).toNat (f (gs.getD t 0)) = setG f os gs (t + 1) := by
  rw [setG, setG, List.take_succ_eq_append_getElem h, List.foldl_append, getD_at h]; rfl
theorem fold_len {f : Int → Int} : ∀ {gs os : List Int}, (gs.foldl (fun o i => o.set i.toNat (f i)) os).length = os.length
  | [], _ => rfl
  | g :: gs, os => by rw [List.foldl_cons, fold_len, List.length_set]
theorem setG_len {f : Int → Int} {os gs : List Int} {t : Nat} : (setG f os gs t).length = os.length := fold_len
def unG (L : List Bool) (gs : List Int) (t : Nat) : List Bool := (gs.take t).foldl (fun o i => o.set i.toNat false) L
theorem unG_step {L : List Bool} {gs : List Int} {t : Nat} (h : t < gs.length) : (unG L gs t).set (gs.getD t 0).toNat false = unG L gs (t + 1) := by
  rw [unG, unG, List.take_succ_eq_append_getElem h, List.foldl_append, getD_at h]; rfl
theorem unf_len : ∀ {gs : List Int} {L : List Bool}, (gs.foldl (fun o i => o.set i.toNat false) L).length = L.length
  | [], _ => rfl
  | g :: gs, L => by rw [List.foldl_cons, unf_len, List.length_set]
theorem unG_len {L : List Bool} {gs : List Int} {t : Nat} : (unG L gs t).length = L.length := unf_len
theorem fold_lft {f : Int → Int} : ∀ {gs os : List Int}, (∀ x ∈ gs, 0 ≤ f x) → lftH (gs.foldl (fun o i => o.set i.toNat (f i)) os) = gs.foldl (fun o i => o.set i.toNat false) (lftH os)
  | [], _, _ => rfl
  | g :: gs, os, h => by rw [List.foldl_cons, fold_lft (fun x hx => h x (List.mem_cons_of_mem _ hx)), lft_set (h g (by simp)), List.foldl_cons]
theorem lft_setG {f : Int → Int} {os gs : List Int} {t : Nat} (h : ∀ x ∈ gs, 0 ≤ f x) : lftH (setG f os gs t) = unG (lftH os) gs t := fold_lft fun x hx => h x ((List.take_sublist _ _).mem hx)
def rndH (xss : List (List Int)) (os : List Int) : List Int := setG (dearI xss (lftH os)) os (goneH xss (lftH os) xss.length) (goneH xss (lftH os) xss.length).length
theorem rnd_len {xss : List (List Int)} {os : List Int} : (rndH xss os).length = os.length := setG_len

/-! ## How many are left -/
theorem un_free1 : ∀ {L : List Bool} {k : Nat}, L.getD k false = true → freeB L = freeB (L.set k false) + 1
  | [], k, h => by simp at h
  | a :: l, 0, h => by
    have : a = true := h
    subst this
    simp [freeB, List.countP_cons]
  | a :: l, k + 1, h => by
    have := un_free1 (L := l) (k := k) (by simpa using h)
    simp only [List.set_cons_succ, freeB, List.countP_cons] at this ⊢
    omega
theorem getB_set {L : List Bool} {j k : Nat} (h : j ≠ k) : (L.set j false).getD k false = L.getD k false := by
  rw [List.getD_eq_getElem?_getD, List.getElem?_set, if_neg h, ← List.getD_eq_getElem?_getD]
theorem un_free : ∀ {gs : List Int} {L : List Bool}, gs.Nodup → (∀ x ∈ gs, 0 ≤ x ∧ L.getD x.toNat false = true) → freeB L = freeB (gs.foldl (fun o i => o.set i.toNat false) L) + gs.length
  | [], _, _, _ => rfl
  | g :: gs, L, hd, h => by
    have hc := List.nodup_cons.1 hd
    have h0 := h g (by simp)
    have h1 := un_free1 h0.2
    have h2 := un_free (gs := gs) (L := L.set g.toNat false) hc.2 fun x hx => by
      have hx2 := h x (List.mem_cons_of_mem _ hx)
      refine ⟨hx2.1, ?_⟩
      rw [getB_set (by intro e; exact hc.1 (by rw [show g = x by omega]; exact hx))]
      exact hx2.2
    rw [List.foldl_cons, List.length_cons]
    omega

/-! ## A ring is there -/
structure OkR (xss : List (List Int)) (os : List Int) : Prop where
  hH : okH xss = true
  hl : os.length = xss.length
  hr : 0 < freeB (lftH os)
theorem dear_on {xss : List (List Int)} {os : List Int} (h : OkR xss os) {i : Int} (hi : 0 ≤ i ∧ i < (xss.length : Int)) :
    0 ≤ idxTo (leftG (lftH os)) (rowAt xss i.toNat) (rowAt xss i.toNat).length ∧ (0 ≤ dearI xss (lftH os) i ∧ dearI xss (lftH os) i < (xss.length : Int)) ∧ (lftH os).getD (dearI xss (lftH os) i).toNat false = true := by
  obtain ⟨_, h2⟩ := okH_get h.hH
  obtain ⟨r1, r2⟩ := h2 i.toNat (by omega)
  obtain ⟨j, hj, hj2⟩ := free_at h.hr
  rw [lft_len, h.hl] at hj
  obtain ⟨t, ht, e⟩ := all_in (k := (j : Int)) r1 r2 ⟨by omega, by omega⟩
  obtain ⟨h4, h3⟩ := idxTo_lt (g := leftG (lftH os)) (ys := rowAt xss i.toNat) (rowAt xss i.toNat).length
  have hpos : 0 ≤ idxTo (leftG (lftH os)) (rowAt xss i.toNat) (rowAt xss i.toNat).length := by
    by_cases c : 0 ≤ idxTo (leftG (lftH os)) (rowAt xss i.toNat) (rowAt xss i.toNat).length
    · exact c
    · have := h3 (by omega) t ht
      rw [e, leftG, show ((j : Int)).toNat = j from rfl, hj2] at this
      cases this
  refine ⟨hpos, dear_bnd r1 hpos, ?_⟩
  obtain ⟨k, hk, hg, he⟩ := h4 hpos
  rw [leftG] at hg
  rw [dearI, dearT, he]
  exact hg
def iterH (f : Int → Int) : Nat → Int → Int
  | 0, a => a
  | k + 1, a => iterH f k (f a)
theorem seek_yes {f : Int → Int} {i : Int} : ∀ (t k : Nat) (a : Int), iterH f t a = i → t ≤ k → seekH f i k a = i
  | 0, k, a, h, _ => by
    have : a = i := h
    subst this; exact seek_here
  | t + 1, 0, _, _, h => by omega
  | t + 1, k + 1, a, h, hk => by
    by_cases c : a = i
    · subst c; exact seek_here
    · rw [seek_on c]; exact seek_yes t k (f a) h (by omega)
theorem iter_it {g : Int → Int} : ∀ (t a : Nat), iterH g t (itG g a) = itG g (a + t)
  | 0, a => rfl
  | t + 1, a => by
    rw [iterH]
    show iterH g t (itG g (a + 1)) = _
    rw [iter_it t (a + 1)]
    congr 1; omega
theorem gone_pos {xss : List (List Int)} {os : List Int} (h : OkR xss os) : 0 < (goneH xss (lftH os) xss.length).length := by
  obtain ⟨hn, _⟩ := okH_get h.hH
  have hE := endN_good (g := dearI xss (lftH os)) (n := xss.length) (by omega) fun x h0 h1 => (dear_on h ⟨h0, h1⟩).2.1
  obtain ⟨a, ha, h2, hl, hget, he⟩ := ring_get hE
  have hsn := good_le hE.1
  let s := endN (dearI xss (lftH os)) xss.length
  have hb := hE.1.2.2 (itG (dearI xss (lftH os)) a) (List.mem_map.2 ⟨a, List.mem_range.2 ha, rfl⟩)
  -- the last of the ring leads to its first
  have hlast := good_last hE.1
  have hnx := it_last (g := dearI xss (lftH os)) hE.1.1
  have hleft := (dear_on h hlast).2.2
  rw [hnx, he] at hleft
  have hin : inH xss (lftH os) (itG (dearI xss (lftH os)) a) = true := by
    rw [inH, hleft, Bool.true_and]
    refine decide_eq_true (seek_yes (endN (dearI xss (lftH os)) xss.length - a - 1) _ _ ?_ (by omega))
    show iterH _ _ (itG (dearI xss (lftH os)) (a + 1)) = _
    rw [iter_it, show a + 1 + (endN (dearI xss (lftH os)) xss.length - a - 1) = endN (dearI xss (lftH os)) xss.length by omega]
    exact he
  have : itG (dearI xss (lftH os)) a ∈ goneH xss (lftH os) xss.length := by
    refine List.mem_filter.2 ⟨List.mem_map.2 ⟨(itG (dearI xss (lftH os)) a).toNat, List.mem_range.2 (by omega), by omega⟩, hin⟩
  exact List.length_pos_of_mem this
theorem gone_dear {xss : List (List Int)} {os : List Int} (h : OkR xss os) : ∀ x ∈ goneH xss (lftH os) xss.length, 0 ≤ dearI xss (lftH os) x := fun x hx => by
  have := gone_mem hx
  exact (dear_on h ⟨this.1, this.2.1⟩).2.1.1
theorem rnd_lft {xss : List (List Int)} {os : List Int} (h : OkR xss os) : lftH (rndH xss os) = unG (lftH os) (goneH xss (lftH os) xss.length) (goneH xss (lftH os) xss.length).length := lft_setG (gone_dear h)
theorem rnd_free {xss : List (List Int)} {os : List Int} (h : OkR xss os) : freeB (lftH os) = freeB (lftH (rndH xss os)) + (goneH xss (lftH os) xss.length).length := by
  rw [rnd_lft h, unG, List.take_length]
  exact un_free gone_nodup fun x hx => ⟨(gone_mem hx).1, (gone_mem hx).2.2⟩

/-! ## All rounds -/
def allH (xss : List (List Int)) : Nat → List Int → List Int
  | 0, os => os
  | f + 1, os => if 0 < freeB (lftH os) then allH xss f (rndH xss os) else os
def endH (xss : List (List Int)) (os : List Int) : List Int := allH xss (freeB (lftH os)) os
theorem all_irr {xss : List (List Int)} (hH : okH xss = true) : ∀ (f f' : Nat) (os : List Int), os.length = xss.length → freeB (lftH os) ≤ f → freeB (lftH os) ≤ f' → allH xss f os = allH xss f' os
  | 0, 0, _, _, _, _ => rfl
  | 0, f' + 1, os, _, h1, _ => by rw [allH, allH, if_neg (by omega)]
  | f + 1, 0, os, _, _, h2 => by rw [allH, allH, if_neg (by omega)]
  | f + 1, f' + 1, os, hl, h1, h2 => by
    rw [allH, allH]
    by_cases c : 0 < freeB (lftH os)
    · rw [if_pos c, if_pos c]
      have h3 := rnd_free ⟨hH, hl, c⟩
      have h4 := gone_pos ⟨hH, hl, c⟩
      exact all_irr hH f f' _ (rnd_len.trans hl) (by omega) (by omega)
    · rw [if_neg c, if_neg c]
theorem end_step {xss : List (List Int)} {os : List Int} (h : OkR xss os) : endH xss os = endH xss (rndH xss os) := by
  have h3 := rnd_free h
  have h4 := gone_pos h
  obtain ⟨f, hf⟩ : ∃ f, freeB (lftH os) = f + 1 := ⟨freeB (lftH os) - 1, by have := h.hr; omega⟩
  rw [endH, hf, allH, if_pos h.hr, endH]
  exact all_irr h.hH _ _ _ (rnd_len.trans h.hl) (by omega) (by omega)
theorem end_done {xss : List (List Int)} {os : List Int} (h : ¬ 0 < freeB (lftH os)) : endH xss os = os := by
  rw [endH, show freeB (lftH os) = 0 by omega]; rfl
theorem all_len {xss : List (List Int)} : ∀ (f : Nat) (os : List Int), (allH xss f os).length = os.length
  | 0, _ => rfl
  | f + 1, os => by
    rw [allH]
    split
    · rw [all_len f, rnd_len]
    · rfl
def startH (xss : List (List Int)) : List Int := List.replicate xss.length (-1)
theorem end_len {xss : List (List Int)} {os : List Int} : (endH xss os).length = os.length := all_len _ _
/-! ## Rounds of envy, padded -/
end Go.Am
