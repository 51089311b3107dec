/-
  The abstract heap: plain laws of things handed round until nobody envies. General: no program is named.
-/
import Derived.Test.YtnbpakikglpkcaaAmLib19
namespace Go.Am
set_option linter.unusedSimpArgs false
set_option linter.unusedVariables false

/-! ## Rounds of a map -/
def itG (g : Int → Int) : Nat → Int
  | 0 => 0
  | k + 1 => g (itG g k)
def pathG (g : Int → Int) (s : Nat) : List Int := (List.range s).map (itG g)
def endG (g : Int → Int) : Nat → Nat → Nat
  | 0, s => s
  | f + 1, s => if itG g s ∈ pathG g s then s else endG g f (s + 1)
theorem pathG_len {g : Int → Int} {s : Nat} : (pathG g s).length = s := by simp [pathG]
theorem pathG_step {g : Int → Int} {s : Nat} : pathG g s ++ [itG g s] = pathG g (s + 1) := map_step
theorem pathG_get {g : Int → Int} {s k : Nat} (h : k < s) : (pathG g s).getD k 0 = itG g k := map_get h
/-- What holds of a path that has not met itself. -/
def GoodP (g : Int → Int) (n s : Nat) : Prop := 1 ≤ s ∧ (pathG g s).Nodup ∧ ∀ x ∈ pathG g s, 0 ≤ x ∧ x < (n : Int)
theorem good_one {g : Int → Int} {n : Nat} (hn : 1 ≤ n) : GoodP g n 1 := ⟨Nat.le_refl _, by simp [pathG], fun x hx => by simp [pathG, itG] at hx; omega⟩
theorem good_le {g : Int → Int} {n s : Nat} (h : GoodP g n s) : s ≤ n := by
  have := pigeon n (pathG g s) h.2.2 h.2.1
  rwa [pathG_len] at this
theorem good_last {g : Int → Int} {n s : Nat} (h : GoodP g n s) : 0 ≤ itG g (s - 1) ∧ itG g (s - 1) < n := by
  refine h.2.2 _ ?_
  exact List.mem_map.2 ⟨s - 1, List.mem_range.2 (by have := h.1; omega), rfl⟩
theorem it_last {g : Int → Int} {s : Nat} (h : 1 ≤ s) : g (itG g (s - 1)) = itG g s := by
  obtain ⟨k, rfl⟩ : ∃ k, s = k + 1 := ⟨s - 1, by omega⟩
  rfl
theorem good_step {g : Int → Int} {n s : Nat} (h : GoodP g n s) (hg : ∀ x, 0 ≤ x → x < (n : Int) → 0 ≤ g x ∧ g x < n) (hm : itG g s ∉ pathG g s) : GoodP g n (s + 1) := by
  have hl := good_last h
  have hb := hg _ hl.1 hl.2
  rw [it_last (g := g) h.1] at hb
  refine ⟨by omega, ?_, fun x hx => ?_⟩
  · rw [← pathG_step]
    refine List.nodup_append.2 ⟨h.2.1, by simp, fun a ha b hb' => ?_⟩
    simp only [List.mem_singleton] at hb'
    subst hb'
    exact fun e => hm (e ▸ ha)
  · rw [← pathG_step, List.mem_append, List.mem_singleton] at hx
    rcases hx with hx | rfl
    · exact h.2.2 x hx
    · exact hb
theorem end_here {g : Int → Int} {f s : Nat} (h : itG g s ∈ pathG g s) : endG g f s = s := by
  cases f with
  | zero => rfl
  | succ f => rw [endG, if_pos h]
theorem end_on {g : Int → Int} {n s : Nat} (h : GoodP g n s) (hg : ∀ x, 0 ≤ x → x < (n : Int) → 0 ≤ g x ∧ g x < n) (hm : itG g s ∉ pathG g s) : s < n ∧ endG g (n - s) s = endG g (n - (s + 1)) (s + 1) := by
  have h2 := good_le (good_step h hg hm)
  refine ⟨by omega, ?_⟩
  obtain ⟨f, hf⟩ : ∃ f, n - s = f + 1 := ⟨n - s - 1, by omega⟩
  rw [hf, endG, if_neg hm, show n - (s + 1) = f by omega]
/-- The ring at the end of a path. -/
def endN (g : Int → Int) (n : Nat) : Nat := endG g (n - 1) 1
def ringP (g : Int → Int) (s : Nat) : List Int := (pathG g s).drop (idxI (pathG g s) (itG g s)).toNat
def ringG (g : Int → Int) (n : Nat) : List Int := ringP g (endN g n)
theorem idxTo_first {f : Int → Bool} {ys : List Int} {a b : Nat} : ∀ n, idxTo f ys n = (a : Int) → b < a → f (ys.getD b 0) = false
  | 0, h, _ => by simp [idxTo] at h
  | n + 1, h, hb => by
    rw [idxTo] at h
    by_cases c : 0 ≤ idxTo f ys n
    · rw [if_pos c] at h; exact idxTo_first n h hb
    · rw [if_neg c] at h
      have c2 := (idxTo_lt (g := f) (ys := ys) n).2 (by omega)
      split at h
      · have : n = a := by omega
        subst this
        exact c2 b hb
      · omega
theorem idxI_get {xs : List Int} {x : Int} (h : x ∈ xs) : ∃ a, a < xs.length ∧ xs.getD a 0 = x ∧ idxI xs x = (a : Int) ∧ ∀ b, b < a → xs.getD b 0 ≠ x := by
  have hc : decide (0 ≤ idxI xs x) = true := by rw [idx_has]; exact List.contains_iff_mem.2 h
  obtain ⟨k, hk, hg, he⟩ := (idxTo_lt (g := fun y => decide (x = y)) (ys := xs) xs.length).1 (of_decide_eq_true hc)
  exact ⟨k, hk, (of_decide_eq_true hg).symm, he, fun b hb e => by
    have := idxTo_first (f := fun y => decide (x = y)) _ he hb
    exact (of_decide_eq_false this) e.symm⟩

/-- Where a good path meets itself. -/
def EndP (g : Int → Int) (n s : Nat) : Prop := GoodP g n s ∧ itG g s ∈ pathG g s
theorem end_good {g : Int → Int} {n : Nat} (hg : ∀ x, 0 ≤ x → x < (n : Int) → 0 ≤ g x ∧ g x < n) : ∀ (f s : Nat), n - s = f → GoodP g n s → EndP g n (endG g f s)
  | 0, s, hf, h => by
    refine ⟨h, Classical.byContradiction fun hm => ?_⟩
    have := end_on h hg hm
    have := good_le h
    omega
  | f + 1, s, hf, h => by
    rw [endG]
    by_cases hm : itG g s ∈ pathG g s
    · rw [if_pos hm]; exact ⟨h, hm⟩
    · rw [if_neg hm]; exact end_good hg f (s + 1) (by omega) (good_step h hg hm)
theorem endN_good {g : Int → Int} {n : Nat} (hn : 1 ≤ n) (hg : ∀ x, 0 ≤ x → x < (n : Int) → 0 ≤ g x ∧ g x < n) : EndP g n (endN g n) := end_good hg _ 1 rfl (good_one hn)
/-- The ring: a piece of the path from the place a, each one's follower in it is the map's value. -/
theorem ring_get {g : Int → Int} {n s : Nat} (h : EndP g n s) : ∃ a, a < s ∧ idxI (pathG g s) (itG g s) = (a : Int) ∧ (ringP g s).length = s - a ∧ (∀ b, b < s - a → (ringP g s).getD b 0 = itG g (a + b)) ∧ itG g s = itG g a := by
  obtain ⟨a, ha, h1, h2, _⟩ := idxI_get h.2
  rw [pathG_len] at ha
  refine ⟨a, ha, h2, ?_, fun b hb => ?_, ?_⟩
  · rw [ringP, h2, List.length_drop, pathG_len]; rfl
  · rw [ringP, h2, show ((a : Int)).toNat = a from rfl, List.getD_eq_getElem?_getD, List.getElem?_drop, ← List.getD_eq_getElem?_getD, pathG_get (by omega)]
  · rw [← h1, pathG_get ha]
theorem ring_next {g : Int → Int} {n s b : Nat} (h : EndP g n s) (hb : b < (ringP g s).length) : (ringP g s).getD ((b + 1) % (ringP g s).length) 0 = g ((ringP g s).getD b 0) := by
  obtain ⟨a, ha, h2, hl, hget, he⟩ := ring_get h
  rw [hl] at hb ⊢
  rw [hget b hb]
  by_cases c : b + 1 = s - a
  · rw [c, Nat.mod_self, hget 0 (by omega), Nat.add_zero, ← he]
    have : s = (a + b) + 1 := by omega
    conv => lhs; rw [this]
    rfl
  · rw [Nat.mod_eq_of_lt (by omega), hget (b + 1) (by omega)]
    rfl
theorem ring_nodup {g : Int → Int} {n s : Nat} (h : EndP g n s) : (ringP g s).Nodup := h.1.2.1.sublist (List.drop_sublist _ _)
theorem ring_bnd {g : Int → Int} {n s : Nat} (h : EndP g n s) : ∀ x ∈ ringP g s, 0 ≤ x ∧ x < (n : Int) := fun x hx => h.1.2.2 x ((List.drop_sublist _ _).mem hx)
theorem ring_pos {g : Int → Int} {n s : Nat} (h : EndP g n s) : 0 < (ringP g s).length ∧ (ringP g s).length ≤ s := by
  obtain ⟨a, ha, h2, hl, hget, he⟩ := ring_get h
  omega
/-- Where each one's things go. -/
def nxtG (g : Int → Int) (rs : List Int) (z : Int) : Int := if z ∈ rs then g z else z
theorem nodup_get {l : List Int} (h : l.Nodup) {a b : Nat} (ha : a < l.length) (hb : b < l.length) (e : l.getD a 0 = l.getD b 0) : a = b := by
  rw [getD_at ha, getD_at hb] at e
  rcases Nat.lt_trichotomy a b with c | c | c
  · exact absurd e (List.pairwise_iff_getElem.1 h a b ha hb c)
  · exact c
  · exact absurd e.symm (List.pairwise_iff_getElem.1 h b a hb ha c)
/-- Each one gets the things of just one. -/
theorem nxt_from {g : Int → Int} {n s : Nat} (h : EndP g n s) (y : Int) (hy : 0 ≤ y ∧ y < (n : Int)) : ∃ y0, (0 ≤ y0 ∧ y0 < (n : Int)) ∧ (∀ z, nxtG g (ringP g s) z = y ↔ z = y0) ∧ ((y0 = y ∧ y ∉ ringP g s) ∨ (y = g y0 ∧ y ∈ ringP g s)) := by
  by_cases hm : y ∈ ringP g s
  · obtain ⟨c, hc, e⟩ := List.getElem_of_mem hm
    have hL := (ring_pos h).1
    -- the one ahead
    obtain ⟨b, hb, hbc⟩ : ∃ b, b < (ringP g s).length ∧ (b + 1) % (ringP g s).length = c := by
      by_cases c0 : c = 0
      · exact ⟨(ringP g s).length - 1, by omega, by rw [Nat.sub_add_cancel hL, Nat.mod_self, c0]⟩
      · exact ⟨c - 1, by omega, by rw [Nat.sub_add_cancel (by omega), Nat.mod_eq_of_lt hc]⟩
    have hy0 : (ringP g s).getD b 0 ∈ ringP g s := by rw [getD_at hb]; exact List.getElem_mem hb
    have hgb : g ((ringP g s).getD b 0) = y := by rw [← ring_next h hb, hbc, getD_at hc, e]
    refine ⟨(ringP g s).getD b 0, ring_bnd h _ hy0, fun z => ⟨fun hz => ?_, fun hz => ?_⟩, .inr ⟨hgb.symm, hm⟩⟩
    · unfold nxtG at hz
      split at hz
      · rename_i hzm
        obtain ⟨d, hd, e2⟩ := List.getElem_of_mem hzm
        have e3 : (ringP g s).getD d 0 = z := by rw [getD_at hd, e2]
        have e4 := ring_next h hd
        rw [e3, hz, ← e, ← getD_at hc] at e4
        have e5 := nodup_get (ring_nodup h) (Nat.mod_lt _ hL) hc e4
        rw [← hbc] at e5
        have : d = b := by
          by_cases d1 : d + 1 = (ringP g s).length
          · by_cases b1 : b + 1 = (ringP g s).length
            · omega
            · rw [d1, Nat.mod_self, Nat.mod_eq_of_lt (by omega)] at e5; omega
          · by_cases b1 : b + 1 = (ringP g s).length
            · rw [b1, Nat.mod_self, Nat.mod_eq_of_lt (by omega)] at e5; omega
            · rw [Nat.mod_eq_of_lt (by omega), Nat.mod_eq_of_lt (by omega)] at e5; omega
        rw [← e3, this]
      · rename_i hzm
        exact absurd (hz ▸ hm) hzm
    · subst hz
      rw [nxtG, if_pos hy0, hgb]
  · refine ⟨y, hy, fun z => ⟨fun hz => ?_, fun hz => ?_⟩, .inl ⟨rfl, hm⟩⟩
    · unfold nxtG at hz
      split at hz
      · rename_i hzm
        exfalso
        obtain ⟨d, hd, e2⟩ := List.getElem_of_mem hzm
        have e4 := ring_next h hd
        rw [getD_at hd, e2, hz] at e4
        refine hm (e4 ▸ ?_)
        rw [getD_at (Nat.mod_lt _ (ring_pos h).1)]
        exact List.getElem_mem _
      · exact hz
    · subst hz
      rw [nxtG, if_neg hm]

/-! ## Parts, without bounds -/
def ptS (xs os : List Int) (q i j : Int) : Nat → Int
  | 0 => 0
  | k + 1 => if os.getD k 0 = j then ptS xs os q i j k + xs.getD (i * q + (k : Int)).toNat 0 else ptS xs os q i j k
def ptF (xs os : List Int) (q i j : Int) : Int := ptS xs os q i j os.length
def valB (xs : List Int) : Prop := ∀ k, 0 ≤ xs.getD k 0 ∧ xs.getD k 0 ≤ 1000
theorem valB_of {p q : Int} {xs : List Int} (h : validV p q xs = true) : valB xs := fun k => by
  have ha := (validV_get h).2.2.2
  by_cases hk : k < xs.length
  · have := of_decide_eq_true (List.all_eq_true.1 ha _ (List.getElem_mem hk))
    rw [getD_at hk]; exact this
  · rw [List.getD_eq_getElem?_getD, List.getElem?_eq_none (by omega)]
    exact ⟨Int.le_refl _, by decide⟩
theorem ptS_bnd {xs os : List Int} {q i j : Int} (hx : valB xs) : ∀ k : Nat, 0 ≤ ptS xs os q i j k ∧ ptS xs os q i j k ≤ 1000 * k
  | 0 => by simp [ptS]
  | k + 1 => by
    have ih := ptS_bnd (os := os) (q := q) (i := i) (j := j) hx k
    have hc := hx (i * q + (k : Int)).toNat
    rw [ptS]
    split <;> omega
theorem partS_pt {xs os : List Int} {q i j : Int} (hx : valB xs) : ∀ k : Nat, k ≤ 1000000 → partS xs os q i j k = ptS xs os q i j k
  | 0, _ => rfl
  | k + 1, hk => by
    have ih := partS_pt (os := os) (q := q) (i := i) (j := j) hx k (by omega)
    have hb := ptS_bnd (os := os) (q := q) (i := i) (j := j) hx k
    have hc := hx (i * q + (k : Int)).toNat
    rw [partS, ptS, ih]
    split
    · rw [wrap_id (by omega) (by omega)]
    · rfl
theorem envy_pt {xs os : List Int} {q i j : Int} (hx : valB xs) (hl : os.length ≤ 8) : envyF xs os q i j = ptF xs os q i j - ptF xs os q i i := by
  have h1 := ptS_bnd (os := os) (q := q) (i := i) (j := j) hx os.length
  have h2 := ptS_bnd (os := os) (q := q) (i := i) (j := i) hx os.length
  rw [envyF, partF, partF, partS_pt hx _ (by omega), partS_pt hx _ (by omega), wrap_id (by omega) (by omega)]
  rfl
theorem ptS_map {xs os : List Int} {q i y y0 : Int} {f : Int → Int} (hf : ∀ z, f z = y ↔ z = y0) : ∀ k, k ≤ os.length → ptS xs (os.map f) q i y k = ptS xs os q i y0 k
  | 0, _ => rfl
  | k + 1, hk => by
    have e : (os.map f).getD k 0 = f (os.getD k 0) := by
      rw [getD_at (by simp; omega), getD_at (by omega), List.getElem_map]
    rw [ptS, ptS, ptS_map hf k (by omega), e]
    by_cases c : os.getD k 0 = y0
    · rw [if_pos c, if_pos ((hf _).2 c)]
    · rw [if_neg c, if_neg (fun h => c ((hf _).1 h))]

/-! ## Who envies, who is free of it -/
def envG (xs os : List Int) (p q : Int) (x : Int) : Int := idxTo (fun j => decide (0 < envyF xs os q j x)) (cntL p.toNat) p.toNat
def freeG (xs os : List Int) (p q : Int) : Int := idxTo (fun x => decide (envG xs os p q x < 0)) (cntL p.toNat) p.toNat
theorem envG_yes {xs os : List Int} {p q x : Int} (h : 0 ≤ envG xs os p q x) : envG xs os p q x < p ∧ 0 < envyF xs os q (envG xs os p q x) x := by
  obtain ⟨k, hk, hg, he⟩ := (idxTo_lt (g := fun j => decide (0 < envyF xs os q j x)) (ys := cntL p.toNat) p.toNat).1 h
  rw [cntL_get hk] at hg
  have he' : envG xs os p q x = (k : Int) := he
  rw [he']
  exact ⟨by omega, of_decide_eq_true hg⟩
theorem freeG_no {xs os : List Int} {p q : Int} (h : freeG xs os p q < 0) : ∀ x, 0 ≤ x → x < (p.toNat : Int) → 0 ≤ envG xs os p q x ∧ envG xs os p q x < (p.toNat : Int) := fun x h0 h1 => by
  have := (idxTo_lt (g := fun x => decide (envG xs os p q x < 0)) (ys := cntL p.toNat) p.toNat).2 h x.toNat (by omega)
  rw [cntL_get (by omega), show ((x.toNat : Nat) : Int) = x by omega] at this
  have h2 : ¬ envG xs os p q x < 0 := of_decide_eq_false this
  have := (envG_yes (xs := xs) (os := os) (p := p) (q := q) (x := x) (by omega)).1
  omega
theorem freeG_yes {xs os : List Int} {p q : Int} (h : 0 ≤ freeG xs os p q) : freeG xs os p q < p := by
  obtain ⟨k, hk, hg, he⟩ := (idxTo_lt (g := fun x => decide (envG xs os p q x < 0)) (ys := cntL p.toNat) p.toNat).1 h
  have he' : freeG xs os p q = (k : Int) := he
  omega
def sumN (f : Nat → Int) : Nat → Int
  | 0 => 0
  | n + 1 => sumN f n + f n
theorem sumN_le {f g : Nat → Int} : ∀ {n : Nat}, (∀ k, k < n → f k ≤ g k) → sumN f n ≤ sumN g n
  | 0, _ => Int.le_refl _
  | n + 1, h => by
    have := sumN_le (n := n) fun k hk => h k (by omega)
    have := h n (by omega)
    rw [sumN, sumN]; omega
theorem sumN_lt {f g : Nat → Int} {m : Nat} (hm : f m < g m) : ∀ {n : Nat}, m < n → (∀ k, k < n → f k ≤ g k) → sumN f n + 1 ≤ sumN g n
  | 0, h, _ => by omega
  | n + 1, h, hle => by
    have h2 := hle n (by omega)
    rw [sumN, sumN]
    by_cases e : m = n
    · subst e
      have := sumN_le (n := m) fun k hk => hle k (by omega)
      omega
    · have := sumN_lt hm (n := n) (by omega) fun k hk => hle k (by omega)
      omega
theorem sumN_bnd {f : Nat → Int} {b : Int} : ∀ {n : Nat}, (∀ k, k < n → 0 ≤ f k ∧ f k ≤ b) → 0 ≤ sumN f n ∧ sumN f n ≤ b * n
  | 0, _ => by simp [sumN]
  | n + 1, h => by
    have h1 := sumN_bnd (n := n) fun k hk => h k (by omega)
    have h2 := h n (by omega)
    have h3 : b * ((n + 1 : Nat) : Int) = b * n + b := by rw [Int.natCast_add, Int.mul_add]; simp
    rw [sumN, h3]; omega
/-- What all have, each as one sees it. -/
def potG (xs os : List Int) (p q : Int) : Int := sumN (fun x => ptF xs os q x x) p.toNat
def turnE (xs os : List Int) (p q : Int) : List Int := os.map (nxtG (envG xs os p q) (ringG (envG xs os p q) p.toNat))
def ownR (p q : Int) (os : List Int) : Prop := (os.length : Int) ≤ q ∧ ∀ z ∈ os, 0 ≤ z ∧ z < p
theorem potG_bnd {xs os : List Int} {p q : Int} (hx : validV p q xs = true) (ho : ownR p q os) : 0 ≤ potG xs os p q ∧ potG xs os p q ≤ 48000 := by
  have hv := validV_get hx
  have hl := ho.1
  have := sumN_bnd (f := fun x => ptF xs os q x x) (b := 8000) (n := p.toNat) fun k hk => by
    have := ptS_bnd (os := os) (q := q) (i := (k : Int)) (j := (k : Int)) (valB_of hx) os.length
    show 0 ≤ ptS xs os q k k os.length ∧ ptS xs os q k k os.length ≤ 8000
    omega
  have h2 : (8000 : Int) * (p.toNat : Int) ≤ 48000 := by omega
  unfold potG
  omega
theorem turn_len {xs os : List Int} {p q : Int} : (turnE xs os p q).length = os.length := List.length_map ..
theorem nxt_bnd {g : Int → Int} {n : Nat} {rs : List Int} {z : Int} (hg : ∀ x, 0 ≤ x → x < (n : Int) → 0 ≤ g x ∧ g x < n) (hz : 0 ≤ z ∧ z < (n : Int)) : 0 ≤ nxtG g rs z ∧ nxtG g rs z < n := by
  unfold nxtG
  split
  · exact hg z hz.1 hz.2
  · exact hz
theorem turn_own {xs os : List Int} {p q : Int} (ho : ownR p q os) (hf : freeG xs os p q < 0) : ownR p q (turnE xs os p q) := by
  refine ⟨by rw [turn_len]; exact ho.1, fun z hz => ?_⟩
  obtain ⟨y, hy, rfl⟩ := List.mem_map.1 hz
  have h1 := ho.2 y hy
  have := nxt_bnd (rs := ringG (envG xs os p q) p.toNat) (freeG_no hf) (z := y) (by omega)
  omega
theorem turn_pot {xs os : List Int} {p q : Int} (hx : validV p q xs = true) (ho : ownR p q os) (hf : freeG xs os p q < 0) : potG xs os p q + 1 ≤ potG xs (turnE xs os p q) p q := by
  have hv := validV_get hx
  have hg := freeG_no hf
  have hE := endN_good (n := p.toNat) (by omega) hg
  have hl := ho.1
  have step : ∀ y : Nat, y < p.toNat → ptF xs os q y y ≤ ptF xs (turnE xs os p q) q y y ∧ ((y : Int) ∈ ringG (envG xs os p q) p.toNat → ptF xs os q y y < ptF xs (turnE xs os p q) q y y) := fun y hy => by
    obtain ⟨y0, hy0, hn, hc⟩ := nxt_from hE (y : Int) (by omega)
    have e : ptF xs (turnE xs os p q) q y y = ptF xs os q y y0 := by
      unfold ptF
      rw [turn_len]
      exact ptS_map hn _ (Nat.le_refl _)
    rw [e]
    rcases hc with ⟨rfl, hm⟩ | ⟨h1, hm⟩
    · exact ⟨Int.le_refl _, fun h => absurd h hm⟩
    · have h2 := envG_yes (xs := xs) (os := os) (p := p) (q := q) (x := y0) (by rw [← h1]; omega)
      rw [← h1, envy_pt (valB_of hx) (by omega)] at h2
      exact ⟨by omega, fun _ => by omega⟩
  obtain ⟨m, hm⟩ := List.exists_mem_of_length_pos (ring_pos hE).1
  have hb := ring_bnd hE m hm
  have h1 := step m.toNat (by omega)
  rw [show ((m.toNat : Nat) : Int) = m by omega] at h1
  exact sumN_lt (m := m.toNat) (f := fun x => ptF xs os q x x) (g := fun x => ptF xs (turnE xs os p q) q x x) (by
    show ptF xs os q (m.toNat : Int) (m.toNat : Int) < _
    rw [show ((m.toNat : Nat) : Int) = m by omega]
    exact h1.2 hm) (by omega) fun k hk => (step k hk).1

/-! ## Turns until somebody is free -/
def settleG (xs : List Int) (p q : Int) : Nat → List Int → List Int
  | 0, os => os
  | f + 1, os => if freeG xs os p q < 0 then settleG xs p q f (turnE xs os p q) else os
theorem settle_here {xs os : List Int} {p q : Int} {f : Nat} (h : ¬ freeG xs os p q < 0) : settleG xs p q f os = os := by
  cases f with
  | zero => rfl
  | succ f => rw [settleG, if_neg h]
theorem settle_irr {xs : List Int} {p q : Int} (hx : validV p q xs = true) : ∀ (f f' : Nat) (os : List Int), ownR p q os → (48000 : Int) - potG xs os p q ≤ f → (48000 : Int) - potG xs os p q ≤ f' → settleG xs p q f os = settleG xs p q f' os
  | 0, f', os, ho, h1, h2 => by
    have hf : ¬ freeG xs os p q < 0 := fun hf => by
      have := turn_pot hx ho hf
      have := (potG_bnd hx (turn_own ho hf)).2
      omega
    rw [settle_here hf, settle_here hf]
  | f + 1, f', os, ho, h1, h2 => by
    by_cases hf : freeG xs os p q < 0
    · have h3 := turn_pot hx ho hf
      have h4 := (potG_bnd hx (turn_own ho hf)).2
      obtain ⟨f2, rfl⟩ : ∃ f2, f' = f2 + 1 := ⟨f' - 1, by omega⟩
      rw [settleG, if_pos hf, settleG, if_pos hf]
      exact settle_irr hx f f2 _ (turn_own ho hf) (by omega) (by omega)
    · rw [settle_here hf, settle_here hf]
/-- How many turns are enough; not to be unfolded. -/
theorem fuel_ex : ∃ F : Nat, F = 48000 := ⟨48000, rfl⟩
noncomputable def fuelG : Nat := Classical.choose fuel_ex
theorem fuelG_eq : fuelG = 48000 := Classical.choose_spec fuel_ex
theorem settle_on {xs os : List Int} {p q : Int} (hx : validV p q xs = true) (ho : ownR p q os) (hf : freeG xs os p q < 0) : settleG xs p q fuelG os = settleG xs p q fuelG (turnE xs os p q) := by
  rw [fuelG_eq]
  have h1 := turn_pot hx ho hf
  have h2 := potG_bnd hx ho
  have h3 := potG_bnd hx (turn_own ho hf)
  have e : settleG xs p q 48000 os = settleG xs p q 47999 (turnE xs os p q) := by
    show settleG xs p q (47999 + 1) os = _
    rw [settleG, if_pos hf]
  rw [e]
  exact settle_irr hx _ _ _ (turn_own ho hf) (by omega) (by omega)
theorem settle_good {xs : List Int} {p q : Int} (hx : validV p q xs = true) : ∀ (f : Nat) (os : List Int), ownR p q os → (48000 : Int) - potG xs os p q ≤ f → ownR p q (settleG xs p q f os) ∧ (settleG xs p q f os).length = os.length ∧ ¬ freeG xs (settleG xs p q f os) p q < 0
  | 0, os, ho, h1 => by
    refine ⟨ho, rfl, fun hf => ?_⟩
    have := turn_pot hx ho hf
    have := (potG_bnd hx (turn_own ho hf)).2
    omega
  | f + 1, os, ho, h1 => by
    by_cases hf : freeG xs os p q < 0
    · have h3 := turn_pot hx ho hf
      rw [settleG, if_pos hf]
      obtain ⟨a, b, c⟩ := settle_good hx f _ (turn_own ho hf) (by omega)
      exact ⟨a, by rw [b, turn_len], c⟩
    · rw [settle_here hf]
      exact ⟨ho, rfl, hf⟩
/-- The owners of the first things, in rounds. -/
noncomputable def roundsG (xs : List Int) (p q : Int) : Nat → List Int
  | 0 => []
  | k + 1 => settleG xs p q fuelG (roundsG xs p q k) ++ [freeG xs (settleG xs p q fuelG (roundsG xs p q k)) p q]
theorem rounds_good {xs : List Int} {p q : Int} (hx : validV p q xs = true) : ∀ k : Nat, (k : Int) ≤ q → ownR p q (roundsG xs p q k) ∧ (roundsG xs p q k).length = k
  | 0, h => ⟨⟨by simpa [roundsG] using h, fun z hz => by simp [roundsG] at hz⟩, rfl⟩
  | k + 1, h => by
    obtain ⟨h1, h2⟩ := rounds_good hx k (by omega)
    obtain ⟨a, b, c⟩ := settle_good hx fuelG _ h1 (by have := potG_bnd hx h1; rw [fuelG_eq]; omega)
    have hfr := freeG_yes (xs := xs) (os := settleG xs p q fuelG (roundsG xs p q k)) (p := p) (q := q) (by omega)
    rw [roundsG]
    refine ⟨⟨by simp [b, h2]; omega, fun z hz => ?_⟩, by simp [b, h2]⟩
    rw [List.mem_append, List.mem_singleton] at hz
    rcases hz with hz | rfl
    · exact a.2 z hz
    · omega
end Go.Am
