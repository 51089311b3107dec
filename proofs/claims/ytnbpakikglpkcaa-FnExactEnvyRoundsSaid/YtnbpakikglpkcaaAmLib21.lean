/-
  The abstract heap: the walks' view of things handed round. General: no program is named.
-/
import Derived.Test.YtnbpakikglpkcaaAmLib20
namespace Go.Am
set_option linter.unusedSimpArgs false
set_option linter.unusedVariables false

abbrev padG (os : List Int) (r : Nat) : List Int := os ++ List.replicate r (-1)
theorem partS_pad {xs os : List Int} {q i j : Int} {r : Nat} (hj : 0 ≤ j) : ∀ k, k ≤ os.length + r → partS xs (padG os r) q i j k = partS xs os q i j (min k os.length)
  | 0, _ => by simp [partS]
  | k + 1, hk => by
    rw [partS, partS_pad hj k (by omega)]
    by_cases c : k < os.length
    · rw [Nat.min_eq_left (by omega), Nat.min_eq_left (by omega), partS, show (padG os r).getD k 0 = os.getD k 0 by
        rw [getD_at (by simp; omega), getD_at c, List.getElem_append_left c]]
    · rw [Nat.min_eq_right (by omega), Nat.min_eq_right (by omega), if_neg]
      rw [getD_at (by simp; omega), List.getElem_append_right (by omega), List.getElem_replicate]; omega
theorem partF_pad {xs os : List Int} {q i j : Int} {r : Nat} (hj : 0 ≤ j) : partF xs (padG os r) q i j = partF xs os q i j := by
  rw [partF, partS_pad hj _ (by simp), partF, Nat.min_eq_right (by simp)]
theorem idxTo_same {f g : Int → Bool} {ys : List Int} : ∀ n, (∀ k, k < n → f (ys.getD k 0) = g (ys.getD k 0)) → idxTo f ys n = idxTo g ys n
  | 0, _ => rfl
  | n + 1, h => by rw [idxTo, idxTo, idxTo_same n fun k hk => h k (by omega), h n (by omega)]
theorem envG_pad {xs os : List Int} {p q x : Int} {r : Nat} (hx : 0 ≤ x) : envG xs (padG os r) p q x = envG xs os p q x := by
  refine idxTo_same _ fun k hk => ?_
  rw [cntL_get hk, envyF, envyF, partF_pad hx, partF_pad (by omega)]
/-! ## The ring in the walks -/
theorem idx_not {xs : List Int} {x : Int} (h : idxI xs x < 0) : x ∉ xs := fun hm => by
  obtain ⟨a, _, _, e, _⟩ := idxI_get hm
  omega
theorem idx_mem {xs : List Int} {x : Int} (h : ¬ idxI xs x < 0) : x ∈ xs := by
  have hc : decide (0 ≤ idxI xs x) = xs.contains x := idx_has
  rw [decide_eq_true (by omega)] at hc
  exact List.contains_iff_mem.1 hc.symm
theorem path_last {g : Int → Int} {s : Nat} (h : 1 ≤ s) : (pathG g s).getD ((s : Int) - 1).toNat 0 = itG g (s - 1) := by
  rw [show ((s : Int) - 1).toNat = s - 1 by omega, pathG_get (by omega)]
theorem ring_part {g : Int → Int} {s : Nat} : part (pathG g s) (idxI (pathG g s) (itG g s)).toNat (pathG g s).length = ringP g s := by
  rw [part, ringP, List.take_of_length_le (by simp)]
theorem end_is {g : Int → Int} {n s : Nat} (hm : itG g s ∈ pathG g s) (he : endG g (n - s) s = endN g n) : s = endN g n := by
  rw [← he, end_here hm]
/-- The ones ahead in the ring. -/
def rotP (rs : List Int) (t : Nat) : List Int := (List.range t).map fun j => rs.getD ((j + rs.length - 1) % rs.length) 0
theorem rotP_step {rs : List Int} {t : Nat} : rotP rs t ++ [rs.getD ((t + rs.length - 1) % rs.length) 0] = rotP rs (t + 1) := map_step (f := fun j => rs.getD ((j + rs.length - 1) % rs.length) 0)
theorem rotP_mem {rs : List Int} {z : Int} : z ∈ rotP rs rs.length ↔ z ∈ rs := by
  constructor
  · intro h
    obtain ⟨j, hj, rfl⟩ := List.mem_map.1 h
    have hj' := List.mem_range.1 hj
    have : (j + rs.length - 1) % rs.length < rs.length := Nat.mod_lt _ (by omega)
    rw [getD_at this]
    exact List.getElem_mem _
  · intro h
    obtain ⟨b, hb, rfl⟩ := List.getElem_of_mem h
    refine List.mem_map.2 ⟨(b + 1) % rs.length, List.mem_range.2 (Nat.mod_lt _ (by omega)), ?_⟩
    have e : ((b + 1) % rs.length + rs.length - 1) % rs.length = b := by
      by_cases c : b + 1 = rs.length
      · rw [c, Nat.mod_self, Nat.zero_add, Nat.mod_eq_of_lt (by omega)]; omega
      · rw [Nat.mod_eq_of_lt (a := b + 1) (by omega), show b + 1 + rs.length - 1 = b + rs.length by omega, Nat.add_mod_right, Nat.mod_eq_of_lt hb]
    show rs.getD (((b + 1) % rs.length + rs.length - 1) % rs.length) 0 = _
    rw [e, getD_at hb]
theorem nxt_rot {g : Int → Int} {rs : List Int} : nxtG g (rotP rs rs.length) = nxtG g rs := by
  funext z
  unfold nxtG
  by_cases h : z ∈ rs
  · rw [if_pos h, if_pos (rotP_mem.2 h)]
  · rw [if_neg h, if_neg (fun x => h (rotP_mem.1 x))]
def nxlG (g : Int → Int) (ms : List Int) (n : Nat) : List Int := (cntL n).map (nxtG g ms)
theorem nxl_len {g : Int → Int} {ms : List Int} {n : Nat} : (nxlG g ms n).length = n := by simp [nxlG, cntL_len]
theorem nxl_zero {g : Int → Int} {n : Nat} : nxlG g [] n = cntL n := by
  have : nxtG g [] = id := by funext z; simp [nxtG]
  rw [nxlG, this, List.map_id]
theorem nxl_get {g : Int → Int} {ms : List Int} {n : Nat} {z : Int} (h : 0 ≤ z ∧ z < (n : Int)) : (nxlG g ms n).getD z.toNat 0 = nxtG g ms z := by
  have hz : z.toNat < (cntL n).length := by rw [cntL_len]; omega
  rw [nxlG, getD_at (by simpa using hz), List.getElem_map, ← getD_at hz, cntL_get (by omega), show ((z.toNat : Nat) : Int) = z by omega]
theorem nxl_set {g : Int → Int} {ms : List Int} {n : Nat} {x : Int} (h : 0 ≤ x ∧ x < (n : Int)) : (nxlG g ms n).set x.toNat (g x) = nxlG g (ms ++ [x]) n := by
  refine List.ext_getElem (by simp [nxlG]) fun k h1 h2 => ?_
  have hk : k < n := by simpa [nxlG, cntL_len] using h2
  have hc : (cntL n)[k]'(by rw [cntL_len]; exact hk) = (k : Int) := by rw [← getD_at (by rw [cntL_len]; exact hk), cntL_get hk]
  rw [List.getElem_set]
  simp only [nxlG, List.getElem_map, hc]
  by_cases e : x.toNat = k
  · rw [if_pos e, nxtG, if_pos (by rw [List.mem_append, List.mem_singleton]; right; omega)]
    congr 1; omega
  · rw [if_neg e]
    unfold nxtG
    by_cases c : (k : Int) ∈ ms
    · rw [if_pos c, if_pos (List.mem_append_left _ c)]
    · rw [if_neg c, if_neg (by rw [List.mem_append, List.mem_singleton]; rintro (h3 | h3); exact c h3; omega)]
theorem rot_next {g : Int → Int} {n s j : Nat} (h : EndP g n s) (hj : j < (ringP g s).length) : (ringP g s).getD j 0 = g ((ringP g s).getD ((j + (ringP g s).length - 1) % (ringP g s).length) 0) := by
  have hL : 0 < (ringP g s).length := by omega
  have e := ring_next h (b := (j + (ringP g s).length - 1) % (ringP g s).length) (Nat.mod_lt _ hL)
  rw [← e]
  congr 1
  by_cases c : j = 0
  · subst c
    rw [Nat.zero_add, Nat.mod_eq_of_lt (a := (ringP g s).length - 1) (by omega), Nat.sub_add_cancel hL, Nat.mod_self]
  · rw [show j + (ringP g s).length - 1 = j - 1 + (ringP g s).length by omega, Nat.add_mod_right, Nat.mod_eq_of_lt (a := j - 1) (by omega), Nat.sub_add_cancel (by omega), Nat.mod_eq_of_lt hj]
theorem rot_mod {j L : Nat} (hL : 0 < L) : ((j : Int) + (L : Int) - 1) % (L : Int) = (((j + L - 1) % L : Nat) : Int) := by
  rw [show (j : Int) + (L : Int) - 1 = ((j + L - 1 : Nat) : Int) by omega]
  rfl
theorem next_mod {j L : Nat} : ((j : Int) + 1) % (L : Int) = (((j + 1) % L : Nat) : Int) := by
  show ((j + 1 : Nat) : Int) % (L : Int) = _
  rfl
theorem ring_getb {g : Int → Int} {n s b : Nat} (h : EndP g n s) (hb : b < (ringP g s).length) : 0 ≤ (ringP g s).getD b 0 ∧ (ringP g s).getD b 0 < (n : Int) := by
  rw [getD_at hb]; exact ring_bnd h _ (List.getElem_mem hb)
/-- A list of which the first are handed on. -/
def mapT (f : Int → Int) (ws : List Int) (t : Nat) : List Int := (ws.take t).map f ++ ws.drop t
theorem mapT_zero {f : Int → Int} {ws : List Int} : mapT f ws 0 = ws := by simp [mapT]
theorem mapT_len {f : Int → Int} {ws : List Int} {t : Nat} : (mapT f ws t).length = ws.length := by simp [mapT]; omega
theorem mapT_get {f : Int → Int} {ws : List Int} {t : Nat} (h : t < ws.length) : (mapT f ws t).getD t 0 = ws.getD t 0 := by
  have hl : ((ws.take t).map f).length = t := by simp; omega
  rw [mapT, List.getD_eq_getElem?_getD, List.getElem?_append_right (by omega), hl, Nat.sub_self, List.getElem?_drop, Nat.add_zero, ← List.getD_eq_getElem?_getD]
theorem mapT_set {f : Int → Int} {ws : List Int} {t : Nat} (h : t < ws.length) : (mapT f ws t).set t (f (ws.getD t 0)) = mapT f ws (t + 1) := by
  have hl : ((ws.take t).map f).length = t := by simp; omega
  rw [mapT, mapT, List.set_append_right _ _ (by omega), hl, Nat.sub_self, List.drop_eq_getElem_cons h, List.set_cons_zero, List.take_succ_eq_append_getElem h, List.map_append, List.append_assoc, getD_at h]
  rfl
theorem mapT_skip {f : Int → Int} {ws : List Int} {t : Nat} (h : t < ws.length) (he : f (ws.getD t 0) = ws.getD t 0) : mapT f ws t = mapT f ws (t + 1) := by
  rw [← mapT_set h, he, ← mapT_get (f := f) h]
  have hl : t < (mapT f ws t).length := by rw [mapT_len]; exact h
  rw [getD_at hl, List.set_getElem_self]
theorem mapT_full {f : Int → Int} {ws : List Int} : mapT f ws ws.length = ws.map f := by simp [mapT]
theorem pad_get {os : List Int} {r t : Nat} {p q : Int} (ho : ownR p q os) (h : t < (padG os r).length) : -1 ≤ (padG os r).getD t 0 ∧ (padG os r).getD t 0 < p ∨ (padG os r).getD t 0 = -1 := by
  by_cases c : t < os.length
  · rw [getD_at h, List.getElem_append_left c]
    have := ho.2 _ (List.getElem_mem c)
    left; omega
  · rw [getD_at h, List.getElem_append_right (by omega), List.getElem_replicate]
    right; rfl
theorem pad_map {os : List Int} {r : Nat} {f : Int → Int} (hf : f (-1) = -1) : (padG os r).map f = padG (os.map f) r := by
  rw [padG, List.map_append, List.map_replicate, hf]
theorem nxt_neg {g : Int → Int} {n s : Nat} {z : Int} (h : EndP g n s) (hz : z < 0) : nxtG g (ringP g s) z = z := by
  rw [nxtG, if_neg]
  intro hm
  have := ring_bnd h _ hm
  omega
theorem turn_full {xs os : List Int} {p q : Int} {r s : Nat} (h : EndP (envG xs os p q) p.toNat s) (he : s = endN (envG xs os p q) p.toNat) : mapT (nxtG (envG xs os p q) (ringP (envG xs os p q) s)) (padG os r) (padG os r).length = padG (turnE xs os p q) r := by
  rw [mapT_full, pad_map (nxt_neg h (by omega)), turnE, ringG, ← he]
/-- One place of the ring after the other. -/
theorem nxt_take {g : Int → Int} {n s j : Nat} {z : Int} (h : EndP g n s) (hj : j < (ringP g s).length) (hz : (ringP g s).getD j 0 = z) : (ringP g s).getD ((j + 1) % (ringP g s).length) 0 = nxtG g ((ringP g s).take (j + 1)) z := by
  rw [ring_next h hj, hz, nxtG, if_pos]
  rw [List.take_succ_eq_append_getElem hj, List.mem_append, List.mem_singleton, ← getD_at hj]
  exact .inr hz.symm
theorem nxt_skip {g : Int → Int} {rs : List Int} {j : Nat} {z : Int} (hj : j < rs.length) (hz : ¬ rs.getD j 0 = z) : nxtG g (rs.take j) z = nxtG g (rs.take (j + 1)) z := by
  unfold nxtG
  rw [List.take_succ_eq_append_getElem hj]
  by_cases c : z ∈ rs.take j
  · rw [if_pos c, if_pos (List.mem_append_left _ c)]
  · rw [if_neg c, if_neg]
    rw [List.mem_append, List.mem_singleton, ← getD_at hj]
    rintro (h | h)
    · exact c h
    · exact hz h.symm
theorem nxl_rot {g : Int → Int} {rs : List Int} {n : Nat} : nxlG g (rotP rs rs.length) n = nxlG g rs n := by rw [nxlG, nxt_rot, nxlG]
theorem pathL_last {g : Int → Int} {s : Nat} (h : 1 ≤ s) : (pathG g s).getD (((pathG g s).length : Int) - 1).toNat 0 = itG g (s - 1) := by rw [pathG_len, path_last h]
theorem subv_one {k a s m : Nat} (h : m = s - a) : subv (.slice (some ⟨k, a, some s⟩) (s - a) (s - a)) 1 m = .slice (some ⟨k, a + 1, some s⟩) (s - (a + 1)) (s - (a + 1)) := by
  subst h
  simp only [subv]
  rw [show s - a - 1 = s - (a + 1) by omega]
theorem cut_ints {h : AHeap} {k a s : Nat} {xs : List Int} (hI : Ints h (sl k s) xs) (h0 : 0 < xs.length) (h1 : a ≤ s) (h2 : xs.length = s) : Ints h (.slice (some ⟨k, a, some s⟩) (s - a) (s - a)) (part xs a s) := by
  have := hI.sub h0 h1 (by omega)
  simpa [subv] using this
theorem ring_part2 {g : Int → Int} {a s : Nat} (h : idxI (pathG g s) (itG g s) = (a : Int)) : part (pathG g s) a s = ringP g s := by
  have := ring_part (g := g) (s := s)
  rwa [h, show ((a : Int)).toNat = a from rfl, pathG_len] at this
theorem map_take_step {f : Int → Int} {os : List Int} {t : Nat} (h : t < os.length) : (os.take t).map f ++ [f (os.getD t 0)] = (os.take (t + 1)).map f := by
  rw [List.take_succ_eq_append_getElem h, List.map_append, getD_at h]; rfl
theorem turn_map {xs os : List Int} {p q : Int} {s : Nat} (he : s = endN (envG xs os p q) p.toNat) : os.map (nxtG (envG xs os p q) (ringP (envG xs os p q) s)) = turnE xs os p q := by rw [turnE, ringG, ← he]
end Go.Am
