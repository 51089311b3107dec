/-
  The abstract heap: what this claim needs of it. General: no program is named.
-/
import Derived.Test.YtfnopalingnilaaAmG3
namespace Go.Am
set_option linter.unusedSimpArgs false
set_option linter.unusedVariables false

/-! ## Two lists -/
/-! ## All orders, and the best of them -/
def wV (xs : List Int) (n i t : Int) : Int := xs.getD (i * n + t).toNat 0
def sumW6 (xs : List Int) (n : Int) (l : List Int) : Nat → Int
  | 0 => 0
  | s + 1 => sumW6 xs n l s + wV xs n s (l.getD s 0)
theorem wV_bnd {xs : List Int} (hb : xs.all (fun x => decide (0 ≤ x ∧ x ≤ 1000)) = true) {n i t : Int} : 0 ≤ wV xs n i t ∧ wV xs n i t ≤ 1000 := by
  unfold wV
  by_cases h : (i * n + t).toNat < xs.length
  · rw [getD_at h]
    exact of_decide_eq_true (List.all_eq_true.1 hb _ (List.getElem_mem _))
  · rw [List.getD_eq_getElem?_getD, List.getElem?_eq_none (by omega)]
    exact ⟨Int.le_refl _, by decide⟩
theorem sumW6_app {xs : List Int} {n : Int} {l m : List Int} : ∀ s : Nat, s ≤ l.length → sumW6 xs n (l ++ m) s = sumW6 xs n l s
  | 0, _ => rfl
  | s + 1, h => by
    rw [sumW6, sumW6, sumW6_app s (by omega), List.getD_eq_getElem?_getD, List.getElem?_append_left (by omega), ← List.getD_eq_getElem?_getD]
def permR (n : Nat) : Nat → List Int → List (List Int)
  | 0, t => [t]
  | d + 1, t => (List.range n).flatMap fun (k : Nat) => if t.contains (k : Int) then [] else permR n d (t ++ [(k : Int)])
abbrev BSt := Option (List Int) × Int
def stepB (f : List Int → Int) (st : BSt) (l : List Int) : BSt := match st.1 with
  | none => (some l, f l)
  | some _ => if st.2 < f l then (some l, f l) else st
def runB (f : List Int → Int) (st : BSt) (ls : List (List Int)) : BSt := ls.foldl (stepB f) st
theorem runB_app {f : List Int → Int} {st : BSt} {a b : List (List Int)} : runB f st (a ++ b) = runB f (runB f st a) b := List.foldl_append
theorem stepB_none {f : List Int → Int} {m : Int} {l : List Int} : stepB f (none, m) l = (some l, f l) := rfl
theorem stepB_yes {f : List Int → Int} {c l : List Int} {m : Int} (h : m < f l) : stepB f (some c, m) l = (some l, f l) := if_pos h
theorem stepB_no {f : List Int → Int} {c l : List Int} {m : Int} (h : ¬ m < f l) : stepB f (some c, m) l = (some c, m) := if_neg h
theorem stepB_two {f : List Int → Int} {st : BSt} {a b : List Int} : stepB f (stepB f st a) b = stepB f st (if f a < f b then b else a) := by
  obtain ⟨o, m⟩ := st
  cases o with
  | none =>
    rw [stepB_none, stepB_none]
    by_cases h2 : f a < f b
    · rw [stepB_yes h2, if_pos h2]
    · rw [stepB_no h2, if_neg h2]
  | some c =>
    by_cases h1 : m < f a
    · rw [stepB_yes h1]
      by_cases h2 : f a < f b
      · rw [stepB_yes h2, if_pos h2, stepB_yes (show m < f b by omega)]
      · rw [stepB_no h2, if_neg h2, stepB_yes h1]
    · rw [stepB_no h1]
      by_cases h2 : f a < f b
      · rw [if_pos h2]
      · rw [if_neg h2, stepB_no h1, stepB_no (show ¬ m < f b by omega)]
/-- The rooms with the greatest sum, by trying all for the next player. -/
def stepR (xs : List Int) (n : Nat) (g : List Int → List Int × Int) (t : List Int) (st : List Int × Int) (k : Nat) : List Int × Int :=
  if t.contains (k : Int) then st else if st.2 < (g (t ++ [(k : Int)])).2 + wV xs n t.length k then ((k : Int) :: (g (t ++ [(k : Int)])).1, (g (t ++ [(k : Int)])).2 + wV xs n t.length k) else st
def roomsR (xs : List Int) (n : Nat) : Nat → List Int → List Int × Int
  | 0, _ => ([], 0)
  | d + 1, t => (List.range n).foldl (stepR xs n (roomsR xs n d) t) ([], -1)
def roomsK (xs : List Int) (n d : Nat) (t : List Int) (k : Nat) : List Int × Int := (List.range k).foldl (stepR xs n (roomsR xs n d) t) ([], -1)
theorem roomsK_step {xs : List Int} {n d k : Nat} {t : List Int} : roomsK xs n d t (k + 1) = stepR xs n (roomsR xs n d) t (roomsK xs n d t k) k := by
  unfold roomsK
  rw [List.range_succ, List.foldl_append]; rfl
theorem roomsK_has {xs : List Int} {n d k : Nat} {t : List Int} (h : t.contains (k : Int) = true) : roomsK xs n d t (k + 1) = roomsK xs n d t k := by rw [roomsK_step, stepR, if_pos h]
theorem roomsK_new {xs : List Int} {n d k : Nat} {t : List Int} (h : t.contains (k : Int) = false) (c : (roomsK xs n d t k).2 < (roomsR xs n d (t ++ [(k : Int)])).2 + wV xs n t.length k) :
    roomsK xs n d t (k + 1) = ((k : Int) :: (roomsR xs n d (t ++ [(k : Int)])).1, (roomsR xs n d (t ++ [(k : Int)])).2 + wV xs n t.length k) := by rw [roomsK_step, stepR, if_neg (by rw [h]; decide), if_pos c]
theorem roomsK_old {xs : List Int} {n d k : Nat} {t : List Int} (h : t.contains (k : Int) = false) (c : ¬ (roomsK xs n d t k).2 < (roomsR xs n d (t ++ [(k : Int)])).2 + wV xs n t.length k) :
    roomsK xs n d t (k + 1) = roomsK xs n d t k := by rw [roomsK_step, stepR, if_neg (by rw [h]; decide), if_neg c]
theorem all_there : ∀ (n : Nat) (t : List Int), (∀ k, k < n → (k : Int) ∈ t) → n ≤ t.length
  | 0, _, _ => Nat.zero_le _
  | n + 1, t, h => by
    have h1 := h n (by omega)
    have h2 := all_there n (t.erase (n : Int)) fun k hk => (List.mem_erase_of_ne (by omega)).2 (h k (by omega))
    have h3 := List.length_pos_of_mem h1
    rw [List.length_erase_of_mem h1] at h2
    omega
theorem exists_free {n : Nat} {t : List Int} (ht : t.length < n) : ∃ k, k < n ∧ t.contains (k : Int) = false := by
  refine Classical.byContradiction fun hno => ?_
  have hall : ∀ k, k < n → (k : Int) ∈ t := fun k hk => by
    refine Classical.byContradiction fun hm => hno ⟨k, hk, ?_⟩
    rw [← Bool.not_eq_true, List.contains_iff_mem]
    exact hm
  exact absurd (all_there n t hall) (by omega)
def BestQ (xs : List Int) (n d : Nat) (t : List Int) (ls : List (List Int)) (q : List Int × Int) : Prop :=
  (∀ st, runB (fun l => sumW6 xs n l n) st ls = stepB (fun l => sumW6 xs n l n) st (t ++ q.1)) ∧ sumW6 xs n (t ++ q.1) n = sumW6 xs n t t.length + q.2 ∧ 0 ≤ q.2 ∧ q.1.length = d
theorem best_rooms {xs : List Int} (hb : xs.all (fun x => decide (0 ≤ x ∧ x ≤ 1000)) = true) {n : Nat} : ∀ (d : Nat) (t : List Int), t.length + d = n → BestQ xs n d t (permR n d t) (roomsR xs n d t)
  | 0, t, ht => by
    have e : t.length = n := by omega
    refine ⟨fun st => ?_, ?_, Int.le_refl _, rfl⟩
    · rw [show permR n 0 t = [t] from rfl, show (roomsR xs n 0 t).1 = [] from rfl, List.append_nil]; rfl
    · show sumW6 xs n (t ++ []) n = sumW6 xs n t t.length + 0
      rw [List.append_nil, e]; omega
  | d + 1, t, ht => by
    have hpre : ∀ k, k ≤ n → ((∀ j, j < k → t.contains (j : Int) = true) ∧ roomsK xs n d t k = ([], -1) ∧ ((List.range k).flatMap fun (k : Nat) => if t.contains (k : Int) then [] else permR n d (t ++ [(k : Int)])) = []) ∨
        BestQ xs n (d + 1) t ((List.range k).flatMap fun (k : Nat) => if t.contains (k : Int) then [] else permR n d (t ++ [(k : Int)])) (roomsK xs n d t k) := by
      intro k
      induction k with
      | zero => intro _; exact .inl ⟨fun j hj => absurd hj (by omega), rfl, rfl⟩
      | succ k ih =>
        intro hk
        have hfl : ((List.range (k + 1)).flatMap fun (k : Nat) => if t.contains (k : Int) then [] else permR n d (t ++ [(k : Int)])) = ((List.range k).flatMap fun (k : Nat) => if t.contains (k : Int) then [] else permR n d (t ++ [(k : Int)])) ++ (if t.contains (k : Int) then [] else permR n d (t ++ [(k : Int)])) := by
          rw [List.range_succ, List.flatMap_append, List.flatMap_cons, List.flatMap_nil, List.append_nil]
        rw [hfl]
        cases hc : t.contains (k : Int) with
        | true =>
          rw [roomsK_has hc, if_pos rfl, List.append_nil]
          rcases ih (by omega) with ⟨h1, h2, h3⟩ | h1
          · refine .inl ⟨fun j hj => ?_, h2, h3⟩
            by_cases e : j = k
            · subst e; exact hc
            · exact h1 j (by omega)
          · exact .inr h1
        | false =>
          rw [if_neg (by decide)]
          obtain ⟨q1, q2, q3, q4⟩ := best_rooms hb (n := n) d (t ++ [(k : Int)]) (by simp; omega)
          have e1 : (t ++ [(k : Int)]).length = t.length + 1 := by simp
          have e2 : sumW6 xs n (t ++ [(k : Int)]) (t ++ [(k : Int)]).length = sumW6 xs n t t.length + wV xs n t.length k := by
            rw [e1, sumW6, sumW6_app t.length (Nat.le_refl _), List.getD_eq_getElem?_getD, List.getElem?_append_right (Nat.le_refl _), Nat.sub_self]; rfl
          have hw := wV_bnd hb (n := n) (i := t.length) (t := k)
          have e3 : t ++ [(k : Int)] ++ (roomsR xs n d (t ++ [(k : Int)])).1 = t ++ ((k : Int) :: (roomsR xs n d (t ++ [(k : Int)])).1) := by simp
          rw [e2, e3] at q2
          rw [e3] at q1
          rcases ih (by omega) with ⟨h1, h2, h3⟩ | ⟨h1, h2, h3, h4⟩
          · rw [roomsK_new hc (by rw [h2]; show (-1 : Int) < _; omega), h3, List.nil_append]
            exact .inr ⟨q1, by rw [q2]; show _ = _ + ((roomsR xs n d (t ++ [(k : Int)])).2 + wV xs n t.length k); omega, by show 0 ≤ (roomsR xs n d (t ++ [(k : Int)])).2 + wV xs n t.length k; omega, by simp [q4]⟩
          · by_cases c : (roomsK xs n d t k).2 < (roomsR xs n d (t ++ [(k : Int)])).2 + wV xs n t.length k
            · rw [roomsK_new hc c]
              refine .inr ⟨fun st => ?_, by rw [q2]; show _ = _ + ((roomsR xs n d (t ++ [(k : Int)])).2 + wV xs n t.length k); omega, by show 0 ≤ (roomsR xs n d (t ++ [(k : Int)])).2 + wV xs n t.length k; omega, by simp [q4]⟩
              rw [runB_app, h1, q1, stepB_two, if_pos (by rw [h2, q2]; omega)]
            · rw [roomsK_old hc c]
              refine .inr ⟨fun st => ?_, h2, h3, h4⟩
              rw [runB_app, h1, q1, stepB_two, if_neg (by rw [h2, q2]; omega)]
    rcases hpre n (Nat.le_refl _) with ⟨h1, _, _⟩ | h1
    · obtain ⟨k, hk, hf⟩ := exists_free (n := n) (t := t) (by omega)
      rw [h1 k hk] at hf; cases hf
    · exact h1
end Go.Am

namespace Go.Am
set_option linter.unusedSimpArgs false
set_option linter.unusedVariables false
def fP (xs : List Int) (n : Nat) (l : List Int) : Int := sumW6 xs n l n
def rmL (xs : List Int) (n : Nat) : List Int := (roomsR xs n n []).1
def BestV (H : AHeap) (lo n : Nat) (bv : Value) (bo : Option (List Int)) : Prop :=
  (bo = none ∧ bv = .slice none 0 0) ∨ ∃ k bl, bo = some bl ∧ bv = sl k n ∧ lo ≤ k ∧ H[k]? = some (lst bl) ∧ bl.length = n
theorem BestV.push {H g : AHeap} {lo n : Nat} {bv : Value} {bo : Option (List Int)} (h : BestV H lo n bv bo) : BestV (H ++ g) lo n bv bo := by
  rcases h with h | ⟨k, bl, h1, h2, h3, h4, h5⟩
  · exact .inl h
  · exact .inr ⟨k, bl, h1, h2, h3, lk_prev h4, h5⟩
theorem BestV.far {X Y g : AHeap} {lo n : Nat} {bv : Value} {bo : Option (List Int)} (h : BestV (X ++ g) lo n bv bo) (e : X.length = Y.length) (hlo : X.length ≤ lo) : BestV (Y ++ g) lo n bv bo := by
  rcases h with h | ⟨k, bl, h1, h2, h3, h4, h5⟩
  · exact .inl h
  · exact .inr ⟨k, bl, h1, h2, h3, by rw [← lk_far e (by omega)]; exact h4, h5⟩
theorem best_end {xs : List Int} (hb : xs.all (fun x => decide (0 ≤ x ∧ x ≤ 1000)) = true) {n : Nat} : runB (fP xs n) (none, 0) (permR n (n - 0) []) = (some (rmL xs n), fP xs n (rmL xs n)) := by
  obtain ⟨h1, _⟩ := best_rooms hb (n := n) n [] (by simp)
  exact (h1 (none, 0)).trans rfl
theorem rooms_range {xs : List Int} {n : Nat} : ∀ (d : Nat) (t : List Int), ∀ y ∈ (roomsR xs n d t).1, 0 ≤ y ∧ y < (n : Int)
  | 0, _, y, hy => by cases hy
  | d + 1, t, y, hy => by
    have key : ∀ k, k ≤ n → ∀ y ∈ (roomsK xs n d t k).1, 0 ≤ y ∧ y < (n : Int) := by
      intro k
      induction k with
      | zero => intro _ y hy; cases hy
      | succ k ih =>
        intro hk y hy
        rw [roomsK_step, stepR] at hy
        split at hy
        · exact ih (by omega) y hy
        · split at hy
          · rcases List.mem_cons.1 hy with rfl | hy
            · omega
            · exact rooms_range d _ y hy
          · exact ih (by omega) y hy
    exact key n (Nat.le_refl _) y hy
theorem rooms_len {xs : List Int} (hb : xs.all (fun x => decide (0 ≤ x ∧ x ≤ 1000)) = true) {n d : Nat} {t : List Int} (h : t.length + d = n) : (roomsR xs n d t).1.length = d := (best_rooms hb d t h).2.2.2
theorem rmL_len {xs : List Int} (hb : xs.all (fun x => decide (0 ≤ x ∧ x ≤ 1000)) = true) {n : Nat} : (rmL xs n).length = n := rooms_len hb (by simp)
theorem rmL_bnd {xs : List Int} {n : Nat} : ∀ y ∈ rmL xs n, 0 ≤ y ∧ y < (n : Int) := rooms_range n []
theorem roomsR_end {xs : List Int} {n d : Nat} {t : List Int} : roomsR xs n (d + 1) t = roomsK xs n d t n := rfl

/-! ## Rents -/
structure RentOk (xs : List Int) (n : Nat) : Prop where
  n1 : 1 ≤ n
  n6 : n ≤ 6
  len : (xs.length : Int) = (n : Int) * (n : Int)
  bnd : xs.all (fun x => decide (0 ≤ x ∧ x ≤ 1000)) = true
end Go.Am

namespace Go.Am
set_option linter.unusedSimpArgs false
set_option linter.unusedVariables false
section
variable {P : Program} {K : Value → AHeap → Prop} {env : Env} {h : AHeap} {dst : Option Tmp} {ty : TypeId} {pos : String} {after : Array Edge} {guard : Option (Nat × Bool)}
end
end Go.Am

namespace Go.Am
set_option linter.unusedSimpArgs false
set_option linter.unusedVariables false
abbrev by8 (n : Int) : Value := .int .u8 n
def Byts (h : AHeap) (v : Value) (xs : List Int) : Prop :=
  (v = .slice none 0 0 ∧ xs = []) ∨
  ∃ k off ver cap o, v = .slice (some ⟨k, off, some ver⟩) xs.length cap ∧ h[k]? = some o ∧ o.cells.length = ver ∧ o.esz = 1 ∧ xs.length ≤ cap ∧ off + cap = ver ∧
    ∀ (i : Nat) (z : Int), xs[i]? = some z → o.cells[off + i]? = some (by8 z)
theorem Byts.app {h : AHeap} {v : Value} {xs : List Int} (hv : Byts h v xs) (g : List AObj) : Byts (h ++ g) v xs := by
  rcases hv with hv | ⟨k, off, ver, cap, o, h1, h2, h3, h4, h5, h6, h7⟩
  · exact .inl hv
  · exact .inr ⟨k, off, ver, cap, o, h1, by rw [List.getElem?_append_left (List.getElem?_eq_some_iff.1 h2).1]; exact h2, h3, h4, h5, h6, h7⟩
theorem Byts.within {h : AHeap} {v : Value} {xs : List Int} (hv : Byts h v xs) : Within h.length v := by
  rcases hv with ⟨rfl, _⟩ | ⟨k, off, ver, cap, o, rfl, h2, _⟩
  · exact .prim rfl
  · exact .slice (List.getElem?_eq_some_iff.1 h2).1
section
variable {P : Program} {K : Value → AHeap → Prop} {env : Env} {h : AHeap} {dst : Option Tmp} {ty : TypeId} {pos : String} {after : Array Edge} {guard : Option (Nat × Bool)}
end
section
variable {P : Program} {ops : Array Oper} {KE : Env → AHeap → Prop} {os : List Oper} {env : Env} {h : AHeap} {d : Option Tmp} {op : Op} {ty : TypeId} {pos : String} {af : Array Edge} {g : Option (Nat × Bool)}
end
def BB (bs : List Int) : Prop := ∀ b ∈ bs, 0 ≤ b ∧ b < 256
theorem BB.at {bs : List Int} (h : BB bs) (i : Nat) : 0 ≤ bs.getD i 0 ∧ bs.getD i 0 < 256 := by
  by_cases c : i < bs.length
  · rw [getD_at c]; exact h _ (List.getElem_mem _)
  · rw [List.getD_eq_getElem?_getD, List.getElem?_eq_none (by omega)]
    exact ⟨Int.le_refl _, by decide⟩
/-- A source: the bytes, the place, the seed. -/
abbrev srcO (v : Value) (a s : Int) : AObj := ⟨[v, i64 a, .int .u64 s], true, 1⟩
theorem Byts.src {h : AHeap} {v v2 : Value} {bs : List Int} {kS : Nat} {a s a2 s2 : Int} (hv : Byts h v bs) (hS : h[kS]? = some (srcO v2 a s)) : Byts (h.set kS (srcO v2 a2 s2)) v bs := by
  rcases hv with hv | ⟨k, off, ver, cap, o, h1, h2, h3, h4, h5, h6, h7⟩
  · exact .inl hv
  · by_cases e : k = kS
    · subst e
      have hk := (List.getElem?_eq_some_iff.1 h2).1
      rw [h2, Option.some.injEq] at hS
      subst hS
      refine .inr ⟨k, off, ver, cap, srcO v2 a2 s2, h1, by rw [List.getElem?_set_self hk], h3, rfl, h5, h6, fun i z hi => ?_⟩
      have h8 := h7 i z hi
      revert h8
      generalize off + i = n
      intro h8
      match n, h8 with
      | 0, h8 => exact h8
      | 1, h8 => simp at h8
      | 2, h8 => simp at h8
      | n + 3, h8 => simp at h8
    · exact .inr ⟨k, off, ver, cap, o, h1, by rw [List.getElem?_set_ne (fun e2 => e e2.symm)]; exact h2, h3, h4, h5, h6, h7⟩
section
variable {P : Program} {K : Value → AHeap → Prop} {env : Env} {h : AHeap} {dst : Option Tmp} {ty : TypeId} {pos : String} {after : Array Edge} {guard : Option (Nat × Bool)}
end
def smallB (x : Int) : Bool := decide (-36 ≤ x ∧ x ≤ 36)
end Go.Am

namespace Go.Am
set_option linter.unusedSimpArgs false
set_option linter.unusedVariables false
/-! ## Rows as functions -/
def fS (i : Nat) (f : Nat → Int) (s : Nat) : Int := if s.testBit i then f s - f (s - 2 ^ i) else f s
def fA (i : Nat) (f : Nat → Int) (s : Nat) : Int := if s.testBit i then f s + f (s - 2 ^ i) else f s
def allS (f : Nat → Int) : Nat → Nat → Int
  | 0 => f
  | k + 1 => fS k (allS f k)
def allA (f : Nat → Int) : Nat → Nat → Int
  | 0 => f
  | k + 1 => fA k (allA f k)
theorem bitf1 : ∀ s < 64, ∀ i < 6, s.testBit i = true → (s - 2 ^ i).testBit i = false := by decide +kernel
theorem bitf2b : ∀ s < 64, ∀ i < 6, ∀ j < 6, (!(s.testBit i) || decide (j = i) || ((s - 2 ^ i).testBit j == s.testBit j)) = true := by decide +kernel
theorem bitf2 (s : Nat) (hs : s < 64) (i : Nat) (hi : i < 6) (j : Nat) (hj : j < 6) (h : s.testBit i = true) (hne : j ≠ i) : (s - 2 ^ i).testBit j = s.testBit j := by
  have := bitf2b s hs i hi j hj
  rw [h, decide_eq_false hne] at this
  simpa using this
theorem bitf (s : Nat) (hs : s < 64) (i : Nat) (hi : i < 6) (h : s.testBit i = true) : (s - 2 ^ i).testBit i = false ∧ ∀ j < 6, j ≠ i → (s - 2 ^ i).testBit j = s.testBit j := ⟨bitf1 s hs i hi h, fun j hj hne => bitf2 s hs i hi j hj h hne⟩
theorem sub64 {s i : Nat} (hs : s < 64) : s - 2 ^ i < 64 := Nat.lt_of_le_of_lt (Nat.sub_le _ _) hs
theorem fS_yes {i s : Nat} {f : Nat → Int} (h : s.testBit i = true) : fS i f s = f s - f (s - 2 ^ i) := if_pos h
theorem fS_no {i s : Nat} {f : Nat → Int} (h : s.testBit i = false) : fS i f s = f s := if_neg (by rw [h]; decide)
theorem fA_yes {i s : Nat} {f : Nat → Int} (h : s.testBit i = true) : fA i f s = f s + f (s - 2 ^ i) := if_pos h
theorem fA_no {i s : Nat} {f : Nat → Int} (h : s.testBit i = false) : fA i f s = f s := if_neg (by rw [h]; decide)
theorem fA_congr {i s : Nat} {f g : Nat → Int} (hs : s < 64) (h : ∀ t, t < 64 → f t = g t) : fA i f s = fA i g s := by
  unfold fA
  rw [h s hs, h (s - 2 ^ i) (sub64 hs)]
theorem fAS_self {i s : Nat} {f : Nat → Int} (hs : s < 64) (hi : i < 6) : fA i (fS i f) s = f s := by
  cases h : s.testBit i with
  | true =>
    rw [fA_yes h, fS_yes h, fS_no (bitf s hs i hi h).1]; omega
  | false => rw [fA_no h, fS_no h]
theorem fAS_comm {i j s : Nat} {f : Nat → Int} (hs : s < 64) (hi : i < 6) (hj : j < 6) (hne : i ≠ j) : fA i (fS j f) s = fS j (fA i f) s := by
  cases h1 : s.testBit i with
  | false =>
    rw [fA_no h1]
    cases h2 : s.testBit j with
    | false => rw [fS_no h2, fS_no h2, fA_no h1]
    | true =>
      rw [fS_yes h2, fS_yes h2, fA_no h1, fA_no (((bitf s hs j hj h2).2 i hi hne).trans h1)]
  | true =>
    have h3 := (bitf s hs i hi h1).2 j hj (Ne.symm hne)
    rw [fA_yes h1]
    cases h2 : s.testBit j with
    | false => rw [fS_no h2, fS_no h2, fS_no (h3.trans h2), fA_yes h1]
    | true =>
      have h4 := (bitf s hs j hj h2).2 i hi hne
      rw [fS_yes h2, fS_yes h2, fS_yes (h3.trans h2), fA_yes h1, fA_yes (h4.trans h1), show s - 2 ^ i - 2 ^ j = s - 2 ^ j - 2 ^ i by omega]
      omega
theorem allA_comm {j : Nat} {f : Nat → Int} (hj : j < 6) : ∀ (k : Nat), k ≤ j → ∀ s, s < 64 → allA (fS j f) k s = fS j (allA f k) s
  | 0, _, _, _ => rfl
  | k + 1, hk, s, hs => by
    rw [allA, fA_congr hs fun t ht => allA_comm hj k (by omega) t ht, fAS_comm hs (by omega) hj (by omega)]; rfl
theorem allAS {f : Nat → Int} : ∀ (k : Nat), k ≤ 6 → ∀ s, s < 64 → allA (allS f k) k s = f s
  | 0, _, _, _ => rfl
  | k + 1, hk, s, hs => by
    rw [allA, fA_congr hs fun t ht => (show allA (allS f (k + 1)) k t = fS k (allA (allS f k) k) t from allA_comm (by omega) k (Nat.le_refl _) t ht), fAS_self hs (by omega)]
    exact allAS k (by omega) s hs
/-! ## Sums over subsets -/
def subL : Nat → Nat → List Nat
  | 0, s => [s]
  | k + 1, s => if s.testBit k then subL k (s - 2 ^ k) ++ subL k s else subL k s
def sumQ (f : Nat → Int) (l : List Nat) : Int := l.foldl (fun a t => a + f t) 0
theorem foldl_from {f : Nat → Int} : ∀ (l : List Nat) (a : Int), l.foldl (fun a t => a + f t) a = a + sumQ f l
  | [], a => by simp [sumQ]
  | x :: l, a => by
    rw [sumQ, List.foldl_cons, List.foldl_cons, foldl_from l, foldl_from l]; omega
theorem sumQ_app {f : Nat → Int} {a b : List Nat} : sumQ f (a ++ b) = sumQ f a + sumQ f b := by
  rw [sumQ, List.foldl_append, foldl_from]; rfl
theorem allA_sum {f : Nat → Int} : ∀ (k s : Nat), allA f k s = sumQ f (subL k s)
  | 0, s => by simp [allA, subL, sumQ]
  | k + 1, s => by
    rw [allA, subL]
    cases h : s.testBit k with
    | true => rw [fA_yes h, if_pos rfl, sumQ_app, allA_sum k s, allA_sum k (s - 2 ^ k)]; omega
    | false => rw [fA_no h, if_neg (by decide), allA_sum k s]
def subs (n s : Nat) : List Nat := (List.range n).filter fun t => decide (t &&& s = t)
theorem subL_all : ∀ k < 7, ∀ s < 2 ^ k, subL k s = subs (2 ^ k) s := by decide +kernel
def totS (f : Nat → Int) (s : Nat) : Nat → Int
  | 0 => 0
  | t + 1 => if t &&& s = t then totS f s t + f t else totS f s t
theorem totS_sum {f : Nat → Int} {s : Nat} : ∀ n, totS f s n = sumQ f (subs n s)
  | 0 => rfl
  | n + 1 => by
    rw [totS, subs, List.range_succ, List.filter_append, sumQ_app]
    by_cases c : n &&& s = n
    · rw [if_pos c, totS_sum n]
      simp [subs, sumQ, c]
    · rw [if_neg c, totS_sum n]
      simp [subs, sumQ, c]
theorem tot_back {f : Nat → Int} {k s : Nat} (hk : k ≤ 6) (hs : s < 2 ^ k) : totS (allS f k) s (2 ^ k) = f s := by
  have h64 : 2 ^ k ≤ 2 ^ 6 := Nat.pow_le_pow_right (by decide) hk
  rw [totS_sum, ← subL_all k (by omega) s hs, ← allA_sum, allAS k hk s (by omega)]
/-! ## Bounds -/
theorem allS_bnd {f : Nat → Int} {m : Int} (hf : ∀ t, t < 64 → -m ≤ f t ∧ f t ≤ m) : ∀ (k s : Nat), s < 64 → -(m * 2 ^ k) ≤ allS f k s ∧ allS f k s ≤ m * 2 ^ k
  | 0, s, hs => by have := hf s hs; simp only [allS, Int.pow_zero, Int.mul_one]; exact this
  | k + 1, s, hs => by
    have h1 := allS_bnd hf k s hs
    have h2 := allS_bnd hf k (s - 2 ^ k) (sub64 hs)
    have e : m * 2 ^ (k + 1) = m * 2 ^ k * 2 := by rw [Int.pow_succ, Int.mul_assoc]
    rw [e, allS]
    unfold fS
    split <;> omega
theorem allA_bnd {f : Nat → Int} {m : Int} (hf : ∀ t, t < 64 → -m ≤ f t ∧ f t ≤ m) : ∀ (k s : Nat), s < 64 → -(m * 2 ^ k) ≤ allA f k s ∧ allA f k s ≤ m * 2 ^ k
  | 0, s, hs => by have := hf s hs; simp only [allA, Int.pow_zero, Int.mul_one]; exact this
  | k + 1, s, hs => by
    have h1 := allA_bnd hf k s hs
    have h2 := allA_bnd hf k (s - 2 ^ k) (sub64 hs)
    have e : m * 2 ^ (k + 1) = m * 2 ^ k * 2 := by rw [Int.pow_succ, Int.mul_assoc]
    rw [e, allA]
    unfold fA
    split <;> omega
theorem allA_le {f g : Nat → Int} : ∀ (k s : Nat), (∀ t, t ≤ s → f t = g t) → allA f k s = allA g k s
  | 0, s, h => h s (Nat.le_refl _)
  | k + 1, s, h => by
    rw [allA, allA]
    unfold fA
    rw [allA_le k s h, allA_le k (s - 2 ^ k) fun t ht => h t (Nat.le_trans ht (Nat.sub_le _ _))]
/-! ## Rows as lists -/
theorem rowW_at {f : Int → Int → Int} {i : Nat} {l : List Int} (hl : l.length ≤ 64) (hi : i < 6) : ∀ s, s ≤ l.length → ∀ t, t < l.length →
    (rowW f i l s).getD t 0 = if t < s ∧ t.testBit i = true then f (l.getD t 0) (l.getD (t - 2 ^ i) 0) else l.getD t 0
  | 0, _, t, _ => by rw [rowW, if_neg (by omega)]
  | s + 1, hs, t, ht => by
    have ih := rowW_at (f := f) hl hi s (by omega)
    rw [rowW]
    cases h : s.testBit i with
    | true =>
      rw [if_pos rfl]
      have hge := (sub_bit s (by omega) i hi h).1
      have hp := Nat.two_pow_pos i
      by_cases e : t = s
      · subst e
        rw [if_pos ⟨by omega, h⟩, getD_set_at (by rw [rowW_len]; omega), ih t ht, if_neg (by omega), ih (t - 2 ^ i) (by omega), if_neg (by rw [(bitf t (by omega) i hi h).1]; simp)]
      · rw [getD_set (by rw [rowW_len]; omega), if_neg (fun e2 => e e2.symm), ih t ht]
        by_cases c : t < s ∧ t.testBit i = true
        · rw [if_pos c, if_pos ⟨by omega, c.2⟩]
        · rw [if_neg c, if_neg (by rintro ⟨h1, h2⟩; exact c ⟨by omega, h2⟩)]
    | false =>
      rw [if_neg (by decide), ih t ht]
      by_cases c : t < s ∧ t.testBit i = true
      · rw [if_pos c, if_pos ⟨by omega, c.2⟩]
      · rw [if_neg c, if_neg]
        rintro ⟨h1, h2⟩
        by_cases e : t = s
        · subst e; rw [h] at h2; cases h2
        · exact c ⟨by omega, h2⟩
theorem pow6 {k : Nat} (h : k ≤ 6) : (2 : Int) ^ k ≤ 64 ∧ 0 < (2 : Int) ^ k := by
  have h1 : 2 ^ k ≤ 2 ^ 6 := Nat.pow_le_pow_right (by decide) h
  have h2 := Nat.two_pow_pos k
  have e : ((2 ^ k : Nat) : Int) = 2 ^ k := by simp
  omega
theorem mul_pow_bnd {m : Int} {k : Nat} (hm : 0 ≤ m ∧ m ≤ 100000000) (hk : k ≤ 6) : 0 ≤ m * 2 ^ k ∧ m * 2 ^ k ≤ 6400000000 := by
  obtain ⟨h1, h2⟩ := pow6 hk
  have h3 : m * 2 ^ k ≤ 100000000 * 64 := Int.mul_le_mul hm.2 h1 (by omega) (by omega)
  exact ⟨Int.mul_nonneg hm.1 (by omega), by omega⟩
theorem allW_sub {xs : List Int} {m : Int} (hl : xs.length ≤ 64) (hm : 0 ≤ m ∧ m ≤ 100000000) (hb : ∀ t, t < 64 → -m ≤ atF xs t ∧ atF xs t ≤ m) : ∀ k, k ≤ 6 → ∀ t, t < xs.length → (allW subW xs k).getD t 0 = allS (atF xs) k t
  | 0, _, _, _ => rfl
  | k + 1, hk, t, ht => by
    have ih := allW_sub hl hm hb k (by omega)
    have hlen := allW_len (f := subW) (l := xs) k
    rw [allW, rowW_at (by omega) (by omega) xs.length (by omega) t (by omega), allS]
    cases h : t.testBit k with
    | true =>
      have hsl := Nat.sub_le t (2 ^ k)
      have b1 := allS_bnd hb k t (by omega)
      have b2 := allS_bnd hb k (t - 2 ^ k) (Nat.lt_of_le_of_lt hsl (by omega))
      have b3 := mul_pow_bnd hm (show k ≤ 6 by omega)
      rw [if_pos ⟨ht, rfl⟩, fS_yes h, ih t ht, ih (t - 2 ^ k) (Nat.lt_of_le_of_lt hsl ht), subW, wrap_id (by omega) (by omega)]
    | false => rw [if_neg (by simp), fS_no h, ih t ht]
theorem allW_add {xs : List Int} {m : Int} (hl : xs.length ≤ 64) (hm : 0 ≤ m ∧ m ≤ 100000000) (hb : ∀ t, t < 64 → -m ≤ atF xs t ∧ atF xs t ≤ m) : ∀ k, k ≤ 6 → ∀ t, t < xs.length → (allW addW xs k).getD t 0 = allA (atF xs) k t
  | 0, _, _, _ => rfl
  | k + 1, hk, t, ht => by
    have ih := allW_add hl hm hb k (by omega)
    have hlen := allW_len (f := addW) (l := xs) k
    rw [allW, rowW_at (by omega) (by omega) xs.length (by omega) t (by omega), allA]
    cases h : t.testBit k with
    | true =>
      have hsl := Nat.sub_le t (2 ^ k)
      have b1 := allA_bnd hb k t (by omega)
      have b2 := allA_bnd hb k (t - 2 ^ k) (Nat.lt_of_le_of_lt hsl (by omega))
      have b3 := mul_pow_bnd hm (show k ≤ 6 by omega)
      rw [if_pos ⟨ht, rfl⟩, fA_yes h, ih t ht, ih (t - 2 ^ k) (Nat.lt_of_le_of_lt hsl ht), addW, wrap_id (by omega) (by omega)]
    | false => rw [if_neg (by simp), fA_no h, ih t ht]
/-! ## Drawn worths -/
structure WOk (p : Int) (xs : List Int) : Prop where
  p6 : 1 ≤ p ∧ p ≤ 6
  len : xs.length = 2 ^ p.toNat
  zero : xs.getD 0 0 = 0
  small : xs.all smallB = true
theorem WOk.at {p : Int} {xs : List Int} (h : WOk p xs) (t : Nat) : -36 ≤ atF xs t ∧ atF xs t ≤ 36 := by
  unfold atF
  by_cases c : t < xs.length
  · rw [getD_at c]
    exact of_decide_eq_true (List.all_eq_true.1 h.small _ (List.getElem_mem _))
  · rw [List.getD_eq_getElem?_getD, List.getElem?_eq_none (by omega)]
    decide
theorem isW_any {m p : Int} {xs : List Int} (hp : 1 ≤ p ∧ p ≤ 6) (hl : xs.length = 2 ^ p.toNat) (h0 : xs.getD 0 0 = 0) (hb : ∀ t, t < xs.length → -m ≤ xs.getD t 0 ∧ xs.getD t 0 ≤ m) : isW m p xs = true := by
  obtain ⟨e, h2, h3⟩ := pow_nat hp
  refine (isW_yes (decide_eq_true hp) (by rw [hl]; exact e) h0 (List.all_eq_true.2 fun x hx => ?_)).symm
  obtain ⟨k, hk, rfl⟩ := List.getElem_of_mem hx
  have := hb k hk
  rw [getD_at hk] at this
  exact decide_eq_true this
theorem WOk.isW {p : Int} {xs : List Int} (h : WOk p xs) : isW 10000 p xs = true :=
  isW_any h.p6 h.len h.zero fun t _ => by have := h.at t; unfold atF at this; omega
theorem WOk.len64 {p : Int} {xs : List Int} (h : WOk p xs) : 2 ≤ xs.length ∧ xs.length ≤ 64 := by
  obtain ⟨e, h2, h3⟩ := pow_nat h.p6
  rw [h.len]; exact ⟨h2, h3⟩
theorem WOk.div_at {p : Int} {xs : List Int} (h : WOk p xs) {t : Nat} (ht : t < xs.length) : (allW subW xs p.toNat).getD t 0 = allS (atF xs) p.toNat t := by
  have := h.len64
  have hp := h.p6
  exact allW_sub (m := 36) (by omega) (by decide) (fun t _ => h.at t) p.toNat (by omega) t ht
theorem WOk.div_bnd {p : Int} {xs : List Int} (h : WOk p xs) (t : Nat) : -2304 ≤ (allW subW xs p.toNat).getD t 0 ∧ (allW subW xs p.toNat).getD t 0 ≤ 2304 := by
  have h1 := h.len64
  have hp := h.p6
  by_cases c : t < xs.length
  · rw [h.div_at c]
    have h2 := allS_bnd (m := 36) (fun t _ => h.at t) p.toNat t (by omega)
    have h3 := (pow6 (k := p.toNat) (by omega)).1
    omega
  · rw [List.getD_eq_getElem?_getD, List.getElem?_eq_none (by rw [allW_len]; omega)]
    decide
theorem ext_getD {a b : List Int} (hl : a.length = b.length) (h : ∀ t, t < a.length → a.getD t 0 = b.getD t 0) : a = b := by
  apply List.ext_getElem hl
  intro i h1 h2
  have := h i h1
  rwa [getD_at h1, getD_at h2] at this
theorem WOk.back {p : Int} {xs : List Int} (h : WOk p xs) : allW addW (allW subW xs p.toNat) p.toNat = xs := by
  have h1 := h.len64
  have hp := h.p6
  have hl : (allW subW xs p.toNat).length = xs.length := allW_len _
  refine ext_getD (by rw [allW_len, hl]) fun t ht => ?_
  rw [allW_len, hl] at ht
  rw [allW_add (m := 2304) (by omega) (by decide) (fun t _ => h.div_bnd t) p.toNat (by omega) t (by omega)]
  rw [allA_le (f := atF (allW subW xs p.toNat)) p.toNat t (g := allS (atF xs) p.toNat) fun u hu => h.div_at (by omega), allAS p.toNat (by omega) t (by omega)]; rfl
theorem totS_congr {f g : Nat → Int} {s : Nat} : ∀ n, (∀ t, t < n → f t = g t) → totS f s n = totS g s n
  | 0, _ => rfl
  | n + 1, h => by rw [totS, totS, totS_congr n fun t ht => h t (by omega), h n (by omega)]
theorem WOk.total {p : Int} {xs : List Int} (h : WOk p xs) {s : Nat} (hs : s < xs.length) : totS (atF (allW subW xs p.toNat)) s xs.length = xs.getD s 0 := by
  have hp := h.p6
  rw [totS_congr (f := atF (allW subW xs p.toNat)) xs.length (g := allS (atF xs) p.toNat) fun t ht => h.div_at ht]
  rw [h.len] at hs ⊢
  exact tot_back (by omega) hs
theorem mapR_at {f : Nat → Int} {p : Int} {s : Nat} (hs : s < 2 ^ p.toNat) : (mapR f p).getD s 0 = f s := by
  rw [getD_at (by rw [mapR_len]; exact hs)]
  simp
theorem oth_two {p : Int} {xs : List Int} (h : WOk p xs) {s : Nat} (hs : s < xs.length) : othF (mapR (othF xs) p) s = xs.getD s 0 := by
  have h1 := h.len64
  have hl := h.len
  rw [othF, mapR_len, mapR_at (by omega), mapR_at (by omega), othF, othF, hl]
  rw [show 2 ^ p.toNat - 1 - (2 ^ p.toNat - 1) = 0 by omega, show 2 ^ p.toNat - 1 - (2 ^ p.toNat - 1 - s) = s by omega, h.zero]
  omega
theorem WOk.twice {p : Int} {xs : List Int} (h : WOk p xs) : mapR (othF (mapR (othF xs) p)) p = xs := by
  refine ext_getD (by rw [mapR_len, h.len]) fun t ht => ?_
  rw [mapR_len] at ht
  rw [mapR_at ht, oth_two h (by rw [h.len]; exact ht)]
theorem WOk.out {p q : Int} {xs : List Int} (h : WOk p xs) (hp : 2 ≤ p) (hq : 0 ≤ q ∧ q < p) : (Am.isW 10000 p xs && decide (0 ≤ q ∧ q ≤ p - 1) && decide (2 ≤ p) && Am.isW 10000 (p - 1) (mapR (outF xs q) (p - 1))) = true := by
  have hp6 := h.p6
  rw [h.isW, decide_eq_true (show 0 ≤ q ∧ q ≤ p - 1 by omega), decide_eq_true hp, mapR_isW (by omega) (by
    have e : posO q.toNat 0 = 0 := by simp [posO, andn]
    unfold outF; rw [e]; exact h.zero) fun s => by have := h.at (posO q.toNat s); unfold atF at this; unfold outF; omega]; rfl
end Go.Am

namespace Go.Am
set_option linter.unusedSimpArgs false
set_option linter.unusedVariables false
/-! ## Orders of all rooms -/
structure PermN (n : Nat) (g : List Int) : Prop where
  len : g.length = n
  bnd : ∀ i, i < n → 0 ≤ g.getD i 0 ∧ g.getD i 0 < (n : Int)
  inj : ∀ i j, i < n → j < n → g.getD i 0 = g.getD j 0 → i = j
def tau (a b k : Nat) : Nat := if b = k then a else if a = k then b else k
def sw (g : List Int) (a b : Nat) : List Int := (g.set a (g.getD b 0)).set b (g.getD a 0)
theorem sw_at {g : List Int} {a b k : Nat} (ha : a < g.length) (hb : b < g.length) : (sw g a b).getD k 0 = g.getD (tau a b k) 0 := by
  unfold sw tau
  rw [getD_set (by rw [List.length_set]; exact hb), getD_set ha]
  by_cases h1 : b = k
  · rw [if_pos h1, if_pos h1]
  · rw [if_neg h1, if_neg h1]
    by_cases h2 : a = k
    · rw [if_pos h2, if_pos h2]
    · rw [if_neg h2, if_neg h2]
theorem tau_lt {a b k n : Nat} (ha : a < n) (hb : b < n) (hk : k < n) : tau a b k < n := by
  unfold tau; split
  · exact ha
  · split
    · exact hb
    · exact hk
theorem tau_inj {a b i j : Nat} (h : tau a b i = tau a b j) : i = j := by
  unfold tau at h
  repeat' split at h
  all_goals omega
theorem PermN.sw {n : Nat} {g : List Int} (p : PermN n g) {a b : Nat} (ha : a < n) (hb : b < n) : PermN n (sw g a b) := by
  have hl := p.len
  refine ⟨by simp [Am.sw, p.len], fun i hi => ?_, fun i j hi hj e => ?_⟩
  · rw [sw_at (by omega) (by omega)]; exact p.bnd _ (tau_lt ha hb hi)
  · rw [sw_at (by omega) (by omega), sw_at (by omega) (by omega)] at e
    exact tau_inj (p.inj _ _ (tau_lt ha hb hi) (tau_lt ha hb hj) e)
/-! ## The greatest sum -/
theorem runB_le {f : List Int → Int} : ∀ (ls : List (List Int)) (st : BSt), (st.1 ≠ none → st.2 ≤ (runB f st ls).2) ∧ ∀ l ∈ ls, f l ≤ (runB f st ls).2
  | [], st => ⟨fun _ => Int.le_refl _, fun l hl => by cases hl⟩
  | a :: ls, (o, m) => by
    have e : runB f (o, m) (a :: ls) = runB f (stepB f (o, m) a) ls := rfl
    rw [e]
    obtain ⟨h1, h2⟩ := runB_le (f := f) ls (stepB f (o, m) a)
    have h3 : (stepB f (o, m) a).1 ≠ none ∧ f a ≤ (stepB f (o, m) a).2 ∧ (o ≠ none → m ≤ (stepB f (o, m) a).2) := by
      cases o with
      | none => exact ⟨by simp [stepB], Int.le_refl _, fun h => absurd rfl h⟩
      | some c =>
        by_cases hc : m < f a
        · rw [stepB_yes hc]; exact ⟨by simp, Int.le_refl _, fun _ => Int.le_of_lt hc⟩
        · rw [stepB_no hc]; exact ⟨by simp, by show f a ≤ m; omega, fun _ => Int.le_refl _⟩
    have h4 := h1 h3.1
    refine ⟨fun ho => Int.le_trans (h3.2.2 ho) h4, fun l hl => ?_⟩
    rcases List.mem_cons.1 hl with rfl | hl
    · exact Int.le_trans h3.2.1 h4
    · exact h2 l hl
theorem permR_mem {n : Nat} : ∀ (d : Nat) (t u : List Int), u.length = d → (∀ i, i < d → 0 ≤ u.getD i 0 ∧ u.getD i 0 < (n : Int)) → (∀ i, i < d → (t ++ u.take i).contains (u.getD i 0) = false) → t ++ u ∈ permR n d t
  | 0, t, u, hl, _, _ => by
    have : u = [] := List.length_eq_zero_iff.1 hl
    subst this
    simp [permR]
  | d + 1, t, [], hl, _, _ => by simp at hl
  | d + 1, t, k :: u, hl, hb, hf => by
    have hk := hb 0 (by omega)
    have hc := hf 0 (by omega)
    simp only [List.getD_cons_zero, List.take_zero, List.append_nil] at hk hc
    obtain ⟨m, rfl⟩ := Int.eq_ofNat_of_zero_le hk.1
    rw [permR, List.mem_flatMap]
    refine ⟨m, List.mem_range.2 (by omega), ?_⟩
    rw [if_neg (by rw [hc]; decide)]
    have ih := permR_mem (n := n) d (t ++ [(m : Int)]) u (by simpa using hl) (fun i hi => by have := hb (i + 1) (by omega); simpa using this) (fun i hi => by
      have := hf (i + 1) (by omega)
      rw [List.take_succ_cons, List.getD_cons_succ] at this
      rwa [List.append_assoc, List.singleton_append])
    rwa [List.append_assoc, List.singleton_append] at ih
theorem PermN.mem {n : Nat} {g : List Int} (p : PermN n g) : g ∈ permR n n [] := by
  have h := permR_mem (n := n) n [] g p.len p.bnd fun i hi => by
    rw [List.nil_append, ← Bool.not_eq_true, List.contains_iff_mem]
    intro hm
    obtain ⟨k, hk, e⟩ := List.getElem_of_mem hm
    have hki : k < i := by rw [List.length_take] at hk; omega
    rw [List.getElem_take] at e
    have hl := p.len
    have := p.inj k i (by omega) hi (by rw [getD_at (by omega)]; exact e)
    omega
  rwa [List.nil_append] at h
theorem rm_most {xs : List Int} {n : Nat} (hb : xs.all (fun x => decide (0 ≤ x ∧ x ≤ 1000)) = true) {g : List Int} (p : PermN n g) : sumW6 xs n g n ≤ sumW6 xs n (rmL xs n) n := by
  have h := (runB_le (f := fP xs n) (permR n n []) (none, 0)).2 g p.mem
  have e := best_end hb (n := n)
  rw [Nat.sub_zero] at e
  rw [e] at h
  exact h
/-- Chosen rooms are free ones. -/
theorem rooms_free {xs : List Int} {n : Nat} (hb : xs.all (fun x => decide (0 ≤ x ∧ x ≤ 1000)) = true) : ∀ (d : Nat) (t : List Int), t.length + d = n → ∀ i, i < d → (t ++ (roomsR xs n d t).1.take i).contains ((roomsR xs n d t).1.getD i 0) = false
  | 0, _, _, i, hi => absurd hi (by omega)
  | d + 1, t, ht, i, hi => by
    have key : ∀ k, k ≤ n → (roomsK xs n d t k).1 = [] ∨ ∀ i, i < d + 1 → (t ++ (roomsK xs n d t k).1.take i).contains ((roomsK xs n d t k).1.getD i 0) = false := by
      intro k
      induction k with
      | zero => intro _; exact .inl rfl
      | succ k ih =>
        intro hk
        rw [roomsK_step, stepR]
        split
        · exact ih (by omega)
        · rename_i hc
          split
          · refine .inr fun i hi => ?_
            cases i with
            | zero =>
              simp only [List.take_zero, List.append_nil, List.getD_cons_zero]
              simpa using hc
            | succ i =>
              have h2 := rooms_free hb (n := n) d (t ++ [(k : Int)]) (by simp; omega) i (by omega)
              rw [List.append_assoc, List.singleton_append] at h2
              simpa using h2
          · exact ih (by omega)
    rw [roomsR_end]
    rcases key n (Nat.le_refl _) with h | h
    · have := rooms_len hb (n := n) (d := d + 1) (t := t) ht
      rw [roomsR_end, h] at this
      simp at this
    · exact h i hi
theorem rm_perm {xs : List Int} {n : Nat} (hb : xs.all (fun x => decide (0 ≤ x ∧ x ≤ 1000)) = true) : PermN n (rmL xs n) := by
  have hl := rmL_len hb (n := n)
  have hf := rooms_free hb (n := n) n [] (by simp)
  have lt : ∀ i j, i < j → j < n → (rmL xs n).getD i 0 ≠ (rmL xs n).getD j 0 := fun i j hij hj e => by
    have h1 := hf j hj
    rw [List.nil_append, ← Bool.not_eq_true, List.contains_iff_mem] at h1
    refine h1 ?_
    show (rmL xs n).getD j 0 ∈ (rmL xs n).take j
    rw [← e, getD_at (by omega)]
    refine List.mem_of_getElem? (i := i) ?_
    rw [List.getElem?_take, if_pos hij, List.getElem?_eq_getElem]
  refine ⟨hl, fun i hi => rmL_bnd _ (by rw [getD_at (by omega)]; exact List.getElem_mem _), fun i j hi hj e => ?_⟩
  by_cases h1 : i < j
  · exact absurd e (lt i j h1 hj)
  · by_cases h2 : j < i
    · exact absurd e.symm (lt j i h2 hi)
    · omega
/-! ## Rings do not pay -/
section
variable {xs : List Int} {n : Nat}
/-- What player i has of the room of player j. -/
def wR (xs : List Int) (n i j : Nat) : Int := wV xs n i ((rmL xs n).getD j 0)
/-- A way through players, its end first: each gets the room of the one before it. -/
def wayW (xs : List Int) (n : Nat) : List Nat → Int
  | [] => 0
  | [_] => 0
  | a :: b :: l => (wR xs n b a - wR xs n b b) + wayW xs n (b :: l)
theorem wayW_cut : ∀ (a : List Nat) (y : Nat) (b : List Nat), wayW xs n (a ++ y :: b) = wayW xs n (a ++ [y]) + wayW xs n (y :: b)
  | [], y, b => by simp [wayW]
  | [x], y, b => by simp [wayW]
  | x :: z :: a, y, b => by
    have := wayW_cut (z :: a) y b
    simp only [List.cons_append] at this ⊢
    rw [wayW, this, wayW]; omega
theorem sum_set : ∀ (s : Nat) {g : List Int} {u : Nat} {y : Int}, u < g.length → s ≤ g.length → sumW6 xs n (g.set u y) s = sumW6 xs n g s + if u < s then wV xs n u y - wV xs n u (g.getD u 0) else 0
  | 0, _, _, _, _, _ => by simp [sumW6]
  | s + 1, g, u, y, hu, hs => by
    rw [sumW6, sumW6, sum_set s hu (by omega), getD_set hu]
    by_cases h1 : u = s
    · subst h1
      rw [if_pos rfl, if_neg (by omega), if_pos (by omega)]; omega
    · rw [if_neg h1]
      by_cases h2 : u < s
      · rw [if_pos h2, if_pos (by omega)]; omega
      · rw [if_neg h2, if_neg (by omega)]; omega
theorem sum_sw {g : List Int} {a b : Nat} (hl : g.length = n) (ha : a < n) (hb : b < n) (hne : a ≠ b) :
    sumW6 xs n (sw g a b) n = sumW6 xs n g n - wV xs n a (g.getD a 0) - wV xs n b (g.getD b 0) + wV xs n a (g.getD b 0) + wV xs n b (g.getD a 0) := by
  unfold sw
  rw [sum_set n (by rw [List.length_set]; omega) (by rw [List.length_set]; omega), if_pos hb, sum_set n (by omega) (by omega), if_pos ha, getD_set (by omega), if_neg hne]
  omega
theorem ring_sw {x : Nat} (hx : x < n) : ∀ (l : List Nat) (prev : Nat) (g : List Int), PermN n g → g.getD x 0 = (rmL xs n).getD prev 0 → (∀ v ∈ l, v < n ∧ v ≠ x ∧ g.getD v 0 = (rmL xs n).getD v 0) → l.Nodup →
    ∃ g', PermN n g' ∧ sumW6 xs n g' n = sumW6 xs n g n + wayW xs n (prev :: (l ++ [x])) + wR xs n x x - wR xs n x prev
  | [], prev, g, p, h, _, _ => ⟨g, p, by simp only [List.nil_append, wayW]; omega⟩
  | v :: l, prev, g, p, h, hv, hd => by
    obtain ⟨h1, h2, h3⟩ := hv v (by simp)
    have hc := List.nodup_cons.1 hd
    have hl := p.len
    obtain ⟨g', p', e⟩ := ring_sw hx l v (sw g x v) (p.sw hx h1) (by rw [sw_at (by omega) (by omega), tau, if_neg h2, if_pos rfl, h3]) (fun u hu => by
      obtain ⟨k1, k2, k3⟩ := hv u (by simp [hu])
      refine ⟨k1, k2, ?_⟩
      rw [sw_at (by omega) (by omega), tau, if_neg (fun e => hc.1 (by rw [e]; exact hu)), if_neg (fun e => k2 e.symm)]; exact k3) hc.2
    refine ⟨g', p', ?_⟩
    rw [e, sum_sw hl hx h1 (Ne.symm h2), h, h3]
    simp only [List.cons_append, wayW]
    unfold wR
    omega
theorem ring_simple (hb : xs.all (fun x => decide (0 ≤ x ∧ x ≤ 1000)) = true) {x : Nat} {l : List Nat} (hx : x < n) (hl : ∀ v ∈ l, v < n) (hd : (x :: l).Nodup) : wayW xs n (x :: (l ++ [x])) ≤ 0 := by
  have hc := List.nodup_cons.1 hd
  obtain ⟨g', p', e⟩ := ring_sw (xs := xs) hx l x (rmL xs n) (rm_perm hb) rfl (fun v hv => ⟨hl v hv, fun e => hc.1 (by rw [← e]; exact hv), rfl⟩) hc.2
  have := rm_most hb p'
  omega
theorem dup_split : ∀ (l : List Nat), ¬ l.Nodup → ∃ a y b c, l = a ++ y :: (b ++ y :: c)
  | [], h => absurd List.nodup_nil h
  | x :: l, h => by
    by_cases hm : x ∈ l
    · obtain ⟨b, c, e⟩ := List.append_of_mem hm
      exact ⟨[], x, b, c, by rw [e]; rfl⟩
    · have h2 : ¬ l.Nodup := fun hn => h (List.nodup_cons.2 ⟨hm, hn⟩)
      obtain ⟨a, y, b, c, e⟩ := dup_split l h2
      exact ⟨x :: a, y, b, c, by rw [e]; rfl⟩
theorem ring_all (hb : xs.all (fun x => decide (0 ≤ x ∧ x ≤ 1000)) = true) : ∀ (m : Nat) (x : Nat) (l : List Nat), l.length ≤ m → x < n → (∀ v ∈ l, v < n) → wayW xs n (x :: (l ++ [x])) ≤ 0 := by
  intro m
  induction m with
  | zero =>
    intro x l hm hx _
    have : l = [] := List.length_eq_zero_iff.1 (by omega)
    subst this
    exact ring_simple hb hx (fun v hv => by cases hv) (by simp)
  | succ m ih =>
    intro x l hm hx hl
    by_cases hd : (x :: l).Nodup
    · exact ring_simple hb hx hl hd
    · obtain ⟨a, y, b, c, e⟩ := dup_split _ hd
      cases a with
      | nil =>
        simp only [List.nil_append, List.cons.injEq] at e
        obtain ⟨rfl, rfl⟩ := e
        simp only [List.length_append, List.length_cons] at hm
        have h1 := ih x b (by omega) hx fun v hv => hl v (by simp [hv])
        have h2 := ih x c (by omega) hx fun v hv => hl v (by simp [hv])
        have e2 : x :: ((b ++ x :: c) ++ [x]) = (x :: b) ++ x :: (c ++ [x]) := by simp
        rw [e2, wayW_cut, List.cons_append]
        omega
      | cons x' a =>
        simp only [List.cons_append, List.cons.injEq] at e
        obtain ⟨rfl, rfl⟩ := e
        have hlen : (a ++ y :: (b ++ y :: c)).length = a.length + b.length + c.length + 2 := by simp; omega
        have hy := hl y (by simp)
        have h1 := ih y b (by omega) hy fun v hv => hl v (by simp [hv])
        have h2 := ih x (a ++ y :: c) (by simp; omega) hx fun v hv => hl v (by
          simp only [List.mem_append, List.mem_cons] at hv ⊢
          rcases hv with h | h | h
          · exact .inl h
          · exact .inr (.inl h)
          · exact .inr (.inr (.inr (.inr h))))
        have e2 : x :: ((a ++ y :: (b ++ y :: c)) ++ [x]) = (x :: a) ++ y :: (b ++ y :: (c ++ [x])) := by simp
        have e3 : x :: ((a ++ y :: c) ++ [x]) = (x :: a) ++ y :: (c ++ [x]) := by simp
        rw [e3, wayW_cut] at h2
        rw [e2, wayW_cut, show y :: (b ++ y :: (c ++ [x])) = (y :: b) ++ y :: (c ++ [x]) by simp, wayW_cut (y :: b)]
        simp only [List.cons_append] at h1 h2 ⊢
        omega
/-- A way can be cut down to n players and pays as much. -/
theorem way_short (hb : xs.all (fun x => decide (0 ≤ x ∧ x ≤ 1000)) = true) : ∀ (m : Nat) (x : Nat) (l : List Nat), l.length ≤ m → x < n → (∀ v ∈ l, v < n) → ∃ l', (∀ v ∈ l', v < n) ∧ l'.length + 1 ≤ n ∧ wayW xs n (x :: l) ≤ wayW xs n (x :: l') := by
  intro m
  induction m with
  | zero =>
    intro x l hm hx _
    have : l = [] := List.length_eq_zero_iff.1 (by omega)
    subst this
    exact ⟨[], fun v hv => (by cases hv), by simp; omega, Int.le_refl _⟩
  | succ m ih =>
    intro x l hm hx hl
    by_cases hd : (x :: l).Nodup
    · refine ⟨l, hl, ?_, Int.le_refl _⟩
      have h1 := pigeon n ((x :: l).map fun (v : Nat) => (v : Int)) (fun z hz => by
        simp only [List.mem_map] at hz
        obtain ⟨v, hv, rfl⟩ := hz
        have : v < n := by
          rcases List.mem_cons.1 hv with rfl | h
          · exact hx
          · exact hl v h
        omega) (by
        unfold List.Nodup at hd ⊢
        rw [List.pairwise_map]
        exact hd.imp fun h e => h (by omega))
      simpa using h1
    · obtain ⟨a, y, b, c, e⟩ := dup_split _ hd
      cases a with
      | nil =>
        simp only [List.nil_append, List.cons.injEq] at e
        obtain ⟨rfl, rfl⟩ := e
        simp only [List.length_append, List.length_cons] at hm
        obtain ⟨l', k1, k2, k3⟩ := ih x c (by omega) hx fun v hv => hl v (by simp [hv])
        refine ⟨l', k1, k2, Int.le_trans ?_ k3⟩
        have h1 := ring_all hb b.length x b (Nat.le_refl _) hx fun v hv => hl v (by simp [hv])
        rw [show x :: (b ++ x :: c) = (x :: b) ++ x :: c by simp, wayW_cut, List.cons_append]
        omega
      | cons x' a =>
        simp only [List.cons_append, List.cons.injEq] at e
        obtain ⟨rfl, rfl⟩ := e
        have hlen : (a ++ y :: (b ++ y :: c)).length = a.length + b.length + c.length + 2 := by simp; omega
        have hy := hl y (by simp)
        obtain ⟨l', k1, k2, k3⟩ := ih x (a ++ y :: c) (by simp; omega) hx fun v hv => hl v (by
          simp only [List.mem_append, List.mem_cons] at hv ⊢
          rcases hv with h | h | h
          · exact .inl h
          · exact .inr (.inl h)
          · exact .inr (.inr (.inr (.inr h))))
        refine ⟨l', k1, k2, Int.le_trans ?_ k3⟩
        have h1 := ring_all hb b.length y b (Nat.le_refl _) hy fun v hv => hl v (by simp [hv])
        rw [show x :: (a ++ y :: (b ++ y :: c)) = (x :: a) ++ y :: (b ++ y :: c) by simp, wayW_cut, show x :: (a ++ y :: c) = (x :: a) ++ y :: c by simp, wayW_cut (x :: a) y c, show y :: (b ++ y :: c) = (y :: b) ++ y :: c by simp, wayW_cut (y :: b)]
        simp only [List.cons_append] at h1 ⊢
        omega
end
end Go.Am

namespace Go.Am
set_option linter.unusedSimpArgs false
set_option linter.unusedVariables false
section
variable {xs : List Int} {n : Nat}
def payR (xs : List Int) (n : Nat) (j : Int) : List Nat → Int
  | [] => 0
  | i :: l => (wV xs n i j - wR xs n i i) + wayW xs n (i :: l)
theorem wR_bnd (hb : xs.all (fun x => decide (0 ≤ x ∧ x ≤ 1000)) = true) (i j : Nat) : 0 ≤ wR xs n i j ∧ wR xs n i j ≤ 1000 := wV_bnd hb
theorem wayW_bnd (hb : xs.all (fun x => decide (0 ≤ x ∧ x ≤ 1000)) = true) : ∀ l : List Nat, wayW xs n l ≤ 1000 * l.length
  | [] => by simp [wayW]
  | [_] => by simp [wayW]
  | a :: b :: l => by
    have h1 := wR_bnd (n := n) hb b a
    have h2 := wR_bnd (n := n) hb b b
    have h3 := wayW_bnd hb (b :: l)
    rw [wayW]
    simp only [List.length_cons] at h3 ⊢
    omega
structure InvR (xs : List Int) (n : Nat) (r : List Int) : Prop where
  len : r.length = n
  nn : ∀ j, j < n → 0 ≤ r.getD j 0
  att : ∀ j, j < n → ∃ l, (∀ i ∈ l, i < n) ∧ r.getD j 0 = payR xs n j l
theorem InvR.bnd {r : List Int} (h : InvR xs n r) (ok : RentOk xs n) {j : Nat} (hj : j < n) : r.getD j 0 ≤ 7000 := by
  obtain ⟨l, h1, h2⟩ := h.att j hj
  have hn := ok.n6
  rw [h2]
  cases l with
  | nil => simp [payR]
  | cons i l =>
    obtain ⟨l', k1, k2, k3⟩ := way_short ok.bnd l.length i l (Nat.le_refl _) (h1 i (by simp)) fun v hv => h1 v (by simp [hv])
    have h3 := wayW_bnd (n := n) ok.bnd (i :: l')
    have h4 := wV_bnd ok.bnd (n := n) (i := i) (t := j)
    have h5 := wR_bnd (n := n) ok.bnd i i
    rw [payR]
    simp only [List.length_cons] at h3
    omega
/-! ## Prices -/
end
end Go.Am

namespace Go.Am
set_option linter.unusedSimpArgs false
set_option linter.unusedVariables false
def v12 (x : Int) : Bool := decide (0 ≤ x ∧ x ≤ 11)
structure VOk (n : Nat) (xs : List Int) : Prop where
  n1 : 1 ≤ n
  n6 : n ≤ 6
  len : (xs.length : Int) = (n : Int) * (n : Int)
  small : xs.all v12 = true
theorem VOk.all {n : Nat} {xs : List Int} (h : VOk n xs) : xs.all (fun x => decide (0 ≤ x ∧ x ≤ 1000)) = true := by
  refine List.all_eq_true.2 fun x hx => decide_eq_true ?_
  have := of_decide_eq_true (List.all_eq_true.1 h.small x hx)
  omega
theorem VOk.ok {n : Nat} {xs : List Int} (h : VOk n xs) : RentOk xs n := ⟨h.n1, h.n6, h.len, h.all⟩
theorem VOk.valid {n : Nat} {xs : List Int} (h : VOk n xs) : validV n n xs = true := by
  have h1 := h.n1
  have h6 := h.n6
  unfold validV
  rw [h.all, decide_eq_true (show 1 ≤ (n : Int) ∧ (n : Int) ≤ 6 by omega), decide_eq_true (show 1 ≤ (n : Int) ∧ (n : Int) ≤ 8 by omega), decide_eq_true h.len]; rfl
section
variable {n : Nat} {xs : List Int}
/-! ## Another order of rooms -/
theorem Ret.valEq {P : Program} {f : FuncId} {vs : List Value} {h h' : AHeap} {v w : Value} (r : Ret P f vs h v h') (e : v = w) : Ret P f vs h w h' := by subst e; exact r
end
end Go.Am

namespace Go.Am
set_option linter.unusedSimpArgs false
set_option linter.unusedVariables false
open Ieee
/-! ## A number made wide, whatever it is -/
def widV (x : Nat) : Value := if (single.read x).isNaN then anyV 0 else fd (wid x)
theorem widV_nn {x : Nat} (h : NN x) : widV x = fd (wid x) := by rw [NN] at h; rw [widV, h]; rfl
theorem widV_nan {x : Nat} (h : (single.read x).isNaN = true) : widV x = anyV 0 := by rw [widV, h]; rfl
theorem nan64 (t : Nat) (b : Nat) : (double.read (Question.cut (.nanConv .f64 b) t)).isNaN = true := by
  show (double.read ((t % 2) * 2 ^ 63 + 0x7ff0000000000000 + 1 + (t / 2) % (2 ^ 52 - 1))).isNaN = true
  have h1 : t % 2 < 2 := Nat.mod_lt _ (by decide)
  have h2 : (t / 2) % (2 ^ 52 - 1) < 2 ^ 52 - 1 := Nat.mod_lt _ (by decide)
  have e : ((t % 2) * 2 ^ 63 + 0x7ff0000000000000 + 1 + (t / 2) % (2 ^ 52 - 1)) % 9223372036854775808 = 9218868437227405313 + (t / 2) % (2 ^ 52 - 1) := by omega
  rw [d_read, e, if_neg (by omega), if_neg (by omega), if_neg (by omega)]
  exact isNaN_nan
section
variable {P : Program} {K : Value → AHeap → Prop} {env : Env} {h : AHeap} {dst : Option Tmp} {ty : TypeId} {pos : String} {after : Array Edge} {guard : Option (Nat × Bool)}
theorem o_convW2 {src d : TypeId} {x : Operand} {p : Nat} {sd : TypeDesc} (hs : P.underlying src = some sd) (hd : P.underlying d = some (.float .f64))
    (hx : aeval env x = fl p) (hK : K (widV p) h) : AOp P ⟨dst, .convert src d x, ty, pos, after, guard⟩ K env h := by
  cases hn : (single.read p).isNaN with
  | false => rw [widV_nn hn] at hK; exact o_convFF hs hd hx (wid_ok hn).1 hK
  | true =>
    rw [widV_nan hn] at hK
    refine AOp.of_run fun m w a hr ho => ?_
    have h1 := ho x (by simp [Op.operands])
    rw [hx] at h1
    have e1 := h1.float
    obtain ⟨sg, fr, e2⟩ : ∃ s f, single.read p = .nan s f := by
      cases e : single.read p with
      | nan s f => exact ⟨s, f, rfl⟩
      | infinity s => rw [e] at hn; cases hn
      | number s m i => rw [e] at hn; cases hn
    refine ⟨anyV 0, .float .f64 (Question.cut (.nanConv .f64 p) (w.tape w.drawn (.nanConv .f64 p))), m, h, { w with drawn := w.drawn + 1 }, ?_, ⟨hr.1, hr.2, hr.3⟩, Step.drew1, .any ⟨_, rfl, nan64 _ _⟩, hK⟩
    have e3 : FloatKind.f32.decode p = .nan sg fr := e2
    cases sd <;> simp [execOp, e1, convert, run_underlying hs, run_underlying hd, Go.Conv.floatToFloat, e3, choose, Sem.run, Question.forced]
theorem o_fneN {t yt : TypeId} {x y : Operand} (hx : aeval env x = anyV 0) (hy : aeval env y = anyV 0) (hK : K (.bool true) h) : AOp P ⟨dst, .binOp .neq t x y yt, ty, pos, after, guard⟩ K env h :=
  .of_pure (.bool true) (fun m w a _ ho => by
    have h1 := ho x (by simp [Op.operands])
    have h2 := ho y (by simp [Op.operands])
    rw [hx] at h1; rw [hy] at h2
    have key : ∀ {v : Value}, VRel m h (anyV 0) v → ∃ b, v = .float .f64 b ∧ (double.read b).isNaN = true := fun hv => by
      cases hv with
      | prim hp => simp [isPrim] at hp
      | any hr => exact hr
    obtain ⟨b, e1, n1⟩ := key h1
    obtain ⟨c, e2, n2⟩ := key h2
    have ho : double.order b c = none := by
      rw [Format.order]
      cases e : double.read b with
      | nan s f => cases double.read c <;> rfl
      | infinity s => rw [e] at n1; cases n1
      | number s mm i => rw [e] at n1; cases n1
    have hc : fcmp .neq .f64 b c = some true := by
      show some (double.order b c != some .eq) = some true
      rw [ho]; rfl
    refine ⟨.bool true, ?_, .prim rfl⟩
    simp [execOp, e1, e2, eqGuard_at_float, run_fcmp hc]) hK
end
/-! ## Marks -/
def uptoF (c : Int) (n : Nat) : List Nat := (List.range n).map fun (i : Nat) => fI (c + (i : Int))
theorem uptoF_len {c : Int} {n : Nat} : (uptoF c n).length = n := by simp [uptoF]
theorem uptoF_at {c : Int} {n i : Nat} (h : i < n) : (uptoF c n).getD i 0 = fI (c + i) := by
  rw [List.getD_eq_getElem?_getD, List.getElem?_eq_getElem (by rw [uptoF_len]; exact h)]; simp [uptoF]
theorem uptoF_zero {c : Int} : uptoF c 0 = [] := rfl
theorem uptoF_succ {c : Int} {n : Nat} : uptoF c (n + 1) = uptoF c n ++ [fI (c + (n : Int))] := by simp [uptoF, List.range_succ]
theorem uptoF_step {c : Int} {s : Nat} {xs : List Nat} (hs : s < xs.length) : (uptoF c s ++ xs.drop s).set s (fI (c + (s : Int))) = uptoF c (s + 1) ++ xs.drop (s + 1) := by
  have h1 : (uptoF c s).length = s := uptoF_len
  rw [List.set_append_right _ _ (by omega), h1, Nat.sub_self, List.drop_eq_getElem_cons hs, List.set_cons_zero, uptoF_succ, List.append_assoc]; rfl
theorem uptoF_done {c : Int} {s : Nat} {xs : List Nat} (hs : s = xs.length) : lstF (uptoF c s ++ xs.drop s) = lstF (uptoF c xs.length) := by subst hs; simp
theorem fI_self {n : Int} (h0 : 0 ≤ n) (h1 : n ≤ 1000) : (single.order (fI n) (fI n) != some .eq) = false := by
  have hn := (fI_sm h0 h1).nn
  obtain ⟨m, i, e, _⟩ := fI_read h0 h1
  have : single.order (fI n) (fI n) = some .eq := by
    rw [Format.order, e]
    exact congrArg some (Int.compare_eq_eq.2 rfl)
  rw [this]; rfl
theorem fillF_len {xs : List Nat} {n k : Nat} (hn : n = xs.length) (hk : k ≤ n) : (xs.take k ++ List.replicate (n - k) 0).length = n := by
  rw [List.length_append, List.length_take, List.length_replicate]; omega
theorem fillF_step {xs : List Nat} {n k : Nat} (hn : n = xs.length) (hk : k < n) : (xs.take k ++ List.replicate (n - k) 0).set k (xs.getD k 0) = xs.take (k + 1) ++ List.replicate (n - (k + 1)) 0 := by
  have h1 : (xs.take k).length = k := by rw [List.length_take]; omega
  rw [List.set_append_right _ _ (by omega), h1, Nat.sub_self, show n - k = (n - (k + 1)) + 1 by omega, List.replicate_succ, List.set_cons_zero, List.take_succ_eq_append_getElem (by omega), List.append_assoc]
  rw [List.getD_eq_getElem?_getD, List.getElem?_eq_getElem (by omega)]; rfl
theorem fillF_full {xs : List Nat} {n k : Nat} (hn : n = xs.length) (hk : k = n) : xs.take k ++ List.replicate (n - k) 0 = xs := by
  subst hk; subst hn; simp
/-! ## Ends of parts -/
theorem gt_lt {x y : Nat} : gtB x y = ltB y x := by
  unfold gtB ltB
  rw [ord_def, ord_def]
  cases single.read x with
  | nan s f => cases single.read y <;> rfl
  | infinity s => cases single.read y with
    | nan t g => cases s <;> rfl
    | infinity t => cases s <;> cases t <;> rfl
    | number t n j => cases s <;> rfl
  | number s m i => cases single.read y with
    | nan t g => rfl
    | infinity t => cases t <;> rfl
    | number t n j =>
      show (some (compare (signed s m (i - min i j).toNat) (signed t n (j - min i j).toNat)) == some .gt) = (some (compare (signed t n (j - min j i).toNat) (signed s m (i - min j i).toNat)) == some .lt)
      rw [Int.min_comm j i]
      generalize signed s m (i - min i j).toNat = a
      generalize signed t n (j - min i j).toNat = b
      rcases Int.lt_trichotomy a b with h | h | h
      · rw [Int.compare_eq_lt.2 h, Int.compare_eq_gt.2 h]; rfl
      · subst h; rw [Int.compare_eq_eq.2 rfl]; rfl
      · rw [Int.compare_eq_gt.2 h, Int.compare_eq_lt.2 h]; rfl
def putF (os : List Int) (f : Nat → Nat) : Nat → List Nat
  | 0 => List.replicate os.length 0
  | s + 1 => (putF os f s).set (os.getD s 0).toNat (f s)
theorem putF_len {os : List Int} {f : Nat → Nat} : ∀ s, (putF os f s).length = os.length
  | 0 => by simp [putF]
  | s + 1 => by rw [putF, List.length_set, putF_len s]
theorem getD_setN {l : List Nat} {i k x : Nat} (hi : i < l.length) : (l.set i x).getD k 0 = if i = k then x else l.getD k 0 := by
  rw [List.getD_eq_getElem?_getD, List.getElem?_set]
  by_cases h : i = k
  · subst h; simp [hi]
  · rw [if_neg h, if_neg h, List.getD_eq_getElem?_getD]
theorem permB_inj {os : List Int} (h : permB os os.length = true) {i j : Nat} (hi : i < os.length) (hj : j < os.length) (e : os.getD i 0 = os.getD j 0) : i = j := by
  have key : ∀ i j, i < j → j < os.length → os.getD i 0 = os.getD j 0 → False := fun i j hij hj e => by
    have := (permB_get h hj).2
    rw [← Bool.not_eq_true, List.contains_iff_mem] at this
    refine this ?_
    rw [← e, getD_at (by omega)]
    refine List.mem_of_getElem? (i := i) ?_
    rw [List.getElem?_take, if_pos hij, List.getElem?_eq_getElem]
  rcases Nat.lt_trichotomy i j with h | h | h
  · exact (key i j h hj e).elim
  · exact h
  · exact (key j i h hi e.symm).elim
theorem putF_at {os : List Int} {f : Nat → Nat} (h : permB os os.length = true) : ∀ s t, t < s → s ≤ os.length → (putF os f s).getD (os.getD t 0).toNat 0 = f t
  | 0, t, ht, _ => by omega
  | s + 1, t, ht, hs => by
    have h1 := (permB_get h (show s < os.length by omega)).1
    have h2 := (permB_get h (show t < os.length by omega)).1
    rw [putF, getD_setN (by rw [putF_len]; omega)]
    by_cases e : t = s
    · subst e; rw [if_pos rfl]
    · rw [if_neg (fun e2 => e (permB_inj h (by omega) (by omega) (by omega))), putF_at h s t (by omega) (by omega)]
theorem permB_sur {os : List Int} (h : permB os os.length = true) {j : Nat} (hj : j < os.length) : ∃ t, t < os.length ∧ (os.getD t 0).toNat = j := by
  refine Classical.byContradiction fun hno => ?_
  have hd : os.Nodup := by
    rw [List.nodup_iff_pairwise_ne, List.pairwise_iff_getElem]
    intro a b ha hb hab e
    have := permB_inj h ha hb (by rw [getD_at ha, getD_at hb]; exact e)
    omega
  have := pigeon os.length ((j : Int) :: os) (fun x hx => by
    rcases List.mem_cons.1 hx with rfl | hx
    · omega
    · obtain ⟨t, ht, rfl⟩ := List.getElem_of_mem hx
      have := (permB_get h ht).1
      rw [getD_at ht] at this
      omega) (List.nodup_cons.2 ⟨fun hm => by
      obtain ⟨t, ht, e⟩ := List.getElem_of_mem hm
      exact hno ⟨t, ht, by rw [getD_at ht, e]; omega⟩, hd⟩)
  simp only [List.length_cons] at this
  omega
def cutF (cs : List Nat) (s : Nat) : Nat := if s = 0 then 0 else cs.getD (s - 1) 0
def endF (cs : List Nat) (s : Nat) : Nat := cs.getD s 0
theorem cutF_zero {cs : List Nat} : cutF cs 0 = 0 := rfl
theorem cutF_succ {cs : List Nat} {s : Nat} : cutF cs (s + 1) = cs.getD s 0 := rfl
def tieB (q : Int) (cs : List Nat) (t : Nat) : Bool := plF q (cs.getD t 0) && (decide (t = 0) || !ltB (cs.getD t 0) (cs.getD (t - 1) 0))
def fitB (q : Int) (bs es : List Nat) (j : Nat) : Bool := plF q (bs.getD j 0) && (plF q (es.getD j 0) && !gtB (bs.getD j 0) (es.getD j 0))
theorem pl_zero {q : Int} (hq : 0 ≤ q ∧ q ≤ 16) : plF q 0 = true := by
  have h := NF.nb (fI_nf (n := q) hq.1 (by omega))
  rw [plF, show geB 0 0 = true by unfold geB; rw [ord_def, read_zero]; rfl, Bool.true_and]
  have h2 := h.gt0
  rw [← not_gt (show NN 0 by rw [NN, read_zero]; rfl) (fI_sm hq.1 (by omega)).nn, h2]; rfl
theorem pl_gt {q : Int} {x : Nat} (h : plF q x = true) : gtB 0 x = false := by
  rw [plF, Bool.and_eq_true] at h
  rw [gt_lt, ltB]
  have h1 := h.1
  unfold geB at h1
  cases e : ord x 0 with
  | none => rw [e] at h1; cases h1
  | some o => rw [e] at h1; cases o <;> first | rfl | cases h1
theorem fit_all {q : Int} {os : List Int} {cs : List Nat} (hq : 0 ≤ q ∧ q ≤ 16) (h : permB os os.length = true) :
    (List.range os.length).all (fitB q (putF os (cutF cs) os.length) (putF os (endF cs) os.length)) = (List.range os.length).all (tieB q cs) := by
  have at1 : ∀ t, t < os.length → (putF os (cutF cs) os.length).getD (os.getD t 0).toNat 0 = cutF cs t := fun t ht => putF_at h _ t ht (Nat.le_refl _)
  have at2 : ∀ t, t < os.length → (putF os (endF cs) os.length).getD (os.getD t 0).toNat 0 = cs.getD t 0 := fun t ht => putF_at h _ t ht (Nat.le_refl _)
  rw [Bool.eq_iff_iff]
  constructor
  · intro ha
    refine List.all_eq_true.2 fun t ht => ?_
    have ht := List.mem_range.1 ht
    have hb := (permB_get h ht).1
    have h1 := List.all_eq_true.1 ha (os.getD t 0).toNat (List.mem_range.2 (by omega))
    rw [fitB, at1 t ht, at2 t ht, Bool.and_eq_true, Bool.and_eq_true] at h1
    rw [tieB, h1.2.1, Bool.true_and]
    cases t with
    | zero => rfl
    | succ t =>
      rw [cutF_succ, gt_lt] at h1
      rw [show t + 1 - 1 = t from rfl, h1.2.2, Bool.or_true]
  · intro ha
    refine List.all_eq_true.2 fun j hj => ?_
    have hj := List.mem_range.1 hj
    obtain ⟨t, ht, rfl⟩ := permB_sur h hj
    have h1 := List.all_eq_true.1 ha t (List.mem_range.2 ht)
    rw [fitB, at1 t ht, at2 t ht]
    rw [tieB, Bool.and_eq_true] at h1
    rw [h1.1, Bool.true_and]
    cases t with
    | zero => rw [cutF_zero, pl_zero hq, pl_gt h1.1]; rfl
    | succ t =>
      have h2 := List.all_eq_true.1 ha t (List.mem_range.2 (by omega))
      rw [tieB, Bool.and_eq_true] at h2
      have h3 := h1.2
      rw [decide_eq_false (by omega), Bool.false_or, show t + 1 - 1 = t from rfl, ← gt_lt] at h3
      rw [cutF_succ, h2.1, h3]; rfl
def lastEq (q : Int) (cs : List Nat) : Bool := !(single.order (cs.getD (cs.length - 1) 0) (fI q) != some .eq)
def envK (p q : Int) (xs os : List Int) (cs : List Nat) : Bool :=
  validC p q xs && (decide ((os.length : Int) = p) && (decide (cs.length = os.length) && (permB os os.length && ((List.range os.length).all (tieB q cs) && lastEq q cs))))
section
variable {p q : Int} {xs os : List Int} {cs : List Nat}
theorem envK_1 (h : validC p q xs = false) : envK p q xs os cs = false := by rw [envK, h]; rfl
theorem envK_2 (h : ¬ (os.length : Int) = p) : envK p q xs os cs = false := by rw [envK, decide_eq_false h]; simp
theorem envK_3 (h : ¬ cs.length = os.length) : envK p q xs os cs = false := by rw [envK, decide_eq_false h]; simp
theorem envK_4 (h : permB os os.length = false) : envK p q xs os cs = false := by rw [envK, h]; simp
theorem envK_5 {t : Nat} (ht : t < os.length) (h : tieB q cs t = false) : envK p q xs os cs = false := by
  rw [envK, rall_false ht h]; simp
theorem envK_6 (h : lastEq q cs = false) : envK p q xs os cs = false := by rw [envK, h]; simp
theorem envK_7 {t : Nat} (hq : 0 ≤ q ∧ q ≤ 16) (hp : permB os os.length = true) (ht : t < os.length) (h : fitB q (putF os (cutF cs) os.length) (putF os (endF cs) os.length) t = false) : envK p q xs os cs = false := by
  rw [envK, ← fit_all hq hp, rall_false ht h]; simp
theorem envK_yes (h1 : validC p q xs = true) (h2 : (os.length : Int) = p) (h3 : cs.length = os.length) (h4 : permB os os.length = true) (h5 : (List.range os.length).all (tieB q cs) = true) (h6 : lastEq q cs = true) : envK p q xs os cs = true := by
  rw [envK, h1, decide_eq_true h2, decide_eq_true h3, h4, h5, h6]; rfl
theorem envK_fit (hq : 0 ≤ q ∧ q ≤ 16) (h1 : validC p q xs = true) (h2 : (os.length : Int) = p) (h3 : cs.length = os.length) (h4 : permB os os.length = true) (h5 : (List.range os.length).all (fitB q (putF os (cutF cs) os.length) (putF os (endF cs) os.length)) = true) (h6 : lastEq q cs = true) : envK p q xs os cs = true :=
  envK_yes h1 h2 h3 h4 (by rw [← fit_all hq h4]; exact h5) h6
theorem envK_get (h : envK p q xs os cs = true) : validC p q xs = true ∧ (os.length : Int) = p ∧ cs.length = os.length ∧ permB os os.length = true := by
  simp only [envK, Bool.and_eq_true, decide_eq_true_eq] at h
  exact ⟨h.1, h.2.1, h.2.2.1, h.2.2.2.1⟩
end
/-! ## What each would rather have -/
def eatE (xs : List Int) (q : Int) (bs es : List Nat) (i j : Nat) : Nat := cSum (bs.getD j 0) (es.getD j 0) (rowC q i xs) q.toNat
def envE (xs : List Int) (q : Int) (bs es : List Nat) (i j : Nat) : Nat := fSub (eatE xs q bs es i j) (eatE xs q bs es i i)
def rowE (xs : List Int) (q : Int) (bs es : List Nat) (i m : Nat) : List Nat := (List.range m).map (envE xs q bs es i)
def outE (xs : List Int) (q : Int) (bs es : List Nat) (n i m : Nat) : List Nat := ((List.range i).flatMap fun i => rowE xs q bs es i n) ++ rowE xs q bs es i m
section
variable {p q : Int} {xs : List Int} {bs es : List Nat}
theorem outE_step {n i m : Nat} : outE xs q bs es n i m ++ [envE xs q bs es i m] = outE xs q bs es n i (m + 1) := by
  rw [outE, outE, rowE, rowE, List.append_assoc, List.range_succ, List.map_append]; rfl
theorem outE_next {n i : Nat} : outE xs q bs es n i n = outE xs q bs es n (i + 1) 0 := by
  rw [outE, outE, List.range_succ, List.flatMap_append]
  simp [rowE]
theorem rowE_len {i m : Nat} : (rowE xs q bs es i m).length = m := by simp [rowE]
theorem flatE_len {n : Nat} : ∀ i, ((List.range i).flatMap fun i => rowE xs q bs es i n).length = i * n
  | 0 => by simp
  | i + 1 => by
    rw [List.range_succ, List.flatMap_append, List.length_append, flatE_len i, Nat.succ_mul]
    simp [rowE_len]
theorem outE_len {n i m : Nat} : (outE xs q bs es n i m).length = i * n + m := by rw [outE, List.length_append, flatE_len, rowE_len]
theorem fit_get {j : Nat} (h : fitB q bs es j = true) : plF q (bs.getD j 0) = true ∧ plF q (es.getD j 0) = true ∧ gtB (bs.getD j 0) (es.getD j 0) = false := by
  rw [fitB, Bool.and_eq_true, Bool.and_eq_true, Bool.not_eq_true'] at h
  exact ⟨h.1, h.2.1, h.2.2⟩
theorem cwT_fit {i j : Nat} (hV : validC p q xs = true) (hi : (i : Int) < p) :
    cwT p q i xs (bs.getD j 0) (es.getD j 0) = .tuple #[fl (cwR p q i xs (bs.getD j 0) (es.getD j 0)), .bool (fitB q bs es j)] := by
  rw [cwT, cwK, hV, decide_eq_true (show 0 ≤ (i : Int) ∧ (i : Int) ≤ p - 1 by omega), Bool.true_and, Bool.true_and]; rfl
theorem cwR_fit {i j : Nat} (hV : validC p q xs = true) (hi : (i : Int) < p) (h : fitB q bs es j = true) : cwR p q i xs (bs.getD j 0) (es.getD j 0) = eatE xs q bs es i j := by
  rw [cwR, cwK, hV, decide_eq_true (show 0 ≤ (i : Int) ∧ (i : Int) ≤ p - 1 by omega), Bool.true_and, Bool.true_and]
  have : (plF q (bs.getD j 0) && (plF q (es.getD j 0) && !gtB (bs.getD j 0) (es.getD j 0))) = true := h
  rw [this, if_pos rfl]; rfl
theorem eat_nf {i j : Nat} (hV : validC p q xs = true) (hi : (i : Int) < p) (h : fitB q bs es j = true) : NF 56 (eatE xs q bs es i j) := by
  obtain ⟨h1, h2, _⟩ := fit_get h
  obtain ⟨hp, hq, _⟩ := validC_get hV
  have hr := rowC_ok (i := (i : Int)) hV (by omega)
  exact (cSum_nf (pl_of (by omega) h1) (pl_of (by omega) h2) hr.2.2.2.1 q.toNat (by have := hr.2.2.1; omega)).mono (by omega)
theorem env_sub {i j : Nat} (hV : validC p q xs = true) (hi : (i : Int) < p) (hj : fitB q bs es j = true) (hi2 : fitB q bs es i = true) : floatBits .sub .f32 (eatE xs q bs es i j) (eatE xs q bs es i i) = some (envE xs q bs es i j) :=
  fb_sub (sub_small (eat_nf hV hi hj).sm (eat_nf hV hi hi2).sm (by decide) (by decide)).1
end
theorem within_wid {n x : Nat} : Within n (widV x) := by
  unfold widV; split
  · exact .any
  · exact .prim rfl
theorem putF_step {os : List Int} {f : Nat → Nat} {s : Nat} : (putF os f s).set (os.getD s 0).toNat (f s) = putF os f (s + 1) := rfl
theorem putF_first {os : List Int} {cs : List Nat} : putF os (cutF cs) 0 = putF os (cutF cs) 1 := by
  show List.replicate os.length 0 = (List.replicate os.length 0).set (os.getD 0 0).toNat 0
  refine List.ext_getElem (by simp) fun i h1 h2 => ?_
  rw [List.getElem_set]
  split <;> simp
theorem fI_selfK {n : Int} (h0 : 0 ≤ n) (h1 : n ≤ 1000) : (FloatKind.f32.format.order (fI n) (fI n) != some .eq) = false := fI_self h0 h1
section
variable {P : Program} {ops : Array Oper} {KE : Env → AHeap → Prop} {os : List Oper} {env : Env} {h : AHeap} {d : Option Tmp} {ty : TypeId} {pos : String} {af : Array Edge} {g : Option (Nat × Bool)}
theorem d_convW2 {src dd : TypeId} {x : Operand} {p : Nat} {sd : TypeDesc} (hw : wantedA ops env ⟨d, .convert src dd x, ty, pos, af, g⟩ = some true) (hs : P.underlying src = some sd) (hd : P.underlying dd = some (.float .f64))
    (hx : aeval env x = fl p) (hK : ∀ u, u = widV p → DRun P ops KE os (env.put d u) h) : DRun P ops KE (⟨d, .convert src dd x, ty, pos, af, g⟩ :: os) env h :=
  d_do hw (o_convW2 hs hd hx ⟨rfl, rfl⟩) within_wid (hK _ rfl)
end
theorem lastEq_no {q : Int} {cs : List Nat} (h : (FloatKind.f32.format.order (cs.getD (cs.length - 1) 0) (fI q) != some .eq) = true) : lastEq q cs = false := by
  show (!(FloatKind.f32.format.order (cs.getD (cs.length - 1) 0) (fI q) != some .eq)) = false
  rw [h]; rfl
theorem lastEq_yes {q : Int} {cs : List Nat} (h : (FloatKind.f32.format.order (cs.getD (cs.length - 1) 0) (fI q) != some .eq) = false) : lastEq q cs = true := by
  show (!(FloatKind.f32.format.order (cs.getD (cs.length - 1) 0) (fI q) != some .eq)) = true
  rw [h]; rfl
theorem env_subR {p q : Int} {xs : List Int} {bs es : List Nat} {i j : Nat} (hV : validC p q xs = true) (hi : (i : Int) < p) (hj : fitB q bs es j = true) (hi2 : fitB q bs es i = true) :
    floatBits .sub .f32 (cwR p q i xs (bs.getD j 0) (es.getD j 0)) (cwR p q i xs (bs.getD i 0) (es.getD i 0)) = some (envE xs q bs es i j) := by
  rw [cwR_fit hV hi hj, cwR_fit hV hi hi2]; exact env_sub hV hi hj hi2
theorem cutF_pos {cs : List Nat} {s : Nat} (h : 0 < s) : cutF cs s = cs.getD (s - 1) 0 := if_neg (by omega)
theorem tieB_1 {q : Int} {cs : List Nat} {t : Nat} (h : plF q (cs.getD t 0) = false) : tieB q cs t = false := by rw [tieB, h]; rfl
theorem tieB_2 {q : Int} {cs : List Nat} {t : Nat} (h0 : 0 < t) (h : ltB (cs.getD t 0) (cs.getD (t - 1) 0) = true) : tieB q cs t = false := by rw [tieB, h, decide_eq_false (by omega)]; simp
theorem tieB_y1 {q : Int} {cs : List Nat} {t : Nat} (h : plF q (cs.getD t 0) = true) (h0 : ¬ 0 < t) : tieB q cs t = true := by rw [tieB, h, decide_eq_true (by omega)]; rfl
theorem tieB_y2 {q : Int} {cs : List Nat} {t : Nat} (h : plF q (cs.getD t 0) = true) (h2 : ltB (cs.getD t 0) (cs.getD (t - 1) 0) = false) : tieB q cs t = true := by rw [tieB, h, h2]; simp
theorem has_at {p q : Int} {xs : List Int} {i : Nat} (hV : validC p q xs = true) (hi : (i : Int) < p) : (validC p q xs && decide (0 ≤ (i : Int) ∧ (i : Int) ≤ p - 1)) = true := by
  rw [hV, decide_eq_true (by omega)]; rfl
theorem perm_stepB {os : List Int} {s : Nat} (h : permB os s = true) (h1 : decide (0 ≤ os.getD s 0 ∧ os.getD s 0 ≤ (os.length : Int) - 1) = true) (h2 : (os.take s).contains (os.getD s 0) = false) : permB os (s + 1) = true := by
  rw [permB_step, h, h1, h2]; rfl
theorem perm_noB1 {os : List Int} {s : Nat} (hs : s < os.length) (h1 : decide (0 ≤ os.getD s 0 ∧ os.getD s 0 ≤ (os.length : Int) - 1) = false) : permB os os.length = false := permB_no hs (by rw [h1]; rfl)
theorem perm_noB2 {os : List Int} {s : Nat} (hs : s < os.length) (h2 : (os.take s).contains (os.getD s 0) = true) : permB os os.length = false := permB_no hs (by rw [h2]; simp)
theorem env_subC {p q : Int} {xs : List Int} {bs es : List Nat} {i j : Nat} (hV : validC p q xs = true) (hi : (i : Int) < p) (hj : fitB q bs es j = true) (hi2 : fitB q bs es i = true) :
    floatBits .sub .f32 (cSum (bs.getD j 0) (es.getD j 0) (rowC q i xs) q.toNat) (cSum (bs.getD i 0) (es.getD i 0) (rowC q i xs) q.toNat) = some (envE xs q bs es i j) := env_sub hV hi hj hi2
end Go.Am

namespace Go.Am
set_option linter.unusedSimpArgs false
set_option linter.unusedVariables false
end Go.Am
