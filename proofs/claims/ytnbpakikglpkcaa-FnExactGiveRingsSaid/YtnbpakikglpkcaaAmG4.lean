/-
  The abstract heap: what this claim needs of it. General: no program is named.
-/
import Derived.Test.YtnbpakikglpkcaaAmG3
namespace Go.Am
set_option linter.unusedSimpArgs false
set_option linter.unusedVariables false

/-! ## Appending to a cut list -/
def putA (zs : List Int) (n : Nat) (y : Int) : List Int := zs.take n ++ [y] ++ zs.drop (n + 1)
theorem putA_len {zs : List Int} {n : Nat} {y : Int} (h : n ≤ zs.length) : n + 1 ≤ (putA zs n y).length ∧ (putA zs n y).length ≤ zs.length + 1 := by
  simp only [putA, List.length_append, List.length_take, List.length_drop, List.length_singleton]
  omega
theorem putA_take {zs : List Int} {n : Nat} {y : Int} (h : n ≤ zs.length) : (putA zs n y).take (n + 1) = zs.take n ++ [y] := by
  have : (zs.take n ++ [y]).length = n + 1 := by simp; omega
  rw [putA, List.take_append_of_le_length (by omega), List.take_of_length_le (by omega)]
theorem putA_low {zs : List Int} {n : Nat} {y : Int} (h : n ≤ zs.length) : (putA zs n y).take n = zs.take n := by
  rw [putA, List.append_assoc, List.take_append_of_le_length (by simp; omega), List.take_take, Nat.min_self]
theorem putA_max {zs : List Int} {n : Nat} {y : Int} (h : n ≤ zs.length) (hB : zs.length ≤ 10) (hn : n < 10) : (putA zs n y).length ≤ 10 := by
  simp only [putA, List.length_append, List.length_take, List.length_drop, List.length_singleton]
  omega
section
variable {P : Program} {K : Value → AHeap → Prop} {env : Env} {h : AHeap} {dst : Option Tmp} {ty : TypeId} {pos : String} {after : Array Edge} {guard : Option (Nat × Bool)}
theorem o_appendAny {t e : TypeId} {s x : Operand} {k n L k2 : Nat} {zs : List Int} {y : Int} {h' : AHeap} (hu : P.underlying t = some (.slice e)) (hi : InfoIs P e (i64 0) 1 8)
    (hx : aeval env s = .slice (some ⟨k, 0, some L⟩) n L) (ho : h[k]? = some (lst zs)) (hn : zs.length = L) (hle : n ≤ L) (hy : aeval env x = sl k2 1) (ho2 : h[k2]? = some (lst [y])) (hL : L ≤ 1000000)
    (hs : h.set k (lst (putA zs n y)) = h') (hK : K (.slice (some ⟨k, 0, some (putA zs n y).length⟩) (n + 1) (putA zs n y).length) h') :
    AOp P ⟨dst, .call { callee := .builtin .append, args := #[s, x], argTypes := #[t, t] }, ty, pos, after, guard⟩ K env h := by
  have hv : Ints h (sl k2 1) [y] := Ints.own ho2 rfl
  subst hn
  by_cases c : n = zs.length
  · subst c
    have e1 : putA zs zs.length y = zs ++ [y] := by rw [putA, List.take_length, List.drop_of_length_le (by omega), List.append_nil]
    rw [e1] at hs hK
    refine o_appendI hu hi hx ho rfl hy hv (by simp; omega) hs ?_
    have e2 : (zs ++ [y]).length = zs.length + 1 := by simp
    rw [e2] at hK
    exact hK
  · have e2 : (putA zs n y).length = zs.length := by
      simp only [putA, List.length_append, List.length_take, List.length_drop, List.length_singleton]
      omega
    rw [e2] at hK
    exact o_appendIn hu hi hx ho rfl hy hv (by simp) (by simp; omega) hs hK
/-- append(s, x...) of lists. -/
theorem o_appendVs {t e : TypeId} {s x : Operand} {k n k2 m b : Nat} {us ws : List Value} {h' : AHeap} (hu : P.underlying t = some (.slice e)) (hi : InfoIs P e (.slice none 0 0) 1 b) (hb : b ≤ 100)
    (hx : aeval env s = sl k n) (ho : h[k]? = some (vls us)) (hn : us.length = n) (hy : aeval env x = sl k2 m) (ho2 : h[k2]? = some (vls ws)) (hm : ws.length = m) (h1 : ∀ w ∈ ws, oneCellA w = true) (hle : n + m ≤ 10000000)
    (hs : h.set k (vls (us ++ ws)) = h') (hK : K (sl k (n + m)) h') :
    AOp P ⟨dst, .call { callee := .builtin .append, args := #[s, x], argTypes := #[t, t] }, ty, pos, after, guard⟩ K env h := by
  obtain ⟨inf, g1, g2, g3, g4⟩ := hi.get
  subst hs hn hm
  have hnews : news (vls ws) 0 (ws.length * (vls us).esz) = ws := by
    show (ws.drop 0).take (ws.length * 1) = ws
    simp
  by_cases h0 : ws = []
  · subst h0
    rw [List.append_nil] at hK
    have e1 : h.set k (vls us) = h := by
      apply List.ext_getElem?
      intro i
      rw [List.getElem?_set]
      split
      · rename_i e; subst e
        rw [ho, if_pos (List.getElem?_eq_some_iff.1 ho).1]
      · rfl
    rw [e1] at hK
    refine aop_appendNone hu g1 (.inr ⟨k, 0, us.length, us.length, us.length, vls us, hx, ho, by simp [vls]⟩) hy (.inr ⟨k2, 0, 0, vls [], rfl, ho2, rfl⟩) ?_
    rw [hx]; exact hK
  · have hp : 0 < ws.length := List.length_pos_iff.2 h0
    refine aop_append (o := vls us) (o2 := vls ws) hu g1 g2 (by rw [g3]; rfl) (by rw [g3]; rfl) (by show 0 < 1; omega) rfl hx ho rfl (by show us.length * 1 = us.length; omega) rfl hy ho2 rfl (by rw [hnews, List.all_eq_true]; exact h1) hp ?_ (by omega) ?_
    · rw [g4]
      have := Nat.mul_le_mul hle hb
      omega
    · rw [hnews]
      have e1 : ws.length * (vls us).esz = ws.length := by show ws.length * 1 = _; omega
      rw [e1]
      exact hK
end
theorem vrows_one {k : Nat} {xss : List (List Int)} : ∀ w ∈ vrows k xss, oneCellA w = true := by
  induction xss generalizing k with
  | nil => intro w hw; cases hw
  | cons x xs ih =>
    intro w hw
    rw [vrows] at hw
    rcases List.mem_cons.1 hw with rfl | hw
    · rfl
    · exact ih w hw

/-! ## Rows that are kept -/
structure RowG (b : Nat) (H : AHeap) (kO : Nat) (al : List (List Int)) (s : Nat) (r : Nat → Nat) (bad : Nat → Prop) : Prop where
  own : OwnS b H kO al s r
  far : ∀ i, i < s → ¬ bad (r i)
  sle : s ≤ al.length
theorem RowG.set {b : Nat} {H H' : AHeap} {kO k s : Nat} {al : List (List Int)} {r : Nat → Nat} {bad : Nat → Prop} {o : AObj} (p : RowG b H kO al s r bad) (hs : H.set k o = H') (hk : k ≠ kO) (hb : bad k) : RowG b H' kO al s r bad := by
  subst hs
  refine ⟨⟨by rw [List.getElem?_set_ne hk]; exact p.own.out, p.own.low, fun i hi => ?_, p.own.inj⟩, p.far, p.sle⟩
  obtain ⟨h1, h2, h3⟩ := p.own.row i hi
  exact ⟨h1, h2, by rw [List.getElem?_set_ne fun e => p.far i hi (by rw [← e]; exact hb)]; exact h3⟩
theorem RowG.push {b : Nat} {H g : AHeap} {kO s : Nat} {al : List (List Int)} {r : Nat → Nat} {bad : Nat → Prop} (p : RowG b H kO al s r bad) : RowG b (H ++ g) kO al s r bad := ⟨owns_push p.own, p.far, p.sle⟩
theorem RowG.lt {b : Nat} {H : AHeap} {kO s : Nat} {al : List (List Int)} {r : Nat → Nat} {bad : Nat → Prop} (p : RowG b H kO al s r bad) {i : Nat} (hi : i < s) : r i < H.length := (List.getElem?_eq_some_iff.1 (p.own.row i hi).2.2).1
theorem RowG.bad {b : Nat} {H : AHeap} {kO s : Nat} {al : List (List Int)} {r : Nat → Nat} {bad bad' : Nat → Prop} (p : RowG b H kO al s r bad) (h : ∀ j, j < H.length → ¬ bad j → ¬ bad' j) : RowG b H kO al s r bad' := ⟨p.own, fun i hi => h _ (p.lt hi) (p.far i hi), p.sle⟩
theorem RowG.init {b : Nat} {H : AHeap} {kO : Nat} {al : List (List Int)} {bad : Nat → Prop} (ho : H[kO]? = some (vls [])) (hb : b ≤ kO) : RowG b H kO al 0 (fun _ => 0) bad := ⟨owns_zero ho hb, fun i hi => absurd hi (by omega), Nat.zero_le _⟩
theorem RowG.add {b : Nat} {H H' : AHeap} {kO kR s : Nat} {al : List (List Int)} {r : Nat → Nat} {bad : Nat → Prop} {ss : List Int} {t : AObj} (p : RowG b H kO al s r bad) (hs : s < al.length) (hrow : rowAt al s = ss) (hb : b ≤ H.length) (hbad : ¬ bad kR) (hk : kR = H.length)
    (hH : (H ++ [lst ss] ++ [t]).set kO (vls (rvals r al s ++ [sl kR ss.length])) = H') : RowG b H' kO al (s + 1) (fun i => if i = s then kR else r i) bad := by
  subst hrow
  have := owns_step (t := t) p.own hb hk
  rw [hH] at this
  refine ⟨this, fun i hi => ?_, by omega⟩
  by_cases e : i = s
  · subst e; simp only [if_true]; exact hbad
  · simp only [if_neg e]; exact p.far i (by omega)
theorem al_many {al res aft : List (List Int)} {s : Nat} (h : al = al.take s ++ (res ++ aft)) (hs : s ≤ al.length) : s + res.length ≤ al.length ∧ (∀ j, j < res.length → rowAt al (s + j) = rowAt res j) ∧ al = al.take (s + res.length) ++ aft := by
  have hl : (al.take s).length = s := by rw [List.length_take]; omega
  have hle : s + res.length ≤ al.length := by
    have := congrArg List.length h
    rw [List.length_append, hl, List.length_append] at this; omega
  refine ⟨hle, fun j hj => ?_, ?_⟩
  · have : al[s + j]? = res[j]? := by
      rw [h, List.getElem?_append_right (by omega), hl, List.getElem?_append_left (by omega)]
      congr 1; omega
    rw [rowAt, rowAt, List.getD_eq_getElem?_getD, List.getD_eq_getElem?_getD, this]
  · have : al.take (s + res.length) = al.take s ++ res := by
      have h2 := congrArg (List.take (s + res.length)) h
      rw [h2, ← List.append_assoc, List.take_append_of_le_length (by simp; omega), List.take_of_length_le (by simp; omega)]
    rw [this, List.append_assoc]; exact h
theorem rvals_many {r : Nat → Nat} {al res aft : List (List Int)} {s k : Nat} (h : al = al.take s ++ (res ++ aft)) (hs : s ≤ al.length) :
    rvals r al s ++ vrows k res = rvals (fun i => if i < s then r i else k + (i - s)) al (s + res.length) := by
  obtain ⟨_, hr, _⟩ := al_many h hs
  apply List.ext_getElem?
  intro i
  by_cases c : i < s
  · rw [List.getElem?_append_left (by rw [rvals_len]; exact c), rvals_get c, rvals_get (by omega)]
    simp only [if_pos c]
  · rw [List.getElem?_append_right (by rw [rvals_len]; omega), rvals_len]
    by_cases c2 : i < s + res.length
    · rw [vrows_get (by omega), rvals_get c2]
      simp only [if_neg c]
      have := hr (i - s) (by omega)
      rw [show s + (i - s) = i by omega] at this
      rw [this]
    · rw [List.getElem?_eq_none (by rw [vrows_len]; omega), List.getElem?_eq_none (by rw [rvals_len]; omega)]
theorem RowG.addl {b : Nat} {H H' : AHeap} {kO k s : Nat} {al res aft : List (List Int)} {r : Nat → Nat} {bad : Nat → Prop} (p : RowG b H kO al s r bad) (hal : al = al.take s ++ (res ++ aft)) (hk : k = H.length) (hb : b ≤ H.length) (hbad : ∀ j, H.length ≤ j → ¬ bad j)
    (hH : (H ++ lls k res).set kO (vls (rvals r al s ++ vrows (k + 1) res)) = H') : RowG b H' kO al (s + res.length) (fun i => if i < s then r i else k + 1 + (i - s)) bad := by
  have hkO := (List.getElem?_eq_some_iff.1 p.own.out).1
  obtain ⟨hle, hr, _⟩ := al_many hal p.sle
  subst hH
  rw [rvals_many hal p.sle]
  refine ⟨⟨by rw [List.getElem?_set_self (by rw [List.length_append]; omega)], p.own.low, fun i hi => ?_, fun i j hi hj he => ?_⟩, fun i hi => ?_, hle⟩
  · by_cases c : i < s
    · obtain ⟨h1, h2, h3⟩ := p.own.row i c
      simp only [if_pos c]
      exact ⟨h1, h2, by rw [List.getElem?_set_ne (Ne.symm h2)]; exact lk_prev h3⟩
    · simp only [if_neg c]
      have h4 := lls_row (h := H) (k := k) (xss := res) hk (i := i - s) (by omega)
      have h5 := hr (i - s) (by omega)
      rw [show s + (i - s) = i by omega] at h5
      exact ⟨by omega, by omega, by rw [List.getElem?_set_ne (by omega), h5]; exact h4⟩
  · by_cases c1 : i < s <;> by_cases c2 : j < s <;> simp only [c1, c2, if_true, if_false] at he
    · exact p.own.inj i j c1 c2 he
    · have := p.lt c1; omega
    · have := p.lt c2; omega
    · omega
  · by_cases c : i < s
    · simp only [if_pos c]; exact p.far i c
    · simp only [if_neg c]; exact hbad _ (by omega)

/-! ## Rings -/
def lastI (l : List Int) : Int := l.getD (l.length - 1) 0
def growB (ring : List Int) (x : Int) : Bool := decide (ring.getD 0 0 < x) && !ring.contains x
def growR (xss : List (List Int)) : Nat → List Int → List (List Int)
  | 0, ring => if (rowAt xss (lastI ring).toNat).contains (ring.getD 0 0) then [ring] else []
  | d + 1, ring => (rowAt xss (lastI ring).toNat).flatMap fun x => if growB ring x then growR xss d (ring ++ [x]) else []
def restG (xss : List (List Int)) (d : Nat) (ring : List Int) (k : Nat) : List (List Int) := ((rowAt xss (lastI ring).toNat).drop k).flatMap fun x => if growB ring x then growR xss d (ring ++ [x]) else []
theorem grow_zero {xss : List (List Int)} {d : Nat} {ring : List Int} : growR xss (d + 1) ring = restG xss d ring 0 := rfl
theorem drop_cons {l : List Int} {k : Nat} (h : k < l.length) : l.drop k = l.getD k 0 :: l.drop (k + 1) := by
  rw [List.drop_eq_getElem_cons h, getD_at h]
theorem grow_yes {xss : List (List Int)} {d k : Nat} {ring : List Int} (h : k < (rowAt xss (lastI ring).toNat).length) (hg : growB ring ((rowAt xss (lastI ring).toNat).getD k 0) = true) :
    restG xss d ring k = growR xss d (ring ++ [(rowAt xss (lastI ring).toNat).getD k 0]) ++ restG xss d ring (k + 1) := by
  rw [restG, drop_cons h, List.flatMap_cons, if_pos hg]; rfl
theorem grow_no {xss : List (List Int)} {d k : Nat} {ring : List Int} (h : k < (rowAt xss (lastI ring).toNat).length) (hg : growB ring ((rowAt xss (lastI ring).toNat).getD k 0) = false) :
    restG xss d ring k = restG xss d ring (k + 1) := by
  rw [restG, drop_cons h, List.flatMap_cons, if_neg (by rw [hg]; decide), List.nil_append]; rfl
theorem grow_end {xss : List (List Int)} {d k : Nat} {ring : List Int} (h : (rowAt xss (lastI ring).toNat).length ≤ k) : restG xss d ring k = [] := by
  rw [restG, List.drop_of_length_le h]; rfl
def ringsN (xss : List (List Int)) (n k : Nat) : List (List Int) := ((List.range xss.length).drop k).flatMap fun (i : Nat) => growR xss (n - 1) [(i : Int)]
def ringsL (xss : List (List Int)) (long n : Nat) : List (List Int) := ((List.range (long + 1)).drop n).flatMap fun n => ringsN xss n 0
theorem ringsN_step {xss : List (List Int)} {n k : Nat} (h : k < xss.length) : ringsN xss n k = growR xss (n - 1) [(k : Int)] ++ ringsN xss n (k + 1) := by
  unfold ringsN
  rw [List.drop_eq_getElem_cons (by simpa using h), List.flatMap_cons, List.getElem_range]
theorem ringsN_end {xss : List (List Int)} {n k : Nat} (h : xss.length ≤ k) : ringsN xss n k = [] := by
  unfold ringsN
  rw [List.drop_of_length_le (by simpa using h)]; rfl
theorem ringsL_step {xss : List (List Int)} {long n : Nat} (h : n ≤ long) : ringsL xss long n = ringsN xss n 0 ++ ringsL xss long (n + 1) := by
  unfold ringsL
  rw [List.drop_eq_getElem_cons (by simp; omega), List.flatMap_cons, List.getElem_range]
theorem ringsL_end {xss : List (List Int)} {long n : Nat} (h : long < n) : ringsL xss long n = [] := by
  unfold ringsL
  rw [List.drop_of_length_le (by simp; omega)]; rfl
theorem flatI_le {f : Int → List (List Int)} {B : Nat} : ∀ (l : List Int), (∀ k ∈ l, (f k).length ≤ B) → (l.flatMap f).length ≤ l.length * B
  | [], _ => by simp
  | k :: l, h => by
    have h1 := h k (by simp)
    have h2 := flatI_le l fun j hj => h j (by simp [hj])
    rw [List.flatMap_cons, List.length_append, List.length_cons, Nat.add_mul, Nat.one_mul]
    omega
theorem grow_count {xss : List (List Int)} (hr : ∀ i, (rowAt xss i).length ≤ 8) : ∀ (d : Nat) (ring : List Int), (growR xss d ring).length ≤ 8 ^ d
  | 0, ring => by rw [growR]; split <;> simp
  | d + 1, ring => by
    rw [growR]
    have := flatI_le (f := fun x => if growB ring x then growR xss d (ring ++ [x]) else []) (B := 8 ^ d) (rowAt xss (lastI ring).toNat) fun x _ => by
      split
      · exact grow_count hr d _
      · simp
    have h2 := Nat.mul_le_mul_right (8 ^ d) (hr (lastI ring).toNat)
    rw [Nat.pow_succ, Nat.mul_comm]
    omega
theorem grow_len {xss : List (List Int)} : ∀ (d : Nat) (ring : List Int), ∀ y ∈ growR xss d ring, y.length = ring.length + d
  | 0, ring, y, h => by
    rw [growR] at h
    split at h
    · rw [List.mem_singleton] at h; rw [h]; rfl
    · cases h
  | d + 1, ring, y, h => by
    rw [growR, List.mem_flatMap] at h
    obtain ⟨x, _, hx⟩ := h
    split at hx
    · have := grow_len d _ y hx
      rw [List.length_append, List.length_singleton] at this; omega
    · cases hx
/-! ## What is given -/
def riseU (xs : List Int) (k : Nat) : Bool := decide (k = 0 ∨ xs.getD (k - 1) 0 < xs.getD k 0)
def giveR (n : Int) (xss : List (List Int)) (i : Nat) : Bool := ((rowAt xss i).all fun x => decide (0 ≤ x ∧ x ≤ n - 1)) && (!(rowAt xss i).contains (i : Int) && (List.range (rowAt xss i).length).all (riseU (rowAt xss i)))
def giveB (xss : List (List Int)) (long : Int) : Bool := (List.range xss.length).all (giveR xss.length xss) && (decide (1 ≤ (xss.length : Int) ∧ (xss.length : Int) ≤ 8) && decide (2 ≤ long ∧ long ≤ 4))
theorem rise_lt {xs : List Int} (h : (List.range xs.length).all (riseU xs) = true) : ∀ (j i : Nat), i < j → j < xs.length → xs.getD i 0 < xs.getD j 0
  | 0, i, hij, _ => absurd hij (by omega)
  | j + 1, i, hij, hj => by
    have h1 := of_decide_eq_true (List.all_eq_true.1 h (j + 1) (List.mem_range.2 hj))
    have h2 : xs.getD j 0 < xs.getD (j + 1) 0 := by
      rcases h1 with h1 | h1
      · omega
      · exact h1
    by_cases e : i = j
    · subst e; exact h2
    · have := rise_lt h j i (by omega) (by omega)
      omega
theorem rise_once {xs : List Int} (h : (List.range xs.length).all (riseU xs) = true) : ∀ t, t ≤ xs.length → twiceT xs t = false
  | 0, _ => rfl
  | t + 1, ht => by
    refine twice_step (rise_once h t (by omega)) ?_
    rw [hasAt, part_zero, ← Bool.not_eq_true, List.contains_iff_mem]
    intro hm
    obtain ⟨k, hk, e⟩ := List.getElem_of_mem hm
    rw [List.length_take] at hk
    rw [List.getElem_take, ← getD_at] at e
    have := rise_lt h t k (by omega) (by omega)
    omega
theorem rise_bnd {xs : List Int} (h : (List.range xs.length).all (riseU xs) = true) (h0 : ∀ x ∈ xs, 0 ≤ x) : ∀ t, t < xs.length → (t : Int) ≤ xs.getD t 0
  | 0, ht => by rw [getD_at ht]; exact h0 _ (List.getElem_mem _)
  | t + 1, ht => by
    have := rise_bnd h h0 t (by omega)
    have := rise_lt h (t + 1) t (by omega) ht
    omega
theorem giveR_wish {n : Int} {xss : List (List Int)} {i : Nat} (h : giveR n xss i = true) : wishL n (rowAt xss i) = true := by
  simp only [giveR, Bool.and_eq_true] at h
  rw [wishL_eq, h.1, rise_once h.2.2 _ (Nat.le_refl _)]; rfl
theorem giveR_len {n : Int} {xss : List (List Int)} {i : Nat} (h : giveR n xss i = true) (hn : 0 ≤ n) : ((rowAt xss i).length : Int) ≤ n := by
  simp only [giveR, Bool.and_eq_true, List.all_eq_true] at h
  obtain ⟨h1, _, h3⟩ := h
  by_cases c : (rowAt xss i).length = 0
  · omega
  · have h4 := rise_bnd (List.all_eq_true.2 h3) (fun x hx => (of_decide_eq_true (h1 x hx)).1) ((rowAt xss i).length - 1) (by omega)
    have h5 := (of_decide_eq_true (h1 ((rowAt xss i).getD ((rowAt xss i).length - 1) 0) (by rw [getD_at (by omega)]; exact List.getElem_mem _))).2
    omega
structure GivesOk (xss : List (List Int)) : Prop where
  n1 : 1 ≤ xss.length
  n8 : xss.length ≤ 8
  row : ∀ i, (rowAt xss i).length ≤ 8
  bnd : ∀ i, ∀ x ∈ rowAt xss i, 0 ≤ x ∧ x < (xss.length : Int)
theorem give_get {xss : List (List Int)} {long : Int} (h : giveB xss long = true) : GivesOk xss ∧ (2 ≤ long ∧ long ≤ 4) := by
  simp only [giveB, Bool.and_eq_true, decide_eq_true_eq] at h
  obtain ⟨h1, h2, h3⟩ := h
  have hout : ∀ i, xss.length ≤ i → rowAt xss i = [] := fun i hi => by rw [rowAt, List.getD_eq_getElem?_getD, List.getElem?_eq_none hi]; rfl
  refine ⟨⟨by omega, by omega, fun i => ?_, fun i x hx => ?_⟩, h3⟩
  · by_cases c : i < xss.length
    · have := giveR_len (List.all_eq_true.1 h1 i (List.mem_range.2 c)) (by omega)
      omega
    · rw [hout i (by omega)]; simp
  · by_cases c : i < xss.length
    · have h4 := List.all_eq_true.1 h1 i (List.mem_range.2 c)
      simp only [giveR, Bool.and_eq_true, List.all_eq_true] at h4
      have := of_decide_eq_true (h4.1 x hx)
      omega
    · rw [hout i (by omega)] at hx; cases hx
theorem ringsN_count {xss : List (List Int)} (g : GivesOk xss) {n : Nat} (hn : n ≤ 4) : (ringsN xss n 0).length ≤ 4096 := by
  have h1 := flat_le (f := fun i => growR xss (n - 1) [(i : Int)]) (B := 8 ^ (n - 1)) ((List.range xss.length).drop 0) fun k _ => grow_count g.row _ _
  have h2 : 8 ^ (n - 1) ≤ 8 ^ 3 := Nat.pow_le_pow_right (by decide) (by omega)
  rw [List.length_drop, List.length_range] at h1
  have h3 := Nat.mul_le_mul (show xss.length - 0 ≤ 8 by have := g.n8; omega) h2
  exact Nat.le_trans h1 h3
theorem rings_count {xss : List (List Int)} (g : GivesOk xss) {long : Nat} (hl : long ≤ 4) : (ringsL xss long 2).length ≤ 20480 := by
  have h1 := flat_le (f := fun n => ringsN xss n 0) (B := 4096) ((List.range (long + 1)).drop 2) fun k hk => ringsN_count g (by
    have := List.mem_of_mem_drop hk
    rw [List.mem_range] at this; omega)
  rw [List.length_drop, List.length_range] at h1
  unfold ringsL
  omega
theorem rings_lb {xss : List (List Int)} {long : Int} (h : giveB xss long = true) : LB (ringsL xss long.toNat 2) := by
  obtain ⟨g, hl⟩ := give_get h
  have h1 := rings_count g (show long.toNat ≤ 4 by omega)
  have h2 := total_bnd (n := 4) (ringsL xss long.toNat 2) fun x hx => by
    unfold ringsL at hx
    rw [List.mem_flatMap] at hx
    obtain ⟨n, hn, hx⟩ := hx
    have hn2 := List.mem_of_mem_drop hn
    rw [List.mem_range] at hn2
    unfold ringsN at hx
    rw [List.mem_flatMap] at hx
    obtain ⟨i, _, hx⟩ := hx
    have := grow_len _ _ x hx
    rw [List.length_singleton] at this
    have h9 : 2 ≤ n := by
      obtain ⟨k, hk, e⟩ := List.getElem_of_mem hn
      rw [List.getElem_drop, List.getElem_range] at e
      omega
    omega
  exact ⟨by omega, by omega⟩
section
variable {P : Program} {K : Value → AHeap → Prop} {env : Env} {h : AHeap} {dst : Option Tmp} {ty : TypeId} {pos : String} {after : Array Edge} {guard : Option (Nat × Bool)}
/-- A cut list, cut again. -/
theorem o_sliceCut {t e : TypeId} {x y2 : Operand} {k n L r b : Nat} {zs : List Int} {z0 : Value} {k1 : IntKind} {z : Int} (hu : P.underlying t = some (.slice e)) (hi : InfoIs P e z0 1 b)
    (hx : aeval env x = .slice (some ⟨k, 0, some L⟩) n L) (ho : h[k]? = some (lst zs)) (hn : zs.length = L) (hy2 : aeval env y2 = .int k1 z) (hz : z = (r : Int)) (hr : r ≤ L)
    (hK : K (.slice (some ⟨k, 0, some L⟩) r L) h) : AOp P ⟨dst, .slice t x none (some y2) none, ty, pos, after, guard⟩ K env h := by
  obtain ⟨i, h1, _, h3, _⟩ := hi.get
  subst hz
  refine aop_slice (l := 0) (r := r) hu h1 (by rw [h3]; rfl) hx ho (by simp [lst, hn]) (.inl ⟨rfl, rfl⟩) (.inr ⟨y2, k1, rfl, hy2⟩) (Nat.zero_le _) hr ?_
  show K (.slice (some ⟨k, 0 + 0 * 1, some L⟩) (r - 0) (L - 0)) h
  simpa using hK
end
theorem growB_1 {ring : List Int} {x : Int} (h : ¬ ring.getD 0 0 < x) : growB ring x = false := by rw [growB, decide_eq_false h]; rfl
theorem growB_2 {ring : List Int} {x : Int} (h : ring.contains x = true) : growB ring x = false := by rw [growB, h]; simp
theorem growB_yes {ring : List Int} {x : Int} (h1 : ring.getD 0 0 < x) (h2 : ring.contains x = false) : growB ring x = true := by rw [growB, decide_eq_true h1, h2]; rfl
theorem owns_lls {h : AHeap} {k : Nat} {res : List (List Int)} (hk : k = h.length) : OwnS h.length (h ++ lls k res) k res res.length (fun i => k + 1 + i) := by
  have e : rvals (fun i => k + 1 + i) res res.length = vrows (k + 1) res := by
    apply List.ext_getElem?
    intro i
    by_cases c : i < res.length
    · rw [rvals_get c, vrows_get c]
    · rw [List.getElem?_eq_none (by rw [rvals_len]; omega), List.getElem?_eq_none (by rw [vrows_len]; omega)]
  exact ⟨by rw [e]; exact lls_outer hk, by omega, fun i hi => ⟨by omega, by omega, lls_row hk hi⟩, fun i j _ _ he => by omega⟩
theorem own_one {b kT kR : Nat} {H : AHeap} {ring : List Int} (h1 : H[kT]? = some (vls [sl kR ring.length])) (h2 : H[kR]? = some (lst ring)) (hT : b ≤ kT) (hR : b ≤ kR) (hne : kR ≠ kT) : OwnS b H kT [ring] 1 (fun _ => kR) :=
  ⟨h1, hT, fun i hi => by
    have : i = 0 := by omega
    subst this
    exact ⟨hR, hne, h2⟩, fun i j hi hj _ => by omega⟩
theorem plc_has {xs : List Int} {x : Int} : decide (plc xs x < xs.length) = xs.contains x := by
  rw [← idx_has]
  have := idxI_bnd (xs := xs) (x := x)
  rw [plc]
  split
  · rename_i h
    rw [decide_eq_true h, decide_eq_true (by omega)]
  · rename_i h
    rw [decide_eq_false h, decide_eq_false (by omega)]
def givE (s : Nat) (xs : List Int) (k : Nat) : Bool := decide (xs.getD k 0 ≠ (s : Int)) && riseU xs k
theorem givE_1 {s k : Nat} {xs : List Int} (h : xs.getD k 0 = (s : Int)) : givE s xs k = false := by rw [givE, decide_eq_false (fun e => e h)]; rfl
theorem givE_2 {s k : Nat} {xs : List Int} (h0 : 0 < k) (h : xs.getD k 0 ≤ xs.getD (k - 1) 0) : givE s xs k = false := by
  rw [givE, riseU, decide_eq_false (p := k = 0 ∨ _) (by omega)]; simp
theorem givE_yes {s k : Nat} {xs : List Int} (h : ¬ xs.getD k 0 = (s : Int)) (h2 : k = 0 ∨ ¬ xs.getD k 0 ≤ xs.getD (k - 1) 0) : givE s xs k = true := by
  rw [givE, riseU, decide_eq_true (p := _ ≠ _) h, decide_eq_true (p := k = 0 ∨ _) (by omega)]; rfl
theorem rall_false {f : Nat → Bool} {n k : Nat} (hk : k < n) (h : f k = false) : (List.range n).all f = false := by
  rw [List.all_eq_false]
  exact ⟨k, List.mem_range.2 hk, by rw [h]; decide⟩
theorem rall_sub {f : Nat → Bool} {n m : Nat} (h : (List.range m).all f = true) (hn : n ≤ m) : (List.range n).all f = true :=
  List.all_eq_true.2 fun x hx => List.all_eq_true.1 h x (List.mem_range.2 (by have := List.mem_range.1 hx; omega))
theorem rise_one {xs : List Int} : (List.range 1).all (riseU xs) = true := by simp [riseU]
theorem riseU_yes {xs : List Int} {t : Nat} (h : ¬ xs.getD t 0 ≤ xs.getD (t - 1) 0) : riseU xs t = true := decide_eq_true (.inr (by omega))
theorem riseU_no {xs : List Int} {t : Nat} (h0 : 1 ≤ t) (h : xs.getD t 0 ≤ xs.getD (t - 1) 0) : riseU xs t = false := decide_eq_false (by omega)
theorem giveR_1 {n : Int} {xss : List (List Int)} {i : Nat} (h : ((rowAt xss i).all fun x => decide (0 ≤ x ∧ x ≤ n - 1)) = false) : giveR n xss i = false := by rw [giveR, h]; rfl
theorem giveR_2 {n : Int} {xss : List (List Int)} {i : Nat} (h : (rowAt xss i).contains (i : Int) = true) : giveR n xss i = false := by rw [giveR, h]; simp
theorem giveR_3 {n : Int} {xss : List (List Int)} {i t : Nat} (ht : t < (rowAt xss i).length) (h : riseU (rowAt xss i) t = false) : giveR n xss i = false := by rw [giveR, rall_false ht h]; simp
theorem giveR_yes {n : Int} {xss : List (List Int)} {i t : Nat} (h1 : ((rowAt xss i).all fun x => decide (0 ≤ x ∧ x ≤ n - 1)) = true) (h2 : (rowAt xss i).contains (i : Int) = false) (h3 : (List.range t).all (riseU (rowAt xss i)) = true) (ht : (rowAt xss i).length ≤ t) : giveR n xss i = true := by
  rw [giveR, h1, h2, rall_sub h3 ht]; rfl
theorem giveR_of {n : Int} {xss : List (List Int)} {i : Nat} (hw : wishL n (rowAt xss i) = true) (h : (List.range (rowAt xss i).length).all (givE i (rowAt xss i)) = true) : giveR n xss i = true := by
  have h2 : ∀ k, k < (rowAt xss i).length → (rowAt xss i).getD k 0 ≠ (i : Int) ∧ riseU (rowAt xss i) k = true := fun k hk => by
    have := List.all_eq_true.1 h k (List.mem_range.2 hk)
    simp only [givE, Bool.and_eq_true, decide_eq_true_eq] at this
    exact this
  rw [wishL_eq, Bool.and_eq_true] at hw
  refine giveR_yes hw.1 ?_ (List.all_eq_true.2 fun k hk => (h2 k (List.mem_range.1 hk)).2) (Nat.le_refl _)
  rw [← Bool.not_eq_true, List.contains_iff_mem]
  intro hm
  obtain ⟨k, hk, e⟩ := List.getElem_of_mem hm
  exact (h2 k hk).1 (by rw [getD_at hk]; exact e)
theorem giveR_no {n : Int} {xss : List (List Int)} {i k : Nat} (hk : k < (rowAt xss i).length) (h : givE i (rowAt xss i) k = false) : giveR n xss i = false := by
  rw [← Bool.not_eq_true]
  intro hr
  simp only [giveR, Bool.and_eq_true] at hr
  have h2 := List.all_eq_true.1 hr.2.2 k (List.mem_range.2 hk)
  rw [givE, h2, Bool.and_true] at h
  have h3 := Classical.byContradiction (fun hne => of_decide_eq_false h hne : ¬ ¬ (rowAt xss i).getD k 0 = (i : Int))
  have h4 : (rowAt xss i).contains (i : Int) = true := by
    rw [List.contains_iff_mem, ← h3, getD_at hk]; exact List.getElem_mem _
  rw [h4] at hr
  exact absurd hr.2.1 (by decide)
theorem give_no {xss : List (List Int)} {long : Int} {s : Nat} (hs : s < xss.length) (h : giveR xss.length xss s = false) : giveB xss long = false := by rw [giveB, rall_false hs h]; rfl
theorem give_n {xss : List (List Int)} {long : Int} (h : ¬ (1 ≤ (xss.length : Int) ∧ (xss.length : Int) ≤ 8)) : giveB xss long = false := by rw [giveB, decide_eq_false h]; simp
theorem give_l {xss : List (List Int)} {long : Int} (h : decide (2 ≤ long ∧ long ≤ 4) = false) : giveB xss long = false := by rw [giveB, h]; simp
theorem give_w {xss : List (List Int)} {long : Int} (h : (xss.all (wishL xss.length) && decide ((xss.length : Int) = xss.length)) = false) : giveB xss long = false := by
  rw [← Bool.not_eq_true]
  intro hg
  simp only [giveB, Bool.and_eq_true] at hg
  have : xss.all (wishL xss.length) = true := List.all_eq_true.2 fun x hx => by
    obtain ⟨k, hk, e⟩ := List.getElem_of_mem hx
    have h2 := giveR_wish (List.all_eq_true.1 hg.1 k (List.mem_range.2 hk))
    have h3 := rowAt_some hk
    rw [List.getElem?_eq_getElem hk, Option.some.injEq, e] at h3
    rw [h3]; exact h2
  rw [this, decide_eq_true rfl] at h
  cases h
theorem wish_row {xss : List (List Int)} {n : Int} {i : Nat} (h : (xss.all (wishL n) && decide ((xss.length : Int) = n)) = true) (hi : i < xss.length) : wishL n (rowAt xss i) = true := by
  rw [Bool.and_eq_true] at h
  exact List.all_eq_true.1 h.1 _ (rowAt_mem hi)
theorem give_all {xss : List (List Int)} {long : Int} (h : (List.range xss.length).all (giveR xss.length xss) = true) : giveB xss long = (decide (1 ≤ (xss.length : Int) ∧ (xss.length : Int) ≤ 8) && decide (2 ≤ long ∧ long ≤ 4)) := by rw [giveB, h]; rfl
theorem app_bnd {ring : List Int} {n x : Int} (h : ∀ y ∈ ring, 0 ≤ y ∧ y < n) (hx : 0 ≤ x ∧ x < n) : ∀ y ∈ ring ++ [x], 0 ≤ y ∧ y < n := fun y hy => by
  rcases List.mem_append.1 hy with h1 | h1
  · exact h y h1
  · rw [List.mem_singleton] at h1; rw [h1]; exact hx
theorem getD_bnd {l : List Int} {n : Int} {k : Nat} (h : ∀ y ∈ l, 0 ≤ y ∧ y < n) (hk : k < l.length) : 0 ≤ l.getD k 0 ∧ l.getD k 0 < n := by
  rw [getD_at hk]; exact h _ (List.getElem_mem _)
theorem lastI_bnd {l : List Int} {n : Int} (h : ∀ y ∈ l, 0 ≤ y ∧ y < n) (hk : 0 < l.length) : 0 ≤ lastI l ∧ lastI l < n := getD_bnd h (by omega)
end Go.Am

namespace Go.Am
set_option linter.unusedSimpArgs false
set_option linter.unusedVariables false
end Go.Am
