/-
  The abstract heap: what this claim needs of it. General: no program is named.
-/
import Derived.Test.YtfnopalingnilaaAmG3
namespace Go.Am
set_option linter.unusedSimpArgs false
set_option linter.unusedVariables false

abbrev Rec := Int × List Int
def recAt (rs : List Rec) (i : Nat) : Rec := rs.getD i (0, [])
/-- A slice value that reads as records. -/
def Recs (h : AHeap) (v : Value) (rs : List Rec) : Prop :=
  (v = .slice none 0 0 ∧ rs = []) ∨
  ∃ k off ver cap o, v = .slice (some ⟨k, off, some ver⟩) rs.length cap ∧ h[k]? = some o ∧ o.cells.length = ver ∧ o.esz = 2 ∧ rs.length ≤ cap ∧ off + cap * 2 = ver ∧
    ∀ (i : Nat) (r : Rec), rs[i]? = some r → ∃ u, o.cells[off + i * 2]? = some (i64 r.1) ∧ o.cells[off + i * 2 + 1]? = some u ∧ Ints h u r.2
/-- A pointer to a record. -/
def IsRec (h : AHeap) (p : Value) (r : Rec) : Prop :=
  ∃ k off ver o u, p = .pointer (some ⟨k, off, some ver⟩) ∧ h[k]? = some o ∧ o.cells.length = ver ∧ o.cells[off]? = some (i64 r.1) ∧ o.cells[off + 1]? = some u ∧ Ints h u r.2
theorem Recs.app {h : AHeap} {v : Value} {rs : List Rec} (hv : Recs h v rs) (g : List AObj) : Recs (h ++ g) v rs := by
  rcases hv with hv | ⟨k, off, ver, cap, o, h1, h2, h3, h4, h5, h6, h7⟩
  · exact .inl hv
  · exact .inr ⟨k, off, ver, cap, o, h1, lk_prev h2, h3, h4, h5, h6, fun i r hi => by
      obtain ⟨u, g0, g1, g2⟩ := h7 i r hi
      exact ⟨u, g0, g1, g2.app g⟩⟩
theorem IsRec.app {h : AHeap} {p : Value} {r : Rec} (hp : IsRec h p r) (g : List AObj) : IsRec (h ++ g) p r := by
  obtain ⟨k, off, ver, o, u, h1, h2, h3, h4, h5, h6⟩ := hp
  exact ⟨k, off, ver, o, u, h1, lk_prev h2, h3, h4, h5, h6.app g⟩
theorem Recs.within {h : AHeap} {v : Value} {rs : List Rec} (hv : Recs h v rs) : Within h.length v := by
  rcases hv with ⟨rfl, _⟩ | ⟨k, off, ver, cap, o, rfl, h2, _⟩
  · exact .prim rfl
  · exact .slice (List.getElem?_eq_some_iff.1 h2).1
theorem IsRec.within {h : AHeap} {p : Value} {r : Rec} (hp : IsRec h p r) : Within h.length p := by
  obtain ⟨k, off, ver, o, u, rfl, h2, _⟩ := hp
  exact .ptr (List.getElem?_eq_some_iff.1 h2).1
section
variable {P : Program} {K : Value → AHeap → Prop} {env : Env} {h : AHeap} {dst : Option Tmp} {ty : TypeId} {pos : String} {after : Array Edge} {guard : Option (Nat × Bool)}
end
section
variable {P : Program} {ops : Array Oper} {KE : Env → AHeap → Prop} {os : List Oper} {env : Env} {h : AHeap} {d : Option Tmp} {ty : TypeId} {pos : String} {af : Array Edge} {g : Option (Nat × Bool)}
end

section
variable {P : Program} {K : Value → AHeap → Prop} {env : Env} {h : AHeap} {dst : Option Tmp} {ty : TypeId} {pos : String} {after : Array Edge} {guard : Option (Nat × Bool)}
end
section
variable {P : Program} {ops : Array Oper} {KE : Env → AHeap → Prop} {os : List Oper} {env : Env} {h : AHeap} {d : Option Tmp} {ty : TypeId} {pos : String} {af : Array Edge} {g : Option (Nat × Bool)}
end

/-! ## Own records -/
def vrec : Nat → List Rec → List Value
  | _, [] => []
  | k, r :: rs => i64 r.1 :: sl k r.2.length :: vrec (k + 1) rs
theorem vrec_len : ∀ {k : Nat} {rs : List Rec}, (vrec k rs).length = rs.length * 2
  | _, [] => rfl
  | k, r :: rs => by simp [vrec, vrec_len (k := k + 1) (rs := rs)]; omega
theorem vrec_get : ∀ {k i : Nat} {rs : List Rec}, i < rs.length → (vrec k rs)[i * 2]? = some (i64 (recAt rs i).1) ∧ (vrec k rs)[i * 2 + 1]? = some (sl (k + i) (recAt rs i).2.length)
  | k, 0, r :: rs, _ => ⟨rfl, rfl⟩
  | k, i + 1, r :: rs, h => by
    have := vrec_get (k := k + 1) (i := i) (rs := rs) (by simpa using h)
    rw [vrec, show (i + 1) * 2 = i * 2 + 1 + 1 by omega, List.getElem?_cons_succ, List.getElem?_cons_succ, List.getElem?_cons_succ, List.getElem?_cons_succ, this.1, this.2]
    simp [recAt, Nat.add_assoc, Nat.add_comm 1]
/-- Records in new memory: the outer block at k, the lists behind it. -/
def rls (k : Nat) (rs : List Rec) : List AObj := ⟨vrec (k + 1) rs, true, 2⟩ :: rs.map fun r => lst r.2
@[simp] theorem rls_len {k : Nat} {rs : List Rec} : (rls k rs).length = rs.length + 1 := by simp [rls]
theorem ShG.rls {rs : List Rec} : ShG (fun k => rls k rs) := fun t n d ht => by
  refine ⟨by rw [rls_len, rls_len], fun i o hi => ?_⟩
  cases i with
  | zero =>
    have : o = ⟨vrec (n + 1) rs, true, 2⟩ := by simp [Am.rls] at hi; exact hi.symm
    subst this
    refine ⟨⟨vrec (n + d + 1) rs, true, 2⟩, rfl, by simp [vrec_len], rfl, rfl, fun j v hv => ?_⟩
    have hv' : (vrec (n + 1) rs)[j]? = some v := hv
    have hlt := (List.getElem?_eq_some_iff.1 hv').1
    rw [vrec_len] at hlt
    obtain ⟨c0, c1⟩ := vrec_get (k := n + 1) (i := j / 2) (rs := rs) (by omega)
    obtain ⟨d0, d1⟩ := vrec_get (k := n + d + 1) (i := j / 2) (rs := rs) (by omega)
    by_cases e : j % 2 = 0
    · rw [show j / 2 * 2 = j by omega] at c0 d0
      rw [hv', Option.some.injEq] at c0
      subst c0
      exact ⟨.prim rfl, _, d0, .prim rfl⟩
    · rw [show j / 2 * 2 + 1 = j by omega] at c1 d1
      rw [hv', Option.some.injEq] at c1
      subst c1
      refine ⟨.slice (by rw [rls_len]; omega), _, d1, ?_⟩
      have := VRen.slice (s := shf t d) (k := n + 1 + j / 2) (off := 0) (ver := (recAt rs (j / 2)).2.length) (len := (recAt rs (j / 2)).2.length) (cap := (recAt rs (j / 2)).2.length)
      rwa [show shf t d (n + 1 + j / 2) = n + d + 1 + j / 2 by rw [shf, if_neg (by omega)]; omega] at this
  | succ i =>
    have hi' : (rs.map fun r => lst r.2)[i]? = some o := by simpa [Am.rls] using hi
    refine ⟨o, by simpa [Am.rls] using hi', rfl, rfl, rfl, fun j v hv => ?_⟩
    simp only [List.getElem?_map, Option.map_eq_some_iff] at hi'
    obtain ⟨r, _, rfl⟩ := hi'
    have := lst_prim v (List.mem_of_getElem? hv)
    exact ⟨.prim this, v, hv, .prim this⟩
/-! ## Made, and filled -/
section
variable {P : Program} {K : Value → AHeap → Prop} {env : Env} {h : AHeap} {dst : Option Tmp} {ty : TypeId} {pos : String} {after : Array Edge} {guard : Option (Nat × Bool)}
end

/-! ## Marks -/
def markR : Int → List Rec → List Rec
  | _, [] => []
  | c, r :: rs => (c, upto (c + 1) r.2.length) :: markR (c + 1 + r.2.length) rs
theorem markR_len : ∀ {c : Int} {rs : List Rec}, (markR c rs).length = rs.length
  | _, [] => rfl
  | c, r :: rs => by simp [markR, markR_len]
section
variable {P : Program} {ops : Array Oper} {KE : Env → AHeap → Prop} {os : List Oper} {env : Env} {h : AHeap} {d : Option Tmp} {ty : TypeId} {pos : String} {af : Array Edge} {g : Option (Nat × Bool)}
end
section
variable {P : Program} {K : Value → AHeap → Prop} {env : Env} {h : AHeap} {dst : Option Tmp} {ty : TypeId} {pos : String} {after : Array Edge} {guard : Option (Nat × Bool)}
end

/-! ## Shares of each -/
end Go.Am

namespace Go.Am
set_option linter.unusedSimpArgs false
set_option linter.unusedVariables false

/-! ## Which goes first -/
def chB (own other : List Int) (i k : Int) : Bool :=
  if other.getD i.toNat 0 = 0 ∨ other.getD k.toNat 0 = 0 then decide (0 < other.getD i.toNat 0 ∧ other.getD k.toNat 0 = 0)
  else decide (own.getD i.toNat 0 * other.getD k.toNat 0 < own.getD k.toNat 0 * other.getD i.toNat 0)
/-- Ahead of: cheaper, or as cheap and ahead in the list. -/
def ahB (own other : List Int) (i k : Int) : Bool := chB own other i k || (!chB own other k i && decide (i < k))
def NN2 (own other : List Int) (i : Int) : Prop := 0 ≤ own.getD i.toNat 0 ∧ 0 ≤ other.getD i.toNat 0
theorem ch_asym {own other : List Int} {i k : Int} (h : chB own other i k = true) : chB own other k i = false := by
  unfold chB at h ⊢
  split at h
  · rename_i c
    rw [decide_eq_true_eq] at h
    rw [if_pos (Or.comm.1 c), decide_eq_false]
    omega
  · rename_i c
    rw [decide_eq_true_eq] at h
    rw [if_neg (fun e => c (Or.comm.1 e)), decide_eq_false]
    omega
theorem mul_tr {a b c x y z : Int} (hy : 0 < y) (hx : 0 < x) (hz : 0 < z) (h1 : a * y ≤ b * x) (h2 : b * z ≤ c * y) : a * z ≤ c * x := by
  have e1 : a * y * z ≤ b * x * z := Int.mul_le_mul_of_nonneg_right h1 (by omega)
  have e2 : b * z * x ≤ c * y * x := Int.mul_le_mul_of_nonneg_right h2 (by omega)
  have e3 : a * z * y ≤ c * x * y := by
    rw [Int.mul_right_comm a z y, Int.mul_right_comm c x y]
    rw [Int.mul_right_comm b x z] at e1
    exact Int.le_trans e1 e2
  exact Int.le_of_mul_le_mul_right e3 hy
/-- Not cheaper, told the other way: at most as dear. -/
theorem ch_le {own other : List Int} {i k : Int} (hi : NN2 own other i) (hk : NN2 own other k) : chB own other k i = false ↔ (other.getD k.toNat 0 = 0 ∨ (0 < other.getD i.toNat 0 ∧ 0 < other.getD k.toNat 0 ∧ own.getD i.toNat 0 * other.getD k.toNat 0 ≤ own.getD k.toNat 0 * other.getD i.toNat 0)) := by
  have h1 := hi.2
  have h2 := hk.2
  unfold chB
  split
  · rename_i c
    rw [decide_eq_false_iff_not]
    constructor
    · intro h; left; omega
    · intro h; omega
  · rename_i c
    rw [decide_eq_false_iff_not]
    constructor
    · intro h; right; exact ⟨by omega, by omega, by omega⟩
    · rintro (h | h)
      · omega
      · omega
theorem ch_le_tr {own other : List Int} {i k l : Int} (hi : NN2 own other i) (hk : NN2 own other k) (hl : NN2 own other l) (h1 : chB own other k i = false) (h2 : chB own other l k = false) : chB own other l i = false := by
  rw [ch_le hi hk] at h1
  rw [ch_le hk hl] at h2
  rw [ch_le hi hl]
  rcases h2 with h2 | ⟨h2, h3, h4⟩
  · exact .inl h2
  · rcases h1 with h1 | ⟨h1, h5, h6⟩
    · omega
    · exact .inr ⟨h1, h3, mul_tr h2 h1 h3 h6 h4⟩
theorem ah_tr {own other : List Int} {i k l : Int} (hi : NN2 own other i) (hk : NN2 own other k) (hl : NN2 own other l) (h1 : ahB own other i k = true) (h2 : ahB own other k l = true) : ahB own other i l = true := by
  have le1 : chB own other k i = false := by
    rw [ahB, Bool.or_eq_true] at h1
    rcases h1 with h | h
    · exact ch_asym h
    · simp at h; exact h.1
  have le2 : chB own other l k = false := by
    rw [ahB, Bool.or_eq_true] at h2
    rcases h2 with h | h
    · exact ch_asym h
    · simp at h; exact h.1
  have le3 := ch_le_tr hi hk hl le1 le2
  cases c : chB own other i l with
  | true => rw [ahB, c]; rfl
  | false =>
    have e1 := ch_le_tr hl hi hk c le1
    have e2 := ch_le_tr hk hl hi le2 c
    rw [ahB, c, le3]
    rw [ahB, e2] at h1
    rw [ahB, e1] at h2
    simp at h1 h2 ⊢
    omega
theorem ah_tot {own other : List Int} {i k : Int} (hne : i ≠ k) : ahB own other i k = !ahB own other k i := by
  cases c1 : chB own other i k with
  | true =>
    have c2 := ch_asym c1
    rw [ahB, ahB, c1, c2]; rfl
  | false =>
    cases c2 : chB own other k i with
    | true => rw [ahB, ahB, c1, c2]; rfl
    | false =>
      rw [ahB, ahB, c1, c2]
      by_cases h : i < k
      · simp [h]; omega
      · simp [h]; omega

/-! ## Order by insertion, in place -/
def swp (zs : List Int) (j : Nat) : List Int := (zs.set j (zs.getD (j - 1) 0)).set (j - 1) (zs.getD j 0)
def insJ (lt : Int → Int → Bool) : Nat → List Int → List Int
  | 0, zs => zs
  | j + 1, zs => if lt (zs.getD (j + 1) 0) (zs.getD j 0) = true then insJ lt j (swp zs (j + 1)) else zs
def srtN (lt : Int → Int → Bool) (zs : List Int) : Nat → List Int
  | 0 => zs
  | s + 1 => insJ lt s (srtN lt zs s)
theorem getD_mid {A B : List Int} {x : Int} : (A ++ x :: B).getD A.length 0 = x := by
  rw [List.getD_eq_getElem?_getD, List.getElem?_append_right (Nat.le_refl _), Nat.sub_self]; rfl
theorem swp_mid {A B : List Int} {x y : Int} : swp (A ++ y :: x :: B) (A.length + 1) = A ++ x :: y :: B := by
  have h1 : (A ++ y :: x :: B).getD A.length 0 = y := getD_mid
  have h2 : (A ++ y :: x :: B).getD (A.length + 1) 0 = x := by
    have := getD_mid (A := A ++ [y]) (B := B) (x := x)
    simp
  rw [swp, Nat.add_sub_cancel, h1, h2, List.set_append_right _ _ (by omega), List.set_append_right _ _ (Nat.le_refl _)]
  simp
theorem insJ_spec {lt : Int → Int → Bool} {x : Int} : ∀ (j : Nat) (A B : List Int), A.length = j →
    ∃ A1 A2, A = A1 ++ A2 ∧ insJ lt j (A ++ x :: B) = A1 ++ x :: (A2 ++ B) ∧ (∀ a ∈ A2, lt x a = true) ∧ (∀ y, A1.getLast? = some y → lt x y = false)
  | 0, A, B, h => by
    have : A = [] := List.length_eq_zero_iff.1 h
    subst this
    exact ⟨[], [], rfl, rfl, by simp, by simp⟩
  | j + 1, A, B, h => by
    rcases List.eq_nil_or_concat A with e | ⟨A', y, e⟩
    · subst e; simp at h
    · rw [List.concat_eq_append] at e
      subst e
      have hl : A'.length = j := by simpa using h
      have g1 : (A' ++ [y] ++ x :: B).getD (j + 1) 0 = x := by
        have := getD_mid (A := A' ++ [y]) (B := B) (x := x)
        rwa [h] at this
      have g2 : (A' ++ [y] ++ x :: B).getD j 0 = y := by
        have := getD_mid (A := A') (B := x :: B) (x := y)
        rw [hl] at this
        simpa using this
      rw [insJ, g1, g2]
      by_cases c : lt x y = true
      · rw [if_pos c]
        obtain ⟨A1, A2, e1, e2, e3, e4⟩ := insJ_spec (lt := lt) (x := x) j A' (y :: B) hl
        have hsw : swp (A' ++ [y] ++ x :: B) (j + 1) = A' ++ x :: y :: B := by
          have := swp_mid (A := A') (B := B) (x := x) (y := y)
          rw [hl] at this
          simpa using this
        rw [hsw]
        exact ⟨A1, A2 ++ [y], by rw [e1, List.append_assoc], by rw [e2]; simp, fun a ha => by
          rw [List.mem_append, List.mem_singleton] at ha
          rcases ha with ha | rfl
          · exact e3 a ha
          · exact c, e4⟩
      · rw [if_neg c]
        exact ⟨A' ++ [y], [], by simp, by simp, by simp, fun z hz => by
          rw [List.getLast?_append] at hz
          simp at hz
          subst hz
          simpa using c⟩

theorem pw_last {R : Int → Int → Prop} {A : List Int} {y : Int} (h : A.Pairwise R) (e : A.getLast? = some y) : ∀ a ∈ A, a = y ∨ R a y := by
  rcases List.eq_nil_or_concat A with e2 | ⟨A', z, e2⟩
  · subst e2; simp at e
  · rw [List.concat_eq_append] at e2
    subst e2
    have : z = y := by simpa using e
    subst this
    intro a ha
    rw [List.mem_append, List.mem_singleton] at ha
    rcases ha with ha | ha
    · exact .inr ((List.pairwise_append.1 h).2.2 a ha z (by simp))
    · exact .inl ha
theorem srt_spec {own other zs : List Int} (hinc : zs.Pairwise (· < ·)) (hnn : ∀ z ∈ zs, NN2 own other z) : ∀ s, s ≤ zs.length →
    ∃ S, srtN (chB own other) zs s = S ++ zs.drop s ∧ S.Perm (zs.take s) ∧ S.Pairwise (fun a b => ahB own other a b = true)
  | 0, _ => ⟨[], rfl, List.Perm.refl _, List.Pairwise.nil⟩
  | s + 1, hs => by
    obtain ⟨S, h1, h2, h3⟩ := srt_spec hinc hnn s (by omega)
    have hd : zs.drop s = zs[s] :: zs.drop (s + 1) := List.drop_eq_getElem_cons (by omega)
    generalize hx : zs[s] = x at hd
    have hxz : x ∈ zs := by rw [← hx]; exact List.getElem_mem _
    have hl : S.length = s := by rw [h2.length_eq, List.length_take]; omega
    obtain ⟨A1, A2, e1, e2, e3, e4⟩ := insJ_spec (lt := chB own other) (x := x) s S (zs.drop (s + 1)) hl
    have htk : zs.take (s + 1) = zs.take s ++ [x] := by rw [List.take_succ_eq_append_getElem (by omega), hx]
    have hlt : ∀ a ∈ S, a < x := fun a ha => by
      have hm : a ∈ zs.take s := h2.mem_iff.1 ha
      have hp := hinc.sublist (List.take_sublist (s + 1) zs)
      rw [htk] at hp
      exact (List.pairwise_append.1 hp).2.2 a hm x (by simp)
    have hmem : ∀ a ∈ S, a ∈ zs := fun a ha => List.mem_of_mem_take (h2.mem_iff.1 ha)
    subst e1
    have hA := List.pairwise_append.1 h3
    refine ⟨A1 ++ x :: A2, ?_, ?_, ?_⟩
    · rw [srtN, h1, hd, e2]; simp
    · rw [htk]
      exact List.perm_middle.trans ((List.Perm.cons x h2).trans (List.perm_append_comm (l₁ := [x])))
    · refine List.pairwise_append.2 ⟨hA.1, List.pairwise_cons.2 ⟨fun a ha => ?_, hA.2.1⟩, fun a ha b hb => ?_⟩
      · rw [ahB, e3 a ha]; rfl
      · rw [List.mem_cons] at hb
        rcases hb with rfl | hb
        · cases hy : A1.getLast? with
          | none =>
            rw [List.getLast?_eq_none_iff] at hy
            subst hy; cases ha
          | some y =>
            have hyA : y ∈ A1 := List.mem_of_getLast? hy
            have hyx : ahB own other y b = true := by
              have h5 := e4 y hy
              have h6 := hlt y (List.mem_append_left _ hyA)
              rw [ahB, h5, decide_eq_true h6]; simp
            rcases pw_last hA.1 hy a ha with rfl | hr
            · exact hyx
            · exact ah_tr (hnn _ (hmem _ (List.mem_append_left _ ha))) (hnn _ (hmem _ (List.mem_append_left _ hyA))) (hnn _ hxz) hr hyx
        · exact hA.2.2 a ha b hb

/-! ## The next that goes -/
def goB (ow own other : List Int) (fr : Int) : Nat → Int
  | 0 => -1
  | s + 1 => if ow.getD s 0 = fr ∧ (goB ow own other fr s < 0 ∨ chB own other (s : Int) (goB ow own other fr s) = true) then (s : Int) else goB ow own other fr s
theorem goB_inv {ow own other : List Int} {fr : Int} {n : Nat} (hnn : ∀ i : Nat, i < n → NN2 own other (i : Int)) : ∀ s, s ≤ n →
    (goB ow own other fr s = -1 ∧ ∀ i, i < s → ow.getD i 0 ≠ fr) ∨ (∃ b : Nat, b < s ∧ goB ow own other fr s = (b : Int) ∧ ow.getD b 0 = fr ∧ ∀ i : Nat, i < s → ow.getD i 0 = fr → i = b ∨ ahB own other (b : Int) (i : Int) = true)
  | 0, _ => .inl ⟨rfl, fun i hi => by omega⟩
  | s + 1, hs => by
    rcases goB_inv (ow := ow) (fr := fr) hnn s (by omega) with ⟨h1, h2⟩ | ⟨b, hb, h1, h2, h3⟩
    · by_cases c : ow.getD s 0 = fr
      · right
        refine ⟨s, by omega, ?_, c, fun i hi he => ?_⟩
        · rw [goB, if_pos ⟨c, .inl (by rw [h1]; decide)⟩]
        · by_cases e : i = s
          · exact .inl e
          · exact absurd he (h2 i (by omega))
      · left
        refine ⟨by rw [goB, if_neg (fun h => c h.1), h1], fun i hi => ?_⟩
        by_cases e : i = s
        · rw [e]; exact c
        · exact h2 i (by omega)
    · right
      by_cases c : ow.getD s 0 = fr ∧ (goB ow own other fr s < 0 ∨ chB own other (s : Int) (goB ow own other fr s) = true)
      · refine ⟨s, by omega, by rw [goB, if_pos c], c.1, fun i hi he => ?_⟩
        have hc : chB own other (s : Int) (b : Int) = true := by
          rcases c.2 with c2 | c2
          · rw [h1] at c2; omega
          · rwa [h1] at c2
        have hsb : ahB own other (s : Int) (b : Int) = true := by rw [ahB, hc]; rfl
        by_cases e : i = s
        · exact .inl e
        · rcases h3 i (by omega) he with rfl | h4
          · exact .inr hsb
          · exact .inr (ah_tr (hnn s (by omega)) (hnn b (by omega)) (hnn i (by omega)) hsb h4)
      · refine ⟨b, by omega, by rw [goB, if_neg c, h1], h2, fun i hi he => ?_⟩
        by_cases e : i = s
        · subst e
          right
          have hc : chB own other (i : Int) (b : Int) = false := by
            cases hh : chB own other (i : Int) (b : Int) with
            | false => rfl
            | true => exact absurd ⟨he, .inr (by rw [h1]; exact hh)⟩ c
          rw [ahB, hc, decide_eq_true (show (b : Int) < (i : Int) by omega)]
          simp
        · exact h3 i (by omega) he
theorem goB_min {ow own other : List Int} {fr : Int} {n b : Nat} (hnn : ∀ i : Nat, i < n → NN2 own other (i : Int)) (hb : b < n) (hf : ow.getD b 0 = fr) (hm : ∀ i : Nat, i < n → ow.getD i 0 = fr → i = b ∨ ahB own other (b : Int) (i : Int) = true) : goB ow own other fr n = (b : Int) := by
  rcases goB_inv (ow := ow) (fr := fr) hnn n (Nat.le_refl _) with ⟨_, h2⟩ | ⟨b2, hb2, h1, h2, h3⟩
  · exact absurd hf (h2 b hb)
  · rw [h1]
    rcases h3 b hb hf with e | h4
    · rw [e]
    · rcases hm b2 hb2 h2 with e | h5
      · rw [e]
      · exfalso
        by_cases e : b = b2
        · subst e
          rw [ahB] at h5
          have : chB own other (b : Int) (b : Int) = false := by
            cases hh : chB own other (b : Int) (b : Int) with
            | false => rfl
            | true => have := ch_asym hh; rw [hh] at this; cases this
          rw [this] at h5
          simp at h5
        · have := ah_tot (own := own) (other := other) (i := (b : Int)) (k := (b2 : Int)) (by omega)
          rw [h4, h5] at this
          cases this

def cmpZ (a b : Int) : Int := if a < b then -1 else if b < a then 1 else 0
def cmpC (own other : List Int) (i k : Int) : Int :=
  if other.getD i.toNat 0 = 0 ∧ other.getD k.toNat 0 = 0 then 0 else if other.getD i.toNat 0 = 0 then 1 else if other.getD k.toNat 0 = 0 then -1
  else cmpZ (own.getD i.toNat 0 * other.getD k.toNat 0) (own.getD k.toNat 0 * other.getD i.toNat 0)
theorem cmpC_neg {own other : List Int} {i k : Int} (hi : 0 ≤ other.getD i.toNat 0) : decide (cmpC own other i k < 0) = chB own other i k := by
  unfold cmpC chB cmpZ
  generalize own.getD i.toNat 0 * other.getD k.toNat 0 = p1
  generalize own.getD k.toNat 0 * other.getD i.toNat 0 = p2
  generalize other.getD i.toNat 0 = y1 at *
  generalize other.getD k.toNat 0 = y2 at *
  by_cases c1 : y1 = 0
  · by_cases c2 : y2 = 0
    · simp [c1, c2]
    · simp [c1, c2]
  · have c3 : 0 < y1 := by omega
    by_cases c2 : y2 = 0
    · simp [c1, c2, c3]
    · by_cases c4 : p1 < p2
      · simp [c1, c2, c4]
      · by_cases c5 : p2 < p1
        · simp [c1, c2, c4, c5]
        · simp [c1, c2, c4, c5]
end Go.Am

namespace Go.Am
set_option linter.unusedSimpArgs false
set_option linter.unusedVariables false
/-! ## Who owns what -/
def ownP2 (xs ys : List Int) : Nat → List Int
  | 0 => []
  | s + 1 => ownP2 xs ys s ++ [if xs.getD s 0 < ys.getD s 0 then 1 else 0]
theorem ownP2_len {xs ys : List Int} : ∀ s, (ownP2 xs ys s).length = s
  | 0 => rfl
  | s + 1 => by rw [ownP2, List.length_append, ownP2_len s]; rfl
def hasN (xs ys own : List Int) (w : Int) : Nat → Int
  | 0 => 0
  | s + 1 => hasN xs ys own w s + if (if xs.getD s 0 < ys.getD s 0 then (1 : Int) else 0) = w then own.getD s 0 else 0
def thL (os : List Int) (g : Int) : Nat → List Int
  | 0 => []
  | s + 1 => thL os g s ++ if os.getD s 0 = g then [(s : Int)] else []
def sumO (own l : List Int) : Int := (l.map fun k => own.getD k.toNat 0).sum
theorem sumO_append {own l r : List Int} : sumO own (l ++ r) = sumO own l + sumO own r := by simp [sumO]
theorem sumO_perm {own l r : List Int} (h : l.Perm r) : sumO own l = sumO own r := by
  unfold sumO
  induction h with
  | nil => rfl
  | cons x _ ih => simp only [List.map_cons, List.sum_cons, ih]
  | swap x y l => simp only [List.map_cons, List.sum_cons]; omega
  | trans _ _ ih1 ih2 => exact ih1.trans ih2
theorem sumO_bound {own : List Int} : ∀ {l : List Int}, (∀ k ∈ l, 0 ≤ own.getD k.toNat 0 ∧ own.getD k.toNat 0 ≤ 1000) → 0 ≤ sumO own l ∧ sumO own l ≤ 1000 * l.length
  | [], _ => by simp [sumO]
  | x :: l, h => by
    have h1 := h x (by simp)
    have h2 := sumO_bound (l := l) fun k hk => h k (by simp [hk])
    have e : sumO own (x :: l) = own.getD x.toNat 0 + sumO own l := by simp [sumO]
    rw [e, List.length_cons]
    omega
theorem ownP2_get {xs ys : List Int} : ∀ {s i : Nat}, i < s → (ownP2 xs ys s).getD i 0 = if xs.getD i 0 < ys.getD i 0 then 1 else 0
  | s + 1, i, h => by
    rw [ownP2, List.getD_eq_getElem?_getD]
    by_cases e : i = s
    · subst e
      rw [List.getElem?_append_right (by rw [ownP2_len]; omega), ownP2_len, Nat.sub_self]; rfl
    · rw [List.getElem?_append_left (by rw [ownP2_len]; omega), ← List.getD_eq_getElem?_getD]
      exact ownP2_get (by omega)
theorem hasN_sum {xs ys own : List Int} {w : Int} {n : Nat} : ∀ s, s ≤ n → hasN xs ys own w s = sumO own (thL (ownP2 xs ys n) w s)
  | 0, _ => rfl
  | s + 1, hs => by
    rw [hasN, thL, hasN_sum (n := n) s (by omega), sumO_append, ownP2_get (s := n) (show s < n by omega)]
    by_cases c : (if xs.getD s 0 < ys.getD s 0 then (1 : Int) else 0) = w
    · rw [if_pos c, if_pos c]; simp [sumO]
    · rw [if_neg c, if_neg c]; simp [sumO]
theorem thL_mem {os : List Int} {g : Int} {z : Int} : ∀ {s : Nat}, z ∈ thL os g s ↔ ∃ i : Nat, i < s ∧ z = (i : Int) ∧ os.getD i 0 = g
  | 0 => by simp [thL]
  | s + 1 => by
    rw [thL, List.mem_append, thL_mem (s := s)]
    constructor
    · rintro (⟨i, h1, h2, h3⟩ | h)
      · exact ⟨i, by omega, h2, h3⟩
      · by_cases c : os.getD s 0 = g
        · rw [if_pos c, List.mem_singleton] at h
          exact ⟨s, by omega, h, c⟩
        · rw [if_neg c] at h; cases h
    · rintro ⟨i, h1, h2, h3⟩
      by_cases e : i = s
      · subst e
        right; rw [if_pos h3]; simp [h2]
      · exact .inl ⟨i, by omega, h2, h3⟩
theorem thL_inc {os : List Int} {g : Int} : ∀ s, (thL os g s).Pairwise (· < ·)
  | 0 => List.Pairwise.nil
  | s + 1 => by
    rw [thL]
    refine List.pairwise_append.2 ⟨thL_inc s, ?_, fun a ha b hb => ?_⟩
    · split
      · exact List.pairwise_singleton _ _
      · exact List.Pairwise.nil
    · obtain ⟨i, h1, h2, _⟩ := thL_mem.1 ha
      split at hb
      · rw [List.mem_singleton] at hb
        omega
      · cases hb
theorem thL_len {os : List Int} {g : Int} : ∀ s, (thL os g s).length ≤ s
  | 0 => Nat.le_refl _
  | s + 1 => by
    rw [thL, List.length_append]
    have := thL_len (os := os) (g := g) s
    split <;> simp <;> omega
theorem hasN_bound {xs ys own : List Int} {w : Int} {n : Nat} (hb : ∀ j, j < n → 0 ≤ own.getD j 0 ∧ own.getD j 0 ≤ 1000) : ∀ s, s ≤ n → 0 ≤ hasN xs ys own w s ∧ hasN xs ys own w s ≤ 1000 * s
  | 0, _ => by simp [hasN]
  | s + 1, hs => by
    have h1 := hasN_bound (xs := xs) (ys := ys) (w := w) hb s (by omega)
    have h2 := hb s (by omega)
    rw [hasN]
    split <;> omega

/-! ## The loop -/
structure SplO where
  os : List Int
  at' : Int
  p : Int
  q : Int
def spI (own other : List Int) (g : Int) : List Int → List Int → Int → Int → SplO
  | [], os, _, _ => ⟨os, -1, 0, 1⟩
  | k :: r, os, a, b => if a - b = 0 then ⟨os, -1, 0, 1⟩
    else if a - b < own.getD k.toNat 0 + other.getD k.toNat 0 then
      ⟨os, k, (((a - b).toNat : Nat) : Int) / (Nat.gcd (a - b).toNat (own.getD k.toNat 0 + other.getD k.toNat 0).toNat : Nat), (((own.getD k.toNat 0 + other.getD k.toNat 0).toNat : Nat) : Int) / (Nat.gcd (a - b).toNat (own.getD k.toNat 0 + other.getD k.toNat 0).toNat : Nat)⟩
    else spI own other g r (os.set k.toNat (1 - g)) (a - own.getD k.toNat 0) (b + other.getD k.toNat 0)
theorem spI_done {own other os : List Int} {g a b : Int} (h : a - b = 0) : ∀ {T}, spI own other g T os a b = ⟨os, -1, 0, 1⟩
  | [] => rfl
  | k :: r => by rw [spI, if_pos h]
structure SpInv (own other : List Int) (g : Int) (n : Nat) (T : List Int) (R : SplO) (t : Nat) (os : List Int) (a b : Int) : Prop where
  le : t ≤ T.length
  res : spI own other g (T.drop t) os a b = R
  len : os.length = n
  bit : g = 0 ∨ g = 1
  mem : ∀ i : Nat, i < n → (os.getD i 0 = g ↔ (i : Int) ∈ T.drop t)
  has : ∀ k ∈ T, 0 ≤ k ∧ k.toNat < n
  pw : T.Pairwise (fun x y => ahB own other x y = true)
  nod : T.Nodup
  tl : T.length ≤ 8
  sum : a = sumO own (T.drop t)
  ord : 0 ≤ b ∧ b ≤ a
theorem SpInv.bound {own other : List Int} {g : Int} {n : Nat} {T : List Int} {R : SplO} {t : Nat} {os : List Int} {a b : Int} (i : SpInv own other g n T R t os a b) (hb : ∀ j, j < n → 0 ≤ own.getD j 0 ∧ own.getD j 0 ≤ 1000) :
    0 ≤ b ∧ b ≤ a ∧ a ≤ 8000 := by
  have h1 := sumO_bound (own := own) (l := T.drop t) fun k hk => hb _ (i.has k (List.mem_of_mem_drop hk)).2
  have h2 : (T.drop t).length ≤ 8 := by rw [List.length_drop]; have := i.tl; omega
  have := i.ord
  have := i.sum
  omega
theorem SpInv.done {own other : List Int} {g : Int} {n : Nat} {T : List Int} {R : SplO} {t : Nat} {os : List Int} {a b : Int} (i : SpInv own other g n T R t os a b) (h : T.length ≤ t ∨ a ≤ b) : R = ⟨os, -1, 0, 1⟩ := by
  rw [← i.res]
  have ho := i.ord
  refine spI_done ?_
  rcases h with h | h
  · have hs := i.sum
    rw [List.drop_eq_nil_of_le h] at hs
    simp [sumO] at hs
    omega
  · omega
/-- The one that goes next. -/
theorem SpInv.go {own other : List Int} {g : Int} {n : Nat} {T : List Int} {R : SplO} {t : Nat} {os : List Int} {a b : Int} (i : SpInv own other g n T R t os a b) (ht : t < T.length) (hnn : ∀ j : Nat, j < n → NN2 own other (j : Int)) :
    goB os own other g n = T.getD t 0 := by
  have hd : T.drop t = T[t] :: T.drop (t + 1) := List.drop_eq_getElem_cons ht
  have he : T.getD t 0 = T[t] := by simp [List.getD, ht]
  obtain ⟨h0, h1⟩ := i.has T[t] (List.getElem_mem ht)
  have hp := i.pw.sublist (List.drop_sublist t T)
  rw [hd, List.pairwise_cons] at hp
  rw [he]
  generalize hk : T[t] = k at *
  obtain ⟨k, rfl⟩ := Int.eq_ofNat_of_zero_le h0
  rw [Int.toNat_natCast] at h1
  refine goB_min hnn h1 ((i.mem k h1).2 (by rw [hd]; simp)) fun j hj hf => ?_
  have := (i.mem j hj).1 hf
  rw [hd, List.mem_cons] at this
  rcases this with h | h
  · left; omega
  · exact .inr (hp.1 _ h)
theorem SpInv.stop {own other : List Int} {g : Int} {n : Nat} {T : List Int} {R : SplO} {t : Nat} {os : List Int} {a b : Int} {k : Nat} (i : SpInv own other g n T R t os a b) (ht : t < T.length) (hk : T.getD t 0 = (k : Int)) (h1 : a - b ≠ 0) (h2 : a - b < own.getD k 0 + other.getD k 0) :
    R = ⟨os, (k : Int), (((a - b).toNat : Nat) : Int) / (Nat.gcd (a - b).toNat (own.getD k 0 + other.getD k 0).toNat : Nat), (((own.getD k 0 + other.getD k 0).toNat : Nat) : Int) / (Nat.gcd (a - b).toNat (own.getD k 0 + other.getD k 0).toNat : Nat)⟩ := by
  have hd : T.drop t = T[t] :: T.drop (t + 1) := List.drop_eq_getElem_cons ht
  have he : T.getD t 0 = T[t] := by simp [List.getD, ht]
  rw [he] at hk
  rw [← i.res, hd, hk, spI, if_neg h1, Int.toNat_natCast, if_pos h2]
theorem SpInv.next {own other : List Int} {g : Int} {n : Nat} {T : List Int} {R : SplO} {t : Nat} {os : List Int} {a b : Int} {k : Nat} (i : SpInv own other g n T R t os a b) (ht : t < T.length) (hk : T.getD t 0 = (k : Int)) (h1 : a - b ≠ 0) (h2 : ¬ a - b < own.getD k 0 + other.getD k 0)
    (ho : 0 ≤ other.getD k 0) : SpInv own other g n T R (t + 1) (os.set k (1 - g)) (a - own.getD k 0) (b + other.getD k 0) := by
  have hd : T.drop t = T[t] :: T.drop (t + 1) := List.drop_eq_getElem_cons ht
  have he : T.getD t 0 = T[t] := by simp [List.getD, ht]
  rw [he] at hk
  have hkn : k < n := by have := (i.has T[t] (List.getElem_mem ht)).2; rw [hk, Int.toNat_natCast] at this; exact this
  have hn : (T.drop t).Nodup := i.nod.sublist (List.drop_sublist t T)
  rw [hd, hk, List.nodup_cons] at hn
  have ho2 := i.ord
  refine ⟨by omega, ?_, by rw [List.length_set]; exact i.len, i.bit, fun j hj => ?_, i.has, i.pw, i.nod, i.tl, ?_, by omega⟩
  · rw [← i.res, hd, hk, spI, if_neg h1, Int.toNat_natCast, if_neg h2]
  · have hm := i.mem j hj
    rw [hd, hk, List.mem_cons] at hm
    have hb := i.bit
    by_cases e : k = j
    · subst e
      have : (os.set k (1 - g)).getD k 0 = 1 - g := by
        rw [List.getD_eq_getElem?_getD, List.getElem?_set_self (by rw [i.len]; exact hkn)]; rfl
      rw [this]
      constructor
      · intro h; omega
      · intro h; exact absurd h hn.1
    · have : (os.set k (1 - g)).getD j 0 = os.getD j 0 := by
        rw [List.getD_eq_getElem?_getD, List.getElem?_set_ne e, ← List.getD_eq_getElem?_getD]
      rw [this, hm]
      constructor
      · rintro (h | h)
        · omega
        · exact h
      · exact fun h => .inr h
  · have hs := i.sum
    rw [hd, hk] at hs
    have : sumO own ((k : Int) :: T.drop (t + 1)) = own.getD k 0 + sumO own (T.drop (t + 1)) := by simp [sumO]
    omega
/-- The things of the giver, in order. -/
def spT (xs ys : List Int) (g : Int) (own other : List Int) : List Int := srtN (chB own other) (thL (ownP2 xs ys xs.length) g xs.length) (thL (ownP2 xs ys xs.length) g xs.length).length
theorem spT_spec {xs ys own other : List Int} {g : Int} (hnn : ∀ j : Nat, j < xs.length → NN2 own other (j : Int)) :
    (spT xs ys g own other).Perm (thL (ownP2 xs ys xs.length) g xs.length) ∧ (spT xs ys g own other).Pairwise (fun a b => ahB own other a b = true) := by
  obtain ⟨S, h1, h2, h3⟩ := srt_spec (own := own) (other := other) (thL_inc (os := ownP2 xs ys xs.length) (g := g) xs.length) (fun z hz => by
    obtain ⟨i, q1, q2, _⟩ := thL_mem.1 hz
    rw [q2]; exact hnn i q1) _ (Nat.le_refl _)
  rw [List.drop_length, List.append_nil] at h1
  rw [List.take_length] at h2
  unfold spT
  rw [h1]
  exact ⟨h2, h3⟩
theorem SpInv.start {xs ys own other : List Int} {g : Int} {b : Int} (hl : xs.length ≤ 8) (hnn : ∀ j : Nat, j < xs.length → NN2 own other (j : Int)) (hg : g = 0 ∨ g = 1) (hb : 0 ≤ b ∧ b ≤ hasN xs ys own g xs.length) :
    SpInv own other g xs.length (spT xs ys g own other) (spI own other g (spT xs ys g own other) (ownP2 xs ys xs.length) (hasN xs ys own g xs.length) b) 0 (ownP2 xs ys xs.length) (hasN xs ys own g xs.length) b := by
  obtain ⟨hp, hw⟩ := spT_spec (xs := xs) (ys := ys) (g := g) hnn
  refine ⟨Nat.zero_le _, by rw [List.drop_zero], ownP2_len _, hg, fun i hi => ?_, fun k hk => ?_, hw, ?_, ?_, ?_, hb⟩
  · rw [List.drop_zero, hp.mem_iff, thL_mem]
    constructor
    · intro h; exact ⟨i, hi, rfl, h⟩
    · rintro ⟨j, _, h2, h3⟩
      have : i = j := by omega
      rw [this]; exact h3
  · obtain ⟨i, h1, h2, _⟩ := thL_mem.1 (hp.mem_iff.1 hk)
    omega
  · refine (hp.nodup_iff).2 ?_
    exact (thL_inc _).imp fun h => by omega
  · rw [hp.length_eq]
    have := thL_len (os := ownP2 xs ys xs.length) (g := g) xs.length
    omega
  · rw [List.drop_zero, sumO_perm hp]
    exact hasN_sum _ (Nat.le_refl _)
end Go.Am

namespace Go.Am
set_option linter.unusedSimpArgs false
set_option linter.unusedVariables false
open Go.RowKit
/-! ## The order by insertion keeps what it orders -/
theorem swp_len {zs : List Int} {j : Nat} : (swp zs j).length = zs.length := by simp [swp]
theorem mem_set {l : List Int} {i : Nat} {x w : Int} (h : w ∈ l.set i x) : w ∈ l ∨ w = x := by
  rcases List.mem_or_eq_of_mem_set h with h | h
  · exact .inl h
  · exact .inr h
theorem getD_memI {l : List Int} {i : Nat} (h : i < l.length) : l.getD i 0 ∈ l := by
  have : l.getD i 0 = l[i] := by simp [List.getD, h]
  rw [this]; exact List.getElem_mem h
theorem swp_mem {zs : List Int} {j : Nat} (h : j < zs.length) : ∀ w ∈ swp zs j, w ∈ zs := fun w hw => by
  unfold swp at hw
  rcases mem_set hw with hw | rfl
  · rcases mem_set hw with hw | rfl
    · exact hw
    · exact getD_memI (by omega)
  · exact getD_memI h
theorem insJ_len {lt : Int → Int → Bool} : ∀ {j : Nat} {zs : List Int}, (insJ lt j zs).length = zs.length
  | 0, _ => rfl
  | j + 1, zs => by
    rw [insJ]
    split
    · rw [insJ_len, swp_len]
    · rfl
theorem insJ_mem {lt : Int → Int → Bool} : ∀ {j : Nat} {zs : List Int}, j < zs.length → ∀ w ∈ insJ lt j zs, w ∈ zs
  | 0, _, _ => fun w hw => hw
  | j + 1, zs, h => fun w hw => by
    rw [insJ] at hw
    split at hw
    · exact swp_mem h w (insJ_mem (by rw [swp_len]; omega) w hw)
    · exact hw
theorem srtN_len {lt : Int → Int → Bool} {zs : List Int} : ∀ {s : Nat}, (srtN lt zs s).length = zs.length
  | 0 => rfl
  | s + 1 => by rw [srtN, insJ_len, srtN_len]
theorem srtN_mem {lt : Int → Int → Bool} {zs : List Int} : ∀ {s : Nat}, s ≤ zs.length → ∀ w ∈ srtN lt zs s, w ∈ zs
  | 0, _ => fun w hw => hw
  | s + 1, h => fun w hw => srtN_mem (s := s) (by omega) w (insJ_mem (by rw [srtN_len]; omega) w hw)
theorem insJ_stop {lt : Int → Int → Bool} {zs : List Int} {j : Nat} (h : lt (zs.getD (j + 1) 0) (zs.getD j 0) = false) : insJ lt (j + 1) zs = zs := by rw [insJ, h]; rfl
theorem insJ_go {lt : Int → Int → Bool} {zs : List Int} {j : Nat} (h : lt (zs.getD (j + 1) 0) (zs.getD j 0) = true) : insJ lt (j + 1) zs = insJ lt j (swp zs (j + 1)) := by rw [insJ, h]; rfl
/-- An operation that yields this value whenever it runs. -/
def Early (P : Program) (env : Env) (h : AHeap) (o : Oper) (v : Value) : Prop :=
  ∀ m w a, Rel m h w → OpsRel m h env a o → ∃ r, (∀ w', (execOp a.eval o).run P w' = .ok (.value r) w') ∧ VRel m h v r
section
variable {P : Program} {env : Env} {h : AHeap} {dst : Option Tmp} {ty : TypeId} {pos : String} {after : Array Edge} {guard : Option (Nat × Bool)}
theorem early_move {x : Operand} {v : Value} (hx : aeval env x = v) : Early P env h ⟨dst, .move x, ty, pos, after, guard⟩ v := fun m w a hr ho => by
  have h1 := ho x (by simp [Op.operands])
  rw [hx] at h1
  exact ⟨_, fun w' => rfl, h1⟩
theorem early_bin {op : BinOp} {t yt : TypeId} {x y : Operand} {k : IntKind} {p q : Int} {v : Value} (hx : aeval env x = .int k p) (hy : aeval env y = .int k q)
    (hv : binInt op k p q = some v) : Early P env h ⟨dst, .binOp op t x y yt, ty, pos, after, guard⟩ v := fun m w a hr ho => by
  have h1 := ho x (by simp [Op.operands])
  have h2 := ho y (by simp [Op.operands])
  rw [hx] at h1; rw [hy] at h2
  refine ⟨v, fun w' => ?_, .of_binInt hv⟩
  simp [execOp, h1.int, h2.int, eqGuard_at_int, run_binInt hv]
theorem early_arr {t e : TypeId} {n : Nat} {x y : Operand} {k off ver : Nat} {o : AObj} {i : TypeInfo} {kd : IntKind} {z : Int} (hu : P.underlying t = some (.array n e))
    (hi : P.info? e = some i)
    (hx : aeval env x = .pointer (some ⟨k, off, some ver⟩)) (ho : h[k]? = some o) (hver : o.cells.length = ver)
    (hy : aeval env y = .int kd z) (h0 : 0 ≤ z) (hlt : z < n) : Early P env h ⟨dst, .indexAddr t x y, ty, pos, after, guard⟩ (.pointer (some ⟨k, off + z.toNat * i.size, some ver⟩)) := fun m w a hr hop => by
  have hp := hop x (by simp [Op.operands])
  have hq := hop y (by simp [Op.operands])
  rw [hx] at hp; rw [hy] at hq
  obtain ⟨l, hl, he⟩ := hp.pointer_inv ho hver
  refine ⟨.pointer (some ⟨l.block, l.base + (off + z.toNat * i.size), none⟩), fun w' => ?_, ?_⟩
  · simp only [execOp, he, hq.int, Instr.indexAt, asIntOf, Sem.run_bind, Sem.run_pure, run_underlying hu, Result.andThen_ok]
    simp [Instr.sureAddr, h0, hlt, sizeOf, typeInfo, hi, Addr.add_lit, Nat.add_assoc]
  · exact .ptr ho (by omega) ⟨_, rfl⟩ fun _ => ⟨l, hl, rfl⟩
theorem early_sub {t yt : TypeId} {x y : Operand} {p q : Int} (hx : aeval env x = i64 p) (hy : aeval env y = i64 q) (h1 : -9223372036854775808 ≤ p - q) (h2 : p - q ≤ 9223372036854775807) : Early P env h ⟨dst, .binOp .sub t x y yt, ty, pos, after, guard⟩ (i64 (p - q)) :=
  early_bin hx hy (by
    have := wrap_id h1 h2
    show some (i64 _) = _
    rw [this])
/-! ## Arrays -/
theorem early_arrJ {t e : TypeId} {n : Nat} {x y : Operand} {k ver b : Nat} {o : AObj} {zv : Value} (j : Nat) (hu : P.underlying t = some (.array n e))
    (hi : InfoIs P e zv 1 b) (hx : aeval env x = .pointer (some ⟨k, 0, some ver⟩)) (ho : h[k]? = some o) (hver : o.cells.length = ver)
    (hy : aeval env y = i64 (j : Int)) (hlt : decide (j < n) = true) : Early P env h ⟨dst, .indexAddr t x y, ty, pos, after, guard⟩ (.pointer (some ⟨k, j, some ver⟩)) := by
  obtain ⟨i, h1, _, h3, _⟩ := hi.get
  have := early_arr (dst := dst) (ty := ty) (pos := pos) (after := after) (guard := guard) hu h1 hx ho hver hy (by omega) (by have := of_decide_eq_true hlt; omega)
  rwa [h3, Int.toNat_natCast, Nat.zero_add, Nat.mul_one] at this
variable {K : Value → AHeap → Prop}
theorem o_indexArr {t e : TypeId} {n : Nat} {x y : Operand} {k ver b : Nat} {o : AObj} {zv : Value} (j : Nat) (hu : P.underlying t = some (.array n e))
    (hi : InfoIs P e zv 1 b) (hx : aeval env x = .pointer (some ⟨k, 0, some ver⟩)) (ho : h[k]? = some o) (hver : o.cells.length = ver)
    (hy : aeval env y = i64 (j : Int)) (hlt : decide (j < n) = true) (hK : K (.pointer (some ⟨k, j, some ver⟩)) h) : AOp P ⟨dst, .indexAddr t x y, ty, pos, after, guard⟩ K env h := by
  obtain ⟨i, h1, _, h3, _⟩ := hi.get
  refine aop_indexAddrArr hu h1 hx ho hver hy (by omega) (by have := of_decide_eq_true hlt; omega) ?_
  rwa [h3, Int.toNat_natCast, Nat.zero_add, Nat.mul_one]
/-- An array's literal. -/
theorem aop_buildArr {t e : TypeId} {n : Nat} {parts : Array (Nat × Operand)} {i i2 : TypeInfo} {z : Value} {out : Array Value} (hu : P.underlying t = some (.array n e)) (hi : P.info? t = some i) (hz : i.zero = some z)
    (hcz : isConst z = true) (hi2 : P.info? e = some i2)
    (hf : Instr.fill (fun k => some (k * i2.size, i2.size)) z.cells (parts.toList.map fun p => (p.1, aeval env p.2)) = some out) (hK : K (.agg out) h) :
    AOp P ⟨dst, .build t parts, ty, pos, after, guard⟩ K env h :=
  .of_pure _ (fun m w a hr hop => by
    have hv := (VRel.const m h hcz).cells
    have p0 : PW m h z.cells z.cells := ⟨rfl, fun j v r e1 e2 => by
      rw [e1] at e2; cases e2
      obtain ⟨q, rfl⟩ := Array.getElem?_eq_some_iff.1 e1
      exact hv.2 j q q⟩
    obtain ⟨out', hf', p'⟩ := fill_pw _ (parts.toList.map fun p => (p.1, a.eval p.2)) _ _ _ (by simp) (parts_pw hop (fun x hx => by
      simp only [Op.operands, List.mem_map]
      exact ⟨x, hx, rfl⟩)) p0 hf
    refine ⟨.agg out', ?_, .agg p'.1 fun j h1 h2 => p'.2 j _ _ (Array.getElem?_eq_getElem h1) (Array.getElem?_eq_getElem h2)⟩
    simp only [execOp, Instr.build, Sem.run_bind, zeroValue, typeInfo, run_program, Result.andThen_ok, hi, Sem.run_pure, hz, run_underlying hu, sizeOf, hi2]
    rw [show (parts.map fun x => (x.1, a.eval x.2)).toList = parts.toList.map fun p => (p.1, a.eval p.2) by simp, hf']
    rfl) hK
theorem o_buildA2 {t e : TypeId} {z y0 y1 w0 w1 : Value} {b s b2 : Nat} {x y : Operand} (hu : P.underlying t = some (.array 2 e)) (h0 : InfoIs P e z 1 b)
    (hi : InfoIs P t (.agg #[y0, y1]) s b2) (hc : isConst (.agg #[y0, y1]) = true) (hx : aeval env x = w0) (hy : aeval env y = w1) (hw0 : w0.cells = #[w0]) (hw1 : w1.cells = #[w1]) (hK : K (.agg #[w0, w1]) h) : AOp P ⟨dst, .build t #[(0, x), (1, y)], ty, pos, after, guard⟩ K env h := by
  obtain ⟨i, g1, g2, g3, g4⟩ := hi.get
  obtain ⟨i2, q1, q2, q3, q4⟩ := h0.get
  refine aop_buildArr hu g1 g2 hc q1 (out := #[w0, w1]) ?_ hK
  simp [Instr.fill, hx, hy, hw0, hw1, q3, show (Value.agg #[y0, y1]).cells = #[y0, y1] from rfl]
end
theorem awpA_hoist {P : Program} {n : Nat} {l : List Oper} {Q : Exit → Env → AHeap → Prop} {env : Env} {h : AHeap} {o : Oper} {v : Value} {df : Tmp} (f : Nat) (s : List Nat)
    (hf : l[f]? = some o) (hdf : o.dst = some df) (hgo : o.guard = none) (hsel : Region.noSelect l.toArray = true) (hfr : Region.free .any l.toArray (Array.replicate l.toArray.size false) f = true) (hrd : (Region.ready .any l.toArray (Array.replicate l.toArray.size false)).contains f = true)
    (hok : permOk l s = true) (hsf : (s.length + 1 == l.length && !s.contains f && (List.range l.length).all fun i => i == f || s.contains i) = true) (hin : decide (df < n) = true) (hx : o.op.operands.toList.all okX = true)
    (hv : Early P env h o v) (hr : AWpA P n (permL l s s) Q (env.put (some df) v) h) : AWpA P n l Q env h := by
  intro m w a hrel he
  simp only [Bool.and_eq_true, beq_iff_eq] at hsf
  obtain ⟨⟨hs1, hs2⟩, hs3⟩ := hsf
  have hsz : l.toArray.size = s.length + 1 := by simp [hs1]
  have hpl : (permL l s s).length = s.length := by
    have hmem : ∀ i ∈ s, i < l.length := by
      rw [permOk, Bool.and_eq_true] at hok
      intro i hi
      obtain ⟨j, hj, e⟩ := List.getElem_of_mem hi
      have := List.all_eq_true.1 hok.1 j (List.mem_range.2 hj)
      simp only [Bool.and_eq_true, decide_eq_true_eq] at this
      have := this.1
      rwa [show s.getD j 0 = s[j] by simp [List.getD, hj], e] at this
    refine Nat.le_antisymm (List.length_filterMap_le _ _) (Nat.le_of_not_lt fun hlt => ?_)
    have h5 := permL_get (l := l) (s := s) hmem (permL l s s).length
    have h6 : (permL l s s).length < s.length := hlt
    rw [List.getElem?_eq_none (Nat.le_refl _), List.getElem?_eq_getElem h6] at h5
    have h7 := hmem _ (List.getElem_mem h6)
    simp [List.getElem?_eq_getElem h7] at h5
  have hfl : f < l.length := by
    have := (List.getElem?_eq_some_iff.1 hf).1; exact this
  obtain ⟨r, hrun, hvr⟩ := hv m w a hrel (he.ops hx)
  have henv : EnvRel m h n (env.put (some df) v) (a.put (some df) r) := he.put (fun d hd => by cases hd; exact of_decide_eq_true hin) hvr
  have H := hr m w _ hrel henv
  rw [hsz]
  have hf' : l.toArray[f]? = some o := by rw [List.getElem?_toArray]; exact hf
  rw [hsz] at hfr hrd
  refine wpAny_take (v := r) hf' hsel hfr hrd (fun c a w hq => absurd hq.1 (by simp)) (.inl ⟨by unfold Region.wanted; rw [hgo], hrun⟩) ?_
  rw [hdf]
  have hsz2 : (permL l s s).toArray.size = s.length := by simp [hpl]
  rw [hsz2] at H
  refine wpAny_perm hok _ _ _ _ _ (by rw [Array.size_setIfInBounds, Array.size_replicate]; omega) (by rw [Array.size_replicate]) (fun j hj => ?_) (fun i hi hx => ?_) H
  · have hne : f ≠ s.getD j 0 := fun e => by
      have : f ∈ s := by rw [e, show s.getD j 0 = s[j] by simp [List.getD, hj]]; exact List.getElem_mem hj
      simp [this] at hs2
    rw [getD_set_ne false hne, getD_replicate_false, getD_replicate_false]
  · have := List.all_eq_true.1 hs3 i (List.mem_range.2 hi)
    rw [Bool.or_eq_true] at this
    rcases this with h9 | h9
    · have e : i = f := by simpa using h9
      subst e
      have : i < (Array.replicate (s.length + 1) false).size := by rw [Array.size_replicate]; omega
      simp [Array.getD_eq_getD_getElem?, this]
      omega
    · exact absurd (by simpa using h9) hx
theorem awp_ofA {P : Program} {n id : Nat} {l : List Oper} {Q : Exit → Env → AHeap → Prop} {env : Env} {h : AHeap} (hmix : P.follows .mixedOrders = true) (hr : AWpA P n l Q env h) : AWp P n (.region id l.toArray true) Q env h := by
  intro m w a hrel he
  exact wp_mono (wp_region_any hmix (hr m w a hrel he)) fun e a' w' (q : e = .normal ∧ ∃ m' env' h', Rel m' h' w' ∧ Step m h w m' h' w' ∧ EnvRel m' h' n env' a' ∧ Q e env' h') => q.2
end Go.Am

namespace Go.Am
set_option linter.unusedSimpArgs false
set_option linter.unusedVariables false
theorem VRen.tup5 {s : Nat → Nat} {a b c d e a' b' c' d' e' : Value} (h1 : VRen s a a') (h2 : VRen s b b') (h3 : VRen s c c') (h4 : VRen s d d') (h5 : VRen s e e') : VRen s (.tuple #[a, b, c, d, e]) (.tuple #[a', b', c', d', e']) :=
  .tuple rfl fun i q1 q2 => by
    match i, q1 with
    | 0, _ => exact h1
    | 1, _ => exact h2
    | 2, _ => exact h3
    | 3, _ => exact h4
    | 4, _ => exact h5
theorem Within.tup5 {n : Nat} {a b c d e : Value} (h1 : Within n a) (h2 : Within n b) (h3 : Within n c) (h4 : Within n d) (h5 : Within n e) : Within n (.tuple #[a, b, c, d, e]) :=
  .tuple fun i q1 => by
    match i, q1 with
    | 0, _ => exact h1
    | 1, _ => exact h2
    | 2, _ => exact h3
    | 3, _ => exact h4
    | 4, _ => exact h5
theorem ints_cell1 {h : AHeap} {v : Value} {xs : List Int} (hv : Ints h v xs) : v.cells = #[v] := by
  rcases hv with ⟨rfl, _⟩ | ⟨k, off, ver, cap, o, rfl, _⟩ <;> rfl
theorem oneV2 {v w : Value} (h1 : oneCellA v = true) (h2 : oneCellA w = true) : (Value.agg #[v, w]).cells.toList.all oneCellA = true := by
  show [v, w].all oneCellA = true
  simp [h1, h2]
theorem within_fn2 {n k1 k2 : Nat} {f : Fn} (h1 : k1 < n) (h2 : k2 < n) : Within n (.func f #[] #[.pointer (some ⟨k1, 0, some 1⟩), .pointer (some ⟨k2, 0, some 1⟩)]) :=
  .func (fun i hi => by simp at hi) fun i q1 => by
    match i, q1 with
    | 0, _ => exact .ptr h1
    | 1, _ => exact .ptr h2
abbrev VS (n : Nat) (r : SplO) (k : Nat) : Value := .tuple #[sl k n, i64 r.at', i64 r.p, i64 r.q, .bool true]
abbrev NS : Value := .tuple #[.slice none 0 0, i64 0, i64 0, i64 0, .bool false]
theorem retS_of {P : Program} {f : FuncId} {args : List Value} {h : AHeap} {ok : Bool} {n : Nat} {r : SplO} {l : List Int} (t : Tri P f args h (OptQ ok (VS n r) (lst l) NS h)) : RetO P f args h ok (VS n r) (lst l) NS :=
  reto_of (fun _ _ => .tup5 .slice (.prim rfl) (.prim rfl) (.prim rfl) (.prim rfl)) (.tup5 (.slice (by omega)) (.prim rfl) (.prim rfl) (.prim rfl) (.prim rfl)) lst_prim (.tup5 (.prim rfl) (.prim rfl) (.prim rfl) (.prim rfl) (.prim rfl)) t
theorem Ret.cast {P : Program} {f : FuncId} {vs : List Value} {h h' : AHeap} {v v' : Value} (e : v = v') (r : Ret P f vs h v h') : Ret P f vs h v' h' := e ▸ r
def okS (xs ys : List Int) : Bool := decide (1 ≤ xs.length ∧ xs.length ≤ 8) && xs.all (fun n => decide (0 ≤ n ∧ n ≤ 1000)) && decide (ys.length = xs.length) && ys.all (fun n => decide (0 ≤ n ∧ n ≤ 1000)) && decide (sumW xs = sumW ys) && decide (sumW xs ≠ 0)
theorem okS_get {xs ys : List Int} (h : okS xs ys = true) : (1 ≤ xs.length ∧ xs.length ≤ 8) ∧ xs.all (fun n => decide (0 ≤ n ∧ n ≤ 1000)) = true ∧ ys.length = xs.length ∧ ys.all (fun n => decide (0 ≤ n ∧ n ≤ 1000)) = true ∧ sumW xs = sumW ys ∧ sumW xs ≠ 0 := by
  simp only [okS, Bool.and_eq_true, decide_eq_true_eq] at h
  exact ⟨h.1.1.1.1.1, h.1.1.1.1.2, h.1.1.1.2, h.1.1.2, h.1.2, h.2⟩
theorem okS_put {xs ys : List Int} (h1 : 1 ≤ xs.length ∧ xs.length ≤ 8) (h2 : xs.all (fun n => decide (0 ≤ n ∧ n ≤ 1000)) = true) (h3 : ys.length = xs.length) (h4 : ys.all (fun n => decide (0 ≤ n ∧ n ≤ 1000)) = true) (h5 : sumW xs = sumW ys) (h6 : sumW xs ≠ 0) : okS xs ys = true := by
  unfold okS
  rw [decide_eq_true h1, h2, decide_eq_true h3, h4, decide_eq_true h5, decide_eq_true h6]; rfl
theorem okS_no {xs ys : List Int} (h : okS xs ys = true → False) : okS xs ys = false := by
  cases e : okS xs ys with
  | false => rfl
  | true => exact (h e).elim
theorem okS_b {xs : List Int} (h : xs.all (fun n => decide (0 ≤ n ∧ n ≤ 1000)) = true) : ∀ j, j < xs.length → 0 ≤ xs.getD j 0 ∧ xs.getD j 0 ≤ 1000 := fun j hj => by
  have := List.all_eq_true.1 h xs[j] (List.getElem_mem hj)
  have e : xs.getD j 0 = xs[j] := by simp [List.getD, hj]
  rw [e]; simpa using this
theorem nn_of {xs ys : List Int} {n : Nat} (h1 : ∀ j, j < n → 0 ≤ xs.getD j 0 ∧ xs.getD j 0 ≤ 1000) (h2 : ∀ j, j < n → 0 ≤ ys.getD j 0 ∧ ys.getD j 0 ≤ 1000) : ∀ j : Nat, j < n → NN2 xs ys (j : Int) := fun j hj =>
  ⟨by rw [Int.toNat_natCast]; exact (h1 j hj).1, by rw [Int.toNat_natCast]; exact (h2 j hj).1⟩
/-- What parting answers. -/
def resSp (xs ys : List Int) : SplO :=
  if hasN xs ys xs 0 xs.length < hasN xs ys ys 1 xs.length then spI ys xs 1 (spT xs ys 1 ys xs) (ownP2 xs ys xs.length) (hasN xs ys ys 1 xs.length) (hasN xs ys xs 0 xs.length)
  else spI xs ys 0 (spT xs ys 0 xs ys) (ownP2 xs ys xs.length) (hasN xs ys xs 0 xs.length) (hasN xs ys ys 1 xs.length)
theorem resSp_one {xs ys : List Int} (hl : xs.length ≤ 8) (hbx : ∀ j, j < xs.length → 0 ≤ xs.getD j 0 ∧ xs.getD j 0 ≤ 1000) (hby : ∀ j, j < xs.length → 0 ≤ ys.getD j 0 ∧ ys.getD j 0 ≤ 1000) (c : hasN xs ys xs 0 xs.length < hasN xs ys ys 1 xs.length) :
    SpInv ys xs 1 xs.length (spT xs ys 1 ys xs) (resSp xs ys) 0 (ownP2 xs ys xs.length) (hasN xs ys ys 1 xs.length) (hasN xs ys xs 0 xs.length) := by
  have h := hasN_bound (xs := xs) (ys := ys) (w := 0) hbx xs.length (Nat.le_refl _)
  rw [resSp, if_pos c]
  exact .start hl (nn_of hby hbx) (.inr rfl) (by omega)
theorem resSp_zero {xs ys : List Int} (hl : xs.length ≤ 8) (hbx : ∀ j, j < xs.length → 0 ≤ xs.getD j 0 ∧ xs.getD j 0 ≤ 1000) (hby : ∀ j, j < xs.length → 0 ≤ ys.getD j 0 ∧ ys.getD j 0 ≤ 1000) (c : ¬ hasN xs ys xs 0 xs.length < hasN xs ys ys 1 xs.length) :
    SpInv xs ys 0 xs.length (spT xs ys 0 xs ys) (resSp xs ys) 0 (ownP2 xs ys xs.length) (hasN xs ys xs 0 xs.length) (hasN xs ys ys 1 xs.length) := by
  have h := hasN_bound (xs := xs) (ys := ys) (w := 1) hby xs.length (Nat.le_refl _)
  rw [resSp, if_neg c]
  exact .start hl (nn_of hbx hby) (.inl rfl) (by omega)
theorem spI_len {own other : List Int} {g : Int} : ∀ {T os : List Int} {a b : Int}, (spI own other g T os a b).os.length = os.length
  | [], _, _, _ => rfl
  | k :: r, os, a, b => by
    rw [spI]
    split
    · rfl
    · split
      · rfl
      · rw [spI_len, List.length_set]
theorem resSp_len {xs ys : List Int} : (resSp xs ys).os.length = xs.length := by
  unfold resSp
  split
  · rw [spI_len, ownP2_len]
  · rw [spI_len, ownP2_len]
theorem SpInv.more {own other : List Int} {g : Int} {n : Nat} {T : List Int} {R : SplO} {t : Nat} {os : List Int} {a b : Int} (i : SpInv own other g n T R t os a b) (h : b < a) : t < T.length := by
  refine Nat.lt_of_not_le fun h2 => ?_
  have hs := i.sum
  rw [List.drop_eq_nil_of_le h2] at hs
  have := i.ord
  simp [sumO] at hs
  omega
theorem SpInv.thing {own other : List Int} {g : Int} {n : Nat} {T : List Int} {R : SplO} {t : Nat} {os : List Int} {a b : Int} (i : SpInv own other g n T R t os a b) (h : t < T.length) : ∃ k : Nat, k < n ∧ T.getD t 0 = (k : Int) := by
  have he : T.getD t 0 = T[t] := by simp [List.getD, h]
  obtain ⟨h0, h1⟩ := i.has T[t] (List.getElem_mem h)
  exact ⟨T[t].toNat, h1, by rw [he]; omega⟩
theorem ownP2_one {xs ys : List Int} {s : Nat} (h : xs.getD s 0 < ys.getD s 0) : ownP2 xs ys (s + 1) = ownP2 xs ys s ++ [1] := by rw [ownP2, if_pos h]
theorem ownP2_zero {xs ys : List Int} {s : Nat} (h : ¬ xs.getD s 0 < ys.getD s 0) : ownP2 xs ys (s + 1) = ownP2 xs ys s ++ [0] := by rw [ownP2, if_neg h]
theorem hasN_oneN {xs ys own : List Int} {s : Nat} (h : xs.getD s 0 < ys.getD s 0) : hasN xs ys own 0 (s + 1) = hasN xs ys own 0 s := by rw [hasN, if_pos h, if_neg (by decide)]; omega
theorem hasN_oneY {xs ys own : List Int} {s : Nat} (h : xs.getD s 0 < ys.getD s 0) : hasN xs ys own 1 (s + 1) = hasN xs ys own 1 s + own.getD s 0 := by rw [hasN, if_pos h, if_pos rfl]
theorem hasN_zeroN {xs ys own : List Int} {s : Nat} (h : ¬ xs.getD s 0 < ys.getD s 0) : hasN xs ys own 1 (s + 1) = hasN xs ys own 1 s := by rw [hasN, if_neg h, if_neg (by decide)]; omega
theorem hasN_zeroY {xs ys own : List Int} {s : Nat} (h : ¬ xs.getD s 0 < ys.getD s 0) : hasN xs ys own 0 (s + 1) = hasN xs ys own 0 s + own.getD s 0 := by rw [hasN, if_neg h, if_pos rfl]
end Go.Am

namespace Go.Am
set_option linter.unusedSimpArgs false
set_option linter.unusedVariables false
end Go.Am
