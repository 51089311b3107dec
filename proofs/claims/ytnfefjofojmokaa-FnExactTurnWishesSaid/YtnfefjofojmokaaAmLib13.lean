/-
  The abstract heap: plain laws of the best way to give things. General: no program is named.
-/
import Derived.Test.YtnfefjofojmokaaAmLib12
namespace Go.Am
set_option linter.unusedSimpArgs false
set_option linter.unusedVariables false
section
variable {P : Program} {K : Value → AHeap → Prop} {env : Env} {h : AHeap} {dst : Option Tmp} {ty : TypeId} {pos : String} {after : Array Edge} {guard : Option (Nat × Bool)}
theorem o_nilSlice {t e yt : TypeId} {x y : Operand} (hu : P.underlying t = some (.slice e)) (hx : aeval env x = .slice none 0 0) (hy : aeval env y = .slice none 0 0)
    (hK : K (.bool true) h) : AOp P ⟨dst, .binOp .eql t x y yt, ty, pos, after, guard⟩ K env h :=
  .of_pure (.bool true) (fun m w a _ ho => by
    have h1 := ho x (by simp [Op.operands])
    have h2 := ho y (by simp [Op.operands])
    rw [hx] at h1; rw [hy] at h2
    have e1 := h1.nil_inv
    have e2 := h2.nil_inv
    refine ⟨.bool true, ?_, .prim rfl⟩
    have hr : ∀ d : Nat, (Op.equalIn (d + 1) t (.slice none 0 0) (.slice none 0 0)).run P w = .ok true w := fun d => by
      simp [Op.equalIn, run_underlying hu]
    simp only [execOp, e1, e2, eqGuard_at_slice, Sem.run_bind, Sem.run_pure, Result.andThen_ok, binOp, Op.equal, Op.maxDepth, hr 9999]) hK
end
abbrev VM (n : Nat) (z : Int) (k : Nat) : Value := .tuple #[sl k n, i64 z, .bool true]
abbrev NM : Value := .tuple #[.slice none 0 0, i64 0, .bool false]
theorem within_nilm {n : Nat} : Within n NM := .tup3 (.prim rfl) (.prim rfl) (.prim rfl)
theorem retM_of {P : Program} {f : FuncId} {args : List Value} {h : AHeap} {ok : Bool} {n : Nat} {z : Int} {l : List Int} (t : Tri P f args h (OptQ ok (VM n z) (lst l) NM h)) : RetO P f args h ok (VM n z) (lst l) NM :=
  reto_of (fun _ _ => .tup3 .slice (.prim rfl) (.prim rfl)) (.tup3 (.slice (by omega)) (.prim rfl) (.prim rfl)) lst_prim within_nilm t

/-! ## The best so far -/
section
variable (p q : Int) (xs : List Int) (F : List Int → Int)
def ownsN (n : Nat) : List Int := ownsL p q xs (ownN p q.toNat n)
def valN (n : Nat) : Int := F (ownsL p q xs (ownN p q.toNat n))
def bI : Nat → Nat
  | 0 => 0
  | n + 1 => if valN p q xs F (bI n) < valN p q xs F n then n else bI n
def impB (n : Nat) : Bool := decide (n = 0) || decide (valN p q xs F (bI p q xs F n) < valN p q xs F n)
def EL (n : Nat) : List AObj := if impB p q xs F n then [lst (ownsN p q xs n), lst (ownN p q.toNat n)] else [lst (ownsN p q xs n)]
def GL : Nat → List AObj
  | 0 => []
  | n + 1 => GL n ++ EL p q xs F n
def posN : Nat → Nat
  | 0 => 0
  | n + 1 => if impB p q xs F n then (GL p q xs F n).length + 1 else posN n
def bestV (b n : Nat) : Value := if n = 0 then .slice none 0 0 else sl (b + 2 + posN p q xs F n) q.toNat
def mostC (n : Nat) : Int := if n = 0 then 0 else valN p q xs F (bI p q xs F n)
end
section
variable {p q : Int} {xs : List Int} {F : List Int → Int}
theorem bI_imp {n : Nat} (h : impB p q xs F n = true) : bI p q xs F (n + 1) = n := by
  rw [bI]
  split
  · rfl
  · rename_i c
    simp only [impB, Bool.or_eq_true, decide_eq_true_eq] at h
    rcases h with rfl | h
    · rfl
    · exact absurd h c
theorem bI_not {n : Nat} (h : impB p q xs F n = false) : bI p q xs F (n + 1) = bI p q xs F n := by
  rw [bI, if_neg]
  simp only [impB, Bool.or_eq_false_iff, decide_eq_false_iff_not] at h
  exact h.2
theorem imp_pos {n : Nat} (h : impB p q xs F n = false) : 0 < n := by
  simp only [impB, Bool.or_eq_false_iff, decide_eq_false_iff_not] at h; omega
theorem GL_pos : ∀ {n : Nat}, 0 < n → (GL p q xs F n)[posN p q xs F n]? = some (lst (ownN p q.toNat (bI p q xs F n)))
  | n + 1, _ => by
    by_cases c : impB p q xs F n = true
    · rw [GL, posN, if_pos c, bI_imp c, EL, if_pos c, List.getElem?_append_right (by omega), show (GL p q xs F n).length + 1 - (GL p q xs F n).length = 1 by omega]; rfl
    · have c' : impB p q xs F n = false := by simpa using c
      have := GL_pos (imp_pos c')
      rw [GL, posN, if_neg c, bI_not c', List.getElem?_append_left (List.getElem?_eq_some_iff.1 this).1, this]
theorem bestV_zero {b : Nat} : bestV p q xs F b 0 = .slice none 0 0 := rfl
theorem bestV_pos {b n : Nat} (h : 0 < n) : bestV p q xs F b n = sl (b + 2 + posN p q xs F n) q.toNat := by rw [bestV, if_neg (by omega)]
theorem bestV_imp {b n : Nat} (h : impB p q xs F n = true) : bestV p q xs F b (n + 1) = sl (b + 2 + ((GL p q xs F n).length + 1)) q.toNat := by rw [bestV_pos (by omega), posN, if_pos h]
theorem bestV_not {b n : Nat} (h : impB p q xs F n = false) : bestV p q xs F b (n + 1) = bestV p q xs F b n := by
  have h0 := imp_pos h
  rw [bestV_pos (by omega), bestV_pos h0, posN, if_neg (by rw [h]; simp)]
theorem mostC_pos {n : Nat} (h : 0 < n) : mostC p q xs F n = valN p q xs F (bI p q xs F n) := by rw [mostC, if_neg (by omega)]
theorem mostC_imp {n : Nat} (h : impB p q xs F n = true) : mostC p q xs F (n + 1) = valN p q xs F n := by rw [mostC_pos (by omega), bI_imp h]
theorem mostC_not {n : Nat} (h : impB p q xs F n = false) : mostC p q xs F (n + 1) = mostC p q xs F n := by
  rw [mostC_pos (by omega), mostC_pos (imp_pos h), bI_not h]
theorem imp_zero : impB p q xs F 0 = true := rfl
theorem imp_yes {n : Nat} (h0 : 0 < n) (h : mostC p q xs F n < valN p q xs F n) : impB p q xs F n = true := by
  rw [mostC_pos h0] at h; rw [impB, decide_eq_true h, Bool.or_true]
theorem imp_no {n : Nat} (h0 : 0 < n) (h : ¬ mostC p q xs F n < valN p q xs F n) : impB p q xs F n = false := by
  rw [mostC_pos h0] at h; rw [impB, decide_eq_false h, decide_eq_false (by omega)]; rfl
theorem GL_look {A : AHeap} {o1 o2 : AObj} {b n : Nat} (hb : b = A.length) (h : 0 < n) : (A ++ [o1] ++ [o2] ++ GL p q xs F n)[b + 2 + posN p q xs F n]? = some (lst (ownN p q.toNat (bI p q xs F n))) := by
  subst hb
  rw [List.getElem?_append_right (by simp only [ll1, ll2, ll3]; omega)]
  simp only [ll1, ll2, ll3]
  rw [show A.length + 2 + posN p q xs F n - (A.length + (0 + 1) + (0 + 1)) = posN p q xs F n by omega]
  exact GL_pos h
end

/-! ## Parts have a bound -/
theorem partS_bnd {p q : Int} {xs os : List Int} (hV : validV p q xs = true) (i j : Int) : ∀ k : Nat, k ≤ 8 → 0 ≤ partS xs os q i j k ∧ partS xs os q i j k ≤ 1000 * k
  | 0, _ => by simp [partS]
  | k + 1, hk => by
    have ih := partS_bnd hV (os := os) i j k (by omega)
    have hx : 0 ≤ xs.getD (i * q + (k : Int)).toNat 0 ∧ xs.getD (i * q + (k : Int)).toNat 0 ≤ 1000 := by
      obtain ⟨_, _, _, h4⟩ := validV_get hV
      by_cases c : (i * q + (k : Int)).toNat < xs.length
      · rw [getD_at c]
        exact of_decide_eq_true (List.all_eq_true.1 h4 _ (List.getElem_mem c))
      · rw [List.getD_eq_getElem?_getD, List.getElem?_eq_none (by omega)]; simp
    rw [partS]
    split
    · rw [wrap_id (by omega) (by omega)]; omega
    · omega
theorem partF_bnd {p q : Int} {xs os : List Int} (hV : validV p q xs = true) (hl : os.length ≤ 8) (i j : Int) : 0 ≤ partF xs os q i j ∧ partF xs os q i j ≤ 8000 := by
  have := partS_bnd hV (os := os) i j os.length hl
  rw [partF]; omega
theorem owns_bnd {p q : Int} {xs os : List Int} (hV : validV p q xs = true) (hl : os.length ≤ 8) (k : Nat) : 0 ≤ (ownsL p q xs os).getD k 0 ∧ (ownsL p q xs os).getD k 0 ≤ 8000 := by
  by_cases c : k < p.toNat
  · rw [ownsL, map_get c]; exact partF_bnd hV hl _ _
  · rw [List.getD_eq_getElem?_getD, List.getElem?_eq_none (by rw [ownsL_len]; omega)]; simp
theorem sumP_bnd {l : List Int} (hl : ∀ k, 0 ≤ l.getD k 0 ∧ l.getD k 0 ≤ 8000) : ∀ k : Nat, k ≤ l.length → k ≤ 100 → 0 ≤ sumW (l.take k) ∧ sumW (l.take k) ≤ 8000 * k
  | 0, _, _ => by simp [sumW]
  | k + 1, h1, h2 => by
    have ih := sumP_bnd hl k (by omega) (by omega)
    have := hl k
    rw [← sumW_step (by omega), wrap_id (by omega) (by omega)]
    omega
theorem minTo_bnd {l : List Int} (hl : ∀ k, 0 ≤ l.getD k 0 ∧ l.getD k 0 ≤ 8000) : ∀ k : Nat, 0 ≤ minTo l k
  | 0 => (hl 0).1
  | k + 1 => by
    have := minTo_bnd hl k
    have := (hl k).1
    rw [minTo]; omega

theorem within_func0 {n : Nat} {f : Fn} : Within n (.func f #[] #[]) := .func (fun i h => by simp at h) fun i h => by simp at h
theorem lk_swap {h : AHeap} {a b o : AObj} {g : AHeap} {k : Nat} (e : (h ++ [a] ++ g)[k]? = some o) (hk : h.length < k) : (h ++ [b] ++ g)[k]? = some o := by
  rw [List.getElem?_append_right (by simp; omega)] at e ⊢
  simpa using e

/-! ## The heap while the best is sought -/
section
variable (h : AHeap) (BX FB : AObj) (p q : Int) (xs : List Int) (F : List Int → Int)
abbrev HsA (n : Nat) : AHeap := h ++ [BX] ++ [FB] ++ [⟨[bestV p q xs F (h.length + 4) n], true, 1⟩] ++ [⟨[i64 (mostC p q xs F n)], true, 1⟩]
abbrev HsB (n : Nat) : AHeap := HsA h BX FB p q xs F n ++ [BX] ++ [lst (ownN p q.toNat n)]
end
section
variable {h : AHeap} {BX FB : AObj} {p q : Int} {xs : List Int} {F : List Int → Int}
theorem hs_imp {kb km n : Nat} (hkb : kb = h.length + 2) (hkm : km = h.length + 3) (c : impB p q xs F n = true) :
    ((HsB h BX FB p q xs F n ++ GL p q xs F n).set kb ⟨[sl ((HsB h BX FB p q xs F n ++ GL p q xs F n).length + 1) (ownN p q.toNat n).length], true, 1⟩).set km ⟨[i64 (valN p q xs F n)], true, 1⟩ ++ [lst (ownsN p q xs n)] ++ [lst (ownN p q.toNat n)] =
    HsA h BX FB p q xs F (n + 1) ++ [BX] ++ [lst (ownN p q.toNat n)] ++ GL p q xs F (n + 1) := by
  have e1 : (HsB h BX FB p q xs F n ++ GL p q xs F n).length + 1 = h.length + 4 + 2 + ((GL p q xs F n).length + 1) := by simp; omega
  rw [e1, ownN_len, ← bestV_imp (b := h.length + 4) c, ← mostC_imp c, GL, EL, if_pos c]
  subst hkb hkm
  simp [HsB, HsA, List.set_append]
theorem hs_not {n : Nat} (c : impB p q xs F n = false) :
    HsB h BX FB p q xs F n ++ GL p q xs F n ++ [lst (ownsN p q xs n)] = HsA h BX FB p q xs F (n + 1) ++ [BX] ++ [lst (ownN p q.toNat n)] ++ GL p q xs F (n + 1) := by
  rw [GL, EL, if_neg (by rw [c]; simp)]
  simp only [HsB, HsA]
  rw [bestV_not c, mostC_not c]
  simp only [List.append_assoc]

theorem hs_l1 {n k : Nat} (hk : k = h.length + 4 + 1) : (HsB h BX FB p q xs F n ++ GL p q xs F n)[k]? = some (lst (ownN p q.toNat n)) := lk_prev (lk_last (by (try simp only [ll1, ll2, ll3]); omega))
theorem hs_l2 {n k : Nat} (hk : k = h.length + 1) : (HsB h BX FB p q xs F n ++ GL p q xs F n)[k]? = some FB := lk_prev (lk_prev (lk_prev (lk_prev (lk_prev (lk_last (by (try simp only [ll1, ll2, ll3]); omega))))))
theorem hs_l3 {n k : Nat} (hk : k = h.length) : (HsB h BX FB p q xs F n ++ GL p q xs F n)[k]? = some BX := lk_prev (lk_prev (lk_prev (lk_prev (lk_prev (lk_prev (lk_last (by (try simp only [ll1, ll2, ll3]); omega)))))))
theorem hs_l4 {n k : Nat} (hk : k = h.length + 2) : (HsB h BX FB p q xs F n ++ GL p q xs F n)[k]? = some ⟨[bestV p q xs F (h.length + 4) n], true, 1⟩ := lk_prev (lk_prev (lk_prev (lk_prev (lk_last (by (try simp only [ll1, ll2, ll3]); omega)))))
theorem hs_l5 {n k : Nat} (hk : k = h.length + 3) : (HsB h BX FB p q xs F n ++ GL p q xs F n)[k]? = some ⟨[i64 (mostC p q xs F n)], true, 1⟩ := lk_prev (lk_prev (lk_prev (lk_last (by (try simp only [ll1, ll2, ll3]); omega))))
/-! ## The best by the reference -/
def bmS (p q : Int) (xs : List Int) (F : List Int → Int) (n : Nat) : Int := if n = 0 then -1 else valN p q xs F (bI p q xs F n)
def bL (q : Int) (n : Nat) : Nat := if n = 0 then 0 else q.toNat
def bS (p q : Int) (xs : List Int) (F : List Int → Int) (n : Nat) : List Int := if n = 0 then [] else ownN p q.toNat (bI p q xs F n)
theorem bS_zero : bS p q xs F 0 = [] := rfl
theorem bS_len {n : Nat} : (bS p q xs F n).length = bL q n := by
  rw [bS, bL]; split
  · rfl
  · exact ownN_len _
theorem imS_yes {n : Nat} (h : bmS p q xs F n < valN p q xs F n) : impB p q xs F n = true := by
  by_cases h0 : n = 0
  · subst h0; rfl
  · rw [bmS, if_neg h0] at h
    rw [impB, decide_eq_true h, Bool.or_true]
theorem imS_no {n : Nat} (h : ¬ bmS p q xs F n < valN p q xs F n) (hp : 0 ≤ valN p q xs F n) : impB p q xs F n = false := by
  by_cases h0 : n = 0
  · subst h0; exfalso; apply h; show (-1 : Int) < _; omega
  · rw [bmS, if_neg h0] at h
    rw [impB, decide_eq_false h, decide_eq_false h0]; rfl
theorem bmS_imp {n : Nat} (h : impB p q xs F n = true) : bmS p q xs F (n + 1) = valN p q xs F n := by rw [bmS, if_neg (by omega), bI_imp h]
theorem bmS_not {n : Nat} (h : impB p q xs F n = false) : bmS p q xs F (n + 1) = bmS p q xs F n := by rw [bmS, if_neg (by omega), bI_not h, bmS, if_neg (by have := imp_pos h; omega)]
theorem bmS_pos {n : Nat} (h : 0 < n) : bmS p q xs F n = valN p q xs F (bI p q xs F n) := by rw [bmS, if_neg (by omega)]
theorem bL_succ {n : Nat} : bL q (n + 1) = q.toNat := rfl
theorem bL_pos {n : Nat} (h : 0 < n) : bL q n = q.toNat := by rw [bL, if_neg (by omega)]
theorem bL_not {n : Nat} (h : impB p q xs F n = false) : bL q n = bL q (n + 1) := by rw [bL_succ, bL_pos (imp_pos h)]
theorem bS_imp {n : Nat} (h : impB p q xs F n = true) : bS p q xs F (n + 1) = ownN p q.toNat n := by rw [bS, if_neg (by omega), bI_imp h]
theorem bS_not {n : Nat} (h : impB p q xs F n = false) : bS p q xs F (n + 1) = bS p q xs F n := by rw [bS, if_neg (by omega), bI_not h, bS, if_neg (by have := imp_pos h; omega)]
theorem bS_pos {n : Nat} (h : 0 < n) : bS p q xs F n = ownN p q.toNat (bI p q xs F n) := by rw [bS, if_neg (by omega)]
end
theorem valSum_pos {p q : Int} {xs : List Int} (hV : validV p q xs = true) (n : Nat) : 0 ≤ valN p q xs sumW n := by
  obtain ⟨hp, hq, _, _⟩ := validV_get hV
  have h1 : (ownN p q.toNat n).length = q.toNat := ownN_len n
  have h2 : (ownsL p q xs (ownN p q.toNat n)).length = p.toNat := ownsL_len
  have := sumP_bnd (l := ownsL p q xs (ownN p q.toNat n)) (fun k => owns_bnd hV (by omega) k) (ownsL p q xs (ownN p q.toNat n)).length (Nat.le_refl _) (by omega)
  rw [List.take_length] at this
  exact this.1
def minL (l : List Int) : Int := minTo l l.length
theorem valMin_pos {p q : Int} {xs : List Int} (hV : validV p q xs = true) (n : Nat) : 0 ≤ valN p q xs minL n := by
  obtain ⟨hp, hq, _, _⟩ := validV_get hV
  have h1 : (ownN p q.toNat n).length = q.toNat := ownN_len n
  exact minTo_bnd (fun k => owns_bnd hV (by omega) k) _
theorem fewP {p q : Int} {xs : List Int} (hV : validV p q xs = true) : 0 < allN8 p q := by
  obtain ⟨hp, hq, _, _⟩ := validV_get hV
  have := pow_six hp (show q.toNat ≤ 8 by omega)
  unfold allN8; omega
end Go.Am
