/-
  The abstract heap: marks in a cake; differences of a number with itself. General: no program is named.
-/
import Derived.Test.YtejlkmepnamodaaAmFlt4
namespace Go.Am
set_option linter.unusedSimpArgs false
set_option linter.unusedVariables false
open Ieee

/-! ## A number less itself -/
def finB (x : Nat) : Bool := match single.read x with | .number .. => true | _ => false
theorem Step.drew1 {m : Map} {h : AHeap} {w : World} : Step m h w m h { w with drawn := w.drawn + 1 } := by
  have s : Step m h w m h w := Step.refl
  exact ⟨s.ext, s.size, s.os, s.tape, s.output, s.frame, s.own⟩
theorem sub_self_fin {x : Nat} (h : finB x = true) : single.sub x x = some 0 := by
  unfold finB at h
  cases e : single.read x with
  | nan s n => rw [e] at h; cases h
  | infinity s => rw [e] at h; cases h
  | number s m i =>
    rw [Format.sub, e]
    show (Datum.sum (.number s m i) (.number (!s) m i)).map single.write = some 0
    have : Datum.sum (.number s m i) (.number (!s) m i) = some (.number false 0 (min i i)) := by
      have hz : signed s m (i - min i i).toNat + signed (!s) m (i - min i i).toNat = 0 := by
        cases s
        · show signed false m _ + signed true m _ = 0
          rw [signed_true, signed_false]; omega
        · show signed true m _ + signed false m _ = 0
          rw [signed_true, signed_false]; omega
      show some (Datum.number (if signed s m (i - min i i).toNat + signed (!s) m (i - min i i).toNat = 0 then s && !s else _) (signed s m (i - min i i).toNat + signed (!s) m (i - min i i).toNat).natAbs (min i i)) = _
      rw [hz, if_pos rfl]
      cases s <;> rfl
    rw [this]; rfl
theorem sub_self_inf {x : Nat} (h : finB x = false) : single.sub x x = none := by
  unfold finB at h
  cases e : single.read x with
  | nan s n => rw [Format.sub, e]; rfl
  | infinity s => rw [Format.sub, e]; cases s <;> rfl
  | number s m i => rw [e] at h; cases h
theorem isNaN_nan {s : Bool} {n : Nat} : (Datum.nan s n).isNaN = true := rfl
theorem nan_word (b c : Nat) (hb : b < 2) (hc : c < 8388607) : (single.read (b * 2147483648 + 2139095040 + 1 + c)).isNaN = true := by
  have e : (b * 2147483648 + 2139095040 + 1 + c) % 2147483648 = 2139095041 + c := by omega
  rw [s_read, e, if_neg (by omega), if_neg (by omega), if_neg (by omega)]
  exact isNaN_nan
theorem nan_chosen (p q t : Nat) : (single.read (Question.cut (.nanBits .f32 p q) t)).isNaN = true :=
  nan_word (t % 2) (t / 2 % 8388607) (Nat.mod_lt _ (by omega)) (Nat.mod_lt _ (by omega))
theorem ord_nan {x y : Nat} (h : (single.read x).isNaN = true) : ord x y = none := by
  cases e : ord x y with
  | none => rfl
  | some o =>
    have := (nn_of_ord e).1
    rw [NN, h] at this; cases this
section
variable {P : Program} {K : Value → AHeap → Prop} {env : Env} {h : AHeap} {dst : Option Tmp} {ty : TypeId} {pos : String} {after : Array Edge} {guard : Option (Nat × Bool)}
theorem o_fself {t yt : TypeId} {x y : Operand} {p : Nat} (hx : aeval env x = .float .f32 p) (hy : aeval env y = .float .f32 p)
    (hK : ∀ r, (FloatKind.f32.format.order r 0 == some .eq) = finB p → K (.float .f32 r) h) : AOp P ⟨dst, .binOp .sub t x y yt, ty, pos, after, guard⟩ K env h := by
  by_cases hf : finB p = true
  · refine o_fbin hx hy (r := 0) (fb_sub (sub_self_fin hf)) (hK 0 ?_)
    rw [hf]
    show (ord 0 0 == some .eq) = true
    rw [ord_def, read_zero]; rfl
  · rw [Bool.not_eq_true] at hf
    refine AOp.of_run fun m w a hr ho => ?_
    have h1 := ho x (by simp [Op.operands])
    have h2 := ho y (by simp [Op.operands])
    rw [hx] at h1; rw [hy] at h2
    have e1 := h1.float
    have e2 := h2.float
    refine ⟨.float .f32 (Question.cut (.nanBits .f32 p p) (w.tape w.drawn (.nanBits .f32 p p))), _, m, h, { w with drawn := w.drawn + 1 }, ?_, ⟨hr.1, hr.2, hr.3⟩, Step.drew1, .prim rfl, hK _ ?_⟩
    · have e3 : FloatKind.f32.format.sub p p = none := sub_self_inf hf
      simp [execOp, e1, e2, eqGuard_at_float, binOp, Op.floatArith, e3, choose, Sem.run, Question.forced]
    · rw [hf]
      show (ord _ 0 == some .eq) = false
      rw [ord_nan (nan_chosen p p _)]; rfl
end

/-! ## Marks -/
theorem fI_pos {n : Int} (h0 : 0 ≤ n) (h1 : n ≤ 1000) : gtB (fI n) 0 = decide (0 < n) := by
  obtain ⟨m, i, e, hm, _⟩ := fI_read h0 h1
  rw [gtB, ord_def, e, read_zero]
  show (some (compare (signed false m (i - min i (-149)).toNat) (signed false 0 (-149 - min i (-149)).toNat)) == some Ordering.gt) = _
  rw [signed_false, signed_false, Nat.zero_mul]
  by_cases c : 0 < n
  · have hpos : 0 < m * 2 ^ (i - min i (-149)).toNat := Nat.mul_pos (by omega) (Nat.two_pow_pos _)
    rw [decide_eq_true c, Int.compare_eq_gt.2 (show ((0 : Nat) : Int) < ((m * 2 ^ (i - min i (-149)).toNat : Nat) : Int) from Int.ofNat_lt.2 hpos)]; rfl
  · have : m = 0 := hm.2 (by omega)
    subst this
    rw [decide_eq_false c, Nat.zero_mul, Int.compare_eq_eq.2 rfl]; rfl
def mP (x : Nat) (ws : List Int) (k : Nat) : Nat := fMul (fI (ws.getD k 0)) (fSub (fI ((k : Int) + 1)) (cA x k))
def mLeft (x w : Nat) (ws : List Int) : Nat → Nat
  | 0 => w
  | k + 1 => if gtB (fI ((k : Int) + 1)) x then fSub (mLeft x w ws k) (mP x ws k) else mLeft x w ws k
def mHit (x w : Nat) (ws : List Int) (k : Nat) : Bool := gtB (fI ((k : Int) + 1)) x && (geB (mP x ws k) (mLeft x w ws k) && decide (0 < ws.getD k 0))
def mRes (x w : Nat) (ws : List Int) (k : Nat) : Nat := fAdd (cA x k) (fDiv (mLeft x w ws k) (fI (ws.getD k 0)))
def mHitI (x w : Nat) (ws : List Int) (z : Int) : Bool := mHit x w ws z.toNat
def mFir (x w : Nat) (ws : List Int) (n : Nat) : Int := idxTo (mHitI x w ws) (cntL n) n
def mAll (q : Int) (x w : Nat) (ws : List Int) : Nat := if 0 ≤ mFir x w ws q.toNat then mRes x w ws (mFir x w ws q.toNat).toNat else fI q
theorem mP_ok {x : Nat} {ws : List Int} {k : Nat} (hx : PlD x) (hw : okW ws) (hk : k < ws.length) :
    single.sub (fI ((k : Int) + 1)) (cA x k) = some (fSub (fI ((k : Int) + 1)) (cA x k)) ∧ single.mul (fI (ws.getD k 0)) (fSub (fI ((k : Int) + 1)) (cA x k)) = some (mP x ws k) ∧ Sm 24 (mP x ws k) := by
  have hb := hw.2 k hk
  have hl := hw.1
  have h1 := sub_small (fI_sm (n := (k : Int) + 1) (by omega) (by omega)) (cA_pl hx (k := k) (by omega)).sm (by decide) (by decide)
  have h2 := mul_small (fI_sm hb.1 hb.2) h1.2 (by decide) (by decide)
  exact ⟨h1.1, h2.1, h2.2⟩
theorem mLeft_nn {x w : Nat} {ws : List Int} (hx : PlD x) (hw : okW ws) (h0 : NN w) : ∀ k, k ≤ ws.length → NN (mLeft x w ws k)
  | 0, _ => h0
  | k + 1, hk => by
    have ih := mLeft_nn hx hw h0 k (by omega)
    rw [mLeft]
    split
    · exact (sub_nn ih (mP_ok hx hw (k := k) (by omega)).2.2).2
    · exact ih
theorem mLeft_on {x w : Nat} {ws : List Int} {k : Nat} (hx : PlD x) (hw : okW ws) (h0 : NN w) (hk : k < ws.length) (c : gtB (fI ((k : Int) + 1)) x = true) : single.sub (mLeft x w ws k) (mP x ws k) = some (mLeft x w ws (k + 1)) := by
  rw [mLeft, if_pos c]
  exact (sub_nn (mLeft_nn hx hw h0 k (by omega)) (mP_ok hx hw hk).2.2).1
theorem mLeft_skip {x w : Nat} {ws : List Int} {k : Nat} (c : gtB (fI ((k : Int) + 1)) x = false) : mLeft x w ws k = mLeft x w ws (k + 1) := by
  rw [mLeft, c]; rfl
theorem mRes_ok {x w : Nat} {ws : List Int} {k : Nat} (hx : PlD x) (hw : okW ws) (h0 : NN w) (hk : k < ws.length) (hn : 0 < ws.getD k 0) :
    single.div (mLeft x w ws k) (fI (ws.getD k 0)) = some (fDiv (mLeft x w ws k) (fI (ws.getD k 0))) ∧ single.add (cA x k) (fDiv (mLeft x w ws k) (fI (ws.getD k 0))) = some (mRes x w ws k) ∧ NN (mRes x w ws k) := by
  have hb := hw.2 k hk
  have hl := hw.1
  obtain ⟨m, i, e, hm, _⟩ := fI_read hb.1 hb.2
  have h1 := div_nn (mLeft_nn hx hw h0 k (by omega)) e (by omega)
  have h2 := add_nn (cA_pl hx (k := k) (by omega)).sm h1.2
  exact ⟨h1.1, h2.1, h2.2⟩
theorem add_read {a a' b : Nat} (h1 : single.read a = single.read a') : single.add a b = single.add a' b := by rw [Format.add, h1]; rfl
theorem fsub_use {e a a' z : Nat} (h : single.sub e a' = some z) (ha : a' = a) : floatBits .sub .f32 e a = some z := by subst ha; exact h
theorem fadd_use {b a a' z : Nat} (h : single.add a' b = some z) (ha : a' = a) : floatBits .add .f32 a b = some z := by subst ha; exact h
theorem hit_1 {x w : Nat} {ws : List Int} {k : Nat} (c : gtB (fI ((k : Int) + 1)) x = false) : mHit x w ws k = false := by rw [mHit, c]; rfl
theorem hit_2 {x w : Nat} {ws : List Int} {k : Nat} (c : geB (mP x ws k) (mLeft x w ws k) = false) : mHit x w ws k = false := by rw [mHit, c]; simp
theorem hit_3 {x w : Nat} {ws : List Int} {k : Nat} (c : ¬ 0 < ws.getD k 0) : mHit x w ws k = false := by rw [mHit, decide_eq_false c]; simp
theorem hit_yes {x w : Nat} {ws : List Int} {k : Nat} (c1 : gtB (fI ((k : Int) + 1)) x = true) (c2 : geB (mP x ws k) (mLeft x w ws k) = true) (c3 : 0 < ws.getD k 0) : mHit x w ws k = true := by rw [mHit, c1, c2, decide_eq_true c3]; rfl
theorem hit_at {x w : Nat} {ws : List Int} {k n : Nat} {b : Bool} (hk : k < n) (h : mHit x w ws k = b) : mHitI x w ws ((cntL n).getD k 0) = b := by rw [cntL_get hk]; exact h
theorem mAll_hit {q : Int} {x w : Nat} {ws : List Int} {k : Nat} (hk : k < q.toNat) (ha : idxTo (mHitI x w ws) (cntL q.toNat) k = -1) (h : mHit x w ws k = true) : mAll q x w ws = mRes x w ws k := by
  have : mFir x w ws q.toNat = (k : Int) := idxTo_some ha (hit_at hk h) _ (by omega)
  rw [mAll, this, if_pos (by omega)]; rfl
theorem mAll_none {q : Int} {x w : Nat} {ws : List Int} (ha : idxTo (mHitI x w ws) (cntL q.toNat) q.toNat = -1) : mAll q x w ws = fI q := by
  have : mFir x w ws q.toNat = -1 := ha
  rw [mAll, this, if_neg (by omega)]
def cmK (p q i : Int) (xs : List Int) (x w : Nat) : Bool := (validC p q xs && decide (0 ≤ i ∧ i ≤ p - 1)) && (plF q x && (geB w 0 && finB w))
def cmR (p q i : Int) (xs : List Int) (x w : Nat) : Nat := if cmK p q i xs x w then mAll q x w (rowC q i xs) else 0
def cmT (p q i : Int) (xs : List Int) (x w : Nat) : Value := .tuple #[fl (cmR p q i xs x w), .bool (cmK p q i xs x w)]
variable {p q i : Int} {xs : List Int} {x w : Nat}
theorem cm_no (h : cmK p q i xs x w = false) : Value.tuple #[fl 0, .bool false] = cmT p q i xs x w := by rw [cmT, cmR, h]; rfl
theorem cm_yes (h : cmK p q i xs x w = true) : Value.tuple #[fl (mAll q x w (rowC q i xs)), .bool true] = cmT p q i xs x w := by rw [cmT, cmR, h]; rfl
theorem cmK_1 (h : (validC p q xs && decide (0 ≤ i ∧ i ≤ p - 1)) = false) : cmK p q i xs x w = false := by rw [cmK, h]; rfl
theorem cmK_2 (h : plF q x = false) : cmK p q i xs x w = false := by rw [cmK, h]; simp
theorem cmK_3 (h : geB w 0 = false) : cmK p q i xs x w = false := by rw [cmK, h]; simp
theorem cmK_4 (h : finB w = false) : cmK p q i xs x w = false := by rw [cmK, h]; simp
theorem cmK_yes (h1 : (validC p q xs && decide (0 ≤ i ∧ i ≤ p - 1)) = true) (h2 : plF q x = true) (h3 : geB w 0 = true) (h4 : finB w = true) : cmK p q i xs x w = true := by rw [cmK, h1, h2, h3, h4]; rfl
theorem fin_nn (h : finB w = true) : NN w := by
  unfold finB at h
  rw [NN]
  cases e : single.read w with
  | nan s n => rw [e] at h; cases h
  | _ => rfl
end Go.Am
