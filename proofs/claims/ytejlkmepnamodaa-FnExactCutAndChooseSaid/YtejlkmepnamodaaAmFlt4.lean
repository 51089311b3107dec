/-
  The abstract heap: what a part of a cake is worth, as the walks see it. General: no program is named.
-/
import Derived.Test.YtejlkmepnamodaaAmFlt3
namespace Go.Am
set_option linter.unusedSimpArgs false
set_option linter.unusedVariables false
open Ieee
section
variable {P : Program} {K : Value → AHeap → Prop} {env : Env} {h : AHeap} {dst : Option Tmp} {ty : TypeId} {pos : String} {after : Array Edge} {guard : Option (Nat × Bool)}
theorem o_convI32 {src d : TypeId} {x : Operand} {k : IntKind} {p : Int} {sd : TypeDesc} (hs : P.underlying src = some sd) (hd : P.underlying d = some (.float .f32))
    (hx : aeval env x = .int k p) (hK : K (.float .f32 (fI p)) h) : AOp P ⟨dst, .convert src d x, ty, pos, after, guard⟩ K env h := o_convIF hs hd hx hK
end
theorem validC_get {p q : Int} {xs : List Int} (h : validC p q xs = true) : (1 ≤ p ∧ p ≤ 6) ∧ (1 ≤ q ∧ q ≤ 16) ∧ (xs.length : Int) = p * q ∧ ∀ k, k < xs.length → 0 ≤ xs.getD k 0 ∧ xs.getD k 0 ≤ 1000 := by
  simp only [validC, Bool.and_eq_true, decide_eq_true_eq] at h
  refine ⟨h.1.1.1.1, h.1.1.1.2, h.1.1.2, fun k hk => ?_⟩
  rw [getD_at hk]
  exact of_decide_eq_true (List.all_eq_true.1 h.1.2 _ (List.getElem_mem hk))
abbrev rowC (q i : Int) (xs : List Int) : List Int := part xs (i * q).toNat ((i + 1) * q).toNat
theorem rowC_ok {p q i : Int} {xs : List Int} (h : validC p q xs = true) (hi : 0 ≤ i ∧ i ≤ p - 1) : (0 ≤ i * q ∧ i * q ≤ (i + 1) * q ∧ (i + 1) * q ≤ xs.length) ∧ i * q + q = (i + 1) * q ∧ ((rowC q i xs).length : Int) = q ∧ okW (rowC q i xs) ∧ xs.length ≤ 96 ∧ 0 < xs.length := by
  obtain ⟨h1, h2, h3, h4⟩ := validC_get h
  have hr := row_bound hi.1 (by omega) (by omega) h3
  have he : i * q + q = (i + 1) * q := by rw [Int.add_mul, Int.one_mul]
  have hl : (rowC q i xs).length = ((i + 1) * q).toNat - (i * q).toNat := part_len (by omega) (by omega)
  have hm := mul_bound (p := p) (q := q) (a := 6) (b := 16) (by omega) (by omega)
  refine ⟨hr, he, by omega, ⟨by omega, fun k hk => ?_⟩, by omega, by omega⟩
  rw [rowC, part_get (by omega)]
  exact h4 _ (by omega)
theorem rowC_get {p q i : Int} {xs : List Int} {s : Nat} (h : validC p q xs = true) (hi : 0 ≤ i ∧ i ≤ p - 1) (hs : (s : Int) < q) : xs.getD (i * q + (s : Int)).toNat 0 = (rowC q i xs).getD s 0 := by
  obtain ⟨a, b, c, _⟩ := rowC_ok h hi
  rw [rowC, part_get (by omega)]
  congr 1
  omega
def cwK (p q i : Int) (xs : List Int) (x y : Nat) : Bool := (validC p q xs && decide (0 ≤ i ∧ i ≤ p - 1)) && (plF q x && (plF q y && !gtB x y))
def cwR (p q i : Int) (xs : List Int) (x y : Nat) : Nat := if cwK p q i xs x y then cSum x y (rowC q i xs) q.toNat else 0
def cwT (p q i : Int) (xs : List Int) (x y : Nat) : Value := .tuple #[fl (cwR p q i xs x y), .bool (cwK p q i xs x y)]
variable {p q i : Int} {xs : List Int} {x y : Nat}
theorem cw_no (h : cwK p q i xs x y = false) : Value.tuple #[fl 0, .bool false] = cwT p q i xs x y := by rw [cwT, cwR, h]; rfl
theorem cw_yes (h : cwK p q i xs x y = true) : Value.tuple #[fl (cSum x y (rowC q i xs) q.toNat), .bool true] = cwT p q i xs x y := by rw [cwT, cwR, h]; rfl
theorem cwK_1 (h : (validC p q xs && decide (0 ≤ i ∧ i ≤ p - 1)) = false) : cwK p q i xs x y = false := by rw [cwK, h]; rfl
theorem cwK_2 (h : plF q x = false) : cwK p q i xs x y = false := by rw [cwK, h]; simp
theorem cwK_3 (h : plF q y = false) : cwK p q i xs x y = false := by rw [cwK, h]; simp
theorem cwK_4 (h : gtB x y = true) : cwK p q i xs x y = false := by rw [cwK, h]; simp
theorem cwK_yes (h1 : (validC p q xs && decide (0 ≤ i ∧ i ≤ p - 1)) = true) (h2 : plF q x = true) (h3 : plF q y = true) (h4 : gtB x y = false) : cwK p q i xs x y = true := by rw [cwK, h1, h2, h3, h4]; rfl
theorem hasC_get (h : (validC p q xs && decide (0 ≤ i ∧ i ≤ p - 1)) = true) : validC p q xs = true ∧ (0 ≤ i ∧ i ≤ p - 1) := by
  simp only [Bool.and_eq_true, decide_eq_true_eq] at h; exact h
theorem hasC_yes (h : validC p q xs = true) (hi : decide (0 ≤ i ∧ i ≤ p - 1) = true) : (validC p q xs && decide (0 ≤ i ∧ i ≤ p - 1)) = true := by rw [h, hi]; rfl
theorem hasC_no1 (h : validC p q xs = false) : (validC p q xs && decide (0 ≤ i ∧ i ≤ p - 1)) = false := by rw [h]; rfl
theorem hasC_no2 (hi : decide (0 ≤ i ∧ i ≤ p - 1) = false) : (validC p q xs && decide (0 ≤ i ∧ i ≤ p - 1)) = false := by rw [hi, Bool.and_false]
theorem pl_no1 (h : geB x 0 = false) : false = plF q x := by rw [plF, h]; rfl
theorem pl_at (h : geB x 0 = true) {b : Bool} (h2 : leB x (fI q) = b) : b = plF q x := by rw [plF, h, h2]; rfl
theorem cD_use {k a b : Nat} (hx : PlD x) (hy : PlD y) (hk : k ≤ 16) (ha : cA x k = a) (hb : cB y k = b) : floatBits .sub .f32 b a = some (cD x y k) := by
  subst ha hb; exact (cD_ok hx hy hk).1
theorem fb_mul {a b c : Nat} (h : single.mul a b = some c) : floatBits .mul .f32 a b = some c := h
theorem fb_add {a b c : Nat} (h : single.add a b = some c) : floatBits .add .f32 a b = some c := h
theorem fb_sub {a b c : Nat} (h : single.sub a b = some c) : floatBits .sub .f32 a b = some c := h
theorem fb_div {a b c : Nat} (h : single.div a b = some c) : floatBits .quo .f32 a b = some c := h
end Go.Am
