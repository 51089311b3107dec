/-
  The abstract heap: plain laws of weighed worths. General: no program is named.
-/
import Derived.Test.YtnfefjofojmokaaAmLib9
import Derived.Test.YtnfefjofojmokaaAmSink3
namespace Go.Am
set_option linter.unusedSimpArgs false
set_option linter.unusedVariables false
section
variable {P : Program} {ops : Array Oper} {KE : Env → AHeap → Prop} {env : Env} {h : AHeap} {d : Option Tmp} {ty : TypeId} {pos : String} {af : Array Edge} {g : Option (Nat × Bool)} {os : List Oper}
theorem d_allocN {e : TypeId} {z : Value} {s b n : Nat} {cs : List Value} (hw : wantedA ops env ⟨d, .alloc e, ty, pos, af, g⟩ = some true) (hi : InfoIs P e z s b) (hz : isConst z = true) (hc : z.cells.toList = cs) (hn : cs.length = n) (hp : ∀ u ∈ cs, isPrim u = true)
    (hK : ∀ k, k = h.length → DRun P ops KE os (env.put d (.pointer (some ⟨k, 0, some n⟩))) (h ++ [⟨cs, true, 1⟩])) : DRun P ops KE (⟨d, .alloc e, ty, pos, af, g⟩ :: os) env h :=
  d_new hw (o_allocN hi hz hc hn fun k hk => by subst hk; exact ⟨rfl, rfl⟩) (.ptr (by simp)) (by simpa using fun u hu => Within.prim (hp u hu)) (hK _ rfl)
end

/-! ## Weighed worths -/
def wgF (a b : Int) (xs ys : List Int) (s : Nat) : Int := a * xs.getD s 0 + b * ys.getD s 0
theorem smul_bnd {a x : Int} (ha : -100 ≤ a ∧ a ≤ 100) (hx : -10000 ≤ x ∧ x ≤ 10000) : -1000000 ≤ a * x ∧ a * x ≤ 1000000 := by
  have h1 : (a * x).natAbs = a.natAbs * x.natAbs := Int.natAbs_mul a x
  have h2 : a.natAbs * x.natAbs ≤ 100 * 10000 := Nat.mul_le_mul (by omega) (by omega)
  omega
def okWg (p q a b : Int) (xs ys : List Int) : Bool := isW 10000 p xs && isW 10000 q ys && decide (p = q) && decide (-100 ≤ a ∧ a ≤ 100) && decide (-100 ≤ b ∧ b ≤ 100)

theorem wg_yes {p q a b : Int} {xs ys : List Int} (h1 : isW 10000 p xs = true) (h2 : isW 10000 q ys = true) (h3 : p = q) (h4 : -100 ≤ a ∧ a ≤ 100) (h5 : -100 ≤ b ∧ b ≤ 100) : okWg p q a b xs ys = true := by
  rw [okWg, h1, h2, decide_eq_true h3, decide_eq_true h4, decide_eq_true h5]; rfl
theorem wg_no1 {p q a b : Int} {xs ys : List Int} (h1 : isW 10000 p xs = false) : okWg p q a b xs ys = false := by simp [okWg, h1]
theorem wg_no2 {p q a b : Int} {xs ys : List Int} (h1 : isW 10000 q ys = false) : okWg p q a b xs ys = false := by simp [okWg, h1]
theorem wg_no3 {p q a b : Int} {xs ys : List Int} (h1 : ¬ p = q) : okWg p q a b xs ys = false := by simp [okWg, h1]
theorem wg_no4 {p q a b : Int} {xs ys : List Int} (h1 : (decide (-100 ≤ a ∧ a ≤ 100) && decide (-100 ≤ b ∧ b ≤ 100)) = false) : okWg p q a b xs ys = false := by rw [okWg, Bool.and_assoc, h1, Bool.and_false]
theorem wg_no5 {p q a b : Int} {xs ys : List Int} (h1 : decide (-100 ≤ a ∧ a ≤ 100) = false) : okWg p q a b xs ys = false := wg_no4 (by rw [h1]; rfl)
theorem wg_no6 {p q a b : Int} {xs ys : List Int} (h1 : decide (-100 ≤ b ∧ b ≤ 100) = false) : okWg p q a b xs ys = false := wg_no4 (by rw [h1, Bool.and_false])
end Go.Am
