/-
  The abstract heap: the greatest and the least, and more plain laws of the chapters. General: no program is named.
-/
import Derived.Test.YtnfefjofojmokaaAmLib2
import Derived.Laws.Small
namespace Go.Am
set_option linter.unusedSimpArgs false
set_option linter.unusedVariables false
section
variable {P : Program} {K : Value → AHeap → Prop} {env : Env} {h : AHeap} {dst : Option Tmp} {ty t : TypeId} {pos : String} {after : Array Edge} {guard : Option (Nat × Bool)} {x y : Operand} {p q : Int}
end

/-! ## Sets of players -/
/-! ## Lists of truth values of one's own -/
section
variable {P : Program} {K : Value → AHeap → Prop} {env : Env} {h : AHeap} {dst : Option Tmp} {ty : TypeId} {pos : String} {after : Array Edge} {guard : Option (Nat × Bool)}
end
/-! ## Parts of things -/
theorem cell_bnd {i p q n : Int} {k : Nat} (hi : 0 ≤ i ∧ i < p) (hk : (k : Int) < q) (hn : n = p * q) : 0 ≤ i * q ∧ i * q ≤ n ∧ 0 ≤ i * q + (k : Int) ∧ i * q + (k : Int) < n := by
  subst hn
  have h1 : 0 ≤ i * q := Int.mul_nonneg hi.1 (by omega)
  have h2 : (i + 1) * q ≤ p * q := Int.mul_le_mul_of_nonneg_right (by omega) (by omega)
  have h3 : (i + 1) * q = i * q + q := by rw [Int.add_mul, Int.one_mul]
  exact ⟨h1, by omega, by omega, by omega⟩
/-! ## Shares by all orders -/
section
variable {P : Program} {K : Value → AHeap → Prop} {env : Env} {h : AHeap} {dst : Option Tmp} {ty t yt : TypeId} {pos : String} {after : Array Edge} {guard : Option (Nat × Bool)} {x y : Operand} {p q : Int} {k ky : IntKind}
end
/-- How many players a set has. -/
def popR : Nat → Nat → Nat
  | 0, _ => 0
  | f + 1, s => s % 2 + popR f (s / 2)
def pop (s : Nat) : Nat := popR 7 s
/-! ## Worths by costs and by votes -/
/-! ## Complaints -/
/-! ## Parts of things, more -/
theorem cell_bndZ {i p q n t : Int} (hi : 0 ≤ i ∧ i < p) (ht : 0 ≤ t ∧ t < q) (hn : n = p * q) : 0 ≤ i * q ∧ i * q ≤ n ∧ 0 ≤ i * q + t ∧ i * q + t < n := by
  obtain ⟨k, rfl⟩ := Int.eq_ofNat_of_zero_le ht.1
  exact cell_bnd hi ht.2 hn
end Go.Am
