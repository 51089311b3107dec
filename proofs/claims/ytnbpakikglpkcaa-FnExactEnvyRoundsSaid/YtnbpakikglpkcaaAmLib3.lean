/-
  The abstract heap: the greatest and the least, and more plain laws of the chapters. General: no program is named.
-/
import Derived.Test.YtnbpakikglpkcaaAmLib2
import Derived.Laws.Small
namespace Go.Am
set_option linter.unusedSimpArgs false
set_option linter.unusedVariables false
section
variable {P : Program} {K : Value → AHeap → Prop} {env : Env} {h : AHeap} {dst : Option Tmp} {ty t : TypeId} {pos : String} {after : Array Edge} {guard : Option (Nat × Bool)} {x y : Operand} {p q : Int}
end

/-! ## Sets of players -/
/-! ## Lists of truth values of one's own -/
section
variable {P : Program} {K : Value → AHeap → Prop} {env : Env} {h : AHeap} {dst : Option Tmp} {ty : TypeId} {pos : String} {after : Array Edge} {guard : Option (Nat × Bool)}
end
theorem take_app {xs : List Int} {s : Nat} (h : s < xs.length) : xs.take s ++ [xs.getD s 0] = xs.take (s + 1) := by
  rw [List.take_succ_eq_append_getElem h, getD_at h]

/-! ## Parts of things -/
/-- What the part of a player is worth to one: the things before k. -/
def partS (xs os : List Int) (q i j : Int) : Nat → Int
  | 0 => 0
  | k + 1 => if os.getD k 0 = j then IntKind.i64.wrap (partS xs os q i j k + xs.getD (i * q + (k : Int)).toNat 0) else partS xs os q i j k
theorem partS_in {xs os : List Int} {q i j : Int} {k : Nat} (h : os.getD k 0 = j) : partS xs os q i j (k + 1) = IntKind.i64.wrap (partS xs os q i j k + xs.getD (i * q + (k : Int)).toNat 0) := by rw [partS, if_pos h]
theorem partS_out {xs os : List Int} {q i j : Int} {k : Nat} (h : ¬ os.getD k 0 = j) : partS xs os q i j (k + 1) = partS xs os q i j k := by rw [partS, if_neg h]
def partF (xs os : List Int) (q i j : Int) : Int := partS xs os q i j os.length
theorem cell_bnd {i p q n : Int} {k : Nat} (hi : 0 ≤ i ∧ i < p) (hk : (k : Int) < q) (hn : n = p * q) : 0 ≤ i * q ∧ i * q ≤ n ∧ 0 ≤ i * q + (k : Int) ∧ i * q + (k : Int) < n := by
  subst hn
  have h1 : 0 ≤ i * q := Int.mul_nonneg hi.1 (by omega)
  have h2 : (i + 1) * q ≤ p * q := Int.mul_le_mul_of_nonneg_right (by omega) (by omega)
  have h3 : (i + 1) * q = i * q + q := by rw [Int.add_mul, Int.one_mul]
  exact ⟨h1, by omega, by omega, by omega⟩
theorem validV_get {p q : Int} {xs : List Int} (h : validV p q xs = true) : (1 ≤ p ∧ p ≤ 6) ∧ (1 ≤ q ∧ q ≤ 8) ∧ (xs.length : Int) = p * q ∧ xs.all (fun n => decide (0 ≤ n ∧ n ≤ 1000)) = true := by
  simp only [validV, Bool.and_eq_true, decide_eq_true_eq] at h
  exact ⟨h.1.1.1, h.1.1.2, h.1.2, h.2⟩
def envyF (xs os : List Int) (q : Int) (i j : Int) : Int := IntKind.i64.wrap (partF xs os q i j - partF xs os q i i)
/-! ## Shares by all orders -/
section
variable {P : Program} {K : Value → AHeap → Prop} {env : Env} {h : AHeap} {dst : Option Tmp} {ty t yt : TypeId} {pos : String} {after : Array Edge} {guard : Option (Nat × Bool)} {x y : Operand} {p q : Int} {k ky : IntKind}
end
/-- How many players a set has. -/
def popR : Nat → Nat → Nat
  | 0, _ => 0
  | f + 1, s => s % 2 + popR f (s / 2)
def pop (s : Nat) : Nat := popR 7 s
/-! ## Worths by costs and by votes -/
theorem ints_cells {h : AHeap} {v : Value} {xs : List Int} (hv : Ints h v xs) : v.cells.toList = [v] := by
  rcases hv with ⟨rfl, _⟩ | ⟨k, off, ver, cap, o, rfl, _⟩ <;> rfl
/-! ## Complaints -/
theorem awp_constF {P : Program} {n : Nat} {Q : Exit → Env → AHeap → Prop} {env : Env} {h : AHeap} {x y : Code} (hx : AWp P n y Q env h) : AWp P n (.cond (.const (.bool false)) x y) Q env h :=
  fun m w a hr he => wp_cond (t := false) (by simp [Act.eval]) (hx m w a hr he)

/-! ## Parts of things, more -/
theorem cell_bndZ {i p q n t : Int} (hi : 0 ≤ i ∧ i < p) (ht : 0 ≤ t ∧ t < q) (hn : n = p * q) : 0 ≤ i * q ∧ i * q ≤ n ∧ 0 ≤ i * q + t ∧ i * q + t < n := by
  obtain ⟨k, rfl⟩ := Int.eq_ofNat_of_zero_le ht.1
  exact cell_bnd hi ht.2 hn
end Go.Am
