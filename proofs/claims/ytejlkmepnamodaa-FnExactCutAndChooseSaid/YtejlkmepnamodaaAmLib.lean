/-
  The abstract heap: sub-slices, sums, and the plain laws of lists that the walks use. General: no program is named.
-/
import Derived.Test.YtejlkmepnamodaaAmRun
import Derived.Test.YtejlkmepnamodaaAmSink
namespace Go.Am
set_option linter.unusedSimpArgs false
set_option linter.unusedVariables false

/-- A part of a slice. -/
def subv (v : Value) (l r : Nat) : Value := match v with
  | .slice (some ⟨k, off, ver⟩) _ c => .slice (some ⟨k, off + l, ver⟩) (r - l) (c - l)
  | x => x

/-- A part of a list. -/
def part (xs : List Int) (l r : Nat) : List Int := (xs.drop l).take (r - l)

theorem part_len {xs : List Int} {l r : Nat} (h1 : l ≤ r) (h2 : r ≤ xs.length) : (part xs l r).length = r - l := by
  simp [part]; omega

theorem Ints.sub {h : AHeap} {v : Value} {xs : List Int} (hv : Ints h v xs) {l r : Nat} (h0 : 0 < xs.length) (h1 : l ≤ r) (h2 : r ≤ xs.length) : Ints h (subv v l r) (part xs l r) := by
  rcases hv with ⟨rfl, rfl⟩ | ⟨k, off, ver, cap, o, rfl, g2, g3, g4, g5, g6, g7⟩
  · simp at h0
  · refine .inr ⟨k, off + l, ver, cap - l, o, by rw [part_len h1 h2]; rfl, g2, g3, g4, by rw [part_len h1 h2]; omega, by omega, fun i z hz => ?_⟩
    rw [Nat.add_assoc]
    refine g7 _ z ?_
    have hi : i < (part xs l r).length := (List.getElem?_eq_some_iff.1 hz).1
    rw [part_len h1 h2] at hi
    simp only [part, List.getElem?_take_of_lt hi, List.getElem?_drop] at hz
    exact hz

theorem within_sub {n : Nat} {v : Value} {l r : Nat} (hv : Within n v) : Within n (subv v l r) := by
  unfold subv
  split
  · cases hv with
    | prim h => cases h
    | slice h => exact .slice h
  · exact hv

section
variable {P : Program} {K : Value → AHeap → Prop} {env : Env} {h : AHeap} {dst : Option Tmp} {ty : TypeId} {pos : String} {after : Array Edge} {guard : Option (Nat × Bool)}
theorem o_sliceI {t e : TypeId} {x y1 y2 : Operand} {v z : Value} {b : Nat} {xs : List Int} {k1 k2 : IntKind} {l r : Int} (hu : P.underlying t = some (.slice e)) (hi : InfoIs P e z 1 b)
    (hx : aeval env x = v) (hv : Ints h v xs) (hy1 : aeval env y1 = .int k1 l) (hy2 : aeval env y2 = .int k2 r) (h0 : 0 < xs.length) (hl : 0 ≤ l) (hlr : l ≤ r) (hr : r ≤ xs.length)
    (hK : K (subv v l.toNat r.toNat) h) : AOp P ⟨dst, .slice t x (some y1) (some y2) none, ty, pos, after, guard⟩ K env h := by
  obtain ⟨inf, g1, _, g3, _⟩ := hi.get
  rcases hv with ⟨rfl, rfl⟩ | ⟨k, off, ver, cap, o, rfl, h2, h3, h4, h5, h6, h7⟩
  · simp at h0
  · refine aop_slice (l := l.toNat) (r := r.toNat) hu g1 (by rw [g3, h4]) hx h2 h3 (.inr ⟨y1, k1, rfl, by rw [hy1, Int.toNat_of_nonneg hl]⟩) (.inr ⟨y2, k2, rfl, by rw [hy2, Int.toNat_of_nonneg (by omega)]⟩) (by omega) (by omega) ?_
    rw [h4, Nat.mul_one]
    exact hK
end

/-- The sum of a list, as the program counts. -/
def sumW (xs : List Int) : Int := xs.foldl (fun a x => IntKind.i64.wrap (a + x)) 0
theorem sumW_step {xs : List Int} {k : Nat} (hk : k < xs.length) : IntKind.i64.wrap (sumW (xs.take k) + xs.getD k 0) = sumW (xs.take (k + 1)) := by
  rw [sumW, sumW, List.take_succ_eq_append_getElem hk, List.foldl_append, getD_at hk]; rfl
theorem sumW_full {xs : List Int} {k : Nat} (hk : ¬ k < xs.length) : sumW (xs.take k) = sumW xs := by rw [List.take_of_length_le (by omega)]

theorem range_all_step {f : Nat → Bool} {s : Nat} (h : (List.range s).all f = true) (hf : f s = true) : (List.range (s + 1)).all f = true := by
  rw [List.range_succ, List.all_append, h]; simpa using hf

/-- A valid cake. -/
def validC (p q : Int) (xs : List Int) : Bool :=
  decide (1 ≤ p ∧ p ≤ 6) && decide (1 ≤ q ∧ q ≤ 16) && decide ((xs.length : Int) = p * q) && xs.all (fun n => decide (0 ≤ n ∧ n ≤ 1000)) &&
    (List.range p.toNat).all fun i => decide (¬ sumW (part xs ((i : Int) * q).toNat (((i : Int) + 1) * q).toNat) = 0)
theorem validC_yes {p q : Int} {xs : List Int} {s : Nat} (c1 : decide (1 ≤ p ∧ p ≤ 6) = true) (c2 : decide (1 ≤ q ∧ q ≤ 16) = true) (c3 : (xs.length : Int) = p * q) (c4 : xs.all (fun n => decide (0 ≤ n ∧ n ≤ 1000)) = true)
    (c5 : (List.range s).all (fun i => decide (¬ sumW (part xs ((i : Int) * q).toNat (((i : Int) + 1) * q).toNat) = 0)) = true) (hs : (s : Int) = p) : true = validC p q xs := by
  have : s = p.toNat := by omega
  subst this
  rw [validC, c1, c2, decide_eq_true c3, c4, c5]; rfl
theorem validC_no {p q : Int} {xs : List Int} {s : Nat} (hs : (s : Int) < p) (c : sumW (part xs ((s : Int) * q).toNat (((s : Int) + 1) * q).toNat) = 0) : false = validC p q xs := by
  have : ((List.range p.toNat).all fun i => decide (¬ sumW (part xs ((i : Int) * q).toNat (((i : Int) + 1) * q).toNat) = 0)) = false :=
    List.all_eq_false.2 ⟨s, List.mem_range.2 (by omega), by simp [c]⟩
  rw [validC, this, Bool.and_false]
theorem validC_noM {p q : Int} {xs : List Int} (c : (decide (p * q ≤ xs.length ∧ xs.length ≤ p * q) && xs.all (fun n => decide (0 ≤ n ∧ n ≤ 1000))) = false) : false = validC p q xs := by
  rw [validC]
  rcases Bool.and_eq_false_iff.1 c with c | c
  · rw [decide_eq_false (p := ((xs.length : Int) = p * q)) (by have := of_decide_eq_false c; omega)]; simp
  · rw [c]; simp
theorem validC_noL {p q : Int} {xs : List Int} (c : (xs.all (fun n => decide (0 ≤ n ∧ n ≤ 1000)) && decide ((xs.length : Int) = p * q)) = false) : false = validC p q xs := by
  rw [validC]
  rcases Bool.and_eq_false_iff.1 c with c | c
  · rw [c]; simp
  · rw [c]; simp
theorem row_bound {s p q n : Int} (h0 : 0 ≤ s) (h1 : s < p) (hq : 0 ≤ q) (hn : n = p * q) : 0 ≤ s * q ∧ s * q ≤ (s + 1) * q ∧ (s + 1) * q ≤ n := by
  subst hn
  exact ⟨Int.mul_nonneg h0 hq, Int.mul_le_mul_of_nonneg_right (by omega) hq, Int.mul_le_mul_of_nonneg_right (by omega) hq⟩
theorem many_of {n : Int} {xs : List Int} {b : Bool} (c : (decide (n ≤ xs.length ∧ xs.length ≤ n) && b) = true) : (xs.length : Int) = n ∧ b = true := by
  simp only [Bool.and_eq_true, decide_eq_true_eq] at c; exact ⟨by omega, c.2⟩

/-! ## Bits -/
section
variable {P : Program} {K : Value → AHeap → Prop} {env : Env} {h : AHeap} {dst : Option Tmp} {ty t yt : TypeId} {pos : String} {after : Array Edge} {guard : Option (Nat × Bool)} {x y : Operand}
end
/-! ## Worths of sets -/
theorem within_tup2 {n : Nat} {a b : Value} (h1 : Within n a) (h2 : Within n b) : Within n (.tuple #[a, b]) := .tuple fun i hi => by
  match i, hi with
  | 0, _ => exact h1
  | 1, _ => exact h2
/-! ## Functions that change a block -/
theorem Closed.set {h : AHeap} (hc : Closed h) {k : Nat} {o : AObj} (ho : ∀ v ∈ o.cells, isPrim v = true) : Closed (h.set k o) := fun j x hx v hv => by
  rw [List.length_set]
  by_cases hj : j = k
  · subst hj
    by_cases hlt : j < h.length
    · rw [List.getElem?_set_self hlt] at hx; cases hx
      exact .prim (ho v hv)
    · rw [List.getElem?_eq_none (by simpa using hlt)] at hx; cases hx
  · rw [List.getElem?_set_ne (fun e => hj e.symm)] at hx
    exact hc j x hx v hv
theorem Ret.heap {P : Program} {f : FuncId} {a : List Value} {h h1 h2 : AHeap} {v : Value} (r : Ret P f a h v h1) (e : h1 = h2) : Ret P f a h v h2 := e ▸ r

/-! ## Marks -/
/-- The numbers from c on. -/
def upto (c : Int) (n : Nat) : List Int := (List.range n).map fun (i : Nat) => c + (i : Int)
theorem upto_len {c : Int} {n : Nat} : (upto c n).length = n := by simp [upto]
/-! ## Growing lists -/
section
variable {P : Program} {K : Value → AHeap → Prop} {env : Env} {h : AHeap} {dst : Option Tmp} {ty : TypeId} {pos : String} {after : Array Edge} {guard : Option (Nat × Bool)}
end

section
variable {P : Program} {K : Value → AHeap → Prop} {env : Env} {h : AHeap} {dst : Option Tmp} {ty : TypeId} {pos : String} {after : Array Edge} {guard : Option (Nat × Bool)}
end
theorem lst_prim {xs : List Int} : ∀ v ∈ (lst xs).cells, isPrim v = true := fun v hv => by
  simp only [lst, List.mem_map] at hv
  obtain ⟨z, _, rfl⟩ := hv
  rfl
end Go.Am
