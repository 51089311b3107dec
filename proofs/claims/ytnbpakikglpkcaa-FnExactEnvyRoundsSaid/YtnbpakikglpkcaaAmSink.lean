/-
  The abstract heap: a region that draws its order, and whose last op (a store, say) comes after all others in each order. General: no program is named.
-/
import Derived.Test.YtnbpakikglpkcaaAmDraw
namespace Go.Am
set_option linter.unusedSimpArgs false
set_option linter.unusedVariables false
open Go.RowKit
theorem wpAny_done {P : Program} {ops : Array Oper} {Q : Exit → Act → World → Prop} {listed : Array Bool} {a : Act} {w : World} (hall : ∀ i, i < ops.size → listed.getD i false = true) (hq : Q .normal a w) : ∀ fuel, wpAny P .any ops Q fuel listed a w := by
  have hr : Region.ready .any ops listed = [] := by
    cases hr : Region.ready .any ops listed with
    | nil => rfl
    | cons i rest =>
      have hi : i ∈ Region.ready .any ops listed := by rw [hr]; simp
      obtain ⟨h1, oi, h2, _⟩ := mem_ready.1 hi
      have := hall i (Array.getElem?_eq_some_iff.1 h2).1
      have h3 := getD_both h1
      rw [this] at h3; cases h3
  intro fuel
  cases fuel with
  | zero => exact ⟨hr, hq⟩
  | succ fuel => exact ⟨fun _ => hq, fun i hi => by rw [hr] at hi; cases hi⟩


theorem dval_congr {dst dst' : Nat → Option Tmp} {V V' : Nat → Value} {env0 : Env} : ∀ n, (∀ j, j < n → dst j = dst' j ∧ V j = V' j) → dval dst V env0 (fun _ => true) n = dval dst' V' env0 (fun _ => true) n
  | 0, _ => rfl
  | n + 1, h => by
    rw [dval, dval, dval_congr n (fun j hj => h j (by omega)), (h n (by omega)).1, (h n (by omega)).2]

end Go.Am
