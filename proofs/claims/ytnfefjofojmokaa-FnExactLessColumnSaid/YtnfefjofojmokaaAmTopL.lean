/-
  Lists of lists that came in: their reading gives an abstract heap. General: no program is named.
-/
import Derived.Test.YtnfefjofojmokaaAmTop
import Derived.Test.YtnfefjofojmokaaAmLists
import Derived.Deep.Matrix
namespace Go.Am
set_option linter.unusedSimpArgs false
set_option linter.unusedVariables false
open Go.RowKit Go.ChangeShapes Go.WideShapes Go.ChangeAt Go.Joins Go.Deep Go.WideElems

variable {H : Type} {enc : TypeId × Value → H} {P : Program}

/-- A struct of two integers and two slices of integers that came in. -/
theorem abs_iiss {t e i0 i1 i2 i3 : TypeId} {f0 f1 f2 f3 : Field} {r : Value} {d : DataW H} {p : List MemPlace} {m h W} {rc : Reach} {b0 : Nat} (a : Abs m h W)
    (hs : P.underlying t = some (.struct #[f0, f1, f2, f3])) (hone : oneCellFields P #[f0, f1, f2, f3] = true) (hC : P.cellsOf t = 4)
    (e0 : f0.type = i0) (e1 : f1.type = i1) (e2 : f2.type = i2) (e3 : f3.type = i3)
    (h0 : P.underlying i0 = some (.int .i64)) (h1 : P.underlying i1 = some (.int .i64)) (h2 : P.underlying i2 = some (.slice e)) (h3 : P.underlying i3 = some (.slice e)) (he : P.underlying e = some (.int .i64)) (hc : P.cellsOf e = 1)
    (hval : Value.okWide P W rc b0 t r) (hv : DataW.Trod enc P W 0 (fun _ => true) true t r d p) :
    ∃ m' g n1 n2 v w xs ys, Abs m' (h ++ g) W ∧ Ext m h m' (h ++ g) ∧ VRel m' (h ++ g) (.agg #[i64 n1, i64 n2, v, w]) r ∧ Ints (h ++ g) v xs ∧ Ints (h ++ g) w ys ∧ xs.length ≤ 9223372036854775807 ∧ ys.length ≤ 9223372036854775807 := by
  obtain ⟨v0, v1, v2, v3, y0, y1, y2, y3, n, rfl, -, -, g0, g1, g2, g3⟩ := open_agg4 hs hone hC hval hv
  rw [e0] at g0; rw [e1] at g1; rw [e2] at g2; rw [e3] at g3
  obtain ⟨n1, rfl⟩ := trod_int h0 g0
  obtain ⟨n2, rfl⟩ := trod_int h1 g1
  obtain ⟨m1, g1', v, xs, a1, ex1, hr1, hi1, hl1⟩ := abs_ints a h2 he hc g2
  obtain ⟨m2, g2', w, ys, a2, ex2, hr2, hi2, hl2⟩ := abs_ints a1 h3 he hc g3
  rw [List.append_assoc] at a2 ex2 hr2 hi2
  have hi1' := hi1.app g2'
  rw [List.append_assoc] at hi1'
  refine ⟨m2, g1' ++ g2', n1, n2, v, w, xs, ys, a2, fun k o hk => ?_, .agg rfl fun i q1 q2 => ?_, hi1', hi2, hl1, hl2⟩
  · obtain ⟨o1, p1, p2, p3, p4, p5⟩ := ex1 k o hk
    obtain ⟨o2, q1, q2, q3, q4, q5⟩ := ex2 k o1 p1
    refine ⟨o2, q1, Nat.le_trans p2 q2, q3.trans p3, q4.trans p4, fun l hl => ?_⟩
    obtain ⟨l1, hl1, f1⟩ := p5 l hl
    obtain ⟨l2, hl2, f2⟩ := q5 l1 hl1
    exact ⟨l2, hl2, fun hq => (f2 (by omega)).trans (f1 (by omega))⟩
  · match i, q1 with
    | 0, _ => exact .prim rfl
    | 1, _ => exact .prim rfl
    | 2, _ => exact hr1.mono ex2
    | 3, _ => exact hr2
end Go.Am
