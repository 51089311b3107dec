/-
  The law FnExactCakeEnvy: for any cake, any owners and any cuts handed to it, it answers true, and they read afterwards as before. No condition.
-/
import Derived.Test.YtfnopalingnilaaRows
import Derived.Test.YtfnopalingnilaaAmG5
import Derived.Test.YtfnopalingnilaaFnExactCakeEnvyLaw
namespace Go.Proofs.Ytfnopalingnilaa
open Go.ChangeShapes Go.WideShapes Go.ChangeAt Go.RowKit Go.Am

theorem Try.own : ownKnob Try.prog.godebug = none := by kernel_rfl
theorem Try.laidOut : laidOutB Try.prog = true := by kernel_rfl

set_option maxRecDepth 100000 in
theorem fnExactCakeEnvy_lifted (os : Os) (started : os.Started) (H : Type) (enc : TypeId × Value → H) :
    ReturnsInHanded {} Try.checked os 3 .any (Rows.fnExactCakeEnvySpec.pre6 enc Try.prog Try.f3 Rows.fnExactCakeEnvyRow.domain false) (Rows.fnExactCakeEnvySpec.post enc Try.prog Try.f3 false true false false) := by
  refine returnsInHanded_of_change (C := Try.checked) Try.own started (by kernel_rfl) Try.func3
    (ChangeSpec.witness6 (enc := enc) (C := Try.checked) false ⟨#[], #[.agg #[.int .i64 0, .int .i64 0, .slice none 0 0], .slice none 0 0, .slice none 0 0], []⟩ 8 (by kernel_rfl) (by kernel_rfl) (by kernel_rfl) (by kernel_rfl)) ?_
  intro W base args ds gs before hval0 hW _ _
  have hval : ∀ (j : Nat) t v, Try.f3.params[j]? = some t → args[j]? = some v → Value.okWide Try.prog W .any base t v := hval0
  have hW' := hW
  obtain ⟨p, q, hA0, hV, rfl, _, _⟩ := hW
  have hA : DataW.TrodAll enc Try.prog W 0 (fun _ => true) true Try.f3.params.toList args.toList ds p := hA0
  rw [Try.params3] at hA hval
  obtain ⟨v0, v1, v2, d0, d1, d2, p0, p1, p2, rfl, rfl, rfl, h0, h1, h2⟩ := trodAll_three hA
  obtain ⟨rfl, rfl⟩ := trodVars_none hV
  obtain ⟨m0, g0, n0, q0, w0, xs0, a0, e0, r0, i0, l0⟩ := abs_iii (Abs.nil W) Try.underlying24 (by kernel_rfl) (by kernel_rfl) rfl rfl rfl Try.underlying2 Try.underlying2 Try.underlying22 Try.underlying2 (by kernel_rfl) (hval 0 24 v0 rfl rfl) h0
  obtain ⟨m1, g1, w1, xs1, a1, e1, r1, i1, l1⟩ := abs_s a0 Try.underlying22 Try.underlying2 (by kernel_rfl) (hval 1 22 v1 rfl rfl) h1
  obtain ⟨m2, g2, w2, xs2, a2, e2, r2, i2, l2⟩ := abs_f a1 Try.underlying25 Try.underlying47 (by kernel_rfl) (hval 2 25 v2 rfl rfl) h2
  refine (calls_of_ret (fnExactCakeEnvy_ret _ _ _ _ _ _ _ _ _ ((i0.app _).app _) (i1.app _) i2 l0 l1 l2) a2 (vrels3 ((r0.mono e1).mono e2) (r1.mono e2) r2)).mono fun e W' ⟨he, hb⟩ => ⟨_, he, ?_⟩
  exact law_post Try.laidOut (of_decide_eq_true (by kernel_rfl)) rfl Try.underlying4 rfl rfl rfl rfl hW' hb

/-- The law FnExactCakeEnvy: for any cake, any owners and any cuts handed to it, it answers true, and they read afterwards as before. No condition. -/
theorem fnExactCakeEnvy_holds : Rows.FnExactCakeEnvySaid :=
  OpenClaim.holds_of_wide 3 Try.f3 rfl rfl rfl rfl rfl rfl rfl ⟨rfl, rfl, rfl, rfl, rfl⟩ rfl rfl rfl rfl rfl (by kernel_rfl) Try.func3 (by kernel_rfl)
    (of_decide_eq_true (by kernel_rfl)) (by unfold Func.isWrapper; first | (rw [if_pos (by decide +kernel)]; kernel_rfl) | (rw [if_neg (by decide +kernel)]; exact ⟨rfl, rfl⟩))
    (fun os started H enc _ => fnExactCakeEnvy_lifted os started H enc)

end Go.Proofs.Ytfnopalingnilaa
