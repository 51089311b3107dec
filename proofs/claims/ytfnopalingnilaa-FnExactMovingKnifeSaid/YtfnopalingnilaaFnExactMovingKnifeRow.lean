/-
  The law FnExactMovingKnife: for any cake handed to it, it answers true, and the cake reads afterwards as before. No condition.
-/
import Derived.Test.YtfnopalingnilaaRows
import Derived.Test.YtfnopalingnilaaAmG6
import Derived.Test.YtfnopalingnilaaFnExactMovingKnifeLaw
namespace Go.Proofs.Ytfnopalingnilaa
open Go.ChangeShapes Go.WideShapes Go.ChangeAt Go.RowKit Go.Am

theorem Try.own : ownKnob Try.prog.godebug = none := by kernel_rfl
theorem Try.laidOut : laidOutB Try.prog = true := by kernel_rfl

set_option maxRecDepth 100000 in
theorem fnExactMovingKnife_lifted (os : Os) (started : os.Started) (H : Type) (enc : TypeId × Value → H) :
    ReturnsInHanded {} Try.checked os 4 .any (Rows.fnExactMovingKnifeSpec.pre6 enc Try.prog Try.f4 Rows.fnExactMovingKnifeRow.domain false) (Rows.fnExactMovingKnifeSpec.post enc Try.prog Try.f4 false true false false) := by
  refine returnsInHanded_of_change (C := Try.checked) Try.own started (by kernel_rfl) Try.func4
    (ChangeSpec.witness6 (enc := enc) (C := Try.checked) false ⟨#[], #[.agg #[.int .i64 0, .int .i64 0, .slice none 0 0]], []⟩ 8 (by kernel_rfl) (by kernel_rfl) (by kernel_rfl) (by kernel_rfl)) ?_
  intro W base args ds gs before hval0 hW _ _
  have hval : ∀ (j : Nat) t v, Try.f4.params[j]? = some t → args[j]? = some v → Value.okWide Try.prog W .any base t v := hval0
  have hW' := hW
  obtain ⟨p, q, hA0, hV, rfl, _, _⟩ := hW
  have hA : DataW.TrodAll enc Try.prog W 0 (fun _ => true) true Try.f4.params.toList args.toList ds p := hA0
  rw [Try.params4] at hA hval
  obtain ⟨v0, d0, rfl, rfl, h0⟩ := trodAll_one hA
  obtain ⟨rfl, rfl⟩ := trodVars_none hV
  obtain ⟨m0, g0, n0, q0, w0, xs0, a0, e0, r0, i0, l0⟩ := abs_iii (Abs.nil W) Try.underlying24 (by kernel_rfl) (by kernel_rfl) rfl rfl rfl Try.underlying2 Try.underlying2 Try.underlying22 Try.underlying2 (by kernel_rfl) (hval 0 24 v0 rfl rfl) h0
  refine (calls_of_ret (fnExactMovingKnife_ret _ _ _ _ _ i0 l0) a0 (vrels1 r0)).mono fun e W' ⟨he, hb⟩ => ⟨_, he, ?_⟩
  exact law_post Try.laidOut (of_decide_eq_true (by kernel_rfl)) rfl Try.underlying4 rfl rfl rfl rfl hW' hb

/-- The law FnExactMovingKnife: for any cake handed to it, it answers true, and the cake reads afterwards as before. No condition. -/
theorem fnExactMovingKnife_holds : Rows.FnExactMovingKnifeSaid :=
  OpenClaim.holds_of_wide 4 Try.f4 rfl rfl rfl rfl rfl rfl rfl ⟨rfl, rfl, rfl, rfl, rfl⟩ rfl rfl rfl rfl rfl (by kernel_rfl) Try.func4 (by kernel_rfl)
    (of_decide_eq_true (by kernel_rfl)) (by unfold Func.isWrapper; first | (rw [if_pos (by decide +kernel)]; kernel_rfl) | (rw [if_neg (by decide +kernel)]; exact ⟨rfl, rfl⟩))
    (fun os started H enc _ => fnExactMovingKnife_lifted os started H enc)

end Go.Proofs.Ytfnopalingnilaa
