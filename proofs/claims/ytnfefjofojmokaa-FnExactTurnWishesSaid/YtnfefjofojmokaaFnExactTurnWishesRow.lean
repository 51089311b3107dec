/-
  The law FnExactTurnWishes: for any wishes handed to it, it answers true, and they read afterwards as before. No condition.
-/
import Derived.Test.YtnfefjofojmokaaRows
import Derived.Test.YtnfefjofojmokaaAmTopL
import Derived.Test.YtnfefjofojmokaaFnExactTurnWishesLaw
namespace Go.Proofs.Ytnfefjofojmokaa
open Go.ChangeShapes Go.WideShapes Go.ChangeAt Go.RowKit Go.Am

theorem Try.own : ownKnob Try.prog.godebug = none := by kernel_rfl
theorem Try.laidOut : laidOutB Try.prog = true := by kernel_rfl

set_option maxRecDepth 100000 in
theorem fnExactTurnWishes_lifted (os : Os) (started : os.Started) (H : Type) (enc : TypeId × Value → H) :
    ReturnsInHanded {} Try.checked os 7 .any (Rows.fnExactTurnWishesSpec.pre6 enc Try.prog Try.f7 Rows.fnExactTurnWishesRow.domain false) (Rows.fnExactTurnWishesSpec.post enc Try.prog Try.f7 false true false false) := by
  refine returnsInHanded_of_change (C := Try.checked) Try.own started (by kernel_rfl) Try.func7
    (ChangeSpec.witness6 (enc := enc) (C := Try.checked) false ⟨#[], #[.agg #[.slice none 0 0, .slice none 0 0]], []⟩ 8 (by kernel_rfl) (by kernel_rfl) (by kernel_rfl) (by kernel_rfl)) ?_
  intro W base args ds gs before hval0 hW _ _
  have hval : ∀ (j : Nat) t v, Try.f7.params[j]? = some t → args[j]? = some v → Value.okWide Try.prog W .any base t v := hval0
  have hW' := hW
  obtain ⟨p, q, hA0, hV, rfl, _, _⟩ := hW
  have hA : DataW.TrodAll enc Try.prog W 0 (fun _ => true) true Try.f7.params.toList args.toList ds p := hA0
  rw [Try.params7] at hA hval
  obtain ⟨v0, d0, rfl, rfl, h0⟩ := trodAll_one hA
  obtain ⟨rfl, rfl⟩ := trodVars_none hV
  obtain ⟨m0, g0, w0, u0, xs0, ys0, a0, e0, r0, i0, j0, l0, n0⟩ := abs_ssss (Abs.nil W) Try.underlying24 (by kernel_rfl) (by kernel_rfl) rfl rfl Try.underlying22 Try.underlying22 Try.underlying32 Try.underlying2 (by kernel_rfl) (by kernel_rfl) (hval 0 24 v0 rfl rfl) h0
  refine (calls_of_ret (fnExactTurnWishes_ret _ _ _ _ _ i0 j0 l0 n0) a0 (vrels1 r0)).mono fun e W' ⟨he, hb⟩ => ⟨_, he, ?_⟩
  exact law_post Try.laidOut (of_decide_eq_true (by kernel_rfl)) rfl Try.underlying4 rfl rfl rfl rfl hW' hb

/-- The law FnExactTurnWishes: for any wishes handed to it, it answers true, and they read afterwards as before. No condition. -/
theorem fnExactTurnWishes_holds : Rows.FnExactTurnWishesSaid :=
  OpenClaim.holds_of_wide 7 Try.f7 rfl rfl rfl rfl rfl rfl rfl ⟨rfl, rfl, rfl, rfl, rfl⟩ rfl rfl rfl rfl rfl (by kernel_rfl) Try.func7 (by kernel_rfl)
    (of_decide_eq_true (by kernel_rfl)) (by unfold Func.isWrapper; first | (rw [if_pos (by decide +kernel)]; kernel_rfl) | (rw [if_neg (by decide +kernel)]; exact ⟨rfl, rfl⟩))
    (fun os started H enc _ => fnExactTurnWishes_lifted os started H enc)

end Go.Proofs.Ytnfefjofojmokaa
