/-
  The law FnCakesCut: for any two lists of bytes handed to it, it answers true, and both read afterwards as before. No condition.
-/
import Derived.Test.YtfnopalingnilaaRows
import Derived.Test.YtfnopalingnilaaAmG7
import Derived.Test.YtfnopalingnilaaFnCakesCutLaw
namespace Go.Proofs.Ytfnopalingnilaa
open Go.ChangeShapes Go.WideShapes Go.ChangeAt Go.RowKit Go.Am

theorem Try.own : ownKnob Try.prog.godebug = none := by kernel_rfl
theorem Try.laidOut : laidOutB Try.prog = true := by kernel_rfl

set_option maxRecDepth 100000 in
theorem fnCakesCut_lifted (os : Os) (started : os.Started) (H : Type) (enc : TypeId × Value → H) :
    ReturnsInHanded {} Try.checked os 5 .any (Rows.fnCakesCutSpec.pre6 enc Try.prog Try.f5 Rows.fnCakesCutRow.domain false) (Rows.fnCakesCutSpec.post enc Try.prog Try.f5 false true false false) := by
  refine returnsInHanded_of_change (C := Try.checked) Try.own started (by kernel_rfl) Try.func5
    (ChangeSpec.witness6 (enc := enc) (C := Try.checked) false ⟨#[], #[.slice none 0 0, .slice none 0 0], []⟩ 8 (by kernel_rfl) (by kernel_rfl) (by kernel_rfl) (by kernel_rfl)) ?_
  intro W base args ds gs before hval0 hW _ _
  have hval : ∀ (j : Nat) t v, Try.f5.params[j]? = some t → args[j]? = some v → Value.okWide Try.prog W .any base t v := hval0
  have hW' := hW
  obtain ⟨p, q, hA0, hV, rfl, _, _⟩ := hW
  have hA : DataW.TrodAll enc Try.prog W 0 (fun _ => true) true Try.f5.params.toList args.toList ds p := hA0
  rw [Try.params5] at hA hval
  obtain ⟨v0, v1, d0, d1, p0, p1, rfl, rfl, rfl, h0, h1⟩ := trodAll_two hA
  obtain ⟨rfl, rfl⟩ := trodVars_none hV
  obtain ⟨m0, g0, w0, xs0, a0, e0, r0, i0, l0, y0⟩ := abs_b (Abs.nil W) Try.underlying43 Try.underlying5 (by kernel_rfl) (hval 0 43 v0 rfl rfl) h0
  obtain ⟨m1, g1, w1, xs1, a1, e1, r1, i1, l1, y1⟩ := abs_b a0 Try.underlying43 Try.underlying5 (by kernel_rfl) (hval 1 43 v1 rfl rfl) h1
  refine (calls_of_ret (fnCakesCut_ret _ _ _ _ _ (i0.app _) i1 y0 y1 l0 l1) a1 (vrels2 (r0.mono e1) r1)).mono fun e W' ⟨he, hb⟩ => ⟨_, he, ?_⟩
  exact law_post Try.laidOut (of_decide_eq_true (by kernel_rfl)) rfl Try.underlying4 rfl rfl rfl rfl hW' hb

/-- The law FnCakesCut: for any two lists of bytes handed to it, it answers true, and both read afterwards as before. No condition. -/
theorem fnCakesCut_holds : Rows.FnCakesCutSaid :=
  OpenClaim.holds_of_wide 5 Try.f5 rfl rfl rfl rfl rfl rfl rfl ⟨rfl, rfl, rfl, rfl, rfl⟩ rfl rfl rfl rfl rfl (by kernel_rfl) Try.func5 (by kernel_rfl)
    (of_decide_eq_true (by kernel_rfl)) (by unfold Func.isWrapper; first | (rw [if_pos (by decide +kernel)]; kernel_rfl) | (rw [if_neg (by decide +kernel)]; exact ⟨rfl, rfl⟩))
    (fun os started H enc _ => fnCakesCut_lifted os started H enc)

end Go.Proofs.Ytfnopalingnilaa
