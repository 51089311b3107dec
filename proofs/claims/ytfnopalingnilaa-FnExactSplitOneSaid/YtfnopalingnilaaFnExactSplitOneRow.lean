/-
  The law FnExactSplitOne: for any two lists of prizes handed to it, it answers true, and both read afterwards as before. No condition.
-/
import Derived.Test.YtfnopalingnilaaRows
import Derived.Test.YtfnopalingnilaaAmG5
import Derived.Test.YtfnopalingnilaaFnExactSplitOneLaw
namespace Go.Proofs.Ytfnopalingnilaa
open Go.ChangeShapes Go.WideShapes Go.ChangeAt Go.RowKit Go.Am

theorem Try.own : ownKnob Try.prog.godebug = none := by kernel_rfl
theorem Try.laidOut : laidOutB Try.prog = true := by kernel_rfl

set_option maxRecDepth 100000 in
theorem fnExactSplitOne_lifted (os : Os) (started : os.Started) (H : Type) (enc : TypeId × Value → H) :
    ReturnsInHanded {} Try.checked os 6 .any (Rows.fnExactSplitOneSpec.pre6 enc Try.prog Try.f6 Rows.fnExactSplitOneRow.domain false) (Rows.fnExactSplitOneSpec.post enc Try.prog Try.f6 false true false false) := by
  refine returnsInHanded_of_change (C := Try.checked) Try.own started (by kernel_rfl) Try.func6
    (ChangeSpec.witness6 (enc := enc) (C := Try.checked) false ⟨#[], #[.slice none 0 0, .slice none 0 0], []⟩ 8 (by kernel_rfl) (by kernel_rfl) (by kernel_rfl) (by kernel_rfl)) ?_
  intro W base args ds gs before hval0 hW _ _
  have hval : ∀ (j : Nat) t v, Try.f6.params[j]? = some t → args[j]? = some v → Value.okWide Try.prog W .any base t v := hval0
  have hW' := hW
  obtain ⟨p, q, hA0, hV, rfl, _, _⟩ := hW
  have hA : DataW.TrodAll enc Try.prog W 0 (fun _ => true) true Try.f6.params.toList args.toList ds p := hA0
  rw [Try.params6] at hA hval
  obtain ⟨v0, v1, d0, d1, p0, p1, rfl, rfl, rfl, h0, h1⟩ := trodAll_two hA
  obtain ⟨rfl, rfl⟩ := trodVars_none hV
  obtain ⟨m0, g0, w0, xs0, a0, e0, r0, i0, l0⟩ := abs_s (Abs.nil W) Try.underlying22 Try.underlying2 (by kernel_rfl) (hval 0 22 v0 rfl rfl) h0
  obtain ⟨m1, g1, w1, xs1, a1, e1, r1, i1, l1⟩ := abs_s a0 Try.underlying22 Try.underlying2 (by kernel_rfl) (hval 1 22 v1 rfl rfl) h1
  refine (calls_of_ret (fnExactSplitOne_ret _ _ _ _ _ (i0.app _) i1 l0 l1) a1 (vrels2 (r0.mono e1) r1)).mono fun e W' ⟨he, hb⟩ => ⟨_, he, ?_⟩
  exact law_post Try.laidOut (of_decide_eq_true (by kernel_rfl)) rfl Try.underlying4 rfl rfl rfl rfl hW' hb

/-- The law FnExactSplitOne: for any two lists of prizes handed to it, it answers true, and both read afterwards as before. No condition. -/
theorem fnExactSplitOne_holds : Rows.FnExactSplitOneSaid :=
  OpenClaim.holds_of_wide 6 Try.f6 rfl rfl rfl rfl rfl rfl rfl ⟨rfl, rfl, rfl, rfl, rfl⟩ rfl rfl rfl rfl rfl (by kernel_rfl) Try.func6 (by kernel_rfl)
    (of_decide_eq_true (by kernel_rfl)) (by unfold Func.isWrapper; first | (rw [if_pos (by decide +kernel)]; kernel_rfl) | (rw [if_neg (by decide +kernel)]; exact ⟨rfl, rfl⟩))
    (fun os started H enc _ => fnExactSplitOne_lifted os started H enc)

end Go.Proofs.Ytfnopalingnilaa
