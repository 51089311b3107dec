/-
  The law FnExactCakeMark: for any cake, any player, any place and any worth handed to it, it answers true, and the cake reads afterwards as before. No condition.
-/
import Derived.Test.YtejlkmepnamodaaRows
import Derived.Test.YtejlkmepnamodaaAmTopL
import Derived.Test.YtejlkmepnamodaaFnExactCakeMarkLaw
namespace Go.Proofs.Ytejlkmepnamodaa
open Go.ChangeShapes Go.WideShapes Go.ChangeAt Go.RowKit Go.Am

theorem Try.own : ownKnob Try.prog.godebug = none := by kernel_rfl
theorem Try.laidOut : laidOutB Try.prog = true := by kernel_rfl

set_option maxRecDepth 100000 in
theorem fnExactCakeMark_lifted (os : Os) (started : os.Started) (H : Type) (enc : TypeId × Value → H) :
    ReturnsInHanded {} Try.checked os 4 .any (Rows.fnExactCakeMarkSpec.pre6 enc Try.prog Try.f4 Rows.fnExactCakeMarkRow.domain false) (Rows.fnExactCakeMarkSpec.post enc Try.prog Try.f4 false true false false) := by
  refine returnsInHanded_of_change (C := Try.checked) Try.own started (by kernel_rfl) Try.func4
    (ChangeSpec.witness6 (enc := enc) (C := Try.checked) false ⟨#[], #[.agg #[.int .i64 0, .int .i64 0, .slice none 0 0], .int .i64 0, .float .f32 0, .float .f32 0], []⟩ 8 (by kernel_rfl) (by kernel_rfl) (by kernel_rfl) (by kernel_rfl)) ?_
  intro W base args ds gs before hval0 hW _ _
  have hval : ∀ (j : Nat) t v, Try.f4.params[j]? = some t → args[j]? = some v → Value.okWide Try.prog W .any base t v := hval0
  have hW' := hW
  obtain ⟨p, q, hA0, hV, rfl, _, _⟩ := hW
  have hA : DataW.TrodAll enc Try.prog W 0 (fun _ => true) true Try.f4.params.toList args.toList ds p := hA0
  rw [Try.params4] at hA hval
  obtain ⟨v0, v1, v2, v3, d0, d1, d2, d3, p0, p1, p2, p3, rfl, rfl, rfl, h0, h1, h2, h3⟩ := trodAll_four hA
  obtain ⟨rfl, rfl⟩ := trodVars_none hV
  obtain ⟨m0, g0, n0, q0, w0, xs0, a0, e0, r0, i0, l0⟩ := abs_iii (Abs.nil W) Try.underlying24 (by kernel_rfl) (by kernel_rfl) rfl rfl rfl Try.underlying2 Try.underlying2 Try.underlying22 Try.underlying2 (by kernel_rfl) (hval 0 24 v0 rfl rfl) h0
  obtain ⟨n1, rfl, rfl, rfl, l1⟩ := open_int Try.underlying2 (hval 1 2 v1 rfl rfl) h1
  obtain ⟨n2, rfl, rfl, rfl, l2⟩ := open_float Try.underlying25 (hval 2 25 v2 rfl rfl) h2
  obtain ⟨n3, rfl, rfl, rfl, l3⟩ := open_float Try.underlying25 (hval 3 25 v3 rfl rfl) h3
  refine (calls_of_ret (fnExactCakeMark_ret _ _ _ _ _ _ _ _ i0 l0) a0 (vrels4 r0 (.prim rfl) (.prim rfl) (.prim rfl))).mono fun e W' ⟨he, hb⟩ => ⟨_, he, ?_⟩
  exact law_post Try.laidOut (of_decide_eq_true (by kernel_rfl)) rfl Try.underlying4 rfl rfl rfl rfl hW' hb

/-- The law FnExactCakeMark: for any cake, any player, any place and any worth handed to it, it answers true, and the cake reads afterwards as before. No condition. -/
theorem fnExactCakeMark_holds : Rows.FnExactCakeMarkSaid :=
  OpenClaim.holds_of_wide 4 Try.f4 rfl rfl rfl rfl rfl rfl rfl ⟨rfl, rfl, rfl, rfl, rfl⟩ rfl rfl rfl rfl rfl (by kernel_rfl) Try.func4 (by kernel_rfl)
    (of_decide_eq_true (by kernel_rfl)) (by unfold Func.isWrapper; first | (rw [if_pos (by decide +kernel)]; kernel_rfl) | (rw [if_neg (by decide +kernel)]; exact ⟨rfl, rfl⟩))
    (fun os started H enc _ => fnExactCakeMark_lifted os started H enc)

end Go.Proofs.Ytejlkmepnamodaa
