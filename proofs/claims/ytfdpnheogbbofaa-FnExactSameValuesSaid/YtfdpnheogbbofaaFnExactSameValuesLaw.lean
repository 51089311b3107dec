/-
  What the law FnExactSameValues answers over an abstract heap: true, for every input.
-/
import Derived.Test.YtfdpnheogbbofaaFnExactSameValuesBk1
namespace Go.Am
open Go.Proofs
set_option linter.unusedSimpArgs false
set_option linter.unusedVariables false

set_option maxHeartbeats 4000000 in
set_option maxRecDepth 10000 in
theorem fnExactSameValues_ret (p q p2 q2 : Int) (xs ys : List Int) (v w : Value) (h : AHeap) (hv : Ints h v xs) (hw : Ints h w ys) (hl : xs.length ≤ 9223372036854775807) (hl2 : ys.length ≤ 9223372036854775807) : Ret Try.prog 4 [.agg #[i64 p, i64 q, v], .agg #[i64 p2, i64 q2, w]] h (.bool true) h := by
  refine ret_of (.prim rfl) ?_
  refine tri_of_body Try.func4 rfl (by kernel_rfl) (by show 2 ≤ 45; decide) ?_
  refine awp_seq ?_
  refine awp_region rfl ?_
  refine a_do rfl (o_boxN (n := 3) (by conv => lhs; whnf) (by exact (rfl : _ = [_, _, _])) (by rfl) (fun k2 hk2 => ?_))
  try simp at hk2
  refine a_do rfl (o_boxN (n := 3) (by conv => lhs; whnf) (by exact (rfl : _ = [_, _, _])) (by rfl) (fun k4 hk4 => ?_))
  try simp at hk4
  refine a_do rfl (o_assign (by conv => lhs; whnf) ?_)
  refine a_end ?_
  refine awp_seq ?_
  refine awp_region rfl ?_
  refine a_do rfl (o_assign (by conv => lhs; whnf) ?_)
  refine a_end ?_
  refine awp_seq ?_
  refine awp_region rfl ?_
  refine a_do rfl (o_loadAgg Try.underlying31 rfl ty31 (by conv => lhs; whnf) (by repeat (first | assumption | exact lk_last (by (try simp only [List.length_append, List.length_cons, List.length_nil, List.length_set]); omega) | apply lk_prev)) (by rfl) (by exact (rfl : _ = [_, _, _])) (by rfl) ?_)
  refine a_do rfl (o_move (by conv => lhs; whnf) ?_)
  refine a_do rfl (o_callF (lmap_cons (by conv => lhs; whnf) (lmap_cons (by conv => lhs; whnf) lmap_nil)) (Ret.to (szValues_ret _ _ _ _ _ _ (by repeat (first | assumption | apply Ints.app)) (by omega) (by omega) (by omega)) ?_))
  refine a_do rfl (o_assign (by conv => lhs; whnf) ?_)
  refine a_end ?_
  refine awp_seq ?_
  refine awp_seq ?_
  refine awp_region rfl ?_
  refine a_do rfl (o_move (by conv => lhs; whnf) ?_)
  refine a_do rfl (o_lss (by conv => lhs; whnf) (by conv => lhs; whnf) (fun c5 => ?_) (fun c5 => ?_))
  ·
    refine a_end ?_
    refine awp_condT (by conv => lhs; whnf) ?_
    refine awp_seq ?_
    refine awp_region rfl ?_
    refine a_do rfl (o_assign (by conv => lhs; whnf) ?_)
    refine a_end ?_
    refine awp_ret ?_
    refine ⟨.inl rfl, [_], ⟨ares_tmp (by conv => lhs; whnf), trivial⟩, ?_⟩
    exact ⟨by first | rfl | (exfalso; simp_all; done), (by repeat (first | exact Grown.refl _ | refine Grown.push ?_ _))⟩
  ·
    have hz := szL_spec c5
    refine a_end ?_
    refine awp_condF (by conv => lhs; whnf) ?_
    refine awp_skip ?_
    refine awp_seq ?_
    refine awp_region rfl ?_
    refine a_do rfl (o_loadAgg Try.underlying31 rfl ty31 (by conv => lhs; whnf) (by repeat (first | assumption | exact lk_last (by (try simp only [List.length_append, List.length_cons, List.length_nil, List.length_set]); omega) | apply lk_prev)) (by rfl) (by exact (rfl : _ = [_, _, _])) (by rfl) ?_)
    refine a_do rfl (o_move (by conv => lhs; whnf) ?_)
    refine a_do rfl (o_callF (lmap_cons (by conv => lhs; whnf) (lmap_cons (by conv => lhs; whnf) lmap_nil)) (Ret.to (szValues_ret _ _ _ _ _ _ (by repeat (first | assumption | apply Ints.app)) (by omega) (by omega) (by omega)) ?_))
    refine a_do rfl (o_assign (by conv => lhs; whnf) ?_)
    refine a_end ?_
    refine awp_seq ?_
    refine awp_seq ?_
    refine awp_region rfl ?_
    refine a_do rfl (o_move (by conv => lhs; whnf) ?_)
    refine a_do rfl (o_lss (by conv => lhs; whnf) (by conv => lhs; whnf) (fun c6 => ?_) (fun c6 => ?_))
    ·
      refine a_end ?_
      refine awp_condT (by conv => lhs; whnf) ?_
      refine awp_seq ?_
      refine awp_region rfl ?_
      refine a_do rfl (o_assign (by conv => lhs; whnf) ?_)
      refine a_end ?_
      refine awp_ret ?_
      refine ⟨.inl rfl, [_], ⟨ares_tmp (by conv => lhs; whnf), trivial⟩, ?_⟩
      exact ⟨by first | rfl | (exfalso; simp_all; done), (by repeat (first | exact Grown.refl _ | refine Grown.push ?_ _))⟩
    ·
      have hz2 := szL_spec c6
      refine a_end ?_
      refine awp_condF (by conv => lhs; whnf) ?_
      refine awp_skip ?_
      refine awp_seq ?_
      refine awp_draw Try_mixed (by kernel_rfl) rfl ?_
      refine d_do rfl (o_loadAgg Try.underlying31 rfl ty31 (by conv => lhs; whnf) (by repeat (first | assumption | exact lk_last (by (try simp only [List.length_append, List.length_cons, List.length_nil, List.length_set]); omega) | apply lk_prev)) (by rfl) (by exact (rfl : _ = [_, _, _])) (by rfl) ⟨rfl, rfl⟩) (by first | exact .prim rfl | (apply within_ptr; repeat (first | assumption | exact lk_last (by (try simp only [List.length_append, List.length_cons, List.length_nil, List.length_set]); omega) | apply lk_prev)) | (apply within_sl; repeat (first | assumption | exact lk_last (by (try simp only [List.length_append, List.length_cons, List.length_nil, List.length_set]); omega) | apply lk_prev)) | (apply Within.agg3 <;> (first | exact .prim rfl | (apply within_ptr; repeat (first | assumption | exact lk_last (by (try simp only [List.length_append, List.length_cons, List.length_nil, List.length_set]); omega) | apply lk_prev)) | (apply within_sl; repeat (first | assumption | exact lk_last (by (try simp only [List.length_append, List.length_cons, List.length_nil, List.length_set]); omega) | apply lk_prev)) | (apply Ints.within; repeat (first | assumption | apply Ints.app)))) | (apply Within.agg2 <;> (first | exact .prim rfl | (apply within_ptr; repeat (first | assumption | exact lk_last (by (try simp only [List.length_append, List.length_cons, List.length_nil, List.length_set]); omega) | apply lk_prev)) | (apply within_sl; repeat (first | assumption | exact lk_last (by (try simp only [List.length_append, List.length_cons, List.length_nil, List.length_set]); omega) | apply lk_prev)) | (apply Ints.within; repeat (first | assumption | apply Ints.app)))) | (apply Ints.within; repeat (first | assumption | apply Ints.app))) ?_
      refine d_callN rfl (lmap_cons (by conv => lhs; whnf) lmap_nil) (toValues_ret _ _ _ _ _ (by repeat (first | assumption | apply Ints.app)) (by omega)) (by exact .agg3 (.prim rfl) (.prim rfl) (.slice (by (try simp only [List.length_append, List.length_cons, List.length_nil, List.length_set]); omega))) (by simp [lst, isPrim]) (fun k7 hk7 hgk7 => ?_)
      try simp at hk7
      have hIk7 := Ints.own hgk7 rfl
      refine d_do rfl (o_loadAgg Try.underlying31 rfl ty31 (by conv => lhs; whnf) (by repeat (first | assumption | exact lk_last (by (try simp only [List.length_append, List.length_cons, List.length_nil, List.length_set]); omega) | apply lk_prev)) (by rfl) (by exact (rfl : _ = [_, _, _])) (by rfl) ⟨rfl, rfl⟩) (by first | exact .prim rfl | (apply within_ptr; repeat (first | assumption | exact lk_last (by (try simp only [List.length_append, List.length_cons, List.length_nil, List.length_set]); omega) | apply lk_prev)) | (apply within_sl; repeat (first | assumption | exact lk_last (by (try simp only [List.length_append, List.length_cons, List.length_nil, List.length_set]); omega) | apply lk_prev)) | (apply Within.agg3 <;> (first | exact .prim rfl | (apply within_ptr; repeat (first | assumption | exact lk_last (by (try simp only [List.length_append, List.length_cons, List.length_nil, List.length_set]); omega) | apply lk_prev)) | (apply within_sl; repeat (first | assumption | exact lk_last (by (try simp only [List.length_append, List.length_cons, List.length_nil, List.length_set]); omega) | apply lk_prev)) | (apply Ints.within; repeat (first | assumption | apply Ints.app)))) | (apply Within.agg2 <;> (first | exact .prim rfl | (apply within_ptr; repeat (first | assumption | exact lk_last (by (try simp only [List.length_append, List.length_cons, List.length_nil, List.length_set]); omega) | apply lk_prev)) | (apply within_sl; repeat (first | assumption | exact lk_last (by (try simp only [List.length_append, List.length_cons, List.length_nil, List.length_set]); omega) | apply lk_prev)) | (apply Ints.within; repeat (first | assumption | apply Ints.app)))) | (apply Ints.within; repeat (first | assumption | apply Ints.app))) ?_
      refine d_callN rfl (lmap_cons (by conv => lhs; whnf) lmap_nil) (toValues_ret _ _ _ _ _ (by repeat (first | assumption | apply Ints.app)) (by omega)) (by exact .agg3 (.prim rfl) (.prim rfl) (.slice (by (try simp only [List.length_append, List.length_cons, List.length_nil, List.length_set]); omega))) (by simp [lst, isPrim]) (fun k8 hk8 hgk8 => ?_)
      try simp at hk8
      have hIk8 := Ints.own hgk8 rfl
      refine d_callB rfl (lmap_cons (by conv => lhs; whnf) (lmap_cons (by conv => lhs; whnf) lmap_nil)) (specSameValues_ret _ _ _ _ _ _ _ _ _ (by repeat (first | assumption | apply Ints.app)) (by repeat (first | assumption | apply Ints.app)) (by omega)) (fun c9 => ?_) (fun c9 => ?_)
      ·
        refine d_do rfl (o_assign (by conv => lhs; whnf) ⟨rfl, rfl⟩) (by first | exact .prim rfl | (apply within_ptr; repeat (first | assumption | exact lk_last (by (try simp only [List.length_append, List.length_cons, List.length_nil, List.length_set]); omega) | apply lk_prev)) | (apply within_sl; repeat (first | assumption | exact lk_last (by (try simp only [List.length_append, List.length_cons, List.length_nil, List.length_set]); omega) | apply lk_prev)) | (apply Within.agg3 <;> (first | exact .prim rfl | (apply within_ptr; repeat (first | assumption | exact lk_last (by (try simp only [List.length_append, List.length_cons, List.length_nil, List.length_set]); omega) | apply lk_prev)) | (apply within_sl; repeat (first | assumption | exact lk_last (by (try simp only [List.length_append, List.length_cons, List.length_nil, List.length_set]); omega) | apply lk_prev)) | (apply Ints.within; repeat (first | assumption | apply Ints.app)))) | (apply Within.agg2 <;> (first | exact .prim rfl | (apply within_ptr; repeat (first | assumption | exact lk_last (by (try simp only [List.length_append, List.length_cons, List.length_nil, List.length_set]); omega) | apply lk_prev)) | (apply within_sl; repeat (first | assumption | exact lk_last (by (try simp only [List.length_append, List.length_cons, List.length_nil, List.length_set]); omega) | apply lk_prev)) | (apply Ints.within; repeat (first | assumption | apply Ints.app)))) | (apply Ints.within; repeat (first | assumption | apply Ints.app))) ?_
        refine d_end ?_
        refine awp_seq ?_
        refine awp_region rfl ?_
        refine a_do rfl (o_loadAgg Try.underlying31 rfl ty31 (by conv => lhs; whnf) (by repeat (first | assumption | exact lk_last (by (try simp only [List.length_append, List.length_cons, List.length_nil, List.length_set]); omega) | apply lk_prev)) (by rfl) (by exact (rfl : _ = [_, _, _])) (by rfl) ?_)
        refine a_do rfl (o_callF (lmap_cons (by conv => lhs; whnf) lmap_nil) (RetN.toN (toValues_ret _ _ _ _ _ (by repeat (first | assumption | apply Ints.app)) (by omega)) (fun k10 hk10 hgk10 => ?_)))
        try simp at hk10
        have hIk10 := Ints.own hgk10 rfl
        refine a_do rfl (o_allocN (n := 3) ty34 rfl (by exact (rfl : _ = [_, _, _])) (by rfl) (fun k11 hk11 => ?_))
        try simp at hk11
        refine a_do rfl (o_storeVAgg ty34 (by conv => lhs; whnf) (by repeat (first | assumption | exact lk_last (by (try simp only [List.length_append, List.length_cons, List.length_nil, List.length_set]); omega) | apply lk_prev)) (by rfl) (by rfl) (by rfl) (by conv => lhs; whnf) (by rfl) (by rfl) (by rfl) (by first | exact (rfl : _ = [_]) | exact (rfl : _ = [_, _]) | exact (rfl : _ = [_, _, _]) | exact (rfl : _ = [_, _, _, _]) | rfl) (by repeat (first | exact set_last (by (try simp only [List.length_append, List.length_cons, List.length_nil, List.length_set]); omega) | (apply set_step; (try simp only [List.length_append, List.length_cons, List.length_nil, List.length_set]); omega))) ?_)
        refine a_end ?_
        refine awp_seq ?_
        refine awp_region rfl ?_
        refine a_do rfl (o_loadAgg Try.underlying31 rfl ty31 (by conv => lhs; whnf) (by repeat (first | assumption | exact lk_last (by (try simp only [List.length_append, List.length_cons, List.length_nil, List.length_set]); omega) | apply lk_prev)) (by rfl) (by exact (rfl : _ = [_, _, _])) (by rfl) ?_)
        refine a_do rfl (o_callF (lmap_cons (by conv => lhs; whnf) lmap_nil) (RetN.toN (toValues_ret _ _ _ _ _ (by repeat (first | assumption | apply Ints.app)) (by omega)) (fun k12 hk12 hgk12 => ?_)))
        try simp at hk12
        have hIk12 := Ints.own hgk12 rfl
        refine a_do rfl (o_allocN (n := 3) ty34 rfl (by exact (rfl : _ = [_, _, _])) (by rfl) (fun k13 hk13 => ?_))
        try simp at hk13
        refine a_do rfl (o_storeVAgg ty34 (by conv => lhs; whnf) (by repeat (first | assumption | exact lk_last (by (try simp only [List.length_append, List.length_cons, List.length_nil, List.length_set]); omega) | apply lk_prev)) (by rfl) (by rfl) (by rfl) (by conv => lhs; whnf) (by rfl) (by rfl) (by rfl) (by first | exact (rfl : _ = [_]) | exact (rfl : _ = [_, _]) | exact (rfl : _ = [_, _, _]) | exact (rfl : _ = [_, _, _, _]) | rfl) (by repeat (first | exact set_last (by (try simp only [List.length_append, List.length_cons, List.length_nil, List.length_set]); omega) | (apply set_step; (try simp only [List.length_append, List.length_cons, List.length_nil, List.length_set]); omega))) ?_)
        refine a_end ?_
        refine awp_seq ?_
        refine awp_region rfl ?_
        refine a_do rfl (o_loadAgg Try.underlying34 rfl ty34 (by conv => lhs; whnf) (by repeat (first | assumption | exact lk_last (by (try simp only [List.length_append, List.length_cons, List.length_nil, List.length_set]); omega) | apply lk_prev)) (by rfl) (by exact (rfl : _ = [_, _, _])) (by rfl) ?_)
        refine a_do rfl (o_loadAgg Try.underlying34 rfl ty34 (by conv => lhs; whnf) (by repeat (first | assumption | exact lk_last (by (try simp only [List.length_append, List.length_cons, List.length_nil, List.length_set]); omega) | apply lk_prev)) (by rfl) (by exact (rfl : _ = [_, _, _])) (by rfl) ?_)
        refine a_do rfl (o_callF (lmap_cons (by conv => lhs; whnf) (lmap_cons (by conv => lhs; whnf) lmap_nil)) (Ret.toB (implSameValues_ret _ _ _ _ _ _ _ _ _ (by repeat (first | assumption | apply Ints.app)) (by repeat (first | assumption | apply Ints.app)) (by omega)) (fun c14 => ?_) (fun c14 => ?_)))
        ·
          refine a_do rfl (o_assign (by conv => lhs; whnf) ?_)
          refine a_end ?_
          refine awp_seq ?_
          refine awp_seq ?_
          refine awp_region rfl ?_
          refine a_do rfl (o_move (by conv => lhs; whnf) ?_)
          refine a_do rfl (o_move (by conv => lhs; whnf) ?_)
          refine a_do rfl (o_boolNeL (b := false) Try.underlying4 (by conv => lhs; whnf) (by conv => lhs; whnf) (by rfl) ?_)
          refine a_end ?_
          refine awp_condF (by conv => lhs; whnf) ?_
          refine awp_skip ?_
          refine awp_seq ?_
          refine awp_seq ?_
          refine awp_draw Try_mixed (by kernel_rfl) rfl ?_
          refine d_do rfl (o_loadAgg Try.underlying34 rfl ty34 (by conv => lhs; whnf) (by repeat (first | assumption | exact lk_last (by (try simp only [List.length_append, List.length_cons, List.length_nil, List.length_set]); omega) | apply lk_prev)) (by rfl) (by exact (rfl : _ = [_, _, _])) (by rfl) ⟨rfl, rfl⟩) (by first | exact .prim rfl | (apply within_ptr; repeat (first | assumption | exact lk_last (by (try simp only [List.length_append, List.length_cons, List.length_nil, List.length_set]); omega) | apply lk_prev)) | (apply within_sl; repeat (first | assumption | exact lk_last (by (try simp only [List.length_append, List.length_cons, List.length_nil, List.length_set]); omega) | apply lk_prev)) | (apply Within.agg3 <;> (first | exact .prim rfl | (apply within_ptr; repeat (first | assumption | exact lk_last (by (try simp only [List.length_append, List.length_cons, List.length_nil, List.length_set]); omega) | apply lk_prev)) | (apply within_sl; repeat (first | assumption | exact lk_last (by (try simp only [List.length_append, List.length_cons, List.length_nil, List.length_set]); omega) | apply lk_prev)) | (apply Ints.within; repeat (first | assumption | apply Ints.app)))) | (apply Within.agg2 <;> (first | exact .prim rfl | (apply within_ptr; repeat (first | assumption | exact lk_last (by (try simp only [List.length_append, List.length_cons, List.length_nil, List.length_set]); omega) | apply lk_prev)) | (apply within_sl; repeat (first | assumption | exact lk_last (by (try simp only [List.length_append, List.length_cons, List.length_nil, List.length_set]); omega) | apply lk_prev)) | (apply Ints.within; repeat (first | assumption | apply Ints.app)))) | (apply Ints.within; repeat (first | assumption | apply Ints.app))) ?_
          refine d_do rfl (o_loadAgg Try.underlying31 rfl ty31 (by conv => lhs; whnf) (by repeat (first | assumption | exact lk_last (by (try simp only [List.length_append, List.length_cons, List.length_nil, List.length_set]); omega) | apply lk_prev)) (by rfl) (by exact (rfl : _ = [_, _, _])) (by rfl) ⟨rfl, rfl⟩) (by first | exact .prim rfl | (apply within_ptr; repeat (first | assumption | exact lk_last (by (try simp only [List.length_append, List.length_cons, List.length_nil, List.length_set]); omega) | apply lk_prev)) | (apply within_sl; repeat (first | assumption | exact lk_last (by (try simp only [List.length_append, List.length_cons, List.length_nil, List.length_set]); omega) | apply lk_prev)) | (apply Within.agg3 <;> (first | exact .prim rfl | (apply within_ptr; repeat (first | assumption | exact lk_last (by (try simp only [List.length_append, List.length_cons, List.length_nil, List.length_set]); omega) | apply lk_prev)) | (apply within_sl; repeat (first | assumption | exact lk_last (by (try simp only [List.length_append, List.length_cons, List.length_nil, List.length_set]); omega) | apply lk_prev)) | (apply Ints.within; repeat (first | assumption | apply Ints.app)))) | (apply Within.agg2 <;> (first | exact .prim rfl | (apply within_ptr; repeat (first | assumption | exact lk_last (by (try simp only [List.length_append, List.length_cons, List.length_nil, List.length_set]); omega) | apply lk_prev)) | (apply within_sl; repeat (first | assumption | exact lk_last (by (try simp only [List.length_append, List.length_cons, List.length_nil, List.length_set]); omega) | apply lk_prev)) | (apply Ints.within; repeat (first | assumption | apply Ints.app)))) | (apply Ints.within; repeat (first | assumption | apply Ints.app))) ?_
          refine d_callN rfl (lmap_cons (by conv => lhs; whnf) lmap_nil) (toValues_ret _ _ _ _ _ (by repeat (first | assumption | apply Ints.app)) (by omega)) (by exact .agg3 (.prim rfl) (.prim rfl) (.slice (by (try simp only [List.length_append, List.length_cons, List.length_nil, List.length_set]); omega))) (by simp [lst, isPrim]) (fun k15 hk15 hgk15 => ?_)
          try simp at hk15
          have hIk15 := Ints.own hgk15 rfl
          refine d_callB rfl (lmap_cons (by conv => lhs; whnf) (lmap_cons (by conv => lhs; whnf) lmap_nil)) (eqValues_ret _ _ _ _ _ _ _ _ _ (by repeat (first | assumption | apply Ints.app)) (by repeat (first | assumption | apply Ints.app)) (by omega)) (fun c16 => ?_) (fun c16 => ?_)
          ·
            refine d_do rfl (o_notT (by conv => lhs; whnf) ⟨rfl, rfl⟩) (by first | exact .prim rfl | (apply within_ptr; repeat (first | assumption | exact lk_last (by (try simp only [List.length_append, List.length_cons, List.length_nil, List.length_set]); omega) | apply lk_prev)) | (apply within_sl; repeat (first | assumption | exact lk_last (by (try simp only [List.length_append, List.length_cons, List.length_nil, List.length_set]); omega) | apply lk_prev)) | (apply Within.agg3 <;> (first | exact .prim rfl | (apply within_ptr; repeat (first | assumption | exact lk_last (by (try simp only [List.length_append, List.length_cons, List.length_nil, List.length_set]); omega) | apply lk_prev)) | (apply within_sl; repeat (first | assumption | exact lk_last (by (try simp only [List.length_append, List.length_cons, List.length_nil, List.length_set]); omega) | apply lk_prev)) | (apply Ints.within; repeat (first | assumption | apply Ints.app)))) | (apply Within.agg2 <;> (first | exact .prim rfl | (apply within_ptr; repeat (first | assumption | exact lk_last (by (try simp only [List.length_append, List.length_cons, List.length_nil, List.length_set]); omega) | apply lk_prev)) | (apply within_sl; repeat (first | assumption | exact lk_last (by (try simp only [List.length_append, List.length_cons, List.length_nil, List.length_set]); omega) | apply lk_prev)) | (apply Ints.within; repeat (first | assumption | apply Ints.app)))) | (apply Ints.within; repeat (first | assumption | apply Ints.app))) ?_
            refine d_end ?_
            refine awp_condF (by conv => lhs; whnf) ?_
            refine awp_skip ?_
            refine awp_seq ?_
            refine awp_seq ?_
            refine awp_draw Try_mixed (by kernel_rfl) rfl ?_
            refine d_do rfl (o_loadAgg Try.underlying34 rfl ty34 (by conv => lhs; whnf) (by repeat (first | assumption | exact lk_last (by (try simp only [List.length_append, List.length_cons, List.length_nil, List.length_set]); omega) | apply lk_prev)) (by rfl) (by exact (rfl : _ = [_, _, _])) (by rfl) ⟨rfl, rfl⟩) (by first | exact .prim rfl | (apply within_ptr; repeat (first | assumption | exact lk_last (by (try simp only [List.length_append, List.length_cons, List.length_nil, List.length_set]); omega) | apply lk_prev)) | (apply within_sl; repeat (first | assumption | exact lk_last (by (try simp only [List.length_append, List.length_cons, List.length_nil, List.length_set]); omega) | apply lk_prev)) | (apply Within.agg3 <;> (first | exact .prim rfl | (apply within_ptr; repeat (first | assumption | exact lk_last (by (try simp only [List.length_append, List.length_cons, List.length_nil, List.length_set]); omega) | apply lk_prev)) | (apply within_sl; repeat (first | assumption | exact lk_last (by (try simp only [List.length_append, List.length_cons, List.length_nil, List.length_set]); omega) | apply lk_prev)) | (apply Ints.within; repeat (first | assumption | apply Ints.app)))) | (apply Within.agg2 <;> (first | exact .prim rfl | (apply within_ptr; repeat (first | assumption | exact lk_last (by (try simp only [List.length_append, List.length_cons, List.length_nil, List.length_set]); omega) | apply lk_prev)) | (apply within_sl; repeat (first | assumption | exact lk_last (by (try simp only [List.length_append, List.length_cons, List.length_nil, List.length_set]); omega) | apply lk_prev)) | (apply Ints.within; repeat (first | assumption | apply Ints.app)))) | (apply Ints.within; repeat (first | assumption | apply Ints.app))) ?_
            refine d_do rfl (o_loadAgg Try.underlying31 rfl ty31 (by conv => lhs; whnf) (by repeat (first | assumption | exact lk_last (by (try simp only [List.length_append, List.length_cons, List.length_nil, List.length_set]); omega) | apply lk_prev)) (by rfl) (by exact (rfl : _ = [_, _, _])) (by rfl) ⟨rfl, rfl⟩) (by first | exact .prim rfl | (apply within_ptr; repeat (first | assumption | exact lk_last (by (try simp only [List.length_append, List.length_cons, List.length_nil, List.length_set]); omega) | apply lk_prev)) | (apply within_sl; repeat (first | assumption | exact lk_last (by (try simp only [List.length_append, List.length_cons, List.length_nil, List.length_set]); omega) | apply lk_prev)) | (apply Within.agg3 <;> (first | exact .prim rfl | (apply within_ptr; repeat (first | assumption | exact lk_last (by (try simp only [List.length_append, List.length_cons, List.length_nil, List.length_set]); omega) | apply lk_prev)) | (apply within_sl; repeat (first | assumption | exact lk_last (by (try simp only [List.length_append, List.length_cons, List.length_nil, List.length_set]); omega) | apply lk_prev)) | (apply Ints.within; repeat (first | assumption | apply Ints.app)))) | (apply Within.agg2 <;> (first | exact .prim rfl | (apply within_ptr; repeat (first | assumption | exact lk_last (by (try simp only [List.length_append, List.length_cons, List.length_nil, List.length_set]); omega) | apply lk_prev)) | (apply within_sl; repeat (first | assumption | exact lk_last (by (try simp only [List.length_append, List.length_cons, List.length_nil, List.length_set]); omega) | apply lk_prev)) | (apply Ints.within; repeat (first | assumption | apply Ints.app)))) | (apply Ints.within; repeat (first | assumption | apply Ints.app))) ?_
            refine d_callN rfl (lmap_cons (by conv => lhs; whnf) lmap_nil) (toValues_ret _ _ _ _ _ (by repeat (first | assumption | apply Ints.app)) (by omega)) (by exact .agg3 (.prim rfl) (.prim rfl) (.slice (by (try simp only [List.length_append, List.length_cons, List.length_nil, List.length_set]); omega))) (by simp [lst, isPrim]) (fun k17 hk17 hgk17 => ?_)
            try simp at hk17
            have hIk17 := Ints.own hgk17 rfl
            refine d_callB rfl (lmap_cons (by conv => lhs; whnf) (lmap_cons (by conv => lhs; whnf) lmap_nil)) (eqValues_ret _ _ _ _ _ _ _ _ _ (by repeat (first | assumption | apply Ints.app)) (by repeat (first | assumption | apply Ints.app)) (by omega)) (fun c18 => ?_) (fun c18 => ?_)
            ·
              refine d_do rfl (o_notT (by conv => lhs; whnf) ⟨rfl, rfl⟩) (by first | exact .prim rfl | (apply within_ptr; repeat (first | assumption | exact lk_last (by (try simp only [List.length_append, List.length_cons, List.length_nil, List.length_set]); omega) | apply lk_prev)) | (apply within_sl; repeat (first | assumption | exact lk_last (by (try simp only [List.length_append, List.length_cons, List.length_nil, List.length_set]); omega) | apply lk_prev)) | (apply Within.agg3 <;> (first | exact .prim rfl | (apply within_ptr; repeat (first | assumption | exact lk_last (by (try simp only [List.length_append, List.length_cons, List.length_nil, List.length_set]); omega) | apply lk_prev)) | (apply within_sl; repeat (first | assumption | exact lk_last (by (try simp only [List.length_append, List.length_cons, List.length_nil, List.length_set]); omega) | apply lk_prev)) | (apply Ints.within; repeat (first | assumption | apply Ints.app)))) | (apply Within.agg2 <;> (first | exact .prim rfl | (apply within_ptr; repeat (first | assumption | exact lk_last (by (try simp only [List.length_append, List.length_cons, List.length_nil, List.length_set]); omega) | apply lk_prev)) | (apply within_sl; repeat (first | assumption | exact lk_last (by (try simp only [List.length_append, List.length_cons, List.length_nil, List.length_set]); omega) | apply lk_prev)) | (apply Ints.within; repeat (first | assumption | apply Ints.app)))) | (apply Ints.within; repeat (first | assumption | apply Ints.app))) ?_
              refine d_end ?_
              refine awp_condF (by conv => lhs; whnf) ?_
              refine awp_skip ?_
              refine awp_seq ?_
              refine awp_region rfl ?_
              refine a_do rfl (o_assign (by conv => lhs; whnf) ?_)
              refine a_end ?_
              refine awp_ret ?_
              refine ⟨.inl rfl, [_], ⟨ares_tmp (by conv => lhs; whnf), trivial⟩, ?_⟩
              exact ⟨by first | rfl | (exfalso; simp_all; done), (by repeat (first | exact Grown.refl _ | refine Grown.push ?_ _))⟩
            ·
              refine d_do rfl (o_notF (by conv => lhs; whnf) ⟨rfl, rfl⟩) (by first | exact .prim rfl | (apply within_ptr; repeat (first | assumption | exact lk_last (by (try simp only [List.length_append, List.length_cons, List.length_nil, List.length_set]); omega) | apply lk_prev)) | (apply within_sl; repeat (first | assumption | exact lk_last (by (try simp only [List.length_append, List.length_cons, List.length_nil, List.length_set]); omega) | apply lk_prev)) | (apply Within.agg3 <;> (first | exact .prim rfl | (apply within_ptr; repeat (first | assumption | exact lk_last (by (try simp only [List.length_append, List.length_cons, List.length_nil, List.length_set]); omega) | apply lk_prev)) | (apply within_sl; repeat (first | assumption | exact lk_last (by (try simp only [List.length_append, List.length_cons, List.length_nil, List.length_set]); omega) | apply lk_prev)) | (apply Ints.within; repeat (first | assumption | apply Ints.app)))) | (apply Within.agg2 <;> (first | exact .prim rfl | (apply within_ptr; repeat (first | assumption | exact lk_last (by (try simp only [List.length_append, List.length_cons, List.length_nil, List.length_set]); omega) | apply lk_prev)) | (apply within_sl; repeat (first | assumption | exact lk_last (by (try simp only [List.length_append, List.length_cons, List.length_nil, List.length_set]); omega) | apply lk_prev)) | (apply Ints.within; repeat (first | assumption | apply Ints.app)))) | (apply Ints.within; repeat (first | assumption | apply Ints.app))) ?_
              refine d_end ?_
              refine awp_condT (by conv => lhs; whnf) ?_
              refine awp_seq ?_
              refine awp_region rfl ?_
              refine a_do rfl (o_assign (by conv => lhs; whnf) ?_)
              refine a_end ?_
              refine awp_ret ?_
              refine ⟨.inl rfl, [_], ⟨ares_tmp (by conv => lhs; whnf), trivial⟩, ?_⟩
              exact ⟨by first | rfl | (exfalso; simp_all; done), (by repeat (first | exact Grown.refl _ | refine Grown.push ?_ _))⟩
          ·
            refine d_do rfl (o_notF (by conv => lhs; whnf) ⟨rfl, rfl⟩) (by first | exact .prim rfl | (apply within_ptr; repeat (first | assumption | exact lk_last (by (try simp only [List.length_append, List.length_cons, List.length_nil, List.length_set]); omega) | apply lk_prev)) | (apply within_sl; repeat (first | assumption | exact lk_last (by (try simp only [List.length_append, List.length_cons, List.length_nil, List.length_set]); omega) | apply lk_prev)) | (apply Within.agg3 <;> (first | exact .prim rfl | (apply within_ptr; repeat (first | assumption | exact lk_last (by (try simp only [List.length_append, List.length_cons, List.length_nil, List.length_set]); omega) | apply lk_prev)) | (apply within_sl; repeat (first | assumption | exact lk_last (by (try simp only [List.length_append, List.length_cons, List.length_nil, List.length_set]); omega) | apply lk_prev)) | (apply Ints.within; repeat (first | assumption | apply Ints.app)))) | (apply Within.agg2 <;> (first | exact .prim rfl | (apply within_ptr; repeat (first | assumption | exact lk_last (by (try simp only [List.length_append, List.length_cons, List.length_nil, List.length_set]); omega) | apply lk_prev)) | (apply within_sl; repeat (first | assumption | exact lk_last (by (try simp only [List.length_append, List.length_cons, List.length_nil, List.length_set]); omega) | apply lk_prev)) | (apply Ints.within; repeat (first | assumption | apply Ints.app)))) | (apply Ints.within; repeat (first | assumption | apply Ints.app))) ?_
            refine d_end ?_
            refine awp_condT (by conv => lhs; whnf) ?_
            refine awp_seq ?_
            refine awp_region rfl ?_
            refine a_do rfl (o_assign (by conv => lhs; whnf) ?_)
            refine a_end ?_
            refine awp_ret ?_
            refine ⟨.inl rfl, [_], ⟨ares_tmp (by conv => lhs; whnf), trivial⟩, ?_⟩
            exact ⟨by first | rfl | (exfalso; simp_all; done), (by repeat (first | exact Grown.refl _ | refine Grown.push ?_ _))⟩
        ·
          refine a_do rfl (o_assign (by conv => lhs; whnf) ?_)
          refine a_end ?_
          refine awp_seq ?_
          refine awp_seq ?_
          refine awp_region rfl ?_
          refine a_do rfl (o_move (by conv => lhs; whnf) ?_)
          refine a_do rfl (o_move (by conv => lhs; whnf) ?_)
          refine a_do rfl (o_boolNeL (b := true) Try.underlying4 (by conv => lhs; whnf) (by conv => lhs; whnf) (by rfl) ?_)
          refine a_end ?_
          refine awp_condT (by conv => lhs; whnf) ?_
          refine awp_seq ?_
          refine awp_region rfl ?_
          refine a_do rfl (o_assign (by conv => lhs; whnf) ?_)
          refine a_end ?_
          refine awp_ret ?_
          refine ⟨.inl rfl, [_], ⟨ares_tmp (by conv => lhs; whnf), trivial⟩, ?_⟩
          exact ⟨by first | rfl | (exfalso; simp_all; done), (by repeat (first | exact Grown.refl _ | refine Grown.push ?_ _))⟩
      ·
        refine d_do rfl (o_assign (by conv => lhs; whnf) ⟨rfl, rfl⟩) (by first | exact .prim rfl | (apply within_ptr; repeat (first | assumption | exact lk_last (by (try simp only [List.length_append, List.length_cons, List.length_nil, List.length_set]); omega) | apply lk_prev)) | (apply within_sl; repeat (first | assumption | exact lk_last (by (try simp only [List.length_append, List.length_cons, List.length_nil, List.length_set]); omega) | apply lk_prev)) | (apply Within.agg3 <;> (first | exact .prim rfl | (apply within_ptr; repeat (first | assumption | exact lk_last (by (try simp only [List.length_append, List.length_cons, List.length_nil, List.length_set]); omega) | apply lk_prev)) | (apply within_sl; repeat (first | assumption | exact lk_last (by (try simp only [List.length_append, List.length_cons, List.length_nil, List.length_set]); omega) | apply lk_prev)) | (apply Ints.within; repeat (first | assumption | apply Ints.app)))) | (apply Within.agg2 <;> (first | exact .prim rfl | (apply within_ptr; repeat (first | assumption | exact lk_last (by (try simp only [List.length_append, List.length_cons, List.length_nil, List.length_set]); omega) | apply lk_prev)) | (apply within_sl; repeat (first | assumption | exact lk_last (by (try simp only [List.length_append, List.length_cons, List.length_nil, List.length_set]); omega) | apply lk_prev)) | (apply Ints.within; repeat (first | assumption | apply Ints.app)))) | (apply Ints.within; repeat (first | assumption | apply Ints.app))) ?_
        refine d_end ?_
        refine awp_seq ?_
        refine awp_region rfl ?_
        refine a_do rfl (o_loadAgg Try.underlying31 rfl ty31 (by conv => lhs; whnf) (by repeat (first | assumption | exact lk_last (by (try simp only [List.length_append, List.length_cons, List.length_nil, List.length_set]); omega) | apply lk_prev)) (by rfl) (by exact (rfl : _ = [_, _, _])) (by rfl) ?_)
        refine a_do rfl (o_callF (lmap_cons (by conv => lhs; whnf) lmap_nil) (RetN.toN (toValues_ret _ _ _ _ _ (by repeat (first | assumption | apply Ints.app)) (by omega)) (fun k19 hk19 hgk19 => ?_)))
        try simp at hk19
        have hIk19 := Ints.own hgk19 rfl
        refine a_do rfl (o_allocN (n := 3) ty34 rfl (by exact (rfl : _ = [_, _, _])) (by rfl) (fun k20 hk20 => ?_))
        try simp at hk20
        refine a_do rfl (o_storeVAgg ty34 (by conv => lhs; whnf) (by repeat (first | assumption | exact lk_last (by (try simp only [List.length_append, List.length_cons, List.length_nil, List.length_set]); omega) | apply lk_prev)) (by rfl) (by rfl) (by rfl) (by conv => lhs; whnf) (by rfl) (by rfl) (by rfl) (by first | exact (rfl : _ = [_]) | exact (rfl : _ = [_, _]) | exact (rfl : _ = [_, _, _]) | exact (rfl : _ = [_, _, _, _]) | rfl) (by repeat (first | exact set_last (by (try simp only [List.length_append, List.length_cons, List.length_nil, List.length_set]); omega) | (apply set_step; (try simp only [List.length_append, List.length_cons, List.length_nil, List.length_set]); omega))) ?_)
        refine a_end ?_
        refine awp_seq ?_
        refine awp_region rfl ?_
        refine a_do rfl (o_loadAgg Try.underlying31 rfl ty31 (by conv => lhs; whnf) (by repeat (first | assumption | exact lk_last (by (try simp only [List.length_append, List.length_cons, List.length_nil, List.length_set]); omega) | apply lk_prev)) (by rfl) (by exact (rfl : _ = [_, _, _])) (by rfl) ?_)
        refine a_do rfl (o_callF (lmap_cons (by conv => lhs; whnf) lmap_nil) (RetN.toN (toValues_ret _ _ _ _ _ (by repeat (first | assumption | apply Ints.app)) (by omega)) (fun k21 hk21 hgk21 => ?_)))
        try simp at hk21
        have hIk21 := Ints.own hgk21 rfl
        refine a_do rfl (o_allocN (n := 3) ty34 rfl (by exact (rfl : _ = [_, _, _])) (by rfl) (fun k22 hk22 => ?_))
        try simp at hk22
        refine a_do rfl (o_storeVAgg ty34 (by conv => lhs; whnf) (by repeat (first | assumption | exact lk_last (by (try simp only [List.length_append, List.length_cons, List.length_nil, List.length_set]); omega) | apply lk_prev)) (by rfl) (by rfl) (by rfl) (by conv => lhs; whnf) (by rfl) (by rfl) (by rfl) (by first | exact (rfl : _ = [_]) | exact (rfl : _ = [_, _]) | exact (rfl : _ = [_, _, _]) | exact (rfl : _ = [_, _, _, _]) | rfl) (by repeat (first | exact set_last (by (try simp only [List.length_append, List.length_cons, List.length_nil, List.length_set]); omega) | (apply set_step; (try simp only [List.length_append, List.length_cons, List.length_nil, List.length_set]); omega))) ?_)
        refine a_end ?_
        refine awp_seq ?_
        refine awp_region rfl ?_
        refine a_do rfl (o_loadAgg Try.underlying34 rfl ty34 (by conv => lhs; whnf) (by repeat (first | assumption | exact lk_last (by (try simp only [List.length_append, List.length_cons, List.length_nil, List.length_set]); omega) | apply lk_prev)) (by rfl) (by exact (rfl : _ = [_, _, _])) (by rfl) ?_)
        refine a_do rfl (o_loadAgg Try.underlying34 rfl ty34 (by conv => lhs; whnf) (by repeat (first | assumption | exact lk_last (by (try simp only [List.length_append, List.length_cons, List.length_nil, List.length_set]); omega) | apply lk_prev)) (by rfl) (by exact (rfl : _ = [_, _, _])) (by rfl) ?_)
        refine a_do rfl (o_callF (lmap_cons (by conv => lhs; whnf) (lmap_cons (by conv => lhs; whnf) lmap_nil)) (Ret.toB (implSameValues_ret _ _ _ _ _ _ _ _ _ (by repeat (first | assumption | apply Ints.app)) (by repeat (first | assumption | apply Ints.app)) (by omega)) (fun c23 => ?_) (fun c23 => ?_)))
        ·
          refine a_do rfl (o_assign (by conv => lhs; whnf) ?_)
          refine a_end ?_
          refine awp_seq ?_
          refine awp_seq ?_
          refine awp_region rfl ?_
          refine a_do rfl (o_move (by conv => lhs; whnf) ?_)
          refine a_do rfl (o_move (by conv => lhs; whnf) ?_)
          refine a_do rfl (o_boolNeL (b := true) Try.underlying4 (by conv => lhs; whnf) (by conv => lhs; whnf) (by rfl) ?_)
          refine a_end ?_
          refine awp_condT (by conv => lhs; whnf) ?_
          refine awp_seq ?_
          refine awp_region rfl ?_
          refine a_do rfl (o_assign (by conv => lhs; whnf) ?_)
          refine a_end ?_
          refine awp_ret ?_
          refine ⟨.inl rfl, [_], ⟨ares_tmp (by conv => lhs; whnf), trivial⟩, ?_⟩
          exact ⟨by first | rfl | (exfalso; simp_all; done), (by repeat (first | exact Grown.refl _ | refine Grown.push ?_ _))⟩
        ·
          refine a_do rfl (o_assign (by conv => lhs; whnf) ?_)
          refine a_end ?_
          refine awp_seq ?_
          refine awp_seq ?_
          refine awp_region rfl ?_
          refine a_do rfl (o_move (by conv => lhs; whnf) ?_)
          refine a_do rfl (o_move (by conv => lhs; whnf) ?_)
          refine a_do rfl (o_boolNeL (b := false) Try.underlying4 (by conv => lhs; whnf) (by conv => lhs; whnf) (by rfl) ?_)
          refine a_end ?_
          refine awp_condF (by conv => lhs; whnf) ?_
          refine awp_skip ?_
          refine awp_seq ?_
          refine awp_seq ?_
          refine awp_draw Try_mixed (by kernel_rfl) rfl ?_
          refine d_do rfl (o_loadAgg Try.underlying34 rfl ty34 (by conv => lhs; whnf) (by repeat (first | assumption | exact lk_last (by (try simp only [List.length_append, List.length_cons, List.length_nil, List.length_set]); omega) | apply lk_prev)) (by rfl) (by exact (rfl : _ = [_, _, _])) (by rfl) ⟨rfl, rfl⟩) (by first | exact .prim rfl | (apply within_ptr; repeat (first | assumption | exact lk_last (by (try simp only [List.length_append, List.length_cons, List.length_nil, List.length_set]); omega) | apply lk_prev)) | (apply within_sl; repeat (first | assumption | exact lk_last (by (try simp only [List.length_append, List.length_cons, List.length_nil, List.length_set]); omega) | apply lk_prev)) | (apply Within.agg3 <;> (first | exact .prim rfl | (apply within_ptr; repeat (first | assumption | exact lk_last (by (try simp only [List.length_append, List.length_cons, List.length_nil, List.length_set]); omega) | apply lk_prev)) | (apply within_sl; repeat (first | assumption | exact lk_last (by (try simp only [List.length_append, List.length_cons, List.length_nil, List.length_set]); omega) | apply lk_prev)) | (apply Ints.within; repeat (first | assumption | apply Ints.app)))) | (apply Within.agg2 <;> (first | exact .prim rfl | (apply within_ptr; repeat (first | assumption | exact lk_last (by (try simp only [List.length_append, List.length_cons, List.length_nil, List.length_set]); omega) | apply lk_prev)) | (apply within_sl; repeat (first | assumption | exact lk_last (by (try simp only [List.length_append, List.length_cons, List.length_nil, List.length_set]); omega) | apply lk_prev)) | (apply Ints.within; repeat (first | assumption | apply Ints.app)))) | (apply Ints.within; repeat (first | assumption | apply Ints.app))) ?_
          refine d_do rfl (o_loadAgg Try.underlying31 rfl ty31 (by conv => lhs; whnf) (by repeat (first | assumption | exact lk_last (by (try simp only [List.length_append, List.length_cons, List.length_nil, List.length_set]); omega) | apply lk_prev)) (by rfl) (by exact (rfl : _ = [_, _, _])) (by rfl) ⟨rfl, rfl⟩) (by first | exact .prim rfl | (apply within_ptr; repeat (first | assumption | exact lk_last (by (try simp only [List.length_append, List.length_cons, List.length_nil, List.length_set]); omega) | apply lk_prev)) | (apply within_sl; repeat (first | assumption | exact lk_last (by (try simp only [List.length_append, List.length_cons, List.length_nil, List.length_set]); omega) | apply lk_prev)) | (apply Within.agg3 <;> (first | exact .prim rfl | (apply within_ptr; repeat (first | assumption | exact lk_last (by (try simp only [List.length_append, List.length_cons, List.length_nil, List.length_set]); omega) | apply lk_prev)) | (apply within_sl; repeat (first | assumption | exact lk_last (by (try simp only [List.length_append, List.length_cons, List.length_nil, List.length_set]); omega) | apply lk_prev)) | (apply Ints.within; repeat (first | assumption | apply Ints.app)))) | (apply Within.agg2 <;> (first | exact .prim rfl | (apply within_ptr; repeat (first | assumption | exact lk_last (by (try simp only [List.length_append, List.length_cons, List.length_nil, List.length_set]); omega) | apply lk_prev)) | (apply within_sl; repeat (first | assumption | exact lk_last (by (try simp only [List.length_append, List.length_cons, List.length_nil, List.length_set]); omega) | apply lk_prev)) | (apply Ints.within; repeat (first | assumption | apply Ints.app)))) | (apply Ints.within; repeat (first | assumption | apply Ints.app))) ?_
          refine d_callN rfl (lmap_cons (by conv => lhs; whnf) lmap_nil) (toValues_ret _ _ _ _ _ (by repeat (first | assumption | apply Ints.app)) (by omega)) (by exact .agg3 (.prim rfl) (.prim rfl) (.slice (by (try simp only [List.length_append, List.length_cons, List.length_nil, List.length_set]); omega))) (by simp [lst, isPrim]) (fun k24 hk24 hgk24 => ?_)
          try simp at hk24
          have hIk24 := Ints.own hgk24 rfl
          refine d_callB rfl (lmap_cons (by conv => lhs; whnf) (lmap_cons (by conv => lhs; whnf) lmap_nil)) (eqValues_ret _ _ _ _ _ _ _ _ _ (by repeat (first | assumption | apply Ints.app)) (by repeat (first | assumption | apply Ints.app)) (by omega)) (fun c25 => ?_) (fun c25 => ?_)
          ·
            refine d_do rfl (o_notT (by conv => lhs; whnf) ⟨rfl, rfl⟩) (by first | exact .prim rfl | (apply within_ptr; repeat (first | assumption | exact lk_last (by (try simp only [List.length_append, List.length_cons, List.length_nil, List.length_set]); omega) | apply lk_prev)) | (apply within_sl; repeat (first | assumption | exact lk_last (by (try simp only [List.length_append, List.length_cons, List.length_nil, List.length_set]); omega) | apply lk_prev)) | (apply Within.agg3 <;> (first | exact .prim rfl | (apply within_ptr; repeat (first | assumption | exact lk_last (by (try simp only [List.length_append, List.length_cons, List.length_nil, List.length_set]); omega) | apply lk_prev)) | (apply within_sl; repeat (first | assumption | exact lk_last (by (try simp only [List.length_append, List.length_cons, List.length_nil, List.length_set]); omega) | apply lk_prev)) | (apply Ints.within; repeat (first | assumption | apply Ints.app)))) | (apply Within.agg2 <;> (first | exact .prim rfl | (apply within_ptr; repeat (first | assumption | exact lk_last (by (try simp only [List.length_append, List.length_cons, List.length_nil, List.length_set]); omega) | apply lk_prev)) | (apply within_sl; repeat (first | assumption | exact lk_last (by (try simp only [List.length_append, List.length_cons, List.length_nil, List.length_set]); omega) | apply lk_prev)) | (apply Ints.within; repeat (first | assumption | apply Ints.app)))) | (apply Ints.within; repeat (first | assumption | apply Ints.app))) ?_
            refine d_end ?_
            refine awp_condF (by conv => lhs; whnf) ?_
            refine awp_skip ?_
            refine awp_seq ?_
            refine awp_seq ?_
            refine awp_draw Try_mixed (by kernel_rfl) rfl ?_
            refine d_do rfl (o_loadAgg Try.underlying34 rfl ty34 (by conv => lhs; whnf) (by repeat (first | assumption | exact lk_last (by (try simp only [List.length_append, List.length_cons, List.length_nil, List.length_set]); omega) | apply lk_prev)) (by rfl) (by exact (rfl : _ = [_, _, _])) (by rfl) ⟨rfl, rfl⟩) (by first | exact .prim rfl | (apply within_ptr; repeat (first | assumption | exact lk_last (by (try simp only [List.length_append, List.length_cons, List.length_nil, List.length_set]); omega) | apply lk_prev)) | (apply within_sl; repeat (first | assumption | exact lk_last (by (try simp only [List.length_append, List.length_cons, List.length_nil, List.length_set]); omega) | apply lk_prev)) | (apply Within.agg3 <;> (first | exact .prim rfl | (apply within_ptr; repeat (first | assumption | exact lk_last (by (try simp only [List.length_append, List.length_cons, List.length_nil, List.length_set]); omega) | apply lk_prev)) | (apply within_sl; repeat (first | assumption | exact lk_last (by (try simp only [List.length_append, List.length_cons, List.length_nil, List.length_set]); omega) | apply lk_prev)) | (apply Ints.within; repeat (first | assumption | apply Ints.app)))) | (apply Within.agg2 <;> (first | exact .prim rfl | (apply within_ptr; repeat (first | assumption | exact lk_last (by (try simp only [List.length_append, List.length_cons, List.length_nil, List.length_set]); omega) | apply lk_prev)) | (apply within_sl; repeat (first | assumption | exact lk_last (by (try simp only [List.length_append, List.length_cons, List.length_nil, List.length_set]); omega) | apply lk_prev)) | (apply Ints.within; repeat (first | assumption | apply Ints.app)))) | (apply Ints.within; repeat (first | assumption | apply Ints.app))) ?_
            refine d_do rfl (o_loadAgg Try.underlying31 rfl ty31 (by conv => lhs; whnf) (by repeat (first | assumption | exact lk_last (by (try simp only [List.length_append, List.length_cons, List.length_nil, List.length_set]); omega) | apply lk_prev)) (by rfl) (by exact (rfl : _ = [_, _, _])) (by rfl) ⟨rfl, rfl⟩) (by first | exact .prim rfl | (apply within_ptr; repeat (first | assumption | exact lk_last (by (try simp only [List.length_append, List.length_cons, List.length_nil, List.length_set]); omega) | apply lk_prev)) | (apply within_sl; repeat (first | assumption | exact lk_last (by (try simp only [List.length_append, List.length_cons, List.length_nil, List.length_set]); omega) | apply lk_prev)) | (apply Within.agg3 <;> (first | exact .prim rfl | (apply within_ptr; repeat (first | assumption | exact lk_last (by (try simp only [List.length_append, List.length_cons, List.length_nil, List.length_set]); omega) | apply lk_prev)) | (apply within_sl; repeat (first | assumption | exact lk_last (by (try simp only [List.length_append, List.length_cons, List.length_nil, List.length_set]); omega) | apply lk_prev)) | (apply Ints.within; repeat (first | assumption | apply Ints.app)))) | (apply Within.agg2 <;> (first | exact .prim rfl | (apply within_ptr; repeat (first | assumption | exact lk_last (by (try simp only [List.length_append, List.length_cons, List.length_nil, List.length_set]); omega) | apply lk_prev)) | (apply within_sl; repeat (first | assumption | exact lk_last (by (try simp only [List.length_append, List.length_cons, List.length_nil, List.length_set]); omega) | apply lk_prev)) | (apply Ints.within; repeat (first | assumption | apply Ints.app)))) | (apply Ints.within; repeat (first | assumption | apply Ints.app))) ?_
            refine d_callN rfl (lmap_cons (by conv => lhs; whnf) lmap_nil) (toValues_ret _ _ _ _ _ (by repeat (first | assumption | apply Ints.app)) (by omega)) (by exact .agg3 (.prim rfl) (.prim rfl) (.slice (by (try simp only [List.length_append, List.length_cons, List.length_nil, List.length_set]); omega))) (by simp [lst, isPrim]) (fun k26 hk26 hgk26 => ?_)
            try simp at hk26
            have hIk26 := Ints.own hgk26 rfl
            refine d_callB rfl (lmap_cons (by conv => lhs; whnf) (lmap_cons (by conv => lhs; whnf) lmap_nil)) (eqValues_ret _ _ _ _ _ _ _ _ _ (by repeat (first | assumption | apply Ints.app)) (by repeat (first | assumption | apply Ints.app)) (by omega)) (fun c27 => ?_) (fun c27 => ?_)
            ·
              refine d_do rfl (o_notT (by conv => lhs; whnf) ⟨rfl, rfl⟩) (by first | exact .prim rfl | (apply within_ptr; repeat (first | assumption | exact lk_last (by (try simp only [List.length_append, List.length_cons, List.length_nil, List.length_set]); omega) | apply lk_prev)) | (apply within_sl; repeat (first | assumption | exact lk_last (by (try simp only [List.length_append, List.length_cons, List.length_nil, List.length_set]); omega) | apply lk_prev)) | (apply Within.agg3 <;> (first | exact .prim rfl | (apply within_ptr; repeat (first | assumption | exact lk_last (by (try simp only [List.length_append, List.length_cons, List.length_nil, List.length_set]); omega) | apply lk_prev)) | (apply within_sl; repeat (first | assumption | exact lk_last (by (try simp only [List.length_append, List.length_cons, List.length_nil, List.length_set]); omega) | apply lk_prev)) | (apply Ints.within; repeat (first | assumption | apply Ints.app)))) | (apply Within.agg2 <;> (first | exact .prim rfl | (apply within_ptr; repeat (first | assumption | exact lk_last (by (try simp only [List.length_append, List.length_cons, List.length_nil, List.length_set]); omega) | apply lk_prev)) | (apply within_sl; repeat (first | assumption | exact lk_last (by (try simp only [List.length_append, List.length_cons, List.length_nil, List.length_set]); omega) | apply lk_prev)) | (apply Ints.within; repeat (first | assumption | apply Ints.app)))) | (apply Ints.within; repeat (first | assumption | apply Ints.app))) ?_
              refine d_end ?_
              refine awp_condF (by conv => lhs; whnf) ?_
              refine awp_skip ?_
              refine awp_seq ?_
              refine awp_region rfl ?_
              refine a_do rfl (o_assign (by conv => lhs; whnf) ?_)
              refine a_end ?_
              refine awp_ret ?_
              refine ⟨.inl rfl, [_], ⟨ares_tmp (by conv => lhs; whnf), trivial⟩, ?_⟩
              exact ⟨by first | rfl | (exfalso; simp_all; done), (by repeat (first | exact Grown.refl _ | refine Grown.push ?_ _))⟩
            ·
              refine d_do rfl (o_notF (by conv => lhs; whnf) ⟨rfl, rfl⟩) (by first | exact .prim rfl | (apply within_ptr; repeat (first | assumption | exact lk_last (by (try simp only [List.length_append, List.length_cons, List.length_nil, List.length_set]); omega) | apply lk_prev)) | (apply within_sl; repeat (first | assumption | exact lk_last (by (try simp only [List.length_append, List.length_cons, List.length_nil, List.length_set]); omega) | apply lk_prev)) | (apply Within.agg3 <;> (first | exact .prim rfl | (apply within_ptr; repeat (first | assumption | exact lk_last (by (try simp only [List.length_append, List.length_cons, List.length_nil, List.length_set]); omega) | apply lk_prev)) | (apply within_sl; repeat (first | assumption | exact lk_last (by (try simp only [List.length_append, List.length_cons, List.length_nil, List.length_set]); omega) | apply lk_prev)) | (apply Ints.within; repeat (first | assumption | apply Ints.app)))) | (apply Within.agg2 <;> (first | exact .prim rfl | (apply within_ptr; repeat (first | assumption | exact lk_last (by (try simp only [List.length_append, List.length_cons, List.length_nil, List.length_set]); omega) | apply lk_prev)) | (apply within_sl; repeat (first | assumption | exact lk_last (by (try simp only [List.length_append, List.length_cons, List.length_nil, List.length_set]); omega) | apply lk_prev)) | (apply Ints.within; repeat (first | assumption | apply Ints.app)))) | (apply Ints.within; repeat (first | assumption | apply Ints.app))) ?_
              refine d_end ?_
              refine awp_condT (by conv => lhs; whnf) ?_
              refine awp_seq ?_
              refine awp_region rfl ?_
              refine a_do rfl (o_assign (by conv => lhs; whnf) ?_)
              refine a_end ?_
              refine awp_ret ?_
              refine ⟨.inl rfl, [_], ⟨ares_tmp (by conv => lhs; whnf), trivial⟩, ?_⟩
              exact ⟨by first | rfl | (exfalso; simp_all; done), (by repeat (first | exact Grown.refl _ | refine Grown.push ?_ _))⟩
          ·
            refine d_do rfl (o_notF (by conv => lhs; whnf) ⟨rfl, rfl⟩) (by first | exact .prim rfl | (apply within_ptr; repeat (first | assumption | exact lk_last (by (try simp only [List.length_append, List.length_cons, List.length_nil, List.length_set]); omega) | apply lk_prev)) | (apply within_sl; repeat (first | assumption | exact lk_last (by (try simp only [List.length_append, List.length_cons, List.length_nil, List.length_set]); omega) | apply lk_prev)) | (apply Within.agg3 <;> (first | exact .prim rfl | (apply within_ptr; repeat (first | assumption | exact lk_last (by (try simp only [List.length_append, List.length_cons, List.length_nil, List.length_set]); omega) | apply lk_prev)) | (apply within_sl; repeat (first | assumption | exact lk_last (by (try simp only [List.length_append, List.length_cons, List.length_nil, List.length_set]); omega) | apply lk_prev)) | (apply Ints.within; repeat (first | assumption | apply Ints.app)))) | (apply Within.agg2 <;> (first | exact .prim rfl | (apply within_ptr; repeat (first | assumption | exact lk_last (by (try simp only [List.length_append, List.length_cons, List.length_nil, List.length_set]); omega) | apply lk_prev)) | (apply within_sl; repeat (first | assumption | exact lk_last (by (try simp only [List.length_append, List.length_cons, List.length_nil, List.length_set]); omega) | apply lk_prev)) | (apply Ints.within; repeat (first | assumption | apply Ints.app)))) | (apply Ints.within; repeat (first | assumption | apply Ints.app))) ?_
            refine d_end ?_
            refine awp_condT (by conv => lhs; whnf) ?_
            refine awp_seq ?_
            refine awp_region rfl ?_
            refine a_do rfl (o_assign (by conv => lhs; whnf) ?_)
            refine a_end ?_
            refine awp_ret ?_
            refine ⟨.inl rfl, [_], ⟨ares_tmp (by conv => lhs; whnf), trivial⟩, ?_⟩
            exact ⟨by first | rfl | (exfalso; simp_all; done), (by repeat (first | exact Grown.refl _ | refine Grown.push ?_ _))⟩

end Go.Am
