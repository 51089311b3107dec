/-
  What the law FnExactWorstComplaint answers over an abstract heap: true, for every input.
-/
import Derived.Test.YtbldflekjdlbhaaFnExactWorstComplaintBk1
namespace Go.Am
open Go.Proofs
set_option linter.unusedSimpArgs false
set_option linter.unusedVariables false

set_option maxHeartbeats 4000000 in
set_option maxRecDepth 10000 in
theorem fnExactWorstComplaint_ret (p b : Int) (xs ss : List Int) (v w : Value) (h : AHeap) (hv : Ints h v xs) (hw : Ints h w ss) (hl : xs.length ≤ 9223372036854775807) (hl2 : ss.length ≤ 9223372036854775807) : Ret Try.prog 5 [.agg #[i64 p, v], w, i64 b] h (.bool true) h := by
  refine ret_of (.prim rfl) ?_
  refine tri_of_body Try.func5 rfl (by kernel_rfl) (by show 3 ≤ 69; decide) ?_
  refine awp_seq ?_
  refine awp_region rfl ?_
  refine a_do rfl (o_boxN (n := 2) (by conv => lhs; whnf) (by exact (rfl : _ = [_, _])) (by rfl) (fun k2 hk2 => ?_))
  try simp at hk2
  refine a_do rfl (o_assign (by conv => lhs; whnf) ?_)
  refine a_end ?_
  refine awp_seq ?_
  refine awp_seq ?_
  refine awp_region rfl ?_
  refine a_do rfl (o_move (by conv => lhs; whnf) ?_)
  refine a_do rfl (o_lenI Try.underlying22 (by conv => lhs; whnf) (by repeat (first | assumption | exact ints_nil | exact Ints.own (by repeat (first | assumption | exact lk_last (by (try simp only [List.length_append, List.length_cons, List.length_nil, List.length_set]); omega) | apply lk_prev)) (by first | rfl | exact upto_len | assumption | exact map_len) | apply Ints.app | (refine Ints.sub (by repeat (first | assumption | apply Ints.app)) (by omega) (by omega) (by omega)))) ?_)
  refine a_do rfl (o_gtr (by conv => lhs; whnf) (by conv => lhs; whnf) (fun c3 => ?_) (fun c3 => ?_))
  ·
    refine a_end ?_
    refine awp_condT (by conv => lhs; whnf) ?_
    refine awp_seq ?_
    refine awp_region rfl ?_
    refine a_do rfl (o_assign (by conv => lhs; whnf) ?_)
    refine a_end ?_
    refine awp_ret ?_
    refine ⟨.inl rfl, [_], ⟨ares_tmp (by conv => lhs; whnf), trivial⟩, ?_⟩
    exact ⟨by first | rfl | (exfalso; omega) | (exfalso; simp_all; done), (by repeat (first | exact Grown.refl _ | refine Grown.push ?_ _))⟩
  ·
    refine a_end ?_
    refine awp_condF (by conv => lhs; whnf) ?_
    refine awp_skip ?_
    refine awp_seq ?_
    refine awp_region rfl ?_
    refine a_do rfl (o_assign (by conv => lhs; whnf) ?_)
    refine a_end ?_
    refine awp_seq ?_
    refine awp_region rfl ?_
    refine a_do rfl (o_loadAgg Try.underlying44 rfl ty44 (by conv => lhs; whnf) (by repeat (first | assumption | exact lk_last (by (try simp only [List.length_append, List.length_cons, List.length_nil, List.length_set]); omega) | apply lk_prev)) (by rfl) (by exact (rfl : _ = [_, _])) (by rfl) ?_)
    refine a_do rfl (o_move (by conv => lhs; whnf) ?_)
    refine a_do rfl (o_callF (lmap_cons (by conv => lhs; whnf) (lmap_cons (by conv => lhs; whnf) lmap_nil)) (Ret.to (szWorths_ret _ _ _ _ _ (by repeat (first | assumption | exact ints_nil | exact Ints.own (by repeat (first | assumption | exact lk_last (by (try simp only [List.length_append, List.length_cons, List.length_nil, List.length_set]); omega) | apply lk_prev)) (by first | rfl | exact upto_len | assumption | exact map_len) | apply Ints.app | (refine Ints.sub (by repeat (first | assumption | apply Ints.app)) (by omega) (by omega) (by omega)))) (by omega) (by omega) (by omega)) ?_))
    refine a_do rfl (o_assign (by conv => lhs; whnf) ?_)
    refine a_end ?_
    refine awp_seq ?_
    refine awp_seq ?_
    refine awp_region rfl ?_
    refine a_do rfl (o_move (by conv => lhs; whnf) ?_)
    refine a_do rfl (o_lss (by conv => lhs; whnf) (by conv => lhs; whnf) (fun c4 => ?_) (fun c4 => ?_))
    ·
      refine a_end ?_
      refine awp_condT (by conv => lhs; whnf) ?_
      refine awp_seq ?_
      refine awp_region rfl ?_
      refine a_do rfl (o_assign (by conv => lhs; whnf) ?_)
      refine a_end ?_
      refine awp_ret ?_
      refine ⟨.inl rfl, [_], ⟨ares_tmp (by conv => lhs; whnf), trivial⟩, ?_⟩
      exact ⟨by first | rfl | (exfalso; omega) | (exfalso; simp_all; done), (by repeat (first | exact Grown.refl _ | refine Grown.push ?_ _))⟩
    ·
      have hz := szL_spec c4
      refine a_end ?_
      refine awp_condF (by conv => lhs; whnf) ?_
      refine awp_skip ?_
      refine awp_seq ?_
      refine awp_region rfl ?_
      refine a_do rfl (o_loadAgg Try.underlying44 rfl ty44 (by conv => lhs; whnf) (by repeat (first | assumption | exact lk_last (by (try simp only [List.length_append, List.length_cons, List.length_nil, List.length_set]); omega) | apply lk_prev)) (by rfl) (by exact (rfl : _ = [_, _])) (by rfl) ?_)
      refine a_do rfl (o_callF (lmap_cons (by conv => lhs; whnf) lmap_nil) (RetN.toN (toWorths_ret _ _ _ _ (by repeat (first | assumption | exact ints_nil | exact Ints.own (by repeat (first | assumption | exact lk_last (by (try simp only [List.length_append, List.length_cons, List.length_nil, List.length_set]); omega) | apply lk_prev)) (by first | rfl | exact upto_len | assumption | exact map_len) | apply Ints.app | (refine Ints.sub (by repeat (first | assumption | apply Ints.app)) (by omega) (by omega) (by omega)))) (by omega)) (fun k5 hk5 hgk5 => ?_)))
      try simp at hk5
      have hIk5 := Ints.own hgk5 rfl
      refine a_do rfl (o_move (by conv => lhs; whnf) ?_)
      refine a_do rfl (o_callF (lmap_cons (by conv => lhs; whnf) lmap_nil) (RetN.toN (toInt64S_ret _ _ _ (by repeat (first | assumption | exact ints_nil | exact Ints.own (by repeat (first | assumption | exact lk_last (by (try simp only [List.length_append, List.length_cons, List.length_nil, List.length_set]); omega) | apply lk_prev)) (by first | rfl | exact upto_len | assumption | exact map_len) | apply Ints.app | (refine Ints.sub (by repeat (first | assumption | apply Ints.app)) (by omega) (by omega) (by omega)))) (by omega)) (fun k6 hk6 hgk6 => ?_)))
      try simp at hk6
      refine a_do rfl (o_move (by conv => lhs; whnf) ?_)
      rcases Bool.eq_false_or_eq_true ((canW p xs ss b && decide (2 ≤ p))) with hok | hok
      ·
        refine a_do rfl (o_callF (lmap_cons (by conv => lhs; whnf) (lmap_cons (by conv => lhs; whnf) (lmap_cons (by conv => lhs; whnf) lmap_nil))) (Ret.to ((specWorstComplaint_ret _ _ _ _ _ _ _ (by repeat (first | assumption | exact ints_nil | exact Ints.own (by repeat (first | assumption | exact lk_last (by (try simp only [List.length_append, List.length_cons, List.length_nil, List.length_set]); omega) | apply lk_prev)) (by first | rfl | exact upto_len | assumption | exact map_len) | apply Ints.app | (refine Ints.sub (by repeat (first | assumption | apply Ints.app)) (by omega) (by omega) (by omega)))) (by repeat (first | assumption | exact ints_nil | exact Ints.own (by repeat (first | assumption | exact lk_last (by (try simp only [List.length_append, List.length_cons, List.length_nil, List.length_set]); omega) | apply lk_prev)) (by first | rfl | exact upto_len | assumption | exact map_len) | apply Ints.app | (refine Ints.sub (by repeat (first | assumption | apply Ints.app)) (by omega) (by omega) (by omega)))) (by omega) (by omega)).ites.1 hok) ?_))
        refine a_do rfl (o_move (by conv => lhs; whnf) ?_)
        refine a_do rfl (o_extract (by conv => lhs; whnf) rfl ?_)
        refine a_do rfl (o_extract (by conv => lhs; whnf) rfl ?_)
        refine a_do rfl (o_extract (by conv => lhs; whnf) rfl ?_)
        refine a_do rfl (o_assign (by conv => lhs; whnf) ?_)
        refine a_do rfl (o_assign (by conv => lhs; whnf) ?_)
        refine a_do rfl (o_assign (by conv => lhs; whnf) ?_)
        refine a_end ?_
        refine awp_seq ?_
        refine awp_region rfl ?_
        refine a_do rfl (o_loadAgg Try.underlying44 rfl ty44 (by conv => lhs; whnf) (by repeat (first | assumption | exact lk_last (by (try simp only [List.length_append, List.length_cons, List.length_nil, List.length_set]); omega) | apply lk_prev)) (by rfl) (by exact (rfl : _ = [_, _])) (by rfl) ?_)
        refine a_do rfl (o_callF (lmap_cons (by conv => lhs; whnf) lmap_nil) (RetN.toN (toWorths_ret _ _ _ _ (by repeat (first | assumption | exact ints_nil | exact Ints.own (by repeat (first | assumption | exact lk_last (by (try simp only [List.length_append, List.length_cons, List.length_nil, List.length_set]); omega) | apply lk_prev)) (by first | rfl | exact upto_len | assumption | exact map_len) | apply Ints.app | (refine Ints.sub (by repeat (first | assumption | apply Ints.app)) (by omega) (by omega) (by omega)))) (by omega)) (fun k8 hk8 hgk8 => ?_)))
        try simp at hk8
        have hIk8 := Ints.own hgk8 rfl
        refine a_do rfl (o_allocN (n := 2) ty24 rfl (by exact (rfl : _ = [_, _])) (by rfl) (fun k9 hk9 => ?_))
        try simp at hk9
        refine a_do rfl (o_storeVAgg ty24 (by conv => lhs; whnf) (by repeat (first | assumption | exact lk_last (by (try simp only [List.length_append, List.length_cons, List.length_nil, List.length_set]); omega) | apply lk_prev)) (by rfl) (by rfl) (by rfl) (by conv => lhs; whnf) (by rfl) (by rfl) (by first | rfl | exact one2 (by assumption)) (by first | exact (rfl : _ = [_]) | exact (rfl : _ = [_, _]) | exact (rfl : _ = [_, _, _]) | exact (rfl : _ = [_, _, _, _]) | rfl) (by repeat (first | exact set_last (by (try simp only [List.length_append, List.length_cons, List.length_nil, List.length_set]); omega) | (apply set_step; (try simp only [List.length_append, List.length_cons, List.length_nil, List.length_set]); omega) | exact rfl)) ?_)
        refine a_end ?_
        refine awp_seq ?_
        refine awp_region rfl ?_
        refine a_do rfl (o_move (by conv => lhs; whnf) ?_)
        refine a_do rfl (o_callF (lmap_cons (by conv => lhs; whnf) lmap_nil) (RetN.toN (toInt64S_ret _ _ _ (by repeat (first | assumption | exact ints_nil | exact Ints.own (by repeat (first | assumption | exact lk_last (by (try simp only [List.length_append, List.length_cons, List.length_nil, List.length_set]); omega) | apply lk_prev)) (by first | rfl | exact upto_len | assumption | exact map_len) | apply Ints.app | (refine Ints.sub (by repeat (first | assumption | apply Ints.app)) (by omega) (by omega) (by omega)))) (by omega)) (fun k10 hk10 hgk10 => ?_)))
        try simp at hk10
        refine a_do rfl (o_assign (by conv => lhs; whnf) ?_)
        refine a_end ?_
        refine awp_seq ?_
        refine awp_region rfl ?_
        refine a_do rfl (o_loadAgg Try.underlying24 rfl ty24 (by conv => lhs; whnf) (by repeat (first | assumption | exact lk_last (by (try simp only [List.length_append, List.length_cons, List.length_nil, List.length_set]); omega) | apply lk_prev)) (by rfl) (by exact (rfl : _ = [_, _])) (by rfl) ?_)
        refine a_do rfl (o_move (by conv => lhs; whnf) ?_)
        refine a_do rfl (o_move (by conv => lhs; whnf) ?_)
        refine a_do rfl (o_callF (lmap_cons (by conv => lhs; whnf) (lmap_cons (by conv => lhs; whnf) (lmap_cons (by conv => lhs; whnf) lmap_nil))) (Ret.to ((implWorstComplaint_ret _ _ _ _ _ _ _ (by repeat (first | assumption | exact ints_nil | exact Ints.own (by repeat (first | assumption | exact lk_last (by (try simp only [List.length_append, List.length_cons, List.length_nil, List.length_set]); omega) | apply lk_prev)) (by first | rfl | exact upto_len | assumption | exact map_len) | apply Ints.app | (refine Ints.sub (by repeat (first | assumption | apply Ints.app)) (by omega) (by omega) (by omega)))) (by repeat (first | assumption | exact ints_nil | exact Ints.own (by repeat (first | assumption | exact lk_last (by (try simp only [List.length_append, List.length_cons, List.length_nil, List.length_set]); omega) | apply lk_prev)) (by first | rfl | exact upto_len | assumption | exact map_len) | apply Ints.app | (refine Ints.sub (by repeat (first | assumption | apply Ints.app)) (by omega) (by omega) (by omega)))) (by omega) (by omega)).ites.1 hok) ?_))
        refine a_do rfl (o_move (by conv => lhs; whnf) ?_)
        refine a_do rfl (o_extract (by conv => lhs; whnf) rfl ?_)
        refine a_do rfl (o_extract (by conv => lhs; whnf) rfl ?_)
        refine a_do rfl (o_extract (by conv => lhs; whnf) rfl ?_)
        refine a_do rfl (o_assign (by conv => lhs; whnf) ?_)
        refine a_do rfl (o_assign (by conv => lhs; whnf) ?_)
        refine a_do rfl (o_assign (by conv => lhs; whnf) ?_)
        refine a_end ?_
        refine awp_seq ?_
        refine awp_seq ?_
        refine awp_region rfl ?_
        refine a_do rfl (o_move (by conv => lhs; whnf) ?_)
        refine a_do rfl (o_move (by conv => lhs; whnf) ?_)
        refine a_do rfl (o_neq (by conv => lhs; whnf) (by conv => lhs; whnf) (fun c12 => ?_) (fun c12 => ?_))
        ·
          refine a_do rfl (o_move (by conv => lhs; whnf) ?_)
          refine a_no rfl ?_
          refine a_no rfl ?_
          refine a_no rfl ?_
          refine a_do rfl (o_pickT (by conv => lhs; whnf) (by conv => lhs; whnf) ?_)
          refine a_do rfl (o_move (by conv => lhs; whnf) ?_)
          refine a_no rfl ?_
          refine a_no rfl ?_
          refine a_no rfl ?_
          refine a_do rfl (o_pickT (by conv => lhs; whnf) (by conv => lhs; whnf) ?_)
          refine a_end ?_
          refine awp_condT (by conv => lhs; whnf) ?_
          refine awp_seq ?_
          refine awp_region rfl ?_
          refine a_do rfl (o_assign (by conv => lhs; whnf) ?_)
          refine a_end ?_
          refine awp_ret ?_
          refine ⟨.inl rfl, [_], ⟨ares_tmp (by conv => lhs; whnf), trivial⟩, ?_⟩
          exact ⟨by first | rfl | (exfalso; omega) | (exfalso; simp_all; done), (by repeat (first | exact Grown.refl _ | refine Grown.push ?_ _))⟩
        ·
          refine a_do rfl (o_move (by conv => lhs; whnf) ?_)
          refine a_do rfl (o_move (by conv => lhs; whnf) ?_)
          refine a_do rfl (o_move (by conv => lhs; whnf) ?_)
          refine a_do rfl (o_neq (by conv => lhs; whnf) (by conv => lhs; whnf) (fun c13 => ?_) (fun c13 => ?_))
          ·
            refine a_do rfl (o_pickF (by conv => lhs; whnf) (by conv => lhs; whnf) ?_)
            refine a_do rfl (o_move (by conv => lhs; whnf) ?_)
            refine a_no rfl ?_
            refine a_no rfl ?_
            refine a_no rfl ?_
            refine a_do rfl (o_pickT (by conv => lhs; whnf) (by conv => lhs; whnf) ?_)
            refine a_end ?_
            refine awp_condT (by conv => lhs; whnf) ?_
            refine awp_seq ?_
            refine awp_region rfl ?_
            refine a_do rfl (o_assign (by conv => lhs; whnf) ?_)
            refine a_end ?_
            refine awp_ret ?_
            refine ⟨.inl rfl, [_], ⟨ares_tmp (by conv => lhs; whnf), trivial⟩, ?_⟩
            exact ⟨by first | rfl | (exfalso; omega) | (exfalso; simp_all; done), (by repeat (first | exact Grown.refl _ | refine Grown.push ?_ _))⟩
          ·
            refine a_do rfl (o_pickF (by conv => lhs; whnf) (by conv => lhs; whnf) ?_)
            refine a_do rfl (o_move (by conv => lhs; whnf) ?_)
            refine a_do rfl (o_move (by conv => lhs; whnf) ?_)
            refine a_do rfl (o_move (by conv => lhs; whnf) ?_)
            refine a_do rfl (o_boolNeL (b := false) Try.underlying4 (by conv => lhs; whnf) (by conv => lhs; whnf) (by rfl) ?_)
            refine a_do rfl (o_pickF (by conv => lhs; whnf) (by conv => lhs; whnf) ?_)
            refine a_end ?_
            refine awp_condF (by conv => lhs; whnf) ?_
            refine awp_skip ?_
            refine awp_seq ?_
            refine awp_seq ?_
            refine awp_draw Try_mixed (by kernel_rfl) rfl ?_
            refine d_do rfl (o_loadAgg Try.underlying24 rfl ty24 (by conv => lhs; whnf) (by repeat (first | assumption | exact lk_last (by (try simp only [List.length_append, List.length_cons, List.length_nil, List.length_set]); omega) | apply lk_prev)) (by rfl) (by exact (rfl : _ = [_, _])) (by rfl) ⟨rfl, rfl⟩) (by first | exact .prim rfl | exact Within.mono ‹Within _ (Value.func _ _ _)› (by (try simp only [List.length_append, List.length_cons, List.length_nil, List.length_set]); omega) | (apply within_sub; apply Ints.within; repeat (first | assumption | apply Ints.app)) | (apply within_ptr; repeat (first | assumption | exact lk_last (by (try simp only [List.length_append, List.length_cons, List.length_nil, List.length_set]); omega) | apply lk_prev)) | (apply within_sl; repeat (first | assumption | exact lk_last (by (try simp only [List.length_append, List.length_cons, List.length_nil, List.length_set]); omega) | apply lk_prev)) | (apply Within.agg3 <;> (first | exact .prim rfl | (apply within_ptr; repeat (first | assumption | exact lk_last (by (try simp only [List.length_append, List.length_cons, List.length_nil, List.length_set]); omega) | apply lk_prev)) | (apply within_sl; repeat (first | assumption | exact lk_last (by (try simp only [List.length_append, List.length_cons, List.length_nil, List.length_set]); omega) | apply lk_prev)) | ((try apply within_sub); apply Ints.within; repeat (first | assumption | apply Ints.app)))) | (apply Within.agg2 <;> (first | exact .prim rfl | (apply within_ptr; repeat (first | assumption | exact lk_last (by (try simp only [List.length_append, List.length_cons, List.length_nil, List.length_set]); omega) | apply lk_prev)) | (apply within_sl; repeat (first | assumption | exact lk_last (by (try simp only [List.length_append, List.length_cons, List.length_nil, List.length_set]); omega) | apply lk_prev)) | ((try apply within_sub); apply Ints.within; repeat (first | assumption | apply Ints.app)))) | (apply Ints.within; repeat (first | assumption | apply Ints.app))) ?_
            refine d_do rfl (o_loadAgg Try.underlying44 rfl ty44 (by conv => lhs; whnf) (by repeat (first | assumption | exact lk_last (by (try simp only [List.length_append, List.length_cons, List.length_nil, List.length_set]); omega) | apply lk_prev)) (by rfl) (by exact (rfl : _ = [_, _])) (by rfl) ⟨rfl, rfl⟩) (by first | exact .prim rfl | exact Within.mono ‹Within _ (Value.func _ _ _)› (by (try simp only [List.length_append, List.length_cons, List.length_nil, List.length_set]); omega) | (apply within_sub; apply Ints.within; repeat (first | assumption | apply Ints.app)) | (apply within_ptr; repeat (first | assumption | exact lk_last (by (try simp only [List.length_append, List.length_cons, List.length_nil, List.length_set]); omega) | apply lk_prev)) | (apply within_sl; repeat (first | assumption | exact lk_last (by (try simp only [List.length_append, List.length_cons, List.length_nil, List.length_set]); omega) | apply lk_prev)) | (apply Within.agg3 <;> (first | exact .prim rfl | (apply within_ptr; repeat (first | assumption | exact lk_last (by (try simp only [List.length_append, List.length_cons, List.length_nil, List.length_set]); omega) | apply lk_prev)) | (apply within_sl; repeat (first | assumption | exact lk_last (by (try simp only [List.length_append, List.length_cons, List.length_nil, List.length_set]); omega) | apply lk_prev)) | ((try apply within_sub); apply Ints.within; repeat (first | assumption | apply Ints.app)))) | (apply Within.agg2 <;> (first | exact .prim rfl | (apply within_ptr; repeat (first | assumption | exact lk_last (by (try simp only [List.length_append, List.length_cons, List.length_nil, List.length_set]); omega) | apply lk_prev)) | (apply within_sl; repeat (first | assumption | exact lk_last (by (try simp only [List.length_append, List.length_cons, List.length_nil, List.length_set]); omega) | apply lk_prev)) | ((try apply within_sub); apply Ints.within; repeat (first | assumption | apply Ints.app)))) | (apply Ints.within; repeat (first | assumption | apply Ints.app))) ?_
            refine d_callN rfl (lmap_cons (by conv => lhs; whnf) lmap_nil) (toWorths_ret _ _ _ _ (by repeat (first | assumption | exact ints_nil | exact Ints.own (by repeat (first | assumption | exact lk_last (by (try simp only [List.length_append, List.length_cons, List.length_nil, List.length_set]); omega) | apply lk_prev)) (by first | rfl | exact upto_len | assumption | exact map_len) | apply Ints.app | (refine Ints.sub (by repeat (first | assumption | apply Ints.app)) (by omega) (by omega) (by omega)))) (by omega)) (by exact .agg2 (.prim rfl) (.slice (by (try simp only [List.length_append, List.length_cons, List.length_nil, List.length_set]); omega))) (by simp [lst, isPrim]) (fun k14 hk14 hgk14 => ?_)
            try simp at hk14
            have hIk14 := Ints.own hgk14 rfl
            refine d_callB rfl (lmap_cons (by conv => lhs; whnf) (lmap_cons (by conv => lhs; whnf) lmap_nil)) (eqWorths_ret _ _ _ _ _ _ _ (by repeat (first | assumption | exact ints_nil | exact Ints.own (by repeat (first | assumption | exact lk_last (by (try simp only [List.length_append, List.length_cons, List.length_nil, List.length_set]); omega) | apply lk_prev)) (by first | rfl | exact upto_len | assumption | exact map_len) | apply Ints.app | (refine Ints.sub (by repeat (first | assumption | apply Ints.app)) (by omega) (by omega) (by omega)))) (by repeat (first | assumption | exact ints_nil | exact Ints.own (by repeat (first | assumption | exact lk_last (by (try simp only [List.length_append, List.length_cons, List.length_nil, List.length_set]); omega) | apply lk_prev)) (by first | rfl | exact upto_len | assumption | exact map_len) | apply Ints.app | (refine Ints.sub (by repeat (first | assumption | apply Ints.app)) (by omega) (by omega) (by omega)))) (by first | omega | (simp; done))) (fun c15 => ?_) (fun c15 => ?_)
            ·
              refine d_do rfl (o_notT (by conv => lhs; whnf) ⟨rfl, rfl⟩) (by first | exact .prim rfl | exact Within.mono ‹Within _ (Value.func _ _ _)› (by (try simp only [List.length_append, List.length_cons, List.length_nil, List.length_set]); omega) | (apply within_sub; apply Ints.within; repeat (first | assumption | apply Ints.app)) | (apply within_ptr; repeat (first | assumption | exact lk_last (by (try simp only [List.length_append, List.length_cons, List.length_nil, List.length_set]); omega) | apply lk_prev)) | (apply within_sl; repeat (first | assumption | exact lk_last (by (try simp only [List.length_append, List.length_cons, List.length_nil, List.length_set]); omega) | apply lk_prev)) | (apply Within.agg3 <;> (first | exact .prim rfl | (apply within_ptr; repeat (first | assumption | exact lk_last (by (try simp only [List.length_append, List.length_cons, List.length_nil, List.length_set]); omega) | apply lk_prev)) | (apply within_sl; repeat (first | assumption | exact lk_last (by (try simp only [List.length_append, List.length_cons, List.length_nil, List.length_set]); omega) | apply lk_prev)) | ((try apply within_sub); apply Ints.within; repeat (first | assumption | apply Ints.app)))) | (apply Within.agg2 <;> (first | exact .prim rfl | (apply within_ptr; repeat (first | assumption | exact lk_last (by (try simp only [List.length_append, List.length_cons, List.length_nil, List.length_set]); omega) | apply lk_prev)) | (apply within_sl; repeat (first | assumption | exact lk_last (by (try simp only [List.length_append, List.length_cons, List.length_nil, List.length_set]); omega) | apply lk_prev)) | ((try apply within_sub); apply Ints.within; repeat (first | assumption | apply Ints.app)))) | (apply Ints.within; repeat (first | assumption | apply Ints.app))) ?_
              refine d_end ?_
              refine awp_condF (by conv => lhs; whnf) ?_
              refine awp_skip ?_
              refine awp_seq ?_
              refine awp_seq ?_
              refine awp_region rfl ?_
              refine a_do rfl (o_move (by conv => lhs; whnf) ?_)
              refine a_do rfl (o_move (by conv => lhs; whnf) ?_)
              refine a_do rfl (o_callF (lmap_cons (by conv => lhs; whnf) lmap_nil) (RetN.toN (toInt64S_ret _ _ _ (by repeat (first | assumption | exact ints_nil | exact Ints.own (by repeat (first | assumption | exact lk_last (by (try simp only [List.length_append, List.length_cons, List.length_nil, List.length_set]); omega) | apply lk_prev)) (by first | rfl | exact upto_len | assumption | exact map_len) | apply Ints.app | (refine Ints.sub (by repeat (first | assumption | apply Ints.app)) (by omega) (by omega) (by omega)))) (by omega)) (fun k16 hk16 hgk16 => ?_)))
              try simp at hk16
              refine a_do rfl (o_callF (lmap_cons (by conv => lhs; whnf) (lmap_cons (by conv => lhs; whnf) lmap_nil)) (Ret.toB (eqInt64S_ret _ _ _ _ _ (by repeat (first | assumption | exact ints_nil | exact Ints.own (by repeat (first | assumption | exact lk_last (by (try simp only [List.length_append, List.length_cons, List.length_nil, List.length_set]); omega) | apply lk_prev)) (by first | rfl | exact upto_len | assumption | exact map_len) | apply Ints.app | (refine Ints.sub (by repeat (first | assumption | apply Ints.app)) (by omega) (by omega) (by omega)))) (by repeat (first | assumption | exact ints_nil | exact Ints.own (by repeat (first | assumption | exact lk_last (by (try simp only [List.length_append, List.length_cons, List.length_nil, List.length_set]); omega) | apply lk_prev)) (by first | rfl | exact upto_len | assumption | exact map_len) | apply Ints.app | (refine Ints.sub (by repeat (first | assumption | apply Ints.app)) (by omega) (by omega) (by omega)))) (by first | omega | (simp; done))) (fun c17 => ?_) (fun c17 => ?_)))
              ·
                refine a_do rfl (o_notT (by conv => lhs; whnf) ?_)
                refine a_end ?_
                refine awp_condF (by conv => lhs; whnf) ?_
                refine awp_skip ?_
                refine awp_seq ?_
                refine awp_region rfl ?_
                refine a_do rfl (o_assign (by conv => lhs; whnf) ?_)
                refine a_end ?_
                refine awp_ret ?_
                refine ⟨.inl rfl, [_], ⟨ares_tmp (by conv => lhs; whnf), trivial⟩, ?_⟩
                exact ⟨by first | rfl | (exfalso; omega) | (exfalso; simp_all; done), (by repeat (first | exact Grown.refl _ | refine Grown.push ?_ _))⟩
              ·
                refine a_do rfl (o_notF (by conv => lhs; whnf) ?_)
                refine a_end ?_
                refine awp_condT (by conv => lhs; whnf) ?_
                refine awp_seq ?_
                refine awp_region rfl ?_
                refine a_do rfl (o_assign (by conv => lhs; whnf) ?_)
                refine a_end ?_
                refine awp_ret ?_
                refine ⟨.inl rfl, [_], ⟨ares_tmp (by conv => lhs; whnf), trivial⟩, ?_⟩
                exact ⟨by first | rfl | (exfalso; omega) | (exfalso; simp_all; done), (by repeat (first | exact Grown.refl _ | refine Grown.push ?_ _))⟩
            ·
              refine d_do rfl (o_notF (by conv => lhs; whnf) ⟨rfl, rfl⟩) (by first | exact .prim rfl | exact Within.mono ‹Within _ (Value.func _ _ _)› (by (try simp only [List.length_append, List.length_cons, List.length_nil, List.length_set]); omega) | (apply within_sub; apply Ints.within; repeat (first | assumption | apply Ints.app)) | (apply within_ptr; repeat (first | assumption | exact lk_last (by (try simp only [List.length_append, List.length_cons, List.length_nil, List.length_set]); omega) | apply lk_prev)) | (apply within_sl; repeat (first | assumption | exact lk_last (by (try simp only [List.length_append, List.length_cons, List.length_nil, List.length_set]); omega) | apply lk_prev)) | (apply Within.agg3 <;> (first | exact .prim rfl | (apply within_ptr; repeat (first | assumption | exact lk_last (by (try simp only [List.length_append, List.length_cons, List.length_nil, List.length_set]); omega) | apply lk_prev)) | (apply within_sl; repeat (first | assumption | exact lk_last (by (try simp only [List.length_append, List.length_cons, List.length_nil, List.length_set]); omega) | apply lk_prev)) | ((try apply within_sub); apply Ints.within; repeat (first | assumption | apply Ints.app)))) | (apply Within.agg2 <;> (first | exact .prim rfl | (apply within_ptr; repeat (first | assumption | exact lk_last (by (try simp only [List.length_append, List.length_cons, List.length_nil, List.length_set]); omega) | apply lk_prev)) | (apply within_sl; repeat (first | assumption | exact lk_last (by (try simp only [List.length_append, List.length_cons, List.length_nil, List.length_set]); omega) | apply lk_prev)) | ((try apply within_sub); apply Ints.within; repeat (first | assumption | apply Ints.app)))) | (apply Ints.within; repeat (first | assumption | apply Ints.app))) ?_
              refine d_end ?_
              refine awp_condT (by conv => lhs; whnf) ?_
              refine awp_seq ?_
              refine awp_region rfl ?_
              refine a_do rfl (o_assign (by conv => lhs; whnf) ?_)
              refine a_end ?_
              refine awp_ret ?_
              refine ⟨.inl rfl, [_], ⟨ares_tmp (by conv => lhs; whnf), trivial⟩, ?_⟩
              exact ⟨by first | rfl | (exfalso; omega) | (exfalso; simp_all; done), (by repeat (first | exact Grown.refl _ | refine Grown.push ?_ _))⟩
      ·
        refine a_do rfl (o_callF (lmap_cons (by conv => lhs; whnf) (lmap_cons (by conv => lhs; whnf) (lmap_cons (by conv => lhs; whnf) lmap_nil))) (Ret.to ((specWorstComplaint_ret _ _ _ _ _ _ _ (by repeat (first | assumption | exact ints_nil | exact Ints.own (by repeat (first | assumption | exact lk_last (by (try simp only [List.length_append, List.length_cons, List.length_nil, List.length_set]); omega) | apply lk_prev)) (by first | rfl | exact upto_len | assumption | exact map_len) | apply Ints.app | (refine Ints.sub (by repeat (first | assumption | apply Ints.app)) (by omega) (by omega) (by omega)))) (by repeat (first | assumption | exact ints_nil | exact Ints.own (by repeat (first | assumption | exact lk_last (by (try simp only [List.length_append, List.length_cons, List.length_nil, List.length_set]); omega) | apply lk_prev)) (by first | rfl | exact upto_len | assumption | exact map_len) | apply Ints.app | (refine Ints.sub (by repeat (first | assumption | apply Ints.app)) (by omega) (by omega) (by omega)))) (by omega) (by omega)).ites.2 hok) ?_))
        refine a_do rfl (o_move (by conv => lhs; whnf) ?_)
        refine a_do rfl (o_extract (by conv => lhs; whnf) rfl ?_)
        refine a_do rfl (o_extract (by conv => lhs; whnf) rfl ?_)
        refine a_do rfl (o_extract (by conv => lhs; whnf) rfl ?_)
        refine a_do rfl (o_assign (by conv => lhs; whnf) ?_)
        refine a_do rfl (o_assign (by conv => lhs; whnf) ?_)
        refine a_do rfl (o_assign (by conv => lhs; whnf) ?_)
        refine a_end ?_
        refine awp_seq ?_
        refine awp_region rfl ?_
        refine a_do rfl (o_loadAgg Try.underlying44 rfl ty44 (by conv => lhs; whnf) (by repeat (first | assumption | exact lk_last (by (try simp only [List.length_append, List.length_cons, List.length_nil, List.length_set]); omega) | apply lk_prev)) (by rfl) (by exact (rfl : _ = [_, _])) (by rfl) ?_)
        refine a_do rfl (o_callF (lmap_cons (by conv => lhs; whnf) lmap_nil) (RetN.toN (toWorths_ret _ _ _ _ (by repeat (first | assumption | exact ints_nil | exact Ints.own (by repeat (first | assumption | exact lk_last (by (try simp only [List.length_append, List.length_cons, List.length_nil, List.length_set]); omega) | apply lk_prev)) (by first | rfl | exact upto_len | assumption | exact map_len) | apply Ints.app | (refine Ints.sub (by repeat (first | assumption | apply Ints.app)) (by omega) (by omega) (by omega)))) (by omega)) (fun k18 hk18 hgk18 => ?_)))
        try simp at hk18
        have hIk18 := Ints.own hgk18 rfl
        refine a_do rfl (o_allocN (n := 2) ty24 rfl (by exact (rfl : _ = [_, _])) (by rfl) (fun k19 hk19 => ?_))
        try simp at hk19
        refine a_do rfl (o_storeVAgg ty24 (by conv => lhs; whnf) (by repeat (first | assumption | exact lk_last (by (try simp only [List.length_append, List.length_cons, List.length_nil, List.length_set]); omega) | apply lk_prev)) (by rfl) (by rfl) (by rfl) (by conv => lhs; whnf) (by rfl) (by rfl) (by first | rfl | exact one2 (by assumption)) (by first | exact (rfl : _ = [_]) | exact (rfl : _ = [_, _]) | exact (rfl : _ = [_, _, _]) | exact (rfl : _ = [_, _, _, _]) | rfl) (by repeat (first | exact set_last (by (try simp only [List.length_append, List.length_cons, List.length_nil, List.length_set]); omega) | (apply set_step; (try simp only [List.length_append, List.length_cons, List.length_nil, List.length_set]); omega) | exact rfl)) ?_)
        refine a_end ?_
        refine awp_seq ?_
        refine awp_region rfl ?_
        refine a_do rfl (o_move (by conv => lhs; whnf) ?_)
        refine a_do rfl (o_callF (lmap_cons (by conv => lhs; whnf) lmap_nil) (RetN.toN (toInt64S_ret _ _ _ (by repeat (first | assumption | exact ints_nil | exact Ints.own (by repeat (first | assumption | exact lk_last (by (try simp only [List.length_append, List.length_cons, List.length_nil, List.length_set]); omega) | apply lk_prev)) (by first | rfl | exact upto_len | assumption | exact map_len) | apply Ints.app | (refine Ints.sub (by repeat (first | assumption | apply Ints.app)) (by omega) (by omega) (by omega)))) (by omega)) (fun k20 hk20 hgk20 => ?_)))
        try simp at hk20
        refine a_do rfl (o_assign (by conv => lhs; whnf) ?_)
        refine a_end ?_
        refine awp_seq ?_
        refine awp_region rfl ?_
        refine a_do rfl (o_loadAgg Try.underlying24 rfl ty24 (by conv => lhs; whnf) (by repeat (first | assumption | exact lk_last (by (try simp only [List.length_append, List.length_cons, List.length_nil, List.length_set]); omega) | apply lk_prev)) (by rfl) (by exact (rfl : _ = [_, _])) (by rfl) ?_)
        refine a_do rfl (o_move (by conv => lhs; whnf) ?_)
        refine a_do rfl (o_move (by conv => lhs; whnf) ?_)
        refine a_do rfl (o_callF (lmap_cons (by conv => lhs; whnf) (lmap_cons (by conv => lhs; whnf) (lmap_cons (by conv => lhs; whnf) lmap_nil))) (Ret.to ((implWorstComplaint_ret _ _ _ _ _ _ _ (by repeat (first | assumption | exact ints_nil | exact Ints.own (by repeat (first | assumption | exact lk_last (by (try simp only [List.length_append, List.length_cons, List.length_nil, List.length_set]); omega) | apply lk_prev)) (by first | rfl | exact upto_len | assumption | exact map_len) | apply Ints.app | (refine Ints.sub (by repeat (first | assumption | apply Ints.app)) (by omega) (by omega) (by omega)))) (by repeat (first | assumption | exact ints_nil | exact Ints.own (by repeat (first | assumption | exact lk_last (by (try simp only [List.length_append, List.length_cons, List.length_nil, List.length_set]); omega) | apply lk_prev)) (by first | rfl | exact upto_len | assumption | exact map_len) | apply Ints.app | (refine Ints.sub (by repeat (first | assumption | apply Ints.app)) (by omega) (by omega) (by omega)))) (by omega) (by omega)).ites.2 hok) ?_))
        refine a_do rfl (o_move (by conv => lhs; whnf) ?_)
        refine a_do rfl (o_extract (by conv => lhs; whnf) rfl ?_)
        refine a_do rfl (o_extract (by conv => lhs; whnf) rfl ?_)
        refine a_do rfl (o_extract (by conv => lhs; whnf) rfl ?_)
        refine a_do rfl (o_assign (by conv => lhs; whnf) ?_)
        refine a_do rfl (o_assign (by conv => lhs; whnf) ?_)
        refine a_do rfl (o_assign (by conv => lhs; whnf) ?_)
        refine a_end ?_
        refine awp_seq ?_
        refine awp_seq ?_
        refine awp_region rfl ?_
        refine a_do rfl (o_move (by conv => lhs; whnf) ?_)
        refine a_do rfl (o_move (by conv => lhs; whnf) ?_)
        refine a_do rfl (o_neq (by conv => lhs; whnf) (by conv => lhs; whnf) (fun c21 => ?_) (fun c21 => ?_))
        ·
          refine a_do rfl (o_move (by conv => lhs; whnf) ?_)
          refine a_no rfl ?_
          refine a_no rfl ?_
          refine a_no rfl ?_
          refine a_do rfl (o_pickT (by conv => lhs; whnf) (by conv => lhs; whnf) ?_)
          refine a_do rfl (o_move (by conv => lhs; whnf) ?_)
          refine a_no rfl ?_
          refine a_no rfl ?_
          refine a_no rfl ?_
          refine a_do rfl (o_pickT (by conv => lhs; whnf) (by conv => lhs; whnf) ?_)
          refine a_end ?_
          refine awp_condT (by conv => lhs; whnf) ?_
          refine awp_seq ?_
          refine awp_region rfl ?_
          refine a_do rfl (o_assign (by conv => lhs; whnf) ?_)
          refine a_end ?_
          refine awp_ret ?_
          refine ⟨.inl rfl, [_], ⟨ares_tmp (by conv => lhs; whnf), trivial⟩, ?_⟩
          exact ⟨by first | rfl | (exfalso; omega) | (exfalso; simp_all; done), (by repeat (first | exact Grown.refl _ | refine Grown.push ?_ _))⟩
        ·
          refine a_do rfl (o_move (by conv => lhs; whnf) ?_)
          refine a_do rfl (o_move (by conv => lhs; whnf) ?_)
          refine a_do rfl (o_move (by conv => lhs; whnf) ?_)
          refine a_do rfl (o_neq (by conv => lhs; whnf) (by conv => lhs; whnf) (fun c22 => ?_) (fun c22 => ?_))
          ·
            refine a_do rfl (o_pickF (by conv => lhs; whnf) (by conv => lhs; whnf) ?_)
            refine a_do rfl (o_move (by conv => lhs; whnf) ?_)
            refine a_no rfl ?_
            refine a_no rfl ?_
            refine a_no rfl ?_
            refine a_do rfl (o_pickT (by conv => lhs; whnf) (by conv => lhs; whnf) ?_)
            refine a_end ?_
            refine awp_condT (by conv => lhs; whnf) ?_
            refine awp_seq ?_
            refine awp_region rfl ?_
            refine a_do rfl (o_assign (by conv => lhs; whnf) ?_)
            refine a_end ?_
            refine awp_ret ?_
            refine ⟨.inl rfl, [_], ⟨ares_tmp (by conv => lhs; whnf), trivial⟩, ?_⟩
            exact ⟨by first | rfl | (exfalso; omega) | (exfalso; simp_all; done), (by repeat (first | exact Grown.refl _ | refine Grown.push ?_ _))⟩
          ·
            refine a_do rfl (o_pickF (by conv => lhs; whnf) (by conv => lhs; whnf) ?_)
            refine a_do rfl (o_move (by conv => lhs; whnf) ?_)
            refine a_do rfl (o_move (by conv => lhs; whnf) ?_)
            refine a_do rfl (o_move (by conv => lhs; whnf) ?_)
            refine a_do rfl (o_boolNeL (b := false) Try.underlying4 (by conv => lhs; whnf) (by conv => lhs; whnf) (by rfl) ?_)
            refine a_do rfl (o_pickF (by conv => lhs; whnf) (by conv => lhs; whnf) ?_)
            refine a_end ?_
            refine awp_condF (by conv => lhs; whnf) ?_
            refine awp_skip ?_
            refine awp_seq ?_
            refine awp_seq ?_
            refine awp_draw Try_mixed (by kernel_rfl) rfl ?_
            refine d_do rfl (o_loadAgg Try.underlying24 rfl ty24 (by conv => lhs; whnf) (by repeat (first | assumption | exact lk_last (by (try simp only [List.length_append, List.length_cons, List.length_nil, List.length_set]); omega) | apply lk_prev)) (by rfl) (by exact (rfl : _ = [_, _])) (by rfl) ⟨rfl, rfl⟩) (by first | exact .prim rfl | exact Within.mono ‹Within _ (Value.func _ _ _)› (by (try simp only [List.length_append, List.length_cons, List.length_nil, List.length_set]); omega) | (apply within_sub; apply Ints.within; repeat (first | assumption | apply Ints.app)) | (apply within_ptr; repeat (first | assumption | exact lk_last (by (try simp only [List.length_append, List.length_cons, List.length_nil, List.length_set]); omega) | apply lk_prev)) | (apply within_sl; repeat (first | assumption | exact lk_last (by (try simp only [List.length_append, List.length_cons, List.length_nil, List.length_set]); omega) | apply lk_prev)) | (apply Within.agg3 <;> (first | exact .prim rfl | (apply within_ptr; repeat (first | assumption | exact lk_last (by (try simp only [List.length_append, List.length_cons, List.length_nil, List.length_set]); omega) | apply lk_prev)) | (apply within_sl; repeat (first | assumption | exact lk_last (by (try simp only [List.length_append, List.length_cons, List.length_nil, List.length_set]); omega) | apply lk_prev)) | ((try apply within_sub); apply Ints.within; repeat (first | assumption | apply Ints.app)))) | (apply Within.agg2 <;> (first | exact .prim rfl | (apply within_ptr; repeat (first | assumption | exact lk_last (by (try simp only [List.length_append, List.length_cons, List.length_nil, List.length_set]); omega) | apply lk_prev)) | (apply within_sl; repeat (first | assumption | exact lk_last (by (try simp only [List.length_append, List.length_cons, List.length_nil, List.length_set]); omega) | apply lk_prev)) | ((try apply within_sub); apply Ints.within; repeat (first | assumption | apply Ints.app)))) | (apply Ints.within; repeat (first | assumption | apply Ints.app))) ?_
            refine d_do rfl (o_loadAgg Try.underlying44 rfl ty44 (by conv => lhs; whnf) (by repeat (first | assumption | exact lk_last (by (try simp only [List.length_append, List.length_cons, List.length_nil, List.length_set]); omega) | apply lk_prev)) (by rfl) (by exact (rfl : _ = [_, _])) (by rfl) ⟨rfl, rfl⟩) (by first | exact .prim rfl | exact Within.mono ‹Within _ (Value.func _ _ _)› (by (try simp only [List.length_append, List.length_cons, List.length_nil, List.length_set]); omega) | (apply within_sub; apply Ints.within; repeat (first | assumption | apply Ints.app)) | (apply within_ptr; repeat (first | assumption | exact lk_last (by (try simp only [List.length_append, List.length_cons, List.length_nil, List.length_set]); omega) | apply lk_prev)) | (apply within_sl; repeat (first | assumption | exact lk_last (by (try simp only [List.length_append, List.length_cons, List.length_nil, List.length_set]); omega) | apply lk_prev)) | (apply Within.agg3 <;> (first | exact .prim rfl | (apply within_ptr; repeat (first | assumption | exact lk_last (by (try simp only [List.length_append, List.length_cons, List.length_nil, List.length_set]); omega) | apply lk_prev)) | (apply within_sl; repeat (first | assumption | exact lk_last (by (try simp only [List.length_append, List.length_cons, List.length_nil, List.length_set]); omega) | apply lk_prev)) | ((try apply within_sub); apply Ints.within; repeat (first | assumption | apply Ints.app)))) | (apply Within.agg2 <;> (first | exact .prim rfl | (apply within_ptr; repeat (first | assumption | exact lk_last (by (try simp only [List.length_append, List.length_cons, List.length_nil, List.length_set]); omega) | apply lk_prev)) | (apply within_sl; repeat (first | assumption | exact lk_last (by (try simp only [List.length_append, List.length_cons, List.length_nil, List.length_set]); omega) | apply lk_prev)) | ((try apply within_sub); apply Ints.within; repeat (first | assumption | apply Ints.app)))) | (apply Ints.within; repeat (first | assumption | apply Ints.app))) ?_
            refine d_callN rfl (lmap_cons (by conv => lhs; whnf) lmap_nil) (toWorths_ret _ _ _ _ (by repeat (first | assumption | exact ints_nil | exact Ints.own (by repeat (first | assumption | exact lk_last (by (try simp only [List.length_append, List.length_cons, List.length_nil, List.length_set]); omega) | apply lk_prev)) (by first | rfl | exact upto_len | assumption | exact map_len) | apply Ints.app | (refine Ints.sub (by repeat (first | assumption | apply Ints.app)) (by omega) (by omega) (by omega)))) (by omega)) (by exact .agg2 (.prim rfl) (.slice (by (try simp only [List.length_append, List.length_cons, List.length_nil, List.length_set]); omega))) (by simp [lst, isPrim]) (fun k23 hk23 hgk23 => ?_)
            try simp at hk23
            have hIk23 := Ints.own hgk23 rfl
            refine d_callB rfl (lmap_cons (by conv => lhs; whnf) (lmap_cons (by conv => lhs; whnf) lmap_nil)) (eqWorths_ret _ _ _ _ _ _ _ (by repeat (first | assumption | exact ints_nil | exact Ints.own (by repeat (first | assumption | exact lk_last (by (try simp only [List.length_append, List.length_cons, List.length_nil, List.length_set]); omega) | apply lk_prev)) (by first | rfl | exact upto_len | assumption | exact map_len) | apply Ints.app | (refine Ints.sub (by repeat (first | assumption | apply Ints.app)) (by omega) (by omega) (by omega)))) (by repeat (first | assumption | exact ints_nil | exact Ints.own (by repeat (first | assumption | exact lk_last (by (try simp only [List.length_append, List.length_cons, List.length_nil, List.length_set]); omega) | apply lk_prev)) (by first | rfl | exact upto_len | assumption | exact map_len) | apply Ints.app | (refine Ints.sub (by repeat (first | assumption | apply Ints.app)) (by omega) (by omega) (by omega)))) (by first | omega | (simp; done))) (fun c24 => ?_) (fun c24 => ?_)
            ·
              refine d_do rfl (o_notT (by conv => lhs; whnf) ⟨rfl, rfl⟩) (by first | exact .prim rfl | exact Within.mono ‹Within _ (Value.func _ _ _)› (by (try simp only [List.length_append, List.length_cons, List.length_nil, List.length_set]); omega) | (apply within_sub; apply Ints.within; repeat (first | assumption | apply Ints.app)) | (apply within_ptr; repeat (first | assumption | exact lk_last (by (try simp only [List.length_append, List.length_cons, List.length_nil, List.length_set]); omega) | apply lk_prev)) | (apply within_sl; repeat (first | assumption | exact lk_last (by (try simp only [List.length_append, List.length_cons, List.length_nil, List.length_set]); omega) | apply lk_prev)) | (apply Within.agg3 <;> (first | exact .prim rfl | (apply within_ptr; repeat (first | assumption | exact lk_last (by (try simp only [List.length_append, List.length_cons, List.length_nil, List.length_set]); omega) | apply lk_prev)) | (apply within_sl; repeat (first | assumption | exact lk_last (by (try simp only [List.length_append, List.length_cons, List.length_nil, List.length_set]); omega) | apply lk_prev)) | ((try apply within_sub); apply Ints.within; repeat (first | assumption | apply Ints.app)))) | (apply Within.agg2 <;> (first | exact .prim rfl | (apply within_ptr; repeat (first | assumption | exact lk_last (by (try simp only [List.length_append, List.length_cons, List.length_nil, List.length_set]); omega) | apply lk_prev)) | (apply within_sl; repeat (first | assumption | exact lk_last (by (try simp only [List.length_append, List.length_cons, List.length_nil, List.length_set]); omega) | apply lk_prev)) | ((try apply within_sub); apply Ints.within; repeat (first | assumption | apply Ints.app)))) | (apply Ints.within; repeat (first | assumption | apply Ints.app))) ?_
              refine d_end ?_
              refine awp_condF (by conv => lhs; whnf) ?_
              refine awp_skip ?_
              refine awp_seq ?_
              refine awp_seq ?_
              refine awp_region rfl ?_
              refine a_do rfl (o_move (by conv => lhs; whnf) ?_)
              refine a_do rfl (o_move (by conv => lhs; whnf) ?_)
              refine a_do rfl (o_callF (lmap_cons (by conv => lhs; whnf) lmap_nil) (RetN.toN (toInt64S_ret _ _ _ (by repeat (first | assumption | exact ints_nil | exact Ints.own (by repeat (first | assumption | exact lk_last (by (try simp only [List.length_append, List.length_cons, List.length_nil, List.length_set]); omega) | apply lk_prev)) (by first | rfl | exact upto_len | assumption | exact map_len) | apply Ints.app | (refine Ints.sub (by repeat (first | assumption | apply Ints.app)) (by omega) (by omega) (by omega)))) (by omega)) (fun k25 hk25 hgk25 => ?_)))
              try simp at hk25
              refine a_do rfl (o_callF (lmap_cons (by conv => lhs; whnf) (lmap_cons (by conv => lhs; whnf) lmap_nil)) (Ret.toB (eqInt64S_ret _ _ _ _ _ (by repeat (first | assumption | exact ints_nil | exact Ints.own (by repeat (first | assumption | exact lk_last (by (try simp only [List.length_append, List.length_cons, List.length_nil, List.length_set]); omega) | apply lk_prev)) (by first | rfl | exact upto_len | assumption | exact map_len) | apply Ints.app | (refine Ints.sub (by repeat (first | assumption | apply Ints.app)) (by omega) (by omega) (by omega)))) (by repeat (first | assumption | exact ints_nil | exact Ints.own (by repeat (first | assumption | exact lk_last (by (try simp only [List.length_append, List.length_cons, List.length_nil, List.length_set]); omega) | apply lk_prev)) (by first | rfl | exact upto_len | assumption | exact map_len) | apply Ints.app | (refine Ints.sub (by repeat (first | assumption | apply Ints.app)) (by omega) (by omega) (by omega)))) (by first | omega | (simp; done))) (fun c26 => ?_) (fun c26 => ?_)))
              ·
                refine a_do rfl (o_notT (by conv => lhs; whnf) ?_)
                refine a_end ?_
                refine awp_condF (by conv => lhs; whnf) ?_
                refine awp_skip ?_
                refine awp_seq ?_
                refine awp_region rfl ?_
                refine a_do rfl (o_assign (by conv => lhs; whnf) ?_)
                refine a_end ?_
                refine awp_ret ?_
                refine ⟨.inl rfl, [_], ⟨ares_tmp (by conv => lhs; whnf), trivial⟩, ?_⟩
                exact ⟨by first | rfl | (exfalso; omega) | (exfalso; simp_all; done), (by repeat (first | exact Grown.refl _ | refine Grown.push ?_ _))⟩
              ·
                refine a_do rfl (o_notF (by conv => lhs; whnf) ?_)
                refine a_end ?_
                refine awp_condT (by conv => lhs; whnf) ?_
                refine awp_seq ?_
                refine awp_region rfl ?_
                refine a_do rfl (o_assign (by conv => lhs; whnf) ?_)
                refine a_end ?_
                refine awp_ret ?_
                refine ⟨.inl rfl, [_], ⟨ares_tmp (by conv => lhs; whnf), trivial⟩, ?_⟩
                exact ⟨by first | rfl | (exfalso; omega) | (exfalso; simp_all; done), (by repeat (first | exact Grown.refl _ | refine Grown.push ?_ _))⟩
            ·
              refine d_do rfl (o_notF (by conv => lhs; whnf) ⟨rfl, rfl⟩) (by first | exact .prim rfl | exact Within.mono ‹Within _ (Value.func _ _ _)› (by (try simp only [List.length_append, List.length_cons, List.length_nil, List.length_set]); omega) | (apply within_sub; apply Ints.within; repeat (first | assumption | apply Ints.app)) | (apply within_ptr; repeat (first | assumption | exact lk_last (by (try simp only [List.length_append, List.length_cons, List.length_nil, List.length_set]); omega) | apply lk_prev)) | (apply within_sl; repeat (first | assumption | exact lk_last (by (try simp only [List.length_append, List.length_cons, List.length_nil, List.length_set]); omega) | apply lk_prev)) | (apply Within.agg3 <;> (first | exact .prim rfl | (apply within_ptr; repeat (first | assumption | exact lk_last (by (try simp only [List.length_append, List.length_cons, List.length_nil, List.length_set]); omega) | apply lk_prev)) | (apply within_sl; repeat (first | assumption | exact lk_last (by (try simp only [List.length_append, List.length_cons, List.length_nil, List.length_set]); omega) | apply lk_prev)) | ((try apply within_sub); apply Ints.within; repeat (first | assumption | apply Ints.app)))) | (apply Within.agg2 <;> (first | exact .prim rfl | (apply within_ptr; repeat (first | assumption | exact lk_last (by (try simp only [List.length_append, List.length_cons, List.length_nil, List.length_set]); omega) | apply lk_prev)) | (apply within_sl; repeat (first | assumption | exact lk_last (by (try simp only [List.length_append, List.length_cons, List.length_nil, List.length_set]); omega) | apply lk_prev)) | ((try apply within_sub); apply Ints.within; repeat (first | assumption | apply Ints.app)))) | (apply Ints.within; repeat (first | assumption | apply Ints.app))) ?_
              refine d_end ?_
              refine awp_condT (by conv => lhs; whnf) ?_
              refine awp_seq ?_
              refine awp_region rfl ?_
              refine a_do rfl (o_assign (by conv => lhs; whnf) ?_)
              refine a_end ?_
              refine awp_ret ?_
              refine ⟨.inl rfl, [_], ⟨ares_tmp (by conv => lhs; whnf), trivial⟩, ?_⟩
              exact ⟨by first | rfl | (exfalso; omega) | (exfalso; simp_all; done), (by repeat (first | exact Grown.refl _ | refine Grown.push ?_ _))⟩

end Go.Am
