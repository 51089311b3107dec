/-
  What the law FnExactMovingKnife answers over an abstract heap: true, for every input.
-/
import Derived.Test.YtfnopalingnilaaFnExactMovingKnifeBk3
namespace Go.Am
open Go.Proofs
set_option linter.unusedSimpArgs false
set_option linter.unusedVariables false

set_option maxHeartbeats 4000000 in
set_option maxRecDepth 10000 in
theorem fnExactMovingKnife_ret (p q : Int) (xs : List Int) (v : Value) (h : AHeap) (hv : Ints h v xs) (hl : xs.length ≤ 9223372036854775807) : Ret Try.prog 4 [.agg #[i64 p, i64 q, v]] h (.bool true) h := by
  refine ret_of (.prim rfl) ?_
  refine tri_of_body Try.func4 rfl (by kernel_rfl) (by show 1 ≤ 133; decide) ?_
  refine awp_seq ?_
  refine awp_region rfl ?_
  refine a_do rfl (o_boxN (n := 3) (by conv => lhs; whnf) (by exact (rfl : _ = [_, _, _])) (by rfl) (fun k2 hk2 => ?_))
  try simp at hk2
  refine a_do rfl (o_assign (by conv => lhs; whnf) ?_)
  refine a_end ?_
  refine awp_seq ?_
  refine awp_region rfl ?_
  refine a_do rfl (o_assign (by conv => lhs; whnf) ?_)
  refine a_end ?_
  refine awp_seq ?_
  refine awp_region rfl ?_
  refine a_do rfl (o_loadAgg Try.underlying24 rfl ty24 (by conv => lhs; whnf) (by with_reducible repeat (first | assumption | (apply lk_last; (try simp only [ll1, ll2, ll3, ll4, lls_len, lls2_len, markL_len]); first | done | omega) | apply lk_prev)) (by rfl) (by exact (rfl : _ = [_, _, _])) (by rfl) ?_)
  refine a_do rfl (o_move (by conv => lhs; whnf) ?_)
  refine a_do rfl (o_callF (lmap_cons (by conv => lhs; whnf) (lmap_cons (by conv => lhs; whnf) lmap_nil)) (Ret.to (szCake_ret _ _ _ _ _ _ (by first | ((with_reducible repeat (first | assumption | apply Ints.app)); done) | repeat (first | with_reducible assumption | exact ints_nil | exact Ints.own (by with_reducible repeat (first | assumption | (apply lk_last; (try simp only [ll1, ll2, ll3, ll4, lls_len, lls2_len, markL_len]); first | done | omega) | apply lk_prev)) (by first | rfl | exact upto_len | assumption | exact map_len | exact List.length_set | (rw [List.length_set]; assumption)) | exact Ints.tail (by with_reducible repeat (first | assumption | (apply lk_last; (try simp only [ll1, ll2, ll3, ll4, lls_len, lls2_len, markL_len]); first | done | omega) | apply lk_prev)) (by first | rfl | exact upto_len | assumption | exact map_len | exact List.length_set | (rw [List.length_set]; assumption)) | with_reducible apply Ints.app | (refine Ints.sub (by with_reducible repeat (first | assumption | apply Ints.app)) (by omega) (by omega) (by omega)))) (by omega) (by omega) (by omega)) ?_))
  refine a_do rfl (o_assign (by conv => lhs; whnf) ?_)
  refine a_end ?_
  refine awp_seq ?_
  refine awp_seq ?_
  refine awp_region rfl ?_
  refine a_do rfl (o_move (by conv => lhs; whnf) ?_)
  refine a_do rfl (o_lss (by conv => lhs; whnf) (by conv => lhs; whnf) (fun c3 => ?_) (fun c3 => ?_))
  ·
    refine a_end ?_
    refine awp_condT (by conv => lhs; whnf) ?_
    refine awp_seq ?_
    refine awp_region rfl ?_
    refine a_do rfl (o_assign (by conv => lhs; whnf) ?_)
    refine a_end ?_
    refine awp_ret ?_
    refine ⟨.inl rfl, [_], ⟨ares_tmp (by conv => lhs; whnf), trivial⟩, ?_⟩
    exact ⟨by first | rfl | (exfalso; omega) | (exfalso; simp_all; done), (by first | ((repeat (first | with_reducible exact Grown.refl _ | with_reducible apply Grown.push)); done) | repeat (first | exact Grown.refl _ | refine Grown.push ?_ _))⟩
  ·
    have hz := szL_spec c3
    refine a_end ?_
    refine awp_condF (by conv => lhs; whnf) ?_
    refine awp_skip ?_
    refine awp_seq ?_
    refine awp_region rfl ?_
    refine a_do rfl (o_loadAgg Try.underlying24 rfl ty24 (by conv => lhs; whnf) (by with_reducible repeat (first | assumption | (apply lk_last; (try simp only [ll1, ll2, ll3, ll4, lls_len, lls2_len, markL_len]); first | done | omega) | apply lk_prev)) (by rfl) (by exact (rfl : _ = [_, _, _])) (by rfl) ?_)
    refine a_do rfl (o_callF (lmap_cons (by conv => lhs; whnf) lmap_nil) (RetN.toN (toCake_ret _ _ _ _ _ (by first | ((with_reducible repeat (first | assumption | apply Ints.app)); done) | repeat (first | with_reducible assumption | exact ints_nil | exact Ints.own (by with_reducible repeat (first | assumption | (apply lk_last; (try simp only [ll1, ll2, ll3, ll4, lls_len, lls2_len, markL_len]); first | done | omega) | apply lk_prev)) (by first | rfl | exact upto_len | assumption | exact map_len | exact List.length_set | (rw [List.length_set]; assumption)) | exact Ints.tail (by with_reducible repeat (first | assumption | (apply lk_last; (try simp only [ll1, ll2, ll3, ll4, lls_len, lls2_len, markL_len]); first | done | omega) | apply lk_prev)) (by first | rfl | exact upto_len | assumption | exact map_len | exact List.length_set | (rw [List.length_set]; assumption)) | with_reducible apply Ints.app | (refine Ints.sub (by with_reducible repeat (first | assumption | apply Ints.app)) (by omega) (by omega) (by omega)))) (by omega)) (fun k4 hk4 hgk4 => ?_)))
    try simp at hk4
    have hIk4 := Ints.own hgk4 rfl
    rcases Bool.eq_false_or_eq_true (validC p q xs) with hok | hok
    ·
      refine a_do rfl (o_callF (lmap_cons (by conv => lhs; whnf) lmap_nil) (RetG.toLF ((specMovingKnife_ret _ _ _ _ _ (by first | ((with_reducible repeat (first | assumption | apply Ints.app)); done) | repeat (first | with_reducible assumption | exact ints_nil | exact Ints.own (by with_reducible repeat (first | assumption | (apply lk_last; (try simp only [ll1, ll2, ll3, ll4, lls_len, lls2_len, markL_len]); first | done | omega) | apply lk_prev)) (by first | rfl | exact upto_len | assumption | exact map_len | exact List.length_set | (rw [List.length_set]; assumption)) | exact Ints.tail (by with_reducible repeat (first | assumption | (apply lk_last; (try simp only [ll1, ll2, ll3, ll4, lls_len, lls2_len, markL_len]); first | done | omega) | apply lk_prev)) (by first | rfl | exact upto_len | assumption | exact map_len | exact List.length_set | (rw [List.length_set]; assumption)) | with_reducible apply Ints.app | (refine Ints.sub (by with_reducible repeat (first | assumption | apply Ints.app)) (by omega) (by omega) (by omega)))) (by omega)).1 hok) (fun k5 hk5 hLk5 => ?_)))
      have hbk5 := k_lb hok
      try simp at hk5
      refine a_do rfl (o_move (by conv => lhs; whnf) ?_)
      refine a_do rfl (o_extract (by conv => lhs; whnf) rfl ?_)
      refine a_do rfl (o_extract (by conv => lhs; whnf) rfl ?_)
      refine a_do rfl (o_extract (by conv => lhs; whnf) rfl ?_)
      refine a_do rfl (o_assign (by conv => lhs; whnf) ?_)
      refine a_do rfl (o_assign (by conv => lhs; whnf) ?_)
      refine a_do rfl (o_assign (by conv => lhs; whnf) ?_)
      refine a_end ?_
      refine awp_seq ?_
      refine awp_region rfl ?_
      refine a_do rfl (o_loadAgg Try.underlying24 rfl ty24 (by conv => lhs; whnf) (by with_reducible repeat (first | assumption | (apply lk_last; (try simp only [ll1, ll2, ll3, ll4, lls_len, lls2_len, markL_len]); first | done | omega) | apply lk_prev)) (by rfl) (by exact (rfl : _ = [_, _, _])) (by rfl) ?_)
      refine a_do rfl (o_callF (lmap_cons (by conv => lhs; whnf) lmap_nil) (RetN.toN (toCake_ret _ _ _ _ _ (by first | ((with_reducible repeat (first | assumption | apply Ints.app)); done) | repeat (first | with_reducible assumption | exact ints_nil | exact Ints.own (by with_reducible repeat (first | assumption | (apply lk_last; (try simp only [ll1, ll2, ll3, ll4, lls_len, lls2_len, markL_len]); first | done | omega) | apply lk_prev)) (by first | rfl | exact upto_len | assumption | exact map_len | exact List.length_set | (rw [List.length_set]; assumption)) | exact Ints.tail (by with_reducible repeat (first | assumption | (apply lk_last; (try simp only [ll1, ll2, ll3, ll4, lls_len, lls2_len, markL_len]); first | done | omega) | apply lk_prev)) (by first | rfl | exact upto_len | assumption | exact map_len | exact List.length_set | (rw [List.length_set]; assumption)) | with_reducible apply Ints.app | (refine Ints.sub (by with_reducible repeat (first | assumption | apply Ints.app)) (by omega) (by omega) (by omega)))) (by omega)) (fun k6 hk6 hgk6 => ?_)))
      try simp at hk6
      have hIk6 := Ints.own hgk6 rfl
      refine a_do rfl (o_allocN (n := 3) ty29 rfl (by exact (rfl : _ = [_, _, _])) (by rfl) (fun k7 hk7 => ?_))
      try simp at hk7
      refine a_do rfl (o_storeVAgg ty29 (by conv => lhs; whnf) (by with_reducible repeat (first | assumption | (apply lk_last; (try simp only [ll1, ll2, ll3, ll4, lls_len, lls2_len, markL_len]); first | done | omega) | apply lk_prev)) (by rfl) (by rfl) (by rfl) (by conv => lhs; whnf) (by rfl) (by rfl) (by first | rfl | exact one2 (by assumption)) (by first | exact (rfl : _ = [_]) | exact (rfl : _ = [_, _]) | exact (rfl : _ = [_, _, _]) | exact (rfl : _ = [_, _, _, _]) | rfl) (by with_reducible repeat (first | (apply set_last; (try simp only [ll1, ll2, ll3, ll4, lls_len, lls2_len, markL_len]); first | done | omega) | (apply set_step; (try simp only [ll1, ll2, ll3, ll4, lls_len, lls2_len, markL_len]); first | done | omega) | exact rfl)) ?_)
      refine a_end ?_
      refine awp_seq ?_
      refine awp_region rfl ?_
      refine a_do rfl (o_loadAgg Try.underlying29 rfl ty29 (by conv => lhs; whnf) (by with_reducible repeat (first | assumption | (apply lk_last; (try simp only [ll1, ll2, ll3, ll4, lls_len, lls2_len, markL_len]); first | done | omega) | apply lk_prev)) (by rfl) (by exact (rfl : _ = [_, _, _])) (by rfl) ?_)
      refine a_do rfl (o_callF (lmap_cons (by conv => lhs; whnf) lmap_nil) (RetG.toLF ((implMovingKnife_ret _ _ _ _ _ (by first | ((with_reducible repeat (first | assumption | apply Ints.app)); done) | repeat (first | with_reducible assumption | exact ints_nil | exact Ints.own (by with_reducible repeat (first | assumption | (apply lk_last; (try simp only [ll1, ll2, ll3, ll4, lls_len, lls2_len, markL_len]); first | done | omega) | apply lk_prev)) (by first | rfl | exact upto_len | assumption | exact map_len | exact List.length_set | (rw [List.length_set]; assumption)) | exact Ints.tail (by with_reducible repeat (first | assumption | (apply lk_last; (try simp only [ll1, ll2, ll3, ll4, lls_len, lls2_len, markL_len]); first | done | omega) | apply lk_prev)) (by first | rfl | exact upto_len | assumption | exact map_len | exact List.length_set | (rw [List.length_set]; assumption)) | with_reducible apply Ints.app | (refine Ints.sub (by with_reducible repeat (first | assumption | apply Ints.app)) (by omega) (by omega) (by omega)))) (by omega)).1 hok) (fun k8 hk8 hLk8 => ?_)))
      have hbk8 := k_lb hok
      try simp at hk8
      refine a_do rfl (o_move (by conv => lhs; whnf) ?_)
      refine a_do rfl (o_extract (by conv => lhs; whnf) rfl ?_)
      refine a_do rfl (o_extract (by conv => lhs; whnf) rfl ?_)
      refine a_do rfl (o_extract (by conv => lhs; whnf) rfl ?_)
      refine a_do rfl (o_assign (by conv => lhs; whnf) ?_)
      refine a_do rfl (o_assign (by conv => lhs; whnf) ?_)
      refine a_do rfl (o_assign (by conv => lhs; whnf) ?_)
      refine a_end ?_
      refine awp_seq ?_
      refine awp_seq ?_
      refine awp_region rfl ?_
      refine a_do rfl (o_move (by conv => lhs; whnf) ?_)
      refine a_do rfl (o_move (by conv => lhs; whnf) ?_)
      refine a_do rfl (o_callF (lmap_cons (by conv => lhs; whnf) (lmap_cons (by conv => lhs; whnf) lmap_nil)) (Ret.toB (eqInt64S_ret _ _ _ _ _ (by first | ((with_reducible repeat (first | assumption | apply Ints.app)); done) | repeat (first | with_reducible assumption | exact ints_nil | exact Ints.own (by with_reducible repeat (first | assumption | (apply lk_last; (try simp only [ll1, ll2, ll3, ll4, lls_len, lls2_len, markL_len]); first | done | omega) | apply lk_prev)) (by first | rfl | exact upto_len | assumption | exact map_len | exact List.length_set | (rw [List.length_set]; assumption)) | exact Ints.tail (by with_reducible repeat (first | assumption | (apply lk_last; (try simp only [ll1, ll2, ll3, ll4, lls_len, lls2_len, markL_len]); first | done | omega) | apply lk_prev)) (by first | rfl | exact upto_len | assumption | exact map_len | exact List.length_set | (rw [List.length_set]; assumption)) | with_reducible apply Ints.app | (refine Ints.sub (by with_reducible repeat (first | assumption | apply Ints.app)) (by omega) (by omega) (by omega)))) (by first | ((with_reducible repeat (first | assumption | apply Ints.app)); done) | repeat (first | with_reducible assumption | exact ints_nil | exact Ints.own (by with_reducible repeat (first | assumption | (apply lk_last; (try simp only [ll1, ll2, ll3, ll4, lls_len, lls2_len, markL_len]); first | done | omega) | apply lk_prev)) (by first | rfl | exact upto_len | assumption | exact map_len | exact List.length_set | (rw [List.length_set]; assumption)) | exact Ints.tail (by with_reducible repeat (first | assumption | (apply lk_last; (try simp only [ll1, ll2, ll3, ll4, lls_len, lls2_len, markL_len]); first | done | omega) | apply lk_prev)) (by first | rfl | exact upto_len | assumption | exact map_len | exact List.length_set | (rw [List.length_set]; assumption)) | with_reducible apply Ints.app | (refine Ints.sub (by with_reducible repeat (first | assumption | apply Ints.app)) (by omega) (by omega) (by omega)))) (by first | omega | (simp; done))) (fun c9 => ?_) (fun c9 => ?_)))
      ·
        refine a_do rfl (o_notT (by conv => lhs; whnf) ?_)
        refine a_do rfl (o_move (by conv => lhs; whnf) ?_)
        refine a_do rfl (o_move (by conv => lhs; whnf) ?_)
        refine a_do rfl (o_move (by conv => lhs; whnf) ?_)
        refine a_do rfl (o_callF (lmap_cons (by conv => lhs; whnf) (lmap_cons (by conv => lhs; whnf) lmap_nil)) (Ret.toB (eqFloat32S_ret _ _ _ _ (by first | ((with_reducible repeat (first | assumption | apply Flts.app)); done) | with_reducible exact flts_nil | exact Flts.own (by with_reducible repeat (first | assumption | (apply lk_last; (try simp only [ll1, ll2, ll3, ll4, lls_len, lls2_len, markL_len]); first | done | omega) | apply lk_prev)) (by first | rfl | exact upto_len | assumption | exact map_len | exact List.length_set | (rw [List.length_set]; assumption)) | exact flts_nil) (by first | ((with_reducible repeat (first | assumption | apply Flts.app)); done) | with_reducible exact flts_nil | exact Flts.own (by with_reducible repeat (first | assumption | (apply lk_last; (try simp only [ll1, ll2, ll3, ll4, lls_len, lls2_len, markL_len]); first | done | omega) | apply lk_prev)) (by first | rfl | exact upto_len | assumption | exact map_len | exact List.length_set | (rw [List.length_set]; assumption)) | exact flts_nil) (by first | omega | (simp; done))) (fun c10 => ?_) (fun c10 => ?_)))
        ·
          refine a_do rfl (o_notT (by conv => lhs; whnf) ?_)
          refine a_do rfl (o_pickF (by conv => lhs; whnf) (by conv => lhs; whnf) ?_)
          refine a_do rfl (o_move (by conv => lhs; whnf) ?_)
          refine a_do rfl (o_move (by conv => lhs; whnf) ?_)
          refine a_do rfl (o_move (by conv => lhs; whnf) ?_)
          refine a_do rfl (o_boolNeL (b := false) Try.underlying4 (by conv => lhs; whnf) (by conv => lhs; whnf) (by rfl) ?_)
          refine a_do rfl (o_pickF (by conv => lhs; whnf) (by conv => lhs; whnf) ?_)
          refine a_end ?_
          refine awp_condF (by conv => lhs; whnf) ?_
          refine awp_skip ?_
          refine awp_seq ?_
          refine awp_seq ?_
          refine awp_draw Try_mixed (by kernel_rfl) rfl ?_
          refine d_do rfl (o_loadAgg Try.underlying29 rfl ty29 (by conv => lhs; whnf) (by with_reducible repeat (first | assumption | (apply lk_last; (try simp only [ll1, ll2, ll3, ll4, lls_len, lls2_len, markL_len]); first | done | omega) | apply lk_prev)) (by rfl) (by exact (rfl : _ = [_, _, _])) (by rfl) ⟨rfl, rfl⟩) (by first | exact .prim rfl | exact within_func0 | (apply within_ptr; (with_reducible repeat (first | assumption | (apply lk_last; (try simp only [ll1, ll2, ll3, ll4, lls_len, lls2_len, markL_len]); first | done | omega) | apply lk_prev)); done) | (apply within_sl; (with_reducible repeat (first | assumption | (apply lk_last; (try simp only [ll1, ll2, ll3, ll4, lls_len, lls2_len, markL_len]); first | done | omega) | apply lk_prev)); done) | ((try apply within_sub); apply Ints.within; (with_reducible repeat (first | assumption | apply Ints.app)); done) | (apply Lists.within; (with_reducible repeat (first | assumption | apply Lists.app)); done) | (apply Flts.within; (with_reducible repeat (first | assumption | apply Flts.app)); done) | (apply Byts.within; (with_reducible repeat (first | assumption | apply Byts.app)); done) | exact within_nilw | exact within_nilb | (apply within_tup2 <;> first | exact .prim rfl | (apply within_sl; (with_reducible repeat (first | assumption | (apply lk_last; (try simp only [ll1, ll2, ll3, ll4, lls_len, lls2_len, markL_len]); first | done | omega) | apply lk_prev)); done) | (apply Within.agg2 <;> (first | exact .prim rfl | (apply within_ptr; (with_reducible repeat (first | assumption | (apply lk_last; (try simp only [ll1, ll2, ll3, ll4, lls_len, lls2_len, markL_len]); first | done | omega) | apply lk_prev)); done) | (apply within_sl; (with_reducible repeat (first | assumption | (apply lk_last; (try simp only [ll1, ll2, ll3, ll4, lls_len, lls2_len, markL_len]); first | done | omega) | apply lk_prev)); done) | ((try apply within_sub); apply Ints.within; (with_reducible repeat (first | assumption | apply Ints.app)); done) | (apply Lists.within; (with_reducible repeat (first | assumption | apply Lists.app)); done) | (apply within_sl; (with_reducible repeat (first | assumption | (apply lk_last; (try simp only [ll1, ll2, ll3, ll4, lls_len, lls2_len, markL_len]); first | done | omega) | apply lk_prev)); done)))) | exact Within.mono ‹Within _ (Value.func _ _ _)› (by (try simp only [ll1, ll2, ll3, ll4, lls_len, lls2_len, markL_len]); first | done | omega) | (apply Within.agg4 <;> (first | exact .prim rfl | (apply within_ptr; (with_reducible repeat (first | assumption | (apply lk_last; (try simp only [ll1, ll2, ll3, ll4, lls_len, lls2_len, markL_len]); first | done | omega) | apply lk_prev)); done) | (apply within_sl; (with_reducible repeat (first | assumption | (apply lk_last; (try simp only [ll1, ll2, ll3, ll4, lls_len, lls2_len, markL_len]); first | done | omega) | apply lk_prev)); done) | ((try apply within_sub); apply Ints.within; (with_reducible repeat (first | assumption | apply Ints.app)); done) | (apply Lists.within; (with_reducible repeat (first | assumption | apply Lists.app)); done) | (apply within_sl; (with_reducible repeat (first | assumption | (apply lk_last; (try simp only [ll1, ll2, ll3, ll4, lls_len, lls2_len, markL_len]); first | done | omega) | apply lk_prev)); done))) | (apply Within.agg3 <;> (first | exact .prim rfl | (apply within_ptr; (with_reducible repeat (first | assumption | (apply lk_last; (try simp only [ll1, ll2, ll3, ll4, lls_len, lls2_len, markL_len]); first | done | omega) | apply lk_prev)); done) | (apply within_sl; (with_reducible repeat (first | assumption | (apply lk_last; (try simp only [ll1, ll2, ll3, ll4, lls_len, lls2_len, markL_len]); first | done | omega) | apply lk_prev)); done) | ((try apply within_sub); apply Ints.within; (with_reducible repeat (first | assumption | apply Ints.app)); done) | (apply Lists.within; (with_reducible repeat (first | assumption | apply Lists.app)); done) | (apply within_sl; (with_reducible repeat (first | assumption | (apply lk_last; (try simp only [ll1, ll2, ll3, ll4, lls_len, lls2_len, markL_len]); first | done | omega) | apply lk_prev)); done))) | (apply Within.agg2 <;> (first | exact .prim rfl | (apply within_ptr; (with_reducible repeat (first | assumption | (apply lk_last; (try simp only [ll1, ll2, ll3, ll4, lls_len, lls2_len, markL_len]); first | done | omega) | apply lk_prev)); done) | (apply within_sl; (with_reducible repeat (first | assumption | (apply lk_last; (try simp only [ll1, ll2, ll3, ll4, lls_len, lls2_len, markL_len]); first | done | omega) | apply lk_prev)); done) | ((try apply within_sub); apply Ints.within; (with_reducible repeat (first | assumption | apply Ints.app)); done) | (apply Lists.within; (with_reducible repeat (first | assumption | apply Lists.app)); done) | (apply within_sl; (with_reducible repeat (first | assumption | (apply lk_last; (try simp only [ll1, ll2, ll3, ll4, lls_len, lls2_len, markL_len]); first | done | omega) | apply lk_prev)); done)))) ?_
          refine d_do rfl (o_loadAgg Try.underlying24 rfl ty24 (by conv => lhs; whnf) (by with_reducible repeat (first | assumption | (apply lk_last; (try simp only [ll1, ll2, ll3, ll4, lls_len, lls2_len, markL_len]); first | done | omega) | apply lk_prev)) (by rfl) (by exact (rfl : _ = [_, _, _])) (by rfl) ⟨rfl, rfl⟩) (by first | exact .prim rfl | exact within_func0 | (apply within_ptr; (with_reducible repeat (first | assumption | (apply lk_last; (try simp only [ll1, ll2, ll3, ll4, lls_len, lls2_len, markL_len]); first | done | omega) | apply lk_prev)); done) | (apply within_sl; (with_reducible repeat (first | assumption | (apply lk_last; (try simp only [ll1, ll2, ll3, ll4, lls_len, lls2_len, markL_len]); first | done | omega) | apply lk_prev)); done) | ((try apply within_sub); apply Ints.within; (with_reducible repeat (first | assumption | apply Ints.app)); done) | (apply Lists.within; (with_reducible repeat (first | assumption | apply Lists.app)); done) | (apply Flts.within; (with_reducible repeat (first | assumption | apply Flts.app)); done) | (apply Byts.within; (with_reducible repeat (first | assumption | apply Byts.app)); done) | exact within_nilw | exact within_nilb | (apply within_tup2 <;> first | exact .prim rfl | (apply within_sl; (with_reducible repeat (first | assumption | (apply lk_last; (try simp only [ll1, ll2, ll3, ll4, lls_len, lls2_len, markL_len]); first | done | omega) | apply lk_prev)); done) | (apply Within.agg2 <;> (first | exact .prim rfl | (apply within_ptr; (with_reducible repeat (first | assumption | (apply lk_last; (try simp only [ll1, ll2, ll3, ll4, lls_len, lls2_len, markL_len]); first | done | omega) | apply lk_prev)); done) | (apply within_sl; (with_reducible repeat (first | assumption | (apply lk_last; (try simp only [ll1, ll2, ll3, ll4, lls_len, lls2_len, markL_len]); first | done | omega) | apply lk_prev)); done) | ((try apply within_sub); apply Ints.within; (with_reducible repeat (first | assumption | apply Ints.app)); done) | (apply Lists.within; (with_reducible repeat (first | assumption | apply Lists.app)); done) | (apply within_sl; (with_reducible repeat (first | assumption | (apply lk_last; (try simp only [ll1, ll2, ll3, ll4, lls_len, lls2_len, markL_len]); first | done | omega) | apply lk_prev)); done)))) | exact Within.mono ‹Within _ (Value.func _ _ _)› (by (try simp only [ll1, ll2, ll3, ll4, lls_len, lls2_len, markL_len]); first | done | omega) | (apply Within.agg4 <;> (first | exact .prim rfl | (apply within_ptr; (with_reducible repeat (first | assumption | (apply lk_last; (try simp only [ll1, ll2, ll3, ll4, lls_len, lls2_len, markL_len]); first | done | omega) | apply lk_prev)); done) | (apply within_sl; (with_reducible repeat (first | assumption | (apply lk_last; (try simp only [ll1, ll2, ll3, ll4, lls_len, lls2_len, markL_len]); first | done | omega) | apply lk_prev)); done) | ((try apply within_sub); apply Ints.within; (with_reducible repeat (first | assumption | apply Ints.app)); done) | (apply Lists.within; (with_reducible repeat (first | assumption | apply Lists.app)); done) | (apply within_sl; (with_reducible repeat (first | assumption | (apply lk_last; (try simp only [ll1, ll2, ll3, ll4, lls_len, lls2_len, markL_len]); first | done | omega) | apply lk_prev)); done))) | (apply Within.agg3 <;> (first | exact .prim rfl | (apply within_ptr; (with_reducible repeat (first | assumption | (apply lk_last; (try simp only [ll1, ll2, ll3, ll4, lls_len, lls2_len, markL_len]); first | done | omega) | apply lk_prev)); done) | (apply within_sl; (with_reducible repeat (first | assumption | (apply lk_last; (try simp only [ll1, ll2, ll3, ll4, lls_len, lls2_len, markL_len]); first | done | omega) | apply lk_prev)); done) | ((try apply within_sub); apply Ints.within; (with_reducible repeat (first | assumption | apply Ints.app)); done) | (apply Lists.within; (with_reducible repeat (first | assumption | apply Lists.app)); done) | (apply within_sl; (with_reducible repeat (first | assumption | (apply lk_last; (try simp only [ll1, ll2, ll3, ll4, lls_len, lls2_len, markL_len]); first | done | omega) | apply lk_prev)); done))) | (apply Within.agg2 <;> (first | exact .prim rfl | (apply within_ptr; (with_reducible repeat (first | assumption | (apply lk_last; (try simp only [ll1, ll2, ll3, ll4, lls_len, lls2_len, markL_len]); first | done | omega) | apply lk_prev)); done) | (apply within_sl; (with_reducible repeat (first | assumption | (apply lk_last; (try simp only [ll1, ll2, ll3, ll4, lls_len, lls2_len, markL_len]); first | done | omega) | apply lk_prev)); done) | ((try apply within_sub); apply Ints.within; (with_reducible repeat (first | assumption | apply Ints.app)); done) | (apply Lists.within; (with_reducible repeat (first | assumption | apply Lists.app)); done) | (apply within_sl; (with_reducible repeat (first | assumption | (apply lk_last; (try simp only [ll1, ll2, ll3, ll4, lls_len, lls2_len, markL_len]); first | done | omega) | apply lk_prev)); done)))) ?_
          refine d_callN rfl (lmap_cons (by conv => lhs; whnf) lmap_nil) (toCake_ret _ _ _ _ _ (by first | ((with_reducible repeat (first | assumption | apply Ints.app)); done) | repeat (first | with_reducible assumption | exact ints_nil | exact Ints.own (by with_reducible repeat (first | assumption | (apply lk_last; (try simp only [ll1, ll2, ll3, ll4, lls_len, lls2_len, markL_len]); first | done | omega) | apply lk_prev)) (by first | rfl | exact upto_len | assumption | exact map_len | exact List.length_set | (rw [List.length_set]; assumption)) | exact Ints.tail (by with_reducible repeat (first | assumption | (apply lk_last; (try simp only [ll1, ll2, ll3, ll4, lls_len, lls2_len, markL_len]); first | done | omega) | apply lk_prev)) (by first | rfl | exact upto_len | assumption | exact map_len | exact List.length_set | (rw [List.length_set]; assumption)) | with_reducible apply Ints.app | (refine Ints.sub (by with_reducible repeat (first | assumption | apply Ints.app)) (by omega) (by omega) (by omega)))) (by omega)) (by exact .agg3 (.prim rfl) (.prim rfl) (.slice (by (try simp only [ll1, ll2, ll3, ll4, lls_len, lls2_len, markL_len]); first | done | omega))) (by simp [lst, isPrim]) (fun k11 hk11 hgk11 => ?_)
          try simp at hk11
          have hIk11 := Ints.own hgk11 rfl
          refine d_callB rfl (lmap_cons (by conv => lhs; whnf) (lmap_cons (by conv => lhs; whnf) lmap_nil)) (eqCake_ret _ _ _ _ _ _ _ _ _ (by first | ((with_reducible repeat (first | assumption | apply Ints.app)); done) | repeat (first | with_reducible assumption | exact ints_nil | exact Ints.own (by with_reducible repeat (first | assumption | (apply lk_last; (try simp only [ll1, ll2, ll3, ll4, lls_len, lls2_len, markL_len]); first | done | omega) | apply lk_prev)) (by first | rfl | exact upto_len | assumption | exact map_len | exact List.length_set | (rw [List.length_set]; assumption)) | exact Ints.tail (by with_reducible repeat (first | assumption | (apply lk_last; (try simp only [ll1, ll2, ll3, ll4, lls_len, lls2_len, markL_len]); first | done | omega) | apply lk_prev)) (by first | rfl | exact upto_len | assumption | exact map_len | exact List.length_set | (rw [List.length_set]; assumption)) | with_reducible apply Ints.app | (refine Ints.sub (by with_reducible repeat (first | assumption | apply Ints.app)) (by omega) (by omega) (by omega)))) (by first | ((with_reducible repeat (first | assumption | apply Ints.app)); done) | repeat (first | with_reducible assumption | exact ints_nil | exact Ints.own (by with_reducible repeat (first | assumption | (apply lk_last; (try simp only [ll1, ll2, ll3, ll4, lls_len, lls2_len, markL_len]); first | done | omega) | apply lk_prev)) (by first | rfl | exact upto_len | assumption | exact map_len | exact List.length_set | (rw [List.length_set]; assumption)) | exact Ints.tail (by with_reducible repeat (first | assumption | (apply lk_last; (try simp only [ll1, ll2, ll3, ll4, lls_len, lls2_len, markL_len]); first | done | omega) | apply lk_prev)) (by first | rfl | exact upto_len | assumption | exact map_len | exact List.length_set | (rw [List.length_set]; assumption)) | with_reducible apply Ints.app | (refine Ints.sub (by with_reducible repeat (first | assumption | apply Ints.app)) (by omega) (by omega) (by omega)))) (by omega)) (fun c12 => ?_) (fun c12 => ?_)
          ·
            refine d_do rfl (o_notT (by conv => lhs; whnf) ⟨rfl, rfl⟩) (by exact .prim rfl) ?_
            refine d_end ?_
            refine awp_condF (by conv => lhs; whnf) ?_
            refine awp_skip ?_
            refine awp_seq ?_
            refine awp_region rfl ?_
            refine a_do rfl (o_assign (by conv => lhs; whnf) ?_)
            refine a_end ?_
            refine awp_seq ?_
            refine awp_region rfl ?_
            refine a_do rfl (o_loadAgg Try.underlying29 rfl ty29 (by conv => lhs; whnf) (by with_reducible repeat (first | assumption | (apply lk_last; (try simp only [ll1, ll2, ll3, ll4, lls_len, lls2_len, markL_len]); first | done | omega) | apply lk_prev)) (by rfl) (by exact (rfl : _ = [_, _, _])) (by rfl) ?_)
            refine a_do rfl (o_move (by conv => lhs; whnf) ?_)
            refine a_do rfl (o_callF (lmap_cons (by conv => lhs; whnf) (lmap_cons (by conv => lhs; whnf) lmap_nil)) (Ret.to (Ret.heap (markCake_ret _ _ _ _ _ _ _ (by first | ((with_reducible repeat (first | assumption | (apply lk_last; (try simp only [ll1, ll2, ll3, ll4, lls_len, lls2_len, markL_len]); first | done | omega) | apply lk_prev)); done) | repeat (first | assumption | exact lk_last (by (try simp only [ll1, ll2, ll3, ll4, lls_len, lls2_len, markL_len]); first | done | omega) | apply lk_prev)) (by first | rfl | exact upto_len | assumption | exact map_len | exact List.length_set | (rw [List.length_set]; assumption)) (by omega) (by omega)) (by with_reducible repeat (first | (apply set_last; (try simp only [ll1, ll2, ll3, ll4, lls_len, lls2_len, markL_len]); first | done | omega) | (apply set_step; (try simp only [ll1, ll2, ll3, ll4, lls_len, lls2_len, markL_len]); first | done | omega) | exact rfl))) ?_))
            refine a_do rfl (o_assign (by conv => lhs; whnf) ?_)
            refine a_end ?_
            refine awp_seq ?_
            refine awp_seq ?_
            refine awp_region rfl ?_
            refine a_do rfl (o_move (by conv => lhs; whnf) ?_)
            refine a_do rfl (o_lss (by conv => lhs; whnf) (by conv => lhs; whnf) (fun c13 => ?_) (fun c13 => ?_))
            ·
              refine a_do rfl (o_move (by conv => lhs; whnf) ?_)
              refine a_no rfl ?_
              refine a_no rfl ?_
              refine a_no rfl ?_
              refine a_no rfl ?_
              refine a_do rfl (o_pickT (by conv => lhs; whnf) (by conv => lhs; whnf) ?_)
              refine a_do rfl (o_move (by conv => lhs; whnf) ?_)
              refine a_no rfl ?_
              refine a_no rfl ?_
              refine a_no rfl ?_
              refine a_no rfl ?_
              refine a_do rfl (o_pickT (by conv => lhs; whnf) (by conv => lhs; whnf) ?_)
              refine a_do rfl (o_move (by conv => lhs; whnf) ?_)
              refine a_no rfl ?_
              refine a_no rfl ?_
              refine a_no rfl ?_
              refine a_do rfl (o_pickT (by conv => lhs; whnf) (by conv => lhs; whnf) ?_)
              refine a_end ?_
              refine awp_condT (by conv => lhs; whnf) ?_
              refine awp_seq ?_
              refine awp_region rfl ?_
              refine a_do rfl (o_assign (by conv => lhs; whnf) ?_)
              refine a_end ?_
              refine awp_ret ?_
              refine ⟨.inl rfl, [_], ⟨ares_tmp (by conv => lhs; whnf), trivial⟩, ?_⟩
              exact ⟨by first | rfl | (exfalso; omega) | (exfalso; simp_all; done), (by first | ((repeat (first | with_reducible exact Grown.refl _ | with_reducible apply Grown.push)); done) | repeat (first | exact Grown.refl _ | refine Grown.push ?_ _))⟩
            ·
              refine a_do rfl (o_move (by conv => lhs; whnf) ?_)
              refine a_do rfl (o_move (by conv => lhs; whnf) ?_)
              refine a_do rfl (o_move (by conv => lhs; whnf) ?_)
              refine a_do rfl (o_callF (lmap_cons (by conv => lhs; whnf) (lmap_cons (by conv => lhs; whnf) lmap_nil)) (Ret.toB (eqInt64S_ret _ _ _ _ _ (by first | ((with_reducible repeat (first | assumption | apply Ints.app)); done) | repeat (first | with_reducible assumption | exact ints_nil | exact Ints.own (by with_reducible repeat (first | assumption | (apply lk_last; (try simp only [ll1, ll2, ll3, ll4, lls_len, lls2_len, markL_len]); first | done | omega) | apply lk_prev)) (by first | rfl | exact upto_len | assumption | exact map_len | exact List.length_set | (rw [List.length_set]; assumption)) | exact Ints.tail (by with_reducible repeat (first | assumption | (apply lk_last; (try simp only [ll1, ll2, ll3, ll4, lls_len, lls2_len, markL_len]); first | done | omega) | apply lk_prev)) (by first | rfl | exact upto_len | assumption | exact map_len | exact List.length_set | (rw [List.length_set]; assumption)) | with_reducible apply Ints.app | (refine Ints.sub (by with_reducible repeat (first | assumption | apply Ints.app)) (by omega) (by omega) (by omega)))) (by first | ((with_reducible repeat (first | assumption | apply Ints.app)); done) | repeat (first | with_reducible assumption | exact ints_nil | exact Ints.own (by with_reducible repeat (first | assumption | (apply lk_last; (try simp only [ll1, ll2, ll3, ll4, lls_len, lls2_len, markL_len]); first | done | omega) | apply lk_prev)) (by first | rfl | exact upto_len | assumption | exact map_len | exact List.length_set | (rw [List.length_set]; assumption)) | exact Ints.tail (by with_reducible repeat (first | assumption | (apply lk_last; (try simp only [ll1, ll2, ll3, ll4, lls_len, lls2_len, markL_len]); first | done | omega) | apply lk_prev)) (by first | rfl | exact upto_len | assumption | exact map_len | exact List.length_set | (rw [List.length_set]; assumption)) | with_reducible apply Ints.app | (refine Ints.sub (by with_reducible repeat (first | assumption | apply Ints.app)) (by omega) (by omega) (by omega)))) (by first | omega | (simp; done))) (fun c14 => ?_) (fun c14 => ?_)))
              ·
                refine a_do rfl (o_notT (by conv => lhs; whnf) ?_)
                refine a_do rfl (o_pickF (by conv => lhs; whnf) (by conv => lhs; whnf) ?_)
                refine a_do rfl (o_move (by conv => lhs; whnf) ?_)
                refine a_do rfl (o_move (by conv => lhs; whnf) ?_)
                refine a_do rfl (o_move (by conv => lhs; whnf) ?_)
                refine a_do rfl (o_callF (lmap_cons (by conv => lhs; whnf) (lmap_cons (by conv => lhs; whnf) lmap_nil)) (Ret.toB (eqFloat32S_ret _ _ _ _ (by first | ((with_reducible repeat (first | assumption | apply Flts.app)); done) | with_reducible exact flts_nil | exact Flts.own (by with_reducible repeat (first | assumption | (apply lk_last; (try simp only [ll1, ll2, ll3, ll4, lls_len, lls2_len, markL_len]); first | done | omega) | apply lk_prev)) (by first | rfl | exact upto_len | assumption | exact map_len | exact List.length_set | (rw [List.length_set]; assumption)) | exact flts_nil) (by first | ((with_reducible repeat (first | assumption | apply Flts.app)); done) | with_reducible exact flts_nil | exact Flts.own (by with_reducible repeat (first | assumption | (apply lk_last; (try simp only [ll1, ll2, ll3, ll4, lls_len, lls2_len, markL_len]); first | done | omega) | apply lk_prev)) (by first | rfl | exact upto_len | assumption | exact map_len | exact List.length_set | (rw [List.length_set]; assumption)) | exact flts_nil) (by first | omega | (simp; done))) (fun c15 => ?_) (fun c15 => ?_)))
                ·
                  refine a_do rfl (o_notT (by conv => lhs; whnf) ?_)
                  refine a_do rfl (o_pickF (by conv => lhs; whnf) (by conv => lhs; whnf) ?_)
                  refine a_do rfl (o_move (by conv => lhs; whnf) ?_)
                  refine a_do rfl (o_move (by conv => lhs; whnf) ?_)
                  refine a_do rfl (o_move (by conv => lhs; whnf) ?_)
                  refine a_do rfl (o_boolNeL (b := false) Try.underlying4 (by conv => lhs; whnf) (by conv => lhs; whnf) (by rfl) ?_)
                  refine a_do rfl (o_pickF (by conv => lhs; whnf) (by conv => lhs; whnf) ?_)
                  refine a_end ?_
                  refine awp_condF (by conv => lhs; whnf) ?_
                  refine awp_skip ?_
                  refine awp_seq ?_
                  refine awp_region rfl ?_
                  refine a_do rfl (o_assign (by conv => lhs; whnf) ?_)
                  refine a_end ?_
                  refine awp_seq ?_
                  refine awp_region rfl ?_
                  refine a_do rfl (o_move (by conv => lhs; whnf) ?_)
                  refine a_do rfl (o_move (by conv => lhs; whnf) ?_)
                  refine a_do rfl (o_callF (lmap_cons (by conv => lhs; whnf) (lmap_cons (by conv => lhs; whnf) lmap_nil)) (Ret.to (Ret.heap (markInt64S_ret _ _ _ _ _ (by first | ((with_reducible repeat (first | assumption | (apply lk_last; (try simp only [ll1, ll2, ll3, ll4, lls_len, lls2_len, markL_len]); first | done | omega) | apply lk_prev)); done) | repeat (first | assumption | exact lk_last (by (try simp only [ll1, ll2, ll3, ll4, lls_len, lls2_len, markL_len]); first | done | omega) | apply lk_prev)) (by first | rfl | exact upto_len | assumption | exact map_len | exact List.length_set | (rw [List.length_set]; assumption)) (by omega) (by omega)) (by with_reducible repeat (first | (apply set_last; (try simp only [ll1, ll2, ll3, ll4, lls_len, lls2_len, markL_len]); first | done | omega) | (apply set_step; (try simp only [ll1, ll2, ll3, ll4, lls_len, lls2_len, markL_len]); first | done | omega) | exact rfl))) ?_))
                  refine a_do rfl (o_assign (by conv => lhs; whnf) ?_)
                  refine a_end ?_
                  refine awp_seq ?_
                  refine awp_region rfl ?_
                  refine a_do rfl (o_move (by conv => lhs; whnf) ?_)
                  refine a_do rfl (o_move (by conv => lhs; whnf) ?_)
                  refine a_do rfl (o_callF (lmap_cons (by conv => lhs; whnf) (lmap_cons (by conv => lhs; whnf) lmap_nil)) (Ret.to (Ret.heap (markFloat32S_ret _ _ _ _ _ (by first | ((with_reducible repeat (first | assumption | (apply lk_last; (try simp only [ll1, ll2, ll3, ll4, lls_len, lls2_len, markL_len]); first | done | omega) | apply lk_prev)); done) | repeat (first | assumption | exact lk_last (by (try simp only [ll1, ll2, ll3, ll4, lls_len, lls2_len, markL_len]); first | done | omega) | apply lk_prev)) (by first | rfl | exact upto_len | assumption | exact map_len | exact List.length_set | (rw [List.length_set]; assumption)) (by omega) (by omega)) (by with_reducible repeat (first | (apply set_last; (try simp only [ll1, ll2, ll3, ll4, lls_len, lls2_len, markL_len]); first | done | omega) | (apply set_step; (try simp only [ll1, ll2, ll3, ll4, lls_len, lls2_len, markL_len]); first | done | omega) | exact rfl))) ?_))
                  refine a_do rfl (o_assign (by conv => lhs; whnf) ?_)
                  refine a_end ?_
                  refine awp_seq ?_
                  refine awp_region rfl ?_
                  refine a_do rfl (o_assign (by conv => lhs; whnf) ?_)
                  refine a_end ?_
                  refine awp_seq ?_
                  refine awp_region rfl ?_
                  refine a_do rfl (o_move (by conv => lhs; whnf) ?_)
                  refine a_do rfl (o_move (by conv => lhs; whnf) ?_)
                  refine a_do rfl (o_callF (lmap_cons (by conv => lhs; whnf) (lmap_cons (by conv => lhs; whnf) lmap_nil)) (Ret.to (heldU_ret _ _ _ _ (by first | ((with_reducible repeat (first | assumption | apply Ints.app)); done) | repeat (first | with_reducible assumption | exact ints_nil | exact Ints.own (by with_reducible repeat (first | assumption | (apply lk_last; (try simp only [ll1, ll2, ll3, ll4, lls_len, lls2_len, markL_len]); first | done | omega) | apply lk_prev)) (by first | rfl | exact upto_len | assumption | exact map_len | exact List.length_set | (rw [List.length_set]; assumption)) | exact Ints.tail (by with_reducible repeat (first | assumption | (apply lk_last; (try simp only [ll1, ll2, ll3, ll4, lls_len, lls2_len, markL_len]); first | done | omega) | apply lk_prev)) (by first | rfl | exact upto_len | assumption | exact map_len | exact List.length_set | (rw [List.length_set]; assumption)) | with_reducible apply Ints.app | (refine Ints.sub (by with_reducible repeat (first | assumption | apply Ints.app)) (by omega) (by omega) (by omega)))) (by omega) (by omega)) ?_))
                  refine a_do rfl (o_assign (by conv => lhs; whnf) ?_)
                  refine a_end ?_
                  refine awp_seq ?_
                  refine awp_seq ?_
                  refine awp_region rfl ?_
                  refine a_do rfl (o_move (by conv => lhs; whnf) ?_)
                  refine a_do rfl (o_lss (by conv => lhs; whnf) (by conv => lhs; whnf) (fun c16 => ?_) (fun c16 => ?_))
                  ·
                    refine a_end ?_
                    refine awp_condT (by conv => lhs; whnf) ?_
                    refine awp_seq ?_
                    refine awp_region rfl ?_
                    refine a_do rfl (o_assign (by conv => lhs; whnf) ?_)
                    refine a_end ?_
                    refine awp_ret ?_
                    refine ⟨.inl rfl, [_], ⟨ares_tmp (by conv => lhs; whnf), trivial⟩, ?_⟩
                    exact ⟨by first | rfl | (exfalso; omega) | (exfalso; simp_all; done), (by first | ((repeat (first | with_reducible exact Grown.refl _ | with_reducible apply Grown.push)); done) | repeat (first | exact Grown.refl _ | refine Grown.push ?_ _))⟩
                  ·
                    refine a_end ?_
                    refine awp_condF (by conv => lhs; whnf) ?_
                    refine awp_skip ?_
                    refine awp_seq ?_
                    refine awp_region rfl ?_
                    refine a_do rfl (o_move (by conv => lhs; whnf) ?_)
                    refine a_do rfl (o_move (by conv => lhs; whnf) ?_)
                    refine a_do rfl (o_callF (lmap_cons (by conv => lhs; whnf) (lmap_cons (by conv => lhs; whnf) lmap_nil)) (Ret.to (heldFloat32S_ret _ _ _ _ (by first | ((with_reducible repeat (first | assumption | apply Flts.app)); done) | with_reducible exact flts_nil | exact Flts.own (by with_reducible repeat (first | assumption | (apply lk_last; (try simp only [ll1, ll2, ll3, ll4, lls_len, lls2_len, markL_len]); first | done | omega) | apply lk_prev)) (by first | rfl | exact upto_len | exact uptoF_len | assumption | exact map_len | exact List.length_set | (rw [List.length_set]; assumption)) | exact flts_nil) (by omega) (by omega)) ?_))
                    refine a_do rfl (o_assign (by conv => lhs; whnf) ?_)
                    refine a_end ?_
                    refine awp_seq ?_
                    refine awp_seq ?_
                    refine awp_region rfl ?_
                    refine a_do rfl (o_move (by conv => lhs; whnf) ?_)
                    refine a_do rfl (o_lss (by conv => lhs; whnf) (by conv => lhs; whnf) (fun c17 => ?_) (fun c17 => ?_))
                    ·
                      refine a_end ?_
                      refine awp_condT (by conv => lhs; whnf) ?_
                      refine awp_seq ?_
                      refine awp_region rfl ?_
                      refine a_do rfl (o_assign (by conv => lhs; whnf) ?_)
                      refine a_end ?_
                      refine awp_ret ?_
                      refine ⟨.inl rfl, [_], ⟨ares_tmp (by conv => lhs; whnf), trivial⟩, ?_⟩
                      exact ⟨by first | rfl | (exfalso; omega) | (exfalso; simp_all; done), (by first | ((repeat (first | with_reducible exact Grown.refl _ | with_reducible apply Grown.push)); done) | repeat (first | exact Grown.refl _ | refine Grown.push ?_ _))⟩
                    ·
                      refine a_end ?_
                      refine awp_condF (by conv => lhs; whnf) ?_
                      refine awp_skip ?_
                      refine awp_seq ?_
                      refine awp_seq ?_
                      refine awp_region rfl ?_
                      refine a_do rfl (o_move (by conv => lhs; whnf) ?_)
                      refine a_do rfl (o_move (by conv => lhs; whnf) ?_)
                      refine a_do rfl (o_neq (by conv => lhs; whnf) (by conv => lhs; whnf) (fun c18 => ?_) (fun c18 => ?_))
                      ·
                        refine a_end ?_
                        refine awp_condT (by conv => lhs; whnf) ?_
                        refine awp_seq ?_
                        refine awp_region rfl ?_
                        refine a_do rfl (o_assign (by conv => lhs; whnf) ?_)
                        refine a_end ?_
                        refine awp_ret ?_
                        refine ⟨.inl rfl, [_], ⟨ares_tmp (by conv => lhs; whnf), trivial⟩, ?_⟩
                        exact ⟨by first | rfl | (exfalso; omega) | (exfalso; simp_all; done), (by first | ((repeat (first | with_reducible exact Grown.refl _ | with_reducible apply Grown.push)); done) | repeat (first | exact Grown.refl _ | refine Grown.push ?_ _))⟩
                      ·
                        refine a_end ?_
                        refine awp_condF (by conv => lhs; whnf) ?_
                        refine awp_skip ?_
                        refine awp_seq ?_
                        refine awp_region rfl ?_
                        refine a_do rfl (o_loadAgg Try.underlying24 rfl ty24 (by conv => lhs; whnf) (by with_reducible repeat (first | assumption | (apply lk_last; (try simp only [ll1, ll2, ll3, ll4, lls_len, lls2_len, markL_len]); first | done | omega) | apply lk_prev)) (by rfl) (by exact (rfl : _ = [_, _, _])) (by rfl) ?_)
                        refine a_do rfl (o_callF (lmap_cons (by conv => lhs; whnf) lmap_nil) (RetN.toN (toCake_ret _ _ _ _ _ (by first | ((with_reducible repeat (first | assumption | apply Ints.app)); done) | repeat (first | with_reducible assumption | exact ints_nil | exact Ints.own (by with_reducible repeat (first | assumption | (apply lk_last; (try simp only [ll1, ll2, ll3, ll4, lls_len, lls2_len, markL_len]); first | done | omega) | apply lk_prev)) (by first | rfl | exact upto_len | assumption | exact map_len | exact List.length_set | (rw [List.length_set]; assumption)) | exact Ints.tail (by with_reducible repeat (first | assumption | (apply lk_last; (try simp only [ll1, ll2, ll3, ll4, lls_len, lls2_len, markL_len]); first | done | omega) | apply lk_prev)) (by first | rfl | exact upto_len | assumption | exact map_len | exact List.length_set | (rw [List.length_set]; assumption)) | with_reducible apply Ints.app | (refine Ints.sub (by with_reducible repeat (first | assumption | apply Ints.app)) (by omega) (by omega) (by omega)))) (by omega)) (fun k19 hk19 hgk19 => ?_)))
                        try simp at hk19
                        have hIk19 := Ints.own hgk19 rfl
                        refine a_do rfl (o_callF (lmap_cons (by conv => lhs; whnf) lmap_nil) (RetG.toLF ((implMovingKnife_ret _ _ _ _ _ (by first | ((with_reducible repeat (first | assumption | apply Ints.app)); done) | repeat (first | with_reducible assumption | exact ints_nil | exact Ints.own (by with_reducible repeat (first | assumption | (apply lk_last; (try simp only [ll1, ll2, ll3, ll4, lls_len, lls2_len, markL_len]); first | done | omega) | apply lk_prev)) (by first | rfl | exact upto_len | assumption | exact map_len | exact List.length_set | (rw [List.length_set]; assumption)) | exact Ints.tail (by with_reducible repeat (first | assumption | (apply lk_last; (try simp only [ll1, ll2, ll3, ll4, lls_len, lls2_len, markL_len]); first | done | omega) | apply lk_prev)) (by first | rfl | exact upto_len | assumption | exact map_len | exact List.length_set | (rw [List.length_set]; assumption)) | with_reducible apply Ints.app | (refine Ints.sub (by with_reducible repeat (first | assumption | apply Ints.app)) (by omega) (by omega) (by omega)))) (by omega)).1 hok) (fun k20 hk20 hLk20 => ?_)))
                        have hbk20 := k_lb hok
                        try simp at hk20
                        refine a_do rfl (o_move (by conv => lhs; whnf) ?_)
                        refine a_do rfl (o_extract (by conv => lhs; whnf) rfl ?_)
                        refine a_do rfl (o_extract (by conv => lhs; whnf) rfl ?_)
                        refine a_do rfl (o_extract (by conv => lhs; whnf) rfl ?_)
                        refine a_do rfl (o_assign (by conv => lhs; whnf) ?_)
                        refine a_do rfl (o_assign (by conv => lhs; whnf) ?_)
                        refine a_do rfl (o_assign (by conv => lhs; whnf) ?_)
                        refine a_end ?_
                        refine awp_seq ?_
                        refine awp_seq ?_
                        refine awp_region rfl ?_
                        refine a_do rfl (o_move (by conv => lhs; whnf) ?_)
                        refine a_do rfl (o_move (by conv => lhs; whnf) ?_)
                        refine a_do rfl (o_callF (lmap_cons (by conv => lhs; whnf) (lmap_cons (by conv => lhs; whnf) lmap_nil)) (Ret.toB (eqInt64S_ret _ _ _ _ _ (by first | ((with_reducible repeat (first | assumption | apply Ints.app)); done) | repeat (first | with_reducible assumption | exact ints_nil | exact Ints.own (by with_reducible repeat (first | assumption | (apply lk_last; (try simp only [ll1, ll2, ll3, ll4, lls_len, lls2_len, markL_len]); first | done | omega) | apply lk_prev)) (by first | rfl | exact upto_len | assumption | exact map_len | exact List.length_set | (rw [List.length_set]; assumption)) | exact Ints.tail (by with_reducible repeat (first | assumption | (apply lk_last; (try simp only [ll1, ll2, ll3, ll4, lls_len, lls2_len, markL_len]); first | done | omega) | apply lk_prev)) (by first | rfl | exact upto_len | assumption | exact map_len | exact List.length_set | (rw [List.length_set]; assumption)) | with_reducible apply Ints.app | (refine Ints.sub (by with_reducible repeat (first | assumption | apply Ints.app)) (by omega) (by omega) (by omega)))) (by first | ((with_reducible repeat (first | assumption | apply Ints.app)); done) | repeat (first | with_reducible assumption | exact ints_nil | exact Ints.own (by with_reducible repeat (first | assumption | (apply lk_last; (try simp only [ll1, ll2, ll3, ll4, lls_len, lls2_len, markL_len]); first | done | omega) | apply lk_prev)) (by first | rfl | exact upto_len | assumption | exact map_len | exact List.length_set | (rw [List.length_set]; assumption)) | exact Ints.tail (by with_reducible repeat (first | assumption | (apply lk_last; (try simp only [ll1, ll2, ll3, ll4, lls_len, lls2_len, markL_len]); first | done | omega) | apply lk_prev)) (by first | rfl | exact upto_len | assumption | exact map_len | exact List.length_set | (rw [List.length_set]; assumption)) | with_reducible apply Ints.app | (refine Ints.sub (by with_reducible repeat (first | assumption | apply Ints.app)) (by omega) (by omega) (by omega)))) (by first | omega | (simp; done))) (fun c21 => ?_) (fun c21 => ?_)))
                        ·
                          refine a_do rfl (o_notT (by conv => lhs; whnf) ?_)
                          refine a_do rfl (o_move (by conv => lhs; whnf) ?_)
                          refine a_do rfl (o_move (by conv => lhs; whnf) ?_)
                          refine a_do rfl (o_move (by conv => lhs; whnf) ?_)
                          refine a_do rfl (o_callF (lmap_cons (by conv => lhs; whnf) (lmap_cons (by conv => lhs; whnf) lmap_nil)) (Ret.toB (eqFloat32S_ret _ _ _ _ (by first | ((with_reducible repeat (first | assumption | apply Flts.app)); done) | with_reducible exact flts_nil | exact Flts.own (by with_reducible repeat (first | assumption | (apply lk_last; (try simp only [ll1, ll2, ll3, ll4, lls_len, lls2_len, markL_len]); first | done | omega) | apply lk_prev)) (by first | rfl | exact upto_len | assumption | exact map_len | exact List.length_set | (rw [List.length_set]; assumption)) | exact flts_nil) (by first | ((with_reducible repeat (first | assumption | apply Flts.app)); done) | with_reducible exact flts_nil | exact Flts.own (by with_reducible repeat (first | assumption | (apply lk_last; (try simp only [ll1, ll2, ll3, ll4, lls_len, lls2_len, markL_len]); first | done | omega) | apply lk_prev)) (by first | rfl | exact upto_len | assumption | exact map_len | exact List.length_set | (rw [List.length_set]; assumption)) | exact flts_nil) (by first | omega | (simp; done))) (fun c22 => ?_) (fun c22 => ?_)))
                          ·
                            refine a_do rfl (o_notT (by conv => lhs; whnf) ?_)
                            refine a_do rfl (o_pickF (by conv => lhs; whnf) (by conv => lhs; whnf) ?_)
                            refine a_do rfl (o_move (by conv => lhs; whnf) ?_)
                            refine a_do rfl (o_move (by conv => lhs; whnf) ?_)
                            refine a_do rfl (o_move (by conv => lhs; whnf) ?_)
                            refine a_do rfl (o_boolNeL (b := false) Try.underlying4 (by conv => lhs; whnf) (by conv => lhs; whnf) (by rfl) ?_)
                            refine a_do rfl (o_pickF (by conv => lhs; whnf) (by conv => lhs; whnf) ?_)
                            refine a_end ?_
                            refine awp_condF (by conv => lhs; whnf) ?_
                            refine awp_skip ?_
                            refine awp_seq ?_
                            refine awp_region rfl ?_
                            refine a_do rfl (o_assign (by conv => lhs; whnf) ?_)
                            refine a_end ?_
                            refine awp_seq ?_
                            refine awp_region rfl ?_
                            refine a_do rfl (o_move (by conv => lhs; whnf) ?_)
                            refine a_do rfl (o_move (by conv => lhs; whnf) ?_)
                            refine a_do rfl (o_callF (lmap_cons (by conv => lhs; whnf) (lmap_cons (by conv => lhs; whnf) lmap_nil)) (Ret.to (heldU_ret _ _ _ _ (by first | ((with_reducible repeat (first | assumption | apply Ints.app)); done) | repeat (first | with_reducible assumption | exact ints_nil | exact Ints.own (by with_reducible repeat (first | assumption | (apply lk_last; (try simp only [ll1, ll2, ll3, ll4, lls_len, lls2_len, markL_len]); first | done | omega) | apply lk_prev)) (by first | rfl | exact upto_len | assumption | exact map_len | exact List.length_set | (rw [List.length_set]; assumption)) | exact Ints.tail (by with_reducible repeat (first | assumption | (apply lk_last; (try simp only [ll1, ll2, ll3, ll4, lls_len, lls2_len, markL_len]); first | done | omega) | apply lk_prev)) (by first | rfl | exact upto_len | assumption | exact map_len | exact List.length_set | (rw [List.length_set]; assumption)) | with_reducible apply Ints.app | (refine Ints.sub (by with_reducible repeat (first | assumption | apply Ints.app)) (by omega) (by omega) (by omega)))) (by omega) (by omega)) ?_))
                            refine a_do rfl (o_assign (by conv => lhs; whnf) ?_)
                            refine a_end ?_
                            refine awp_seq ?_
                            refine awp_seq ?_
                            refine awp_region rfl ?_
                            refine a_do rfl (o_move (by conv => lhs; whnf) ?_)
                            refine a_do rfl (o_lss (by conv => lhs; whnf) (by conv => lhs; whnf) (fun c23 => ?_) (fun c23 => ?_))
                            ·
                              refine a_end ?_
                              refine awp_condT (by conv => lhs; whnf) ?_
                              refine awp_seq ?_
                              refine awp_region rfl ?_
                              refine a_do rfl (o_assign (by conv => lhs; whnf) ?_)
                              refine a_end ?_
                              refine awp_ret ?_
                              refine ⟨.inl rfl, [_], ⟨ares_tmp (by conv => lhs; whnf), trivial⟩, ?_⟩
                              exact ⟨by first | rfl | (exfalso; omega) | (exfalso; simp_all; done), (by first | ((repeat (first | with_reducible exact Grown.refl _ | with_reducible apply Grown.push)); done) | repeat (first | exact Grown.refl _ | refine Grown.push ?_ _))⟩
                            ·
                              refine a_end ?_
                              refine awp_condF (by conv => lhs; whnf) ?_
                              refine awp_skip ?_
                              refine awp_seq ?_
                              refine awp_region rfl ?_
                              refine a_do rfl (o_move (by conv => lhs; whnf) ?_)
                              refine a_do rfl (o_move (by conv => lhs; whnf) ?_)
                              refine a_do rfl (o_callF (lmap_cons (by conv => lhs; whnf) (lmap_cons (by conv => lhs; whnf) lmap_nil)) (Ret.to (heldFloat32S_ret _ _ _ _ (by first | ((with_reducible repeat (first | assumption | apply Flts.app)); done) | with_reducible exact flts_nil | exact Flts.own (by with_reducible repeat (first | assumption | (apply lk_last; (try simp only [ll1, ll2, ll3, ll4, lls_len, lls2_len, markL_len]); first | done | omega) | apply lk_prev)) (by first | rfl | exact upto_len | exact uptoF_len | assumption | exact map_len | exact List.length_set | (rw [List.length_set]; assumption)) | exact flts_nil) (by omega) (by omega)) ?_))
                              refine a_do rfl (o_assign (by conv => lhs; whnf) ?_)
                              refine a_end ?_
                              refine awp_seq ?_
                              refine awp_seq ?_
                              refine awp_region rfl ?_
                              refine a_do rfl (o_move (by conv => lhs; whnf) ?_)
                              refine a_do rfl (o_lss (by conv => lhs; whnf) (by conv => lhs; whnf) (fun c24 => ?_) (fun c24 => ?_))
                              ·
                                refine a_end ?_
                                refine awp_condT (by conv => lhs; whnf) ?_
                                refine awp_seq ?_
                                refine awp_region rfl ?_
                                refine a_do rfl (o_assign (by conv => lhs; whnf) ?_)
                                refine a_end ?_
                                refine awp_ret ?_
                                refine ⟨.inl rfl, [_], ⟨ares_tmp (by conv => lhs; whnf), trivial⟩, ?_⟩
                                exact ⟨by first | rfl | (exfalso; omega) | (exfalso; simp_all; done), (by first | ((repeat (first | with_reducible exact Grown.refl _ | with_reducible apply Grown.push)); done) | repeat (first | exact Grown.refl _ | refine Grown.push ?_ _))⟩
                              ·
                                refine a_end ?_
                                refine awp_condF (by conv => lhs; whnf) ?_
                                refine awp_skip ?_
                                refine awp_seq ?_
                                refine awp_seq ?_
                                refine awp_region rfl ?_
                                refine a_do rfl (o_move (by conv => lhs; whnf) ?_)
                                refine a_do rfl (o_move (by conv => lhs; whnf) ?_)
                                refine a_do rfl (o_neq (by conv => lhs; whnf) (by conv => lhs; whnf) (fun c25 => ?_) (fun c25 => ?_))
                                ·
                                  refine a_end ?_
                                  refine awp_condT (by conv => lhs; whnf) ?_
                                  refine awp_seq ?_
                                  refine awp_region rfl ?_
                                  refine a_do rfl (o_assign (by conv => lhs; whnf) ?_)
                                  refine a_end ?_
                                  refine awp_ret ?_
                                  refine ⟨.inl rfl, [_], ⟨ares_tmp (by conv => lhs; whnf), trivial⟩, ?_⟩
                                  exact ⟨by first | rfl | (exfalso; omega) | (exfalso; simp_all; done), (by first | ((repeat (first | with_reducible exact Grown.refl _ | with_reducible apply Grown.push)); done) | repeat (first | exact Grown.refl _ | refine Grown.push ?_ _))⟩
                                ·
                                  refine a_end ?_
                                  refine awp_condF (by conv => lhs; whnf) ?_
                                  refine awp_skip ?_
                                  refine awp_seq ?_
                                  refine awp_region rfl ?_
                                  refine a_do rfl (o_assign (by conv => lhs; whnf) ?_)
                                  refine a_end ?_
                                  refine awp_ret ?_
                                  refine ⟨.inl rfl, [_], ⟨ares_tmp (by conv => lhs; whnf), trivial⟩, ?_⟩
                                  exact ⟨by first | rfl | (exfalso; omega) | (exfalso; simp_all; done), (by first | ((repeat (first | with_reducible exact Grown.refl _ | with_reducible apply Grown.push)); done) | repeat (first | exact Grown.refl _ | refine Grown.push ?_ _))⟩
                          ·
                            refine a_do rfl (o_notF (by conv => lhs; whnf) ?_)
                            refine a_do rfl (o_pickF (by conv => lhs; whnf) (by conv => lhs; whnf) ?_)
                            refine a_do rfl (o_move (by conv => lhs; whnf) ?_)
                            refine a_no rfl ?_
                            refine a_no rfl ?_
                            refine a_no rfl ?_
                            refine a_do rfl (o_pickT (by conv => lhs; whnf) (by conv => lhs; whnf) ?_)
                            refine a_end ?_
                            refine awp_condT (by conv => lhs; whnf) ?_
                            refine awp_seq ?_
                            refine awp_region rfl ?_
                            refine a_do rfl (o_assign (by conv => lhs; whnf) ?_)
                            refine a_end ?_
                            refine awp_ret ?_
                            refine ⟨.inl rfl, [_], ⟨ares_tmp (by conv => lhs; whnf), trivial⟩, ?_⟩
                            exact ⟨by first | rfl | (exfalso; omega) | (exfalso; simp_all; done), (by first | ((repeat (first | with_reducible exact Grown.refl _ | with_reducible apply Grown.push)); done) | repeat (first | exact Grown.refl _ | refine Grown.push ?_ _))⟩
                        ·
                          refine a_do rfl (o_notF (by conv => lhs; whnf) ?_)
                          refine a_do rfl (o_move (by conv => lhs; whnf) ?_)
                          refine a_no rfl ?_
                          refine a_no rfl ?_
                          refine a_no rfl ?_
                          refine a_no rfl ?_
                          refine a_do rfl (o_pickT (by conv => lhs; whnf) (by conv => lhs; whnf) ?_)
                          refine a_do rfl (o_move (by conv => lhs; whnf) ?_)
                          refine a_no rfl ?_
                          refine a_no rfl ?_
                          refine a_no rfl ?_
                          refine a_do rfl (o_pickT (by conv => lhs; whnf) (by conv => lhs; whnf) ?_)
                          refine a_end ?_
                          refine awp_condT (by conv => lhs; whnf) ?_
                          refine awp_seq ?_
                          refine awp_region rfl ?_
                          refine a_do rfl (o_assign (by conv => lhs; whnf) ?_)
                          refine a_end ?_
                          refine awp_ret ?_
                          refine ⟨.inl rfl, [_], ⟨ares_tmp (by conv => lhs; whnf), trivial⟩, ?_⟩
                          exact ⟨by first | rfl | (exfalso; omega) | (exfalso; simp_all; done), (by first | ((repeat (first | with_reducible exact Grown.refl _ | with_reducible apply Grown.push)); done) | repeat (first | exact Grown.refl _ | refine Grown.push ?_ _))⟩
                ·
                  refine a_do rfl (o_notF (by conv => lhs; whnf) ?_)
                  refine a_do rfl (o_pickF (by conv => lhs; whnf) (by conv => lhs; whnf) ?_)
                  refine a_do rfl (o_move (by conv => lhs; whnf) ?_)
                  refine a_no rfl ?_
                  refine a_no rfl ?_
                  refine a_no rfl ?_
                  refine a_do rfl (o_pickT (by conv => lhs; whnf) (by conv => lhs; whnf) ?_)
                  refine a_end ?_
                  refine awp_condT (by conv => lhs; whnf) ?_
                  refine awp_seq ?_
                  refine awp_region rfl ?_
                  refine a_do rfl (o_assign (by conv => lhs; whnf) ?_)
                  refine a_end ?_
                  refine awp_ret ?_
                  refine ⟨.inl rfl, [_], ⟨ares_tmp (by conv => lhs; whnf), trivial⟩, ?_⟩
                  exact ⟨by first | rfl | (exfalso; omega) | (exfalso; simp_all; done), (by first | ((repeat (first | with_reducible exact Grown.refl _ | with_reducible apply Grown.push)); done) | repeat (first | exact Grown.refl _ | refine Grown.push ?_ _))⟩
              ·
                refine a_do rfl (o_notF (by conv => lhs; whnf) ?_)
                refine a_do rfl (o_pickF (by conv => lhs; whnf) (by conv => lhs; whnf) ?_)
                refine a_do rfl (o_move (by conv => lhs; whnf) ?_)
                refine a_no rfl ?_
                refine a_no rfl ?_
                refine a_no rfl ?_
                refine a_no rfl ?_
                refine a_do rfl (o_pickT (by conv => lhs; whnf) (by conv => lhs; whnf) ?_)
                refine a_do rfl (o_move (by conv => lhs; whnf) ?_)
                refine a_no rfl ?_
                refine a_no rfl ?_
                refine a_no rfl ?_
                refine a_do rfl (o_pickT (by conv => lhs; whnf) (by conv => lhs; whnf) ?_)
                refine a_end ?_
                refine awp_condT (by conv => lhs; whnf) ?_
                refine awp_seq ?_
                refine awp_region rfl ?_
                refine a_do rfl (o_assign (by conv => lhs; whnf) ?_)
                refine a_end ?_
                refine awp_ret ?_
                refine ⟨.inl rfl, [_], ⟨ares_tmp (by conv => lhs; whnf), trivial⟩, ?_⟩
                exact ⟨by first | rfl | (exfalso; omega) | (exfalso; simp_all; done), (by first | ((repeat (first | with_reducible exact Grown.refl _ | with_reducible apply Grown.push)); done) | repeat (first | exact Grown.refl _ | refine Grown.push ?_ _))⟩
          ·
            refine d_do rfl (o_notF (by conv => lhs; whnf) ⟨rfl, rfl⟩) (by exact .prim rfl) ?_
            refine d_end ?_
            refine awp_condT (by conv => lhs; whnf) ?_
            refine awp_seq ?_
            refine awp_region rfl ?_
            refine a_do rfl (o_assign (by conv => lhs; whnf) ?_)
            refine a_end ?_
            refine awp_ret ?_
            refine ⟨.inl rfl, [_], ⟨ares_tmp (by conv => lhs; whnf), trivial⟩, ?_⟩
            exact ⟨by first | rfl | (exfalso; omega) | (exfalso; simp_all; done), (by first | ((repeat (first | with_reducible exact Grown.refl _ | with_reducible apply Grown.push)); done) | repeat (first | exact Grown.refl _ | refine Grown.push ?_ _))⟩
        ·
          refine a_do rfl (o_notF (by conv => lhs; whnf) ?_)
          refine a_do rfl (o_pickF (by conv => lhs; whnf) (by conv => lhs; whnf) ?_)
          refine a_do rfl (o_move (by conv => lhs; whnf) ?_)
          refine a_no rfl ?_
          refine a_no rfl ?_
          refine a_no rfl ?_
          refine a_do rfl (o_pickT (by conv => lhs; whnf) (by conv => lhs; whnf) ?_)
          refine a_end ?_
          refine awp_condT (by conv => lhs; whnf) ?_
          refine awp_seq ?_
          refine awp_region rfl ?_
          refine a_do rfl (o_assign (by conv => lhs; whnf) ?_)
          refine a_end ?_
          refine awp_ret ?_
          refine ⟨.inl rfl, [_], ⟨ares_tmp (by conv => lhs; whnf), trivial⟩, ?_⟩
          exact ⟨by first | rfl | (exfalso; omega) | (exfalso; simp_all; done), (by first | ((repeat (first | with_reducible exact Grown.refl _ | with_reducible apply Grown.push)); done) | repeat (first | exact Grown.refl _ | refine Grown.push ?_ _))⟩
      ·
        refine a_do rfl (o_notF (by conv => lhs; whnf) ?_)
        refine a_do rfl (o_move (by conv => lhs; whnf) ?_)
        refine a_no rfl ?_
        refine a_no rfl ?_
        refine a_no rfl ?_
        refine a_no rfl ?_
        refine a_do rfl (o_pickT (by conv => lhs; whnf) (by conv => lhs; whnf) ?_)
        refine a_do rfl (o_move (by conv => lhs; whnf) ?_)
        refine a_no rfl ?_
        refine a_no rfl ?_
        refine a_no rfl ?_
        refine a_do rfl (o_pickT (by conv => lhs; whnf) (by conv => lhs; whnf) ?_)
        refine a_end ?_
        refine awp_condT (by conv => lhs; whnf) ?_
        refine awp_seq ?_
        refine awp_region rfl ?_
        refine a_do rfl (o_assign (by conv => lhs; whnf) ?_)
        refine a_end ?_
        refine awp_ret ?_
        refine ⟨.inl rfl, [_], ⟨ares_tmp (by conv => lhs; whnf), trivial⟩, ?_⟩
        exact ⟨by first | rfl | (exfalso; omega) | (exfalso; simp_all; done), (by first | ((repeat (first | with_reducible exact Grown.refl _ | with_reducible apply Grown.push)); done) | repeat (first | exact Grown.refl _ | refine Grown.push ?_ _))⟩
    ·
      refine a_do rfl (o_callF (lmap_cons (by conv => lhs; whnf) lmap_nil) (Ret.to ((specMovingKnife_ret _ _ _ _ _ (by first | ((with_reducible repeat (first | assumption | apply Ints.app)); done) | repeat (first | with_reducible assumption | exact ints_nil | exact Ints.own (by with_reducible repeat (first | assumption | (apply lk_last; (try simp only [ll1, ll2, ll3, ll4, lls_len, lls2_len, markL_len]); first | done | omega) | apply lk_prev)) (by first | rfl | exact upto_len | assumption | exact map_len | exact List.length_set | (rw [List.length_set]; assumption)) | exact Ints.tail (by with_reducible repeat (first | assumption | (apply lk_last; (try simp only [ll1, ll2, ll3, ll4, lls_len, lls2_len, markL_len]); first | done | omega) | apply lk_prev)) (by first | rfl | exact upto_len | assumption | exact map_len | exact List.length_set | (rw [List.length_set]; assumption)) | with_reducible apply Ints.app | (refine Ints.sub (by with_reducible repeat (first | assumption | apply Ints.app)) (by omega) (by omega) (by omega)))) (by omega)).2 hok) ?_))
      refine a_do rfl (o_move (by conv => lhs; whnf) ?_)
      refine a_do rfl (o_extract (by conv => lhs; whnf) rfl ?_)
      refine a_do rfl (o_extract (by conv => lhs; whnf) rfl ?_)
      refine a_do rfl (o_extract (by conv => lhs; whnf) rfl ?_)
      refine a_do rfl (o_assign (by conv => lhs; whnf) ?_)
      refine a_do rfl (o_assign (by conv => lhs; whnf) ?_)
      refine a_do rfl (o_assign (by conv => lhs; whnf) ?_)
      refine a_end ?_
      refine awp_seq ?_
      refine awp_region rfl ?_
      refine a_do rfl (o_loadAgg Try.underlying24 rfl ty24 (by conv => lhs; whnf) (by with_reducible repeat (first | assumption | (apply lk_last; (try simp only [ll1, ll2, ll3, ll4, lls_len, lls2_len, markL_len]); first | done | omega) | apply lk_prev)) (by rfl) (by exact (rfl : _ = [_, _, _])) (by rfl) ?_)
      refine a_do rfl (o_callF (lmap_cons (by conv => lhs; whnf) lmap_nil) (RetN.toN (toCake_ret _ _ _ _ _ (by first | ((with_reducible repeat (first | assumption | apply Ints.app)); done) | repeat (first | with_reducible assumption | exact ints_nil | exact Ints.own (by with_reducible repeat (first | assumption | (apply lk_last; (try simp only [ll1, ll2, ll3, ll4, lls_len, lls2_len, markL_len]); first | done | omega) | apply lk_prev)) (by first | rfl | exact upto_len | assumption | exact map_len | exact List.length_set | (rw [List.length_set]; assumption)) | exact Ints.tail (by with_reducible repeat (first | assumption | (apply lk_last; (try simp only [ll1, ll2, ll3, ll4, lls_len, lls2_len, markL_len]); first | done | omega) | apply lk_prev)) (by first | rfl | exact upto_len | assumption | exact map_len | exact List.length_set | (rw [List.length_set]; assumption)) | with_reducible apply Ints.app | (refine Ints.sub (by with_reducible repeat (first | assumption | apply Ints.app)) (by omega) (by omega) (by omega)))) (by omega)) (fun k26 hk26 hgk26 => ?_)))
      try simp at hk26
      have hIk26 := Ints.own hgk26 rfl
      refine a_do rfl (o_allocN (n := 3) ty29 rfl (by exact (rfl : _ = [_, _, _])) (by rfl) (fun k27 hk27 => ?_))
      try simp at hk27
      refine a_do rfl (o_storeVAgg ty29 (by conv => lhs; whnf) (by with_reducible repeat (first | assumption | (apply lk_last; (try simp only [ll1, ll2, ll3, ll4, lls_len, lls2_len, markL_len]); first | done | omega) | apply lk_prev)) (by rfl) (by rfl) (by rfl) (by conv => lhs; whnf) (by rfl) (by rfl) (by first | rfl | exact one2 (by assumption)) (by first | exact (rfl : _ = [_]) | exact (rfl : _ = [_, _]) | exact (rfl : _ = [_, _, _]) | exact (rfl : _ = [_, _, _, _]) | rfl) (by with_reducible repeat (first | (apply set_last; (try simp only [ll1, ll2, ll3, ll4, lls_len, lls2_len, markL_len]); first | done | omega) | (apply set_step; (try simp only [ll1, ll2, ll3, ll4, lls_len, lls2_len, markL_len]); first | done | omega) | exact rfl)) ?_)
      refine a_end ?_
      refine awp_seq ?_
      refine awp_region rfl ?_
      refine a_do rfl (o_loadAgg Try.underlying29 rfl ty29 (by conv => lhs; whnf) (by with_reducible repeat (first | assumption | (apply lk_last; (try simp only [ll1, ll2, ll3, ll4, lls_len, lls2_len, markL_len]); first | done | omega) | apply lk_prev)) (by rfl) (by exact (rfl : _ = [_, _, _])) (by rfl) ?_)
      refine a_do rfl (o_callF (lmap_cons (by conv => lhs; whnf) lmap_nil) (Ret.to ((implMovingKnife_ret _ _ _ _ _ (by first | ((with_reducible repeat (first | assumption | apply Ints.app)); done) | repeat (first | with_reducible assumption | exact ints_nil | exact Ints.own (by with_reducible repeat (first | assumption | (apply lk_last; (try simp only [ll1, ll2, ll3, ll4, lls_len, lls2_len, markL_len]); first | done | omega) | apply lk_prev)) (by first | rfl | exact upto_len | assumption | exact map_len | exact List.length_set | (rw [List.length_set]; assumption)) | exact Ints.tail (by with_reducible repeat (first | assumption | (apply lk_last; (try simp only [ll1, ll2, ll3, ll4, lls_len, lls2_len, markL_len]); first | done | omega) | apply lk_prev)) (by first | rfl | exact upto_len | assumption | exact map_len | exact List.length_set | (rw [List.length_set]; assumption)) | with_reducible apply Ints.app | (refine Ints.sub (by with_reducible repeat (first | assumption | apply Ints.app)) (by omega) (by omega) (by omega)))) (by omega)).2 hok) ?_))
      refine a_do rfl (o_move (by conv => lhs; whnf) ?_)
      refine a_do rfl (o_extract (by conv => lhs; whnf) rfl ?_)
      refine a_do rfl (o_extract (by conv => lhs; whnf) rfl ?_)
      refine a_do rfl (o_extract (by conv => lhs; whnf) rfl ?_)
      refine a_do rfl (o_assign (by conv => lhs; whnf) ?_)
      refine a_do rfl (o_assign (by conv => lhs; whnf) ?_)
      refine a_do rfl (o_assign (by conv => lhs; whnf) ?_)
      refine a_end ?_
      refine awp_seq ?_
      refine awp_seq ?_
      refine awp_region rfl ?_
      refine a_do rfl (o_move (by conv => lhs; whnf) ?_)
      refine a_do rfl (o_move (by conv => lhs; whnf) ?_)
      refine a_do rfl (o_callF (lmap_cons (by conv => lhs; whnf) (lmap_cons (by conv => lhs; whnf) lmap_nil)) (Ret.toB (eqInt64S_ret _ _ _ _ _ (by first | ((with_reducible repeat (first | assumption | apply Ints.app)); done) | repeat (first | with_reducible assumption | exact ints_nil | exact Ints.own (by with_reducible repeat (first | assumption | (apply lk_last; (try simp only [ll1, ll2, ll3, ll4, lls_len, lls2_len, markL_len]); first | done | omega) | apply lk_prev)) (by first | rfl | exact upto_len | assumption | exact map_len | exact List.length_set | (rw [List.length_set]; assumption)) | exact Ints.tail (by with_reducible repeat (first | assumption | (apply lk_last; (try simp only [ll1, ll2, ll3, ll4, lls_len, lls2_len, markL_len]); first | done | omega) | apply lk_prev)) (by first | rfl | exact upto_len | assumption | exact map_len | exact List.length_set | (rw [List.length_set]; assumption)) | with_reducible apply Ints.app | (refine Ints.sub (by with_reducible repeat (first | assumption | apply Ints.app)) (by omega) (by omega) (by omega)))) (by first | ((with_reducible repeat (first | assumption | apply Ints.app)); done) | repeat (first | with_reducible assumption | exact ints_nil | exact Ints.own (by with_reducible repeat (first | assumption | (apply lk_last; (try simp only [ll1, ll2, ll3, ll4, lls_len, lls2_len, markL_len]); first | done | omega) | apply lk_prev)) (by first | rfl | exact upto_len | assumption | exact map_len | exact List.length_set | (rw [List.length_set]; assumption)) | exact Ints.tail (by with_reducible repeat (first | assumption | (apply lk_last; (try simp only [ll1, ll2, ll3, ll4, lls_len, lls2_len, markL_len]); first | done | omega) | apply lk_prev)) (by first | rfl | exact upto_len | assumption | exact map_len | exact List.length_set | (rw [List.length_set]; assumption)) | with_reducible apply Ints.app | (refine Ints.sub (by with_reducible repeat (first | assumption | apply Ints.app)) (by omega) (by omega) (by omega)))) (by first | omega | (simp; done))) (fun c28 => ?_) (fun c28 => ?_)))
      ·
        refine a_do rfl (o_notT (by conv => lhs; whnf) ?_)
        refine a_do rfl (o_move (by conv => lhs; whnf) ?_)
        refine a_do rfl (o_move (by conv => lhs; whnf) ?_)
        refine a_do rfl (o_move (by conv => lhs; whnf) ?_)
        refine a_do rfl (o_callF (lmap_cons (by conv => lhs; whnf) (lmap_cons (by conv => lhs; whnf) lmap_nil)) (Ret.toB (eqFloat32S_ret _ _ _ _ (by first | ((with_reducible repeat (first | assumption | apply Flts.app)); done) | with_reducible exact flts_nil | exact Flts.own (by with_reducible repeat (first | assumption | (apply lk_last; (try simp only [ll1, ll2, ll3, ll4, lls_len, lls2_len, markL_len]); first | done | omega) | apply lk_prev)) (by first | rfl | exact upto_len | assumption | exact map_len | exact List.length_set | (rw [List.length_set]; assumption)) | exact flts_nil) (by first | ((with_reducible repeat (first | assumption | apply Flts.app)); done) | with_reducible exact flts_nil | exact Flts.own (by with_reducible repeat (first | assumption | (apply lk_last; (try simp only [ll1, ll2, ll3, ll4, lls_len, lls2_len, markL_len]); first | done | omega) | apply lk_prev)) (by first | rfl | exact upto_len | assumption | exact map_len | exact List.length_set | (rw [List.length_set]; assumption)) | exact flts_nil) (by first | omega | (simp; done))) (fun c29 => ?_) (fun c29 => ?_)))
        ·
          refine a_do rfl (o_notT (by conv => lhs; whnf) ?_)
          refine a_do rfl (o_pickF (by conv => lhs; whnf) (by conv => lhs; whnf) ?_)
          refine a_do rfl (o_move (by conv => lhs; whnf) ?_)
          refine a_do rfl (o_move (by conv => lhs; whnf) ?_)
          refine a_do rfl (o_move (by conv => lhs; whnf) ?_)
          refine a_do rfl (o_boolNeL (b := false) Try.underlying4 (by conv => lhs; whnf) (by conv => lhs; whnf) (by rfl) ?_)
          refine a_do rfl (o_pickF (by conv => lhs; whnf) (by conv => lhs; whnf) ?_)
          refine a_end ?_
          refine awp_condF (by conv => lhs; whnf) ?_
          refine awp_skip ?_
          refine awp_seq ?_
          refine awp_seq ?_
          refine awp_draw Try_mixed (by kernel_rfl) rfl ?_
          refine d_do rfl (o_loadAgg Try.underlying29 rfl ty29 (by conv => lhs; whnf) (by with_reducible repeat (first | assumption | (apply lk_last; (try simp only [ll1, ll2, ll3, ll4, lls_len, lls2_len, markL_len]); first | done | omega) | apply lk_prev)) (by rfl) (by exact (rfl : _ = [_, _, _])) (by rfl) ⟨rfl, rfl⟩) (by first | exact .prim rfl | exact within_func0 | (apply within_ptr; (with_reducible repeat (first | assumption | (apply lk_last; (try simp only [ll1, ll2, ll3, ll4, lls_len, lls2_len, markL_len]); first | done | omega) | apply lk_prev)); done) | (apply within_sl; (with_reducible repeat (first | assumption | (apply lk_last; (try simp only [ll1, ll2, ll3, ll4, lls_len, lls2_len, markL_len]); first | done | omega) | apply lk_prev)); done) | ((try apply within_sub); apply Ints.within; (with_reducible repeat (first | assumption | apply Ints.app)); done) | (apply Lists.within; (with_reducible repeat (first | assumption | apply Lists.app)); done) | (apply Flts.within; (with_reducible repeat (first | assumption | apply Flts.app)); done) | (apply Byts.within; (with_reducible repeat (first | assumption | apply Byts.app)); done) | exact within_nilw | exact within_nilb | (apply within_tup2 <;> first | exact .prim rfl | (apply within_sl; (with_reducible repeat (first | assumption | (apply lk_last; (try simp only [ll1, ll2, ll3, ll4, lls_len, lls2_len, markL_len]); first | done | omega) | apply lk_prev)); done) | (apply Within.agg2 <;> (first | exact .prim rfl | (apply within_ptr; (with_reducible repeat (first | assumption | (apply lk_last; (try simp only [ll1, ll2, ll3, ll4, lls_len, lls2_len, markL_len]); first | done | omega) | apply lk_prev)); done) | (apply within_sl; (with_reducible repeat (first | assumption | (apply lk_last; (try simp only [ll1, ll2, ll3, ll4, lls_len, lls2_len, markL_len]); first | done | omega) | apply lk_prev)); done) | ((try apply within_sub); apply Ints.within; (with_reducible repeat (first | assumption | apply Ints.app)); done) | (apply Lists.within; (with_reducible repeat (first | assumption | apply Lists.app)); done) | (apply within_sl; (with_reducible repeat (first | assumption | (apply lk_last; (try simp only [ll1, ll2, ll3, ll4, lls_len, lls2_len, markL_len]); first | done | omega) | apply lk_prev)); done)))) | exact Within.mono ‹Within _ (Value.func _ _ _)› (by (try simp only [ll1, ll2, ll3, ll4, lls_len, lls2_len, markL_len]); first | done | omega) | (apply Within.agg4 <;> (first | exact .prim rfl | (apply within_ptr; (with_reducible repeat (first | assumption | (apply lk_last; (try simp only [ll1, ll2, ll3, ll4, lls_len, lls2_len, markL_len]); first | done | omega) | apply lk_prev)); done) | (apply within_sl; (with_reducible repeat (first | assumption | (apply lk_last; (try simp only [ll1, ll2, ll3, ll4, lls_len, lls2_len, markL_len]); first | done | omega) | apply lk_prev)); done) | ((try apply within_sub); apply Ints.within; (with_reducible repeat (first | assumption | apply Ints.app)); done) | (apply Lists.within; (with_reducible repeat (first | assumption | apply Lists.app)); done) | (apply within_sl; (with_reducible repeat (first | assumption | (apply lk_last; (try simp only [ll1, ll2, ll3, ll4, lls_len, lls2_len, markL_len]); first | done | omega) | apply lk_prev)); done))) | (apply Within.agg3 <;> (first | exact .prim rfl | (apply within_ptr; (with_reducible repeat (first | assumption | (apply lk_last; (try simp only [ll1, ll2, ll3, ll4, lls_len, lls2_len, markL_len]); first | done | omega) | apply lk_prev)); done) | (apply within_sl; (with_reducible repeat (first | assumption | (apply lk_last; (try simp only [ll1, ll2, ll3, ll4, lls_len, lls2_len, markL_len]); first | done | omega) | apply lk_prev)); done) | ((try apply within_sub); apply Ints.within; (with_reducible repeat (first | assumption | apply Ints.app)); done) | (apply Lists.within; (with_reducible repeat (first | assumption | apply Lists.app)); done) | (apply within_sl; (with_reducible repeat (first | assumption | (apply lk_last; (try simp only [ll1, ll2, ll3, ll4, lls_len, lls2_len, markL_len]); first | done | omega) | apply lk_prev)); done))) | (apply Within.agg2 <;> (first | exact .prim rfl | (apply within_ptr; (with_reducible repeat (first | assumption | (apply lk_last; (try simp only [ll1, ll2, ll3, ll4, lls_len, lls2_len, markL_len]); first | done | omega) | apply lk_prev)); done) | (apply within_sl; (with_reducible repeat (first | assumption | (apply lk_last; (try simp only [ll1, ll2, ll3, ll4, lls_len, lls2_len, markL_len]); first | done | omega) | apply lk_prev)); done) | ((try apply within_sub); apply Ints.within; (with_reducible repeat (first | assumption | apply Ints.app)); done) | (apply Lists.within; (with_reducible repeat (first | assumption | apply Lists.app)); done) | (apply within_sl; (with_reducible repeat (first | assumption | (apply lk_last; (try simp only [ll1, ll2, ll3, ll4, lls_len, lls2_len, markL_len]); first | done | omega) | apply lk_prev)); done)))) ?_
          refine d_do rfl (o_loadAgg Try.underlying24 rfl ty24 (by conv => lhs; whnf) (by with_reducible repeat (first | assumption | (apply lk_last; (try simp only [ll1, ll2, ll3, ll4, lls_len, lls2_len, markL_len]); first | done | omega) | apply lk_prev)) (by rfl) (by exact (rfl : _ = [_, _, _])) (by rfl) ⟨rfl, rfl⟩) (by first | exact .prim rfl | exact within_func0 | (apply within_ptr; (with_reducible repeat (first | assumption | (apply lk_last; (try simp only [ll1, ll2, ll3, ll4, lls_len, lls2_len, markL_len]); first | done | omega) | apply lk_prev)); done) | (apply within_sl; (with_reducible repeat (first | assumption | (apply lk_last; (try simp only [ll1, ll2, ll3, ll4, lls_len, lls2_len, markL_len]); first | done | omega) | apply lk_prev)); done) | ((try apply within_sub); apply Ints.within; (with_reducible repeat (first | assumption | apply Ints.app)); done) | (apply Lists.within; (with_reducible repeat (first | assumption | apply Lists.app)); done) | (apply Flts.within; (with_reducible repeat (first | assumption | apply Flts.app)); done) | (apply Byts.within; (with_reducible repeat (first | assumption | apply Byts.app)); done) | exact within_nilw | exact within_nilb | (apply within_tup2 <;> first | exact .prim rfl | (apply within_sl; (with_reducible repeat (first | assumption | (apply lk_last; (try simp only [ll1, ll2, ll3, ll4, lls_len, lls2_len, markL_len]); first | done | omega) | apply lk_prev)); done) | (apply Within.agg2 <;> (first | exact .prim rfl | (apply within_ptr; (with_reducible repeat (first | assumption | (apply lk_last; (try simp only [ll1, ll2, ll3, ll4, lls_len, lls2_len, markL_len]); first | done | omega) | apply lk_prev)); done) | (apply within_sl; (with_reducible repeat (first | assumption | (apply lk_last; (try simp only [ll1, ll2, ll3, ll4, lls_len, lls2_len, markL_len]); first | done | omega) | apply lk_prev)); done) | ((try apply within_sub); apply Ints.within; (with_reducible repeat (first | assumption | apply Ints.app)); done) | (apply Lists.within; (with_reducible repeat (first | assumption | apply Lists.app)); done) | (apply within_sl; (with_reducible repeat (first | assumption | (apply lk_last; (try simp only [ll1, ll2, ll3, ll4, lls_len, lls2_len, markL_len]); first | done | omega) | apply lk_prev)); done)))) | exact Within.mono ‹Within _ (Value.func _ _ _)› (by (try simp only [ll1, ll2, ll3, ll4, lls_len, lls2_len, markL_len]); first | done | omega) | (apply Within.agg4 <;> (first | exact .prim rfl | (apply within_ptr; (with_reducible repeat (first | assumption | (apply lk_last; (try simp only [ll1, ll2, ll3, ll4, lls_len, lls2_len, markL_len]); first | done | omega) | apply lk_prev)); done) | (apply within_sl; (with_reducible repeat (first | assumption | (apply lk_last; (try simp only [ll1, ll2, ll3, ll4, lls_len, lls2_len, markL_len]); first | done | omega) | apply lk_prev)); done) | ((try apply within_sub); apply Ints.within; (with_reducible repeat (first | assumption | apply Ints.app)); done) | (apply Lists.within; (with_reducible repeat (first | assumption | apply Lists.app)); done) | (apply within_sl; (with_reducible repeat (first | assumption | (apply lk_last; (try simp only [ll1, ll2, ll3, ll4, lls_len, lls2_len, markL_len]); first | done | omega) | apply lk_prev)); done))) | (apply Within.agg3 <;> (first | exact .prim rfl | (apply within_ptr; (with_reducible repeat (first | assumption | (apply lk_last; (try simp only [ll1, ll2, ll3, ll4, lls_len, lls2_len, markL_len]); first | done | omega) | apply lk_prev)); done) | (apply within_sl; (with_reducible repeat (first | assumption | (apply lk_last; (try simp only [ll1, ll2, ll3, ll4, lls_len, lls2_len, markL_len]); first | done | omega) | apply lk_prev)); done) | ((try apply within_sub); apply Ints.within; (with_reducible repeat (first | assumption | apply Ints.app)); done) | (apply Lists.within; (with_reducible repeat (first | assumption | apply Lists.app)); done) | (apply within_sl; (with_reducible repeat (first | assumption | (apply lk_last; (try simp only [ll1, ll2, ll3, ll4, lls_len, lls2_len, markL_len]); first | done | omega) | apply lk_prev)); done))) | (apply Within.agg2 <;> (first | exact .prim rfl | (apply within_ptr; (with_reducible repeat (first | assumption | (apply lk_last; (try simp only [ll1, ll2, ll3, ll4, lls_len, lls2_len, markL_len]); first | done | omega) | apply lk_prev)); done) | (apply within_sl; (with_reducible repeat (first | assumption | (apply lk_last; (try simp only [ll1, ll2, ll3, ll4, lls_len, lls2_len, markL_len]); first | done | omega) | apply lk_prev)); done) | ((try apply within_sub); apply Ints.within; (with_reducible repeat (first | assumption | apply Ints.app)); done) | (apply Lists.within; (with_reducible repeat (first | assumption | apply Lists.app)); done) | (apply within_sl; (with_reducible repeat (first | assumption | (apply lk_last; (try simp only [ll1, ll2, ll3, ll4, lls_len, lls2_len, markL_len]); first | done | omega) | apply lk_prev)); done)))) ?_
          refine d_callN rfl (lmap_cons (by conv => lhs; whnf) lmap_nil) (toCake_ret _ _ _ _ _ (by first | ((with_reducible repeat (first | assumption | apply Ints.app)); done) | repeat (first | with_reducible assumption | exact ints_nil | exact Ints.own (by with_reducible repeat (first | assumption | (apply lk_last; (try simp only [ll1, ll2, ll3, ll4, lls_len, lls2_len, markL_len]); first | done | omega) | apply lk_prev)) (by first | rfl | exact upto_len | assumption | exact map_len | exact List.length_set | (rw [List.length_set]; assumption)) | exact Ints.tail (by with_reducible repeat (first | assumption | (apply lk_last; (try simp only [ll1, ll2, ll3, ll4, lls_len, lls2_len, markL_len]); first | done | omega) | apply lk_prev)) (by first | rfl | exact upto_len | assumption | exact map_len | exact List.length_set | (rw [List.length_set]; assumption)) | with_reducible apply Ints.app | (refine Ints.sub (by with_reducible repeat (first | assumption | apply Ints.app)) (by omega) (by omega) (by omega)))) (by omega)) (by exact .agg3 (.prim rfl) (.prim rfl) (.slice (by (try simp only [ll1, ll2, ll3, ll4, lls_len, lls2_len, markL_len]); first | done | omega))) (by simp [lst, isPrim]) (fun k30 hk30 hgk30 => ?_)
          try simp at hk30
          have hIk30 := Ints.own hgk30 rfl
          refine d_callB rfl (lmap_cons (by conv => lhs; whnf) (lmap_cons (by conv => lhs; whnf) lmap_nil)) (eqCake_ret _ _ _ _ _ _ _ _ _ (by first | ((with_reducible repeat (first | assumption | apply Ints.app)); done) | repeat (first | with_reducible assumption | exact ints_nil | exact Ints.own (by with_reducible repeat (first | assumption | (apply lk_last; (try simp only [ll1, ll2, ll3, ll4, lls_len, lls2_len, markL_len]); first | done | omega) | apply lk_prev)) (by first | rfl | exact upto_len | assumption | exact map_len | exact List.length_set | (rw [List.length_set]; assumption)) | exact Ints.tail (by with_reducible repeat (first | assumption | (apply lk_last; (try simp only [ll1, ll2, ll3, ll4, lls_len, lls2_len, markL_len]); first | done | omega) | apply lk_prev)) (by first | rfl | exact upto_len | assumption | exact map_len | exact List.length_set | (rw [List.length_set]; assumption)) | with_reducible apply Ints.app | (refine Ints.sub (by with_reducible repeat (first | assumption | apply Ints.app)) (by omega) (by omega) (by omega)))) (by first | ((with_reducible repeat (first | assumption | apply Ints.app)); done) | repeat (first | with_reducible assumption | exact ints_nil | exact Ints.own (by with_reducible repeat (first | assumption | (apply lk_last; (try simp only [ll1, ll2, ll3, ll4, lls_len, lls2_len, markL_len]); first | done | omega) | apply lk_prev)) (by first | rfl | exact upto_len | assumption | exact map_len | exact List.length_set | (rw [List.length_set]; assumption)) | exact Ints.tail (by with_reducible repeat (first | assumption | (apply lk_last; (try simp only [ll1, ll2, ll3, ll4, lls_len, lls2_len, markL_len]); first | done | omega) | apply lk_prev)) (by first | rfl | exact upto_len | assumption | exact map_len | exact List.length_set | (rw [List.length_set]; assumption)) | with_reducible apply Ints.app | (refine Ints.sub (by with_reducible repeat (first | assumption | apply Ints.app)) (by omega) (by omega) (by omega)))) (by omega)) (fun c31 => ?_) (fun c31 => ?_)
          ·
            refine d_do rfl (o_notT (by conv => lhs; whnf) ⟨rfl, rfl⟩) (by exact .prim rfl) ?_
            refine d_end ?_
            refine awp_condF (by conv => lhs; whnf) ?_
            refine awp_skip ?_
            refine awp_seq ?_
            refine awp_region rfl ?_
            refine a_do rfl (o_assign (by conv => lhs; whnf) ?_)
            refine a_end ?_
            refine awp_seq ?_
            refine awp_region rfl ?_
            refine a_do rfl (o_loadAgg Try.underlying29 rfl ty29 (by conv => lhs; whnf) (by with_reducible repeat (first | assumption | (apply lk_last; (try simp only [ll1, ll2, ll3, ll4, lls_len, lls2_len, markL_len]); first | done | omega) | apply lk_prev)) (by rfl) (by exact (rfl : _ = [_, _, _])) (by rfl) ?_)
            refine a_do rfl (o_move (by conv => lhs; whnf) ?_)
            refine a_do rfl (o_callF (lmap_cons (by conv => lhs; whnf) (lmap_cons (by conv => lhs; whnf) lmap_nil)) (Ret.to (Ret.heap (markCake_ret _ _ _ _ _ _ _ (by first | ((with_reducible repeat (first | assumption | (apply lk_last; (try simp only [ll1, ll2, ll3, ll4, lls_len, lls2_len, markL_len]); first | done | omega) | apply lk_prev)); done) | repeat (first | assumption | exact lk_last (by (try simp only [ll1, ll2, ll3, ll4, lls_len, lls2_len, markL_len]); first | done | omega) | apply lk_prev)) (by first | rfl | exact upto_len | assumption | exact map_len | exact List.length_set | (rw [List.length_set]; assumption)) (by omega) (by omega)) (by with_reducible repeat (first | (apply set_last; (try simp only [ll1, ll2, ll3, ll4, lls_len, lls2_len, markL_len]); first | done | omega) | (apply set_step; (try simp only [ll1, ll2, ll3, ll4, lls_len, lls2_len, markL_len]); first | done | omega) | exact rfl))) ?_))
            refine a_do rfl (o_assign (by conv => lhs; whnf) ?_)
            refine a_end ?_
            refine awp_seq ?_
            refine awp_seq ?_
            refine awp_region rfl ?_
            refine a_do rfl (o_move (by conv => lhs; whnf) ?_)
            refine a_do rfl (o_lss (by conv => lhs; whnf) (by conv => lhs; whnf) (fun c32 => ?_) (fun c32 => ?_))
            ·
              refine a_do rfl (o_move (by conv => lhs; whnf) ?_)
              refine a_no rfl ?_
              refine a_no rfl ?_
              refine a_no rfl ?_
              refine a_no rfl ?_
              refine a_do rfl (o_pickT (by conv => lhs; whnf) (by conv => lhs; whnf) ?_)
              refine a_do rfl (o_move (by conv => lhs; whnf) ?_)
              refine a_no rfl ?_
              refine a_no rfl ?_
              refine a_no rfl ?_
              refine a_no rfl ?_
              refine a_do rfl (o_pickT (by conv => lhs; whnf) (by conv => lhs; whnf) ?_)
              refine a_do rfl (o_move (by conv => lhs; whnf) ?_)
              refine a_no rfl ?_
              refine a_no rfl ?_
              refine a_no rfl ?_
              refine a_do rfl (o_pickT (by conv => lhs; whnf) (by conv => lhs; whnf) ?_)
              refine a_end ?_
              refine awp_condT (by conv => lhs; whnf) ?_
              refine awp_seq ?_
              refine awp_region rfl ?_
              refine a_do rfl (o_assign (by conv => lhs; whnf) ?_)
              refine a_end ?_
              refine awp_ret ?_
              refine ⟨.inl rfl, [_], ⟨ares_tmp (by conv => lhs; whnf), trivial⟩, ?_⟩
              exact ⟨by first | rfl | (exfalso; omega) | (exfalso; simp_all; done), (by first | ((repeat (first | with_reducible exact Grown.refl _ | with_reducible apply Grown.push)); done) | repeat (first | exact Grown.refl _ | refine Grown.push ?_ _))⟩
            ·
              refine a_do rfl (o_move (by conv => lhs; whnf) ?_)
              refine a_do rfl (o_move (by conv => lhs; whnf) ?_)
              refine a_do rfl (o_move (by conv => lhs; whnf) ?_)
              refine a_do rfl (o_callF (lmap_cons (by conv => lhs; whnf) (lmap_cons (by conv => lhs; whnf) lmap_nil)) (Ret.toB (eqInt64S_ret _ _ _ _ _ (by first | ((with_reducible repeat (first | assumption | apply Ints.app)); done) | repeat (first | with_reducible assumption | exact ints_nil | exact Ints.own (by with_reducible repeat (first | assumption | (apply lk_last; (try simp only [ll1, ll2, ll3, ll4, lls_len, lls2_len, markL_len]); first | done | omega) | apply lk_prev)) (by first | rfl | exact upto_len | assumption | exact map_len | exact List.length_set | (rw [List.length_set]; assumption)) | exact Ints.tail (by with_reducible repeat (first | assumption | (apply lk_last; (try simp only [ll1, ll2, ll3, ll4, lls_len, lls2_len, markL_len]); first | done | omega) | apply lk_prev)) (by first | rfl | exact upto_len | assumption | exact map_len | exact List.length_set | (rw [List.length_set]; assumption)) | with_reducible apply Ints.app | (refine Ints.sub (by with_reducible repeat (first | assumption | apply Ints.app)) (by omega) (by omega) (by omega)))) (by first | ((with_reducible repeat (first | assumption | apply Ints.app)); done) | repeat (first | with_reducible assumption | exact ints_nil | exact Ints.own (by with_reducible repeat (first | assumption | (apply lk_last; (try simp only [ll1, ll2, ll3, ll4, lls_len, lls2_len, markL_len]); first | done | omega) | apply lk_prev)) (by first | rfl | exact upto_len | assumption | exact map_len | exact List.length_set | (rw [List.length_set]; assumption)) | exact Ints.tail (by with_reducible repeat (first | assumption | (apply lk_last; (try simp only [ll1, ll2, ll3, ll4, lls_len, lls2_len, markL_len]); first | done | omega) | apply lk_prev)) (by first | rfl | exact upto_len | assumption | exact map_len | exact List.length_set | (rw [List.length_set]; assumption)) | with_reducible apply Ints.app | (refine Ints.sub (by with_reducible repeat (first | assumption | apply Ints.app)) (by omega) (by omega) (by omega)))) (by first | omega | (simp; done))) (fun c33 => ?_) (fun c33 => ?_)))
              ·
                refine a_do rfl (o_notT (by conv => lhs; whnf) ?_)
                refine a_do rfl (o_pickF (by conv => lhs; whnf) (by conv => lhs; whnf) ?_)
                refine a_do rfl (o_move (by conv => lhs; whnf) ?_)
                refine a_do rfl (o_move (by conv => lhs; whnf) ?_)
                refine a_do rfl (o_move (by conv => lhs; whnf) ?_)
                refine a_do rfl (o_callF (lmap_cons (by conv => lhs; whnf) (lmap_cons (by conv => lhs; whnf) lmap_nil)) (Ret.toB (eqFloat32S_ret _ _ _ _ (by first | ((with_reducible repeat (first | assumption | apply Flts.app)); done) | with_reducible exact flts_nil | exact Flts.own (by with_reducible repeat (first | assumption | (apply lk_last; (try simp only [ll1, ll2, ll3, ll4, lls_len, lls2_len, markL_len]); first | done | omega) | apply lk_prev)) (by first | rfl | exact upto_len | assumption | exact map_len | exact List.length_set | (rw [List.length_set]; assumption)) | exact flts_nil) (by first | ((with_reducible repeat (first | assumption | apply Flts.app)); done) | with_reducible exact flts_nil | exact Flts.own (by with_reducible repeat (first | assumption | (apply lk_last; (try simp only [ll1, ll2, ll3, ll4, lls_len, lls2_len, markL_len]); first | done | omega) | apply lk_prev)) (by first | rfl | exact upto_len | assumption | exact map_len | exact List.length_set | (rw [List.length_set]; assumption)) | exact flts_nil) (by first | omega | (simp; done))) (fun c34 => ?_) (fun c34 => ?_)))
                ·
                  refine a_do rfl (o_notT (by conv => lhs; whnf) ?_)
                  refine a_do rfl (o_pickF (by conv => lhs; whnf) (by conv => lhs; whnf) ?_)
                  refine a_do rfl (o_move (by conv => lhs; whnf) ?_)
                  refine a_do rfl (o_move (by conv => lhs; whnf) ?_)
                  refine a_do rfl (o_move (by conv => lhs; whnf) ?_)
                  refine a_do rfl (o_boolNeL (b := false) Try.underlying4 (by conv => lhs; whnf) (by conv => lhs; whnf) (by rfl) ?_)
                  refine a_do rfl (o_pickF (by conv => lhs; whnf) (by conv => lhs; whnf) ?_)
                  refine a_end ?_
                  refine awp_condF (by conv => lhs; whnf) ?_
                  refine awp_skip ?_
                  refine awp_seq ?_
                  refine awp_region rfl ?_
                  refine a_do rfl (o_assign (by conv => lhs; whnf) ?_)
                  refine a_end ?_
                  refine awp_seq ?_
                  refine awp_region rfl ?_
                  refine a_do rfl (o_move (by conv => lhs; whnf) ?_)
                  refine a_do rfl (o_move (by conv => lhs; whnf) ?_)
                  refine a_do rfl (o_callF (lmap_cons (by conv => lhs; whnf) (lmap_cons (by conv => lhs; whnf) lmap_nil)) (Ret.to (markNil_ret _ _ (by omega)) ?_))
                  refine a_do rfl (o_assign (by conv => lhs; whnf) ?_)
                  refine a_end ?_
                  refine awp_seq ?_
                  refine awp_region rfl ?_
                  refine a_do rfl (o_move (by conv => lhs; whnf) ?_)
                  refine a_do rfl (o_move (by conv => lhs; whnf) ?_)
                  refine a_do rfl (o_callF (lmap_cons (by conv => lhs; whnf) (lmap_cons (by conv => lhs; whnf) lmap_nil)) (Ret.to (markNilF_ret _ _ (by omega)) ?_))
                  refine a_do rfl (o_assign (by conv => lhs; whnf) ?_)
                  refine a_end ?_
                  refine awp_seq ?_
                  refine awp_region rfl ?_
                  refine a_do rfl (o_assign (by conv => lhs; whnf) ?_)
                  refine a_end ?_
                  refine awp_seq ?_
                  refine awp_region rfl ?_
                  refine a_do rfl (o_move (by conv => lhs; whnf) ?_)
                  refine a_do rfl (o_move (by conv => lhs; whnf) ?_)
                  refine a_do rfl (o_callF (lmap_cons (by conv => lhs; whnf) (lmap_cons (by conv => lhs; whnf) lmap_nil)) (Ret.to (heldNil_ret _ _ (by omega)) ?_))
                  refine a_do rfl (o_assign (by conv => lhs; whnf) ?_)
                  refine a_end ?_
                  refine awp_seq ?_
                  refine awp_seq ?_
                  refine awp_region rfl ?_
                  refine a_do rfl (o_move (by conv => lhs; whnf) ?_)
                  refine a_do rfl (o_lss (by conv => lhs; whnf) (by conv => lhs; whnf) (fun c35 => ?_) (fun c35 => ?_))
                  ·
                    refine a_end ?_
                    refine awp_condT (by conv => lhs; whnf) ?_
                    refine awp_seq ?_
                    refine awp_region rfl ?_
                    refine a_do rfl (o_assign (by conv => lhs; whnf) ?_)
                    refine a_end ?_
                    refine awp_ret ?_
                    refine ⟨.inl rfl, [_], ⟨ares_tmp (by conv => lhs; whnf), trivial⟩, ?_⟩
                    exact ⟨by first | rfl | (exfalso; omega) | (exfalso; simp_all; done), (by first | ((repeat (first | with_reducible exact Grown.refl _ | with_reducible apply Grown.push)); done) | repeat (first | exact Grown.refl _ | refine Grown.push ?_ _))⟩
                  ·
                    refine a_end ?_
                    refine awp_condF (by conv => lhs; whnf) ?_
                    refine awp_skip ?_
                    refine awp_seq ?_
                    refine awp_region rfl ?_
                    refine a_do rfl (o_move (by conv => lhs; whnf) ?_)
                    refine a_do rfl (o_move (by conv => lhs; whnf) ?_)
                    refine a_do rfl (o_callF (lmap_cons (by conv => lhs; whnf) (lmap_cons (by conv => lhs; whnf) lmap_nil)) (Ret.to (heldNilF_ret _ _ (by omega)) ?_))
                    refine a_do rfl (o_assign (by conv => lhs; whnf) ?_)
                    refine a_end ?_
                    refine awp_seq ?_
                    refine awp_seq ?_
                    refine awp_region rfl ?_
                    refine a_do rfl (o_move (by conv => lhs; whnf) ?_)
                    refine a_do rfl (o_lss (by conv => lhs; whnf) (by conv => lhs; whnf) (fun c36 => ?_) (fun c36 => ?_))
                    ·
                      refine a_end ?_
                      refine awp_condT (by conv => lhs; whnf) ?_
                      refine awp_seq ?_
                      refine awp_region rfl ?_
                      refine a_do rfl (o_assign (by conv => lhs; whnf) ?_)
                      refine a_end ?_
                      refine awp_ret ?_
                      refine ⟨.inl rfl, [_], ⟨ares_tmp (by conv => lhs; whnf), trivial⟩, ?_⟩
                      exact ⟨by first | rfl | (exfalso; omega) | (exfalso; simp_all; done), (by first | ((repeat (first | with_reducible exact Grown.refl _ | with_reducible apply Grown.push)); done) | repeat (first | exact Grown.refl _ | refine Grown.push ?_ _))⟩
                    ·
                      refine a_end ?_
                      refine awp_condF (by conv => lhs; whnf) ?_
                      refine awp_skip ?_
                      refine awp_seq ?_
                      refine awp_seq ?_
                      refine awp_region rfl ?_
                      refine a_do rfl (o_move (by conv => lhs; whnf) ?_)
                      refine a_do rfl (o_move (by conv => lhs; whnf) ?_)
                      refine a_do rfl (o_neq (by conv => lhs; whnf) (by conv => lhs; whnf) (fun c37 => ?_) (fun c37 => ?_))
                      ·
                        refine a_end ?_
                        refine awp_condT (by conv => lhs; whnf) ?_
                        refine awp_seq ?_
                        refine awp_region rfl ?_
                        refine a_do rfl (o_assign (by conv => lhs; whnf) ?_)
                        refine a_end ?_
                        refine awp_ret ?_
                        refine ⟨.inl rfl, [_], ⟨ares_tmp (by conv => lhs; whnf), trivial⟩, ?_⟩
                        exact ⟨by first | rfl | (exfalso; omega) | (exfalso; simp_all; done), (by first | ((repeat (first | with_reducible exact Grown.refl _ | with_reducible apply Grown.push)); done) | repeat (first | exact Grown.refl _ | refine Grown.push ?_ _))⟩
                      ·
                        refine a_end ?_
                        refine awp_condF (by conv => lhs; whnf) ?_
                        refine awp_skip ?_
                        refine awp_seq ?_
                        refine awp_region rfl ?_
                        refine a_do rfl (o_loadAgg Try.underlying24 rfl ty24 (by conv => lhs; whnf) (by with_reducible repeat (first | assumption | (apply lk_last; (try simp only [ll1, ll2, ll3, ll4, lls_len, lls2_len, markL_len]); first | done | omega) | apply lk_prev)) (by rfl) (by exact (rfl : _ = [_, _, _])) (by rfl) ?_)
                        refine a_do rfl (o_callF (lmap_cons (by conv => lhs; whnf) lmap_nil) (RetN.toN (toCake_ret _ _ _ _ _ (by first | ((with_reducible repeat (first | assumption | apply Ints.app)); done) | repeat (first | with_reducible assumption | exact ints_nil | exact Ints.own (by with_reducible repeat (first | assumption | (apply lk_last; (try simp only [ll1, ll2, ll3, ll4, lls_len, lls2_len, markL_len]); first | done | omega) | apply lk_prev)) (by first | rfl | exact upto_len | assumption | exact map_len | exact List.length_set | (rw [List.length_set]; assumption)) | exact Ints.tail (by with_reducible repeat (first | assumption | (apply lk_last; (try simp only [ll1, ll2, ll3, ll4, lls_len, lls2_len, markL_len]); first | done | omega) | apply lk_prev)) (by first | rfl | exact upto_len | assumption | exact map_len | exact List.length_set | (rw [List.length_set]; assumption)) | with_reducible apply Ints.app | (refine Ints.sub (by with_reducible repeat (first | assumption | apply Ints.app)) (by omega) (by omega) (by omega)))) (by omega)) (fun k38 hk38 hgk38 => ?_)))
                        try simp at hk38
                        have hIk38 := Ints.own hgk38 rfl
                        refine a_do rfl (o_callF (lmap_cons (by conv => lhs; whnf) lmap_nil) (Ret.to ((implMovingKnife_ret _ _ _ _ _ (by first | ((with_reducible repeat (first | assumption | apply Ints.app)); done) | repeat (first | with_reducible assumption | exact ints_nil | exact Ints.own (by with_reducible repeat (first | assumption | (apply lk_last; (try simp only [ll1, ll2, ll3, ll4, lls_len, lls2_len, markL_len]); first | done | omega) | apply lk_prev)) (by first | rfl | exact upto_len | assumption | exact map_len | exact List.length_set | (rw [List.length_set]; assumption)) | exact Ints.tail (by with_reducible repeat (first | assumption | (apply lk_last; (try simp only [ll1, ll2, ll3, ll4, lls_len, lls2_len, markL_len]); first | done | omega) | apply lk_prev)) (by first | rfl | exact upto_len | assumption | exact map_len | exact List.length_set | (rw [List.length_set]; assumption)) | with_reducible apply Ints.app | (refine Ints.sub (by with_reducible repeat (first | assumption | apply Ints.app)) (by omega) (by omega) (by omega)))) (by omega)).2 hok) ?_))
                        refine a_do rfl (o_move (by conv => lhs; whnf) ?_)
                        refine a_do rfl (o_extract (by conv => lhs; whnf) rfl ?_)
                        refine a_do rfl (o_extract (by conv => lhs; whnf) rfl ?_)
                        refine a_do rfl (o_extract (by conv => lhs; whnf) rfl ?_)
                        refine a_do rfl (o_assign (by conv => lhs; whnf) ?_)
                        refine a_do rfl (o_assign (by conv => lhs; whnf) ?_)
                        refine a_do rfl (o_assign (by conv => lhs; whnf) ?_)
                        refine a_end ?_
                        refine awp_seq ?_
                        refine awp_seq ?_
                        refine awp_region rfl ?_
                        refine a_do rfl (o_move (by conv => lhs; whnf) ?_)
                        refine a_do rfl (o_move (by conv => lhs; whnf) ?_)
                        refine a_do rfl (o_callF (lmap_cons (by conv => lhs; whnf) (lmap_cons (by conv => lhs; whnf) lmap_nil)) (Ret.toB (eqInt64S_ret _ _ _ _ _ (by first | ((with_reducible repeat (first | assumption | apply Ints.app)); done) | repeat (first | with_reducible assumption | exact ints_nil | exact Ints.own (by with_reducible repeat (first | assumption | (apply lk_last; (try simp only [ll1, ll2, ll3, ll4, lls_len, lls2_len, markL_len]); first | done | omega) | apply lk_prev)) (by first | rfl | exact upto_len | assumption | exact map_len | exact List.length_set | (rw [List.length_set]; assumption)) | exact Ints.tail (by with_reducible repeat (first | assumption | (apply lk_last; (try simp only [ll1, ll2, ll3, ll4, lls_len, lls2_len, markL_len]); first | done | omega) | apply lk_prev)) (by first | rfl | exact upto_len | assumption | exact map_len | exact List.length_set | (rw [List.length_set]; assumption)) | with_reducible apply Ints.app | (refine Ints.sub (by with_reducible repeat (first | assumption | apply Ints.app)) (by omega) (by omega) (by omega)))) (by first | ((with_reducible repeat (first | assumption | apply Ints.app)); done) | repeat (first | with_reducible assumption | exact ints_nil | exact Ints.own (by with_reducible repeat (first | assumption | (apply lk_last; (try simp only [ll1, ll2, ll3, ll4, lls_len, lls2_len, markL_len]); first | done | omega) | apply lk_prev)) (by first | rfl | exact upto_len | assumption | exact map_len | exact List.length_set | (rw [List.length_set]; assumption)) | exact Ints.tail (by with_reducible repeat (first | assumption | (apply lk_last; (try simp only [ll1, ll2, ll3, ll4, lls_len, lls2_len, markL_len]); first | done | omega) | apply lk_prev)) (by first | rfl | exact upto_len | assumption | exact map_len | exact List.length_set | (rw [List.length_set]; assumption)) | with_reducible apply Ints.app | (refine Ints.sub (by with_reducible repeat (first | assumption | apply Ints.app)) (by omega) (by omega) (by omega)))) (by first | omega | (simp; done))) (fun c39 => ?_) (fun c39 => ?_)))
                        ·
                          refine a_do rfl (o_notT (by conv => lhs; whnf) ?_)
                          refine a_do rfl (o_move (by conv => lhs; whnf) ?_)
                          refine a_do rfl (o_move (by conv => lhs; whnf) ?_)
                          refine a_do rfl (o_move (by conv => lhs; whnf) ?_)
                          refine a_do rfl (o_callF (lmap_cons (by conv => lhs; whnf) (lmap_cons (by conv => lhs; whnf) lmap_nil)) (Ret.toB (eqFloat32S_ret _ _ _ _ (by first | ((with_reducible repeat (first | assumption | apply Flts.app)); done) | with_reducible exact flts_nil | exact Flts.own (by with_reducible repeat (first | assumption | (apply lk_last; (try simp only [ll1, ll2, ll3, ll4, lls_len, lls2_len, markL_len]); first | done | omega) | apply lk_prev)) (by first | rfl | exact upto_len | assumption | exact map_len | exact List.length_set | (rw [List.length_set]; assumption)) | exact flts_nil) (by first | ((with_reducible repeat (first | assumption | apply Flts.app)); done) | with_reducible exact flts_nil | exact Flts.own (by with_reducible repeat (first | assumption | (apply lk_last; (try simp only [ll1, ll2, ll3, ll4, lls_len, lls2_len, markL_len]); first | done | omega) | apply lk_prev)) (by first | rfl | exact upto_len | assumption | exact map_len | exact List.length_set | (rw [List.length_set]; assumption)) | exact flts_nil) (by first | omega | (simp; done))) (fun c40 => ?_) (fun c40 => ?_)))
                          ·
                            refine a_do rfl (o_notT (by conv => lhs; whnf) ?_)
                            refine a_do rfl (o_pickF (by conv => lhs; whnf) (by conv => lhs; whnf) ?_)
                            refine a_do rfl (o_move (by conv => lhs; whnf) ?_)
                            refine a_do rfl (o_move (by conv => lhs; whnf) ?_)
                            refine a_do rfl (o_move (by conv => lhs; whnf) ?_)
                            refine a_do rfl (o_boolNeL (b := false) Try.underlying4 (by conv => lhs; whnf) (by conv => lhs; whnf) (by rfl) ?_)
                            refine a_do rfl (o_pickF (by conv => lhs; whnf) (by conv => lhs; whnf) ?_)
                            refine a_end ?_
                            refine awp_condF (by conv => lhs; whnf) ?_
                            refine awp_skip ?_
                            refine awp_seq ?_
                            refine awp_region rfl ?_
                            refine a_do rfl (o_assign (by conv => lhs; whnf) ?_)
                            refine a_end ?_
                            refine awp_seq ?_
                            refine awp_region rfl ?_
                            refine a_do rfl (o_move (by conv => lhs; whnf) ?_)
                            refine a_do rfl (o_move (by conv => lhs; whnf) ?_)
                            refine a_do rfl (o_callF (lmap_cons (by conv => lhs; whnf) (lmap_cons (by conv => lhs; whnf) lmap_nil)) (Ret.to (heldNil_ret _ _ (by omega)) ?_))
                            refine a_do rfl (o_assign (by conv => lhs; whnf) ?_)
                            refine a_end ?_
                            refine awp_seq ?_
                            refine awp_seq ?_
                            refine awp_region rfl ?_
                            refine a_do rfl (o_move (by conv => lhs; whnf) ?_)
                            refine a_do rfl (o_lss (by conv => lhs; whnf) (by conv => lhs; whnf) (fun c41 => ?_) (fun c41 => ?_))
                            ·
                              refine a_end ?_
                              refine awp_condT (by conv => lhs; whnf) ?_
                              refine awp_seq ?_
                              refine awp_region rfl ?_
                              refine a_do rfl (o_assign (by conv => lhs; whnf) ?_)
                              refine a_end ?_
                              refine awp_ret ?_
                              refine ⟨.inl rfl, [_], ⟨ares_tmp (by conv => lhs; whnf), trivial⟩, ?_⟩
                              exact ⟨by first | rfl | (exfalso; omega) | (exfalso; simp_all; done), (by first | ((repeat (first | with_reducible exact Grown.refl _ | with_reducible apply Grown.push)); done) | repeat (first | exact Grown.refl _ | refine Grown.push ?_ _))⟩
                            ·
                              refine a_end ?_
                              refine awp_condF (by conv => lhs; whnf) ?_
                              refine awp_skip ?_
                              refine awp_seq ?_
                              refine awp_region rfl ?_
                              refine a_do rfl (o_move (by conv => lhs; whnf) ?_)
                              refine a_do rfl (o_move (by conv => lhs; whnf) ?_)
                              refine a_do rfl (o_callF (lmap_cons (by conv => lhs; whnf) (lmap_cons (by conv => lhs; whnf) lmap_nil)) (Ret.to (heldNilF_ret _ _ (by omega)) ?_))
                              refine a_do rfl (o_assign (by conv => lhs; whnf) ?_)
                              refine a_end ?_
                              refine awp_seq ?_
                              refine awp_seq ?_
                              refine awp_region rfl ?_
                              refine a_do rfl (o_move (by conv => lhs; whnf) ?_)
                              refine a_do rfl (o_lss (by conv => lhs; whnf) (by conv => lhs; whnf) (fun c42 => ?_) (fun c42 => ?_))
                              ·
                                refine a_end ?_
                                refine awp_condT (by conv => lhs; whnf) ?_
                                refine awp_seq ?_
                                refine awp_region rfl ?_
                                refine a_do rfl (o_assign (by conv => lhs; whnf) ?_)
                                refine a_end ?_
                                refine awp_ret ?_
                                refine ⟨.inl rfl, [_], ⟨ares_tmp (by conv => lhs; whnf), trivial⟩, ?_⟩
                                exact ⟨by first | rfl | (exfalso; omega) | (exfalso; simp_all; done), (by first | ((repeat (first | with_reducible exact Grown.refl _ | with_reducible apply Grown.push)); done) | repeat (first | exact Grown.refl _ | refine Grown.push ?_ _))⟩
                              ·
                                refine a_end ?_
                                refine awp_condF (by conv => lhs; whnf) ?_
                                refine awp_skip ?_
                                refine awp_seq ?_
                                refine awp_seq ?_
                                refine awp_region rfl ?_
                                refine a_do rfl (o_move (by conv => lhs; whnf) ?_)
                                refine a_do rfl (o_move (by conv => lhs; whnf) ?_)
                                refine a_do rfl (o_neq (by conv => lhs; whnf) (by conv => lhs; whnf) (fun c43 => ?_) (fun c43 => ?_))
                                ·
                                  refine a_end ?_
                                  refine awp_condT (by conv => lhs; whnf) ?_
                                  refine awp_seq ?_
                                  refine awp_region rfl ?_
                                  refine a_do rfl (o_assign (by conv => lhs; whnf) ?_)
                                  refine a_end ?_
                                  refine awp_ret ?_
                                  refine ⟨.inl rfl, [_], ⟨ares_tmp (by conv => lhs; whnf), trivial⟩, ?_⟩
                                  exact ⟨by first | rfl | (exfalso; omega) | (exfalso; simp_all; done), (by first | ((repeat (first | with_reducible exact Grown.refl _ | with_reducible apply Grown.push)); done) | repeat (first | exact Grown.refl _ | refine Grown.push ?_ _))⟩
                                ·
                                  refine a_end ?_
                                  refine awp_condF (by conv => lhs; whnf) ?_
                                  refine awp_skip ?_
                                  refine awp_seq ?_
                                  refine awp_region rfl ?_
                                  refine a_do rfl (o_assign (by conv => lhs; whnf) ?_)
                                  refine a_end ?_
                                  refine awp_ret ?_
                                  refine ⟨.inl rfl, [_], ⟨ares_tmp (by conv => lhs; whnf), trivial⟩, ?_⟩
                                  exact ⟨by first | rfl | (exfalso; omega) | (exfalso; simp_all; done), (by first | ((repeat (first | with_reducible exact Grown.refl _ | with_reducible apply Grown.push)); done) | repeat (first | exact Grown.refl _ | refine Grown.push ?_ _))⟩
                          ·
                            refine a_do rfl (o_notF (by conv => lhs; whnf) ?_)
                            refine a_do rfl (o_pickF (by conv => lhs; whnf) (by conv => lhs; whnf) ?_)
                            refine a_do rfl (o_move (by conv => lhs; whnf) ?_)
                            refine a_no rfl ?_
                            refine a_no rfl ?_
                            refine a_no rfl ?_
                            refine a_do rfl (o_pickT (by conv => lhs; whnf) (by conv => lhs; whnf) ?_)
                            refine a_end ?_
                            refine awp_condT (by conv => lhs; whnf) ?_
                            refine awp_seq ?_
                            refine awp_region rfl ?_
                            refine a_do rfl (o_assign (by conv => lhs; whnf) ?_)
                            refine a_end ?_
                            refine awp_ret ?_
                            refine ⟨.inl rfl, [_], ⟨ares_tmp (by conv => lhs; whnf), trivial⟩, ?_⟩
                            exact ⟨by first | rfl | (exfalso; omega) | (exfalso; simp_all; done), (by first | ((repeat (first | with_reducible exact Grown.refl _ | with_reducible apply Grown.push)); done) | repeat (first | exact Grown.refl _ | refine Grown.push ?_ _))⟩
                        ·
                          refine a_do rfl (o_notF (by conv => lhs; whnf) ?_)
                          refine a_do rfl (o_move (by conv => lhs; whnf) ?_)
                          refine a_no rfl ?_
                          refine a_no rfl ?_
                          refine a_no rfl ?_
                          refine a_no rfl ?_
                          refine a_do rfl (o_pickT (by conv => lhs; whnf) (by conv => lhs; whnf) ?_)
                          refine a_do rfl (o_move (by conv => lhs; whnf) ?_)
                          refine a_no rfl ?_
                          refine a_no rfl ?_
                          refine a_no rfl ?_
                          refine a_do rfl (o_pickT (by conv => lhs; whnf) (by conv => lhs; whnf) ?_)
                          refine a_end ?_
                          refine awp_condT (by conv => lhs; whnf) ?_
                          refine awp_seq ?_
                          refine awp_region rfl ?_
                          refine a_do rfl (o_assign (by conv => lhs; whnf) ?_)
                          refine a_end ?_
                          refine awp_ret ?_
                          refine ⟨.inl rfl, [_], ⟨ares_tmp (by conv => lhs; whnf), trivial⟩, ?_⟩
                          exact ⟨by first | rfl | (exfalso; omega) | (exfalso; simp_all; done), (by first | ((repeat (first | with_reducible exact Grown.refl _ | with_reducible apply Grown.push)); done) | repeat (first | exact Grown.refl _ | refine Grown.push ?_ _))⟩
                ·
                  refine a_do rfl (o_notF (by conv => lhs; whnf) ?_)
                  refine a_do rfl (o_pickF (by conv => lhs; whnf) (by conv => lhs; whnf) ?_)
                  refine a_do rfl (o_move (by conv => lhs; whnf) ?_)
                  refine a_no rfl ?_
                  refine a_no rfl ?_
                  refine a_no rfl ?_
                  refine a_do rfl (o_pickT (by conv => lhs; whnf) (by conv => lhs; whnf) ?_)
                  refine a_end ?_
                  refine awp_condT (by conv => lhs; whnf) ?_
                  refine awp_seq ?_
                  refine awp_region rfl ?_
                  refine a_do rfl (o_assign (by conv => lhs; whnf) ?_)
                  refine a_end ?_
                  refine awp_ret ?_
                  refine ⟨.inl rfl, [_], ⟨ares_tmp (by conv => lhs; whnf), trivial⟩, ?_⟩
                  exact ⟨by first | rfl | (exfalso; omega) | (exfalso; simp_all; done), (by first | ((repeat (first | with_reducible exact Grown.refl _ | with_reducible apply Grown.push)); done) | repeat (first | exact Grown.refl _ | refine Grown.push ?_ _))⟩
              ·
                refine a_do rfl (o_notF (by conv => lhs; whnf) ?_)
                refine a_do rfl (o_pickF (by conv => lhs; whnf) (by conv => lhs; whnf) ?_)
                refine a_do rfl (o_move (by conv => lhs; whnf) ?_)
                refine a_no rfl ?_
                refine a_no rfl ?_
                refine a_no rfl ?_
                refine a_no rfl ?_
                refine a_do rfl (o_pickT (by conv => lhs; whnf) (by conv => lhs; whnf) ?_)
                refine a_do rfl (o_move (by conv => lhs; whnf) ?_)
                refine a_no rfl ?_
                refine a_no rfl ?_
                refine a_no rfl ?_
                refine a_do rfl (o_pickT (by conv => lhs; whnf) (by conv => lhs; whnf) ?_)
                refine a_end ?_
                refine awp_condT (by conv => lhs; whnf) ?_
                refine awp_seq ?_
                refine awp_region rfl ?_
                refine a_do rfl (o_assign (by conv => lhs; whnf) ?_)
                refine a_end ?_
                refine awp_ret ?_
                refine ⟨.inl rfl, [_], ⟨ares_tmp (by conv => lhs; whnf), trivial⟩, ?_⟩
                exact ⟨by first | rfl | (exfalso; omega) | (exfalso; simp_all; done), (by first | ((repeat (first | with_reducible exact Grown.refl _ | with_reducible apply Grown.push)); done) | repeat (first | exact Grown.refl _ | refine Grown.push ?_ _))⟩
          ·
            refine d_do rfl (o_notF (by conv => lhs; whnf) ⟨rfl, rfl⟩) (by exact .prim rfl) ?_
            refine d_end ?_
            refine awp_condT (by conv => lhs; whnf) ?_
            refine awp_seq ?_
            refine awp_region rfl ?_
            refine a_do rfl (o_assign (by conv => lhs; whnf) ?_)
            refine a_end ?_
            refine awp_ret ?_
            refine ⟨.inl rfl, [_], ⟨ares_tmp (by conv => lhs; whnf), trivial⟩, ?_⟩
            exact ⟨by first | rfl | (exfalso; omega) | (exfalso; simp_all; done), (by first | ((repeat (first | with_reducible exact Grown.refl _ | with_reducible apply Grown.push)); done) | repeat (first | exact Grown.refl _ | refine Grown.push ?_ _))⟩
        ·
          refine a_do rfl (o_notF (by conv => lhs; whnf) ?_)
          refine a_do rfl (o_pickF (by conv => lhs; whnf) (by conv => lhs; whnf) ?_)
          refine a_do rfl (o_move (by conv => lhs; whnf) ?_)
          refine a_no rfl ?_
          refine a_no rfl ?_
          refine a_no rfl ?_
          refine a_do rfl (o_pickT (by conv => lhs; whnf) (by conv => lhs; whnf) ?_)
          refine a_end ?_
          refine awp_condT (by conv => lhs; whnf) ?_
          refine awp_seq ?_
          refine awp_region rfl ?_
          refine a_do rfl (o_assign (by conv => lhs; whnf) ?_)
          refine a_end ?_
          refine awp_ret ?_
          refine ⟨.inl rfl, [_], ⟨ares_tmp (by conv => lhs; whnf), trivial⟩, ?_⟩
          exact ⟨by first | rfl | (exfalso; omega) | (exfalso; simp_all; done), (by first | ((repeat (first | with_reducible exact Grown.refl _ | with_reducible apply Grown.push)); done) | repeat (first | exact Grown.refl _ | refine Grown.push ?_ _))⟩
      ·
        refine a_do rfl (o_notF (by conv => lhs; whnf) ?_)
        refine a_do rfl (o_move (by conv => lhs; whnf) ?_)
        refine a_no rfl ?_
        refine a_no rfl ?_
        refine a_no rfl ?_
        refine a_no rfl ?_
        refine a_do rfl (o_pickT (by conv => lhs; whnf) (by conv => lhs; whnf) ?_)
        refine a_do rfl (o_move (by conv => lhs; whnf) ?_)
        refine a_no rfl ?_
        refine a_no rfl ?_
        refine a_no rfl ?_
        refine a_do rfl (o_pickT (by conv => lhs; whnf) (by conv => lhs; whnf) ?_)
        refine a_end ?_
        refine awp_condT (by conv => lhs; whnf) ?_
        refine awp_seq ?_
        refine awp_region rfl ?_
        refine a_do rfl (o_assign (by conv => lhs; whnf) ?_)
        refine a_end ?_
        refine awp_ret ?_
        refine ⟨.inl rfl, [_], ⟨ares_tmp (by conv => lhs; whnf), trivial⟩, ?_⟩
        exact ⟨by first | rfl | (exfalso; omega) | (exfalso; simp_all; done), (by first | ((repeat (first | with_reducible exact Grown.refl _ | with_reducible apply Grown.push)); done) | repeat (first | exact Grown.refl _ | refine Grown.push ?_ _))⟩

end Go.Am
