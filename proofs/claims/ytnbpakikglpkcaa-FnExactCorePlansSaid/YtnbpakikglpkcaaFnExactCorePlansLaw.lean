/-
  What the law FnExactCorePlans answers over an abstract heap: true, for every input.
-/
import Derived.Test.YtnbpakikglpkcaaFnExactCorePlansBk3
namespace Go.Am
open Go.Proofs
set_option linter.unusedSimpArgs false
set_option linter.unusedVariables false

set_option maxHeartbeats 4000000 in
set_option maxRecDepth 10000 in
theorem fnExactCorePlans_ret (p m : Int) (xs : List Int) (v : Value) (h : AHeap) (hv : Ints h v xs) (hl : xs.length ≤ 9223372036854775807) : Ret Try.prog 7 [.agg #[i64 p, v], i64 m] h (.bool true) h := by
  refine ret_of (.prim rfl) ?_
  have hbN : LB ([] : List (List Int)) := ⟨by decide, by decide⟩
  refine tri_of_body Try.func7 rfl (by kernel_rfl) (by show 2 ≤ 101; decide) ?_
  refine awp_seq ?_
  refine awp_region rfl ?_
  refine a_do rfl (o_boxN (n := 2) (by conv => lhs; whnf) (by exact (rfl : _ = [_, _])) (by rfl) (fun k2 hk2 => ?_))
  try simp at hk2
  refine a_do rfl (o_assign (by conv => lhs; whnf) ?_)
  refine a_end ?_
  refine awp_seq ?_
  refine awp_region rfl ?_
  refine a_do rfl (o_assign (by conv => lhs; whnf) ?_)
  refine a_end ?_
  refine awp_seq ?_
  refine awp_region rfl ?_
  refine a_do rfl (o_loadAgg Try.underlying48 rfl ty48 (by conv => lhs; whnf) (by with_reducible repeat (first | assumption | (apply lk_last; (try simp only [ll1, ll2, ll3, ll4, lls_len, lls2_len, markL_len]); omega) | apply lk_prev)) (by rfl) (by exact (rfl : _ = [_, _])) (by rfl) ?_)
  refine a_do rfl (o_move (by conv => lhs; whnf) ?_)
  refine a_do rfl (o_callF (lmap_cons (by conv => lhs; whnf) (lmap_cons (by conv => lhs; whnf) lmap_nil)) (Ret.to (szWorths_ret _ _ _ _ _ (by first | ((with_reducible repeat (first | assumption | apply Ints.app)); done) | repeat (first | with_reducible assumption | exact ints_nil | exact Ints.own (by with_reducible repeat (first | assumption | (apply lk_last; (try simp only [ll1, ll2, ll3, ll4, lls_len, lls2_len, markL_len]); omega) | apply lk_prev)) (by first | rfl | exact upto_len | assumption | exact map_len | exact List.length_set | (rw [List.length_set]; assumption)) | exact Ints.tail (by with_reducible repeat (first | assumption | (apply lk_last; (try simp only [ll1, ll2, ll3, ll4, lls_len, lls2_len, markL_len]); omega) | apply lk_prev)) (by first | rfl | exact upto_len | assumption | exact map_len | exact List.length_set | (rw [List.length_set]; assumption)) | with_reducible apply Ints.app | (refine Ints.sub (by with_reducible repeat (first | assumption | apply Ints.app)) (by omega) (by omega) (by omega)))) (by omega) (by omega) (by omega)) ?_))
  refine a_do rfl (o_assign (by conv => lhs; whnf) ?_)
  refine a_end ?_
  refine awp_seq ?_
  refine awp_seq ?_
  refine awp_region rfl ?_
  refine a_do rfl (o_move (by conv => lhs; whnf) ?_)
  refine a_do rfl (o_lss (by conv => lhs; whnf) (by conv => lhs; whnf) (fun c3 => ?_) (fun c3 => ?_))
  ·
    refine a_end ?_
    refine awp_condT (by conv => lhs; whnf) ?_
    refine awp_seq ?_
    refine awp_region rfl ?_
    refine a_do rfl (o_assign (by conv => lhs; whnf) ?_)
    refine a_end ?_
    refine awp_ret ?_
    refine ⟨.inl rfl, [_], ⟨ares_tmp (by conv => lhs; whnf), trivial⟩, ?_⟩
    exact ⟨by first | rfl | (exfalso; omega) | (exfalso; simp_all; done), (by first | ((repeat (first | with_reducible exact Grown.refl _ | with_reducible apply Grown.push)); done) | repeat (first | exact Grown.refl _ | refine Grown.push ?_ _))⟩
  ·
    have hz := szL_spec c3
    refine a_end ?_
    refine awp_condF (by conv => lhs; whnf) ?_
    refine awp_skip ?_
    refine awp_seq ?_
    refine awp_region rfl ?_
    refine a_do rfl (o_loadAgg Try.underlying48 rfl ty48 (by conv => lhs; whnf) (by with_reducible repeat (first | assumption | (apply lk_last; (try simp only [ll1, ll2, ll3, ll4, lls_len, lls2_len, markL_len]); omega) | apply lk_prev)) (by rfl) (by exact (rfl : _ = [_, _])) (by rfl) ?_)
    refine a_do rfl (o_callF (lmap_cons (by conv => lhs; whnf) lmap_nil) (RetN.toN (toWorths_ret _ _ _ _ (by first | ((with_reducible repeat (first | assumption | apply Ints.app)); done) | repeat (first | with_reducible assumption | exact ints_nil | exact Ints.own (by with_reducible repeat (first | assumption | (apply lk_last; (try simp only [ll1, ll2, ll3, ll4, lls_len, lls2_len, markL_len]); omega) | apply lk_prev)) (by first | rfl | exact upto_len | assumption | exact map_len | exact List.length_set | (rw [List.length_set]; assumption)) | exact Ints.tail (by with_reducible repeat (first | assumption | (apply lk_last; (try simp only [ll1, ll2, ll3, ll4, lls_len, lls2_len, markL_len]); omega) | apply lk_prev)) (by first | rfl | exact upto_len | assumption | exact map_len | exact List.length_set | (rw [List.length_set]; assumption)) | with_reducible apply Ints.app | (refine Ints.sub (by with_reducible repeat (first | assumption | apply Ints.app)) (by omega) (by omega) (by omega)))) (by omega)) (fun k4 hk4 hgk4 => ?_)))
    try simp at hk4
    have hIk4 := Ints.own hgk4 rfl
    refine a_do rfl (o_move (by conv => lhs; whnf) ?_)
    rcases Bool.eq_false_or_eq_true (planV p xs m) with hok | hok
    ·
      refine a_do rfl (o_callF (lmap_cons (by conv => lhs; whnf) (lmap_cons (by conv => lhs; whnf) lmap_nil)) (RetG.toTL ((specCorePlans_ret _ _ _ _ _ (by first | ((with_reducible repeat (first | assumption | apply Ints.app)); done) | repeat (first | with_reducible assumption | exact ints_nil | exact Ints.own (by with_reducible repeat (first | assumption | (apply lk_last; (try simp only [ll1, ll2, ll3, ll4, lls_len, lls2_len, markL_len]); omega) | apply lk_prev)) (by first | rfl | exact upto_len | assumption | exact map_len | exact List.length_set | (rw [List.length_set]; assumption)) | exact Ints.tail (by with_reducible repeat (first | assumption | (apply lk_last; (try simp only [ll1, ll2, ll3, ll4, lls_len, lls2_len, markL_len]); omega) | apply lk_prev)) (by first | rfl | exact upto_len | assumption | exact map_len | exact List.length_set | (rw [List.length_set]; assumption)) | with_reducible apply Ints.app | (refine Ints.sub (by with_reducible repeat (first | assumption | apply Ints.app)) (by omega) (by omega) (by omega)))) (by omega)).1 hok) (fun k5 hk5 hLk5 => ?_)))
      have hbk5 := planL_lb hok
      have hbtk5 := hbk5.2
      try simp at hk5
      refine a_do rfl (o_move (by conv => lhs; whnf) ?_)
      refine a_do rfl (o_extract (by conv => lhs; whnf) rfl ?_)
      refine a_do rfl (o_extract (by conv => lhs; whnf) rfl ?_)
      refine a_do rfl (o_assign (by conv => lhs; whnf) ?_)
      refine a_do rfl (o_assign (by conv => lhs; whnf) ?_)
      refine a_end ?_
      refine awp_seq ?_
      refine awp_region rfl ?_
      refine a_do rfl (o_loadAgg Try.underlying48 rfl ty48 (by conv => lhs; whnf) (by with_reducible repeat (first | assumption | (apply lk_last; (try simp only [ll1, ll2, ll3, ll4, lls_len, lls2_len, markL_len]); omega) | apply lk_prev)) (by rfl) (by exact (rfl : _ = [_, _])) (by rfl) ?_)
      refine a_do rfl (o_callF (lmap_cons (by conv => lhs; whnf) lmap_nil) (RetN.toN (toWorths_ret _ _ _ _ (by first | ((with_reducible repeat (first | assumption | apply Ints.app)); done) | repeat (first | with_reducible assumption | exact ints_nil | exact Ints.own (by with_reducible repeat (first | assumption | (apply lk_last; (try simp only [ll1, ll2, ll3, ll4, lls_len, lls2_len, markL_len]); omega) | apply lk_prev)) (by first | rfl | exact upto_len | assumption | exact map_len | exact List.length_set | (rw [List.length_set]; assumption)) | exact Ints.tail (by with_reducible repeat (first | assumption | (apply lk_last; (try simp only [ll1, ll2, ll3, ll4, lls_len, lls2_len, markL_len]); omega) | apply lk_prev)) (by first | rfl | exact upto_len | assumption | exact map_len | exact List.length_set | (rw [List.length_set]; assumption)) | with_reducible apply Ints.app | (refine Ints.sub (by with_reducible repeat (first | assumption | apply Ints.app)) (by omega) (by omega) (by omega)))) (by omega)) (fun k6 hk6 hgk6 => ?_)))
      try simp at hk6
      have hIk6 := Ints.own hgk6 rfl
      refine a_do rfl (o_allocN (n := 2) ty51 rfl (by exact (rfl : _ = [_, _])) (by rfl) (fun k7 hk7 => ?_))
      try simp at hk7
      refine a_do rfl (o_storeVAgg ty51 (by conv => lhs; whnf) (by with_reducible repeat (first | assumption | (apply lk_last; (try simp only [ll1, ll2, ll3, ll4, lls_len, lls2_len, markL_len]); omega) | apply lk_prev)) (by rfl) (by rfl) (by rfl) (by conv => lhs; whnf) (by rfl) (by rfl) (by first | rfl | exact one2 (by assumption)) (by first | exact (rfl : _ = [_]) | exact (rfl : _ = [_, _]) | exact (rfl : _ = [_, _, _]) | exact (rfl : _ = [_, _, _, _]) | rfl) (by with_reducible repeat (first | (apply set_last; (try simp only [ll1, ll2, ll3, ll4, lls_len, lls2_len, markL_len]); omega) | (apply set_step; (try simp only [ll1, ll2, ll3, ll4, lls_len, lls2_len, markL_len]); omega) | exact rfl)) ?_)
      refine a_end ?_
      refine awp_seq ?_
      refine awp_region rfl ?_
      refine a_do rfl (o_loadAgg Try.underlying51 rfl ty51 (by conv => lhs; whnf) (by with_reducible repeat (first | assumption | (apply lk_last; (try simp only [ll1, ll2, ll3, ll4, lls_len, lls2_len, markL_len]); omega) | apply lk_prev)) (by rfl) (by exact (rfl : _ = [_, _])) (by rfl) ?_)
      refine a_do rfl (o_move (by conv => lhs; whnf) ?_)
      refine a_do rfl (o_callF (lmap_cons (by conv => lhs; whnf) (lmap_cons (by conv => lhs; whnf) lmap_nil)) (RetG.toTL ((implCorePlans_ret _ _ _ _ _ (by first | ((with_reducible repeat (first | assumption | apply Ints.app)); done) | repeat (first | with_reducible assumption | exact ints_nil | exact Ints.own (by with_reducible repeat (first | assumption | (apply lk_last; (try simp only [ll1, ll2, ll3, ll4, lls_len, lls2_len, markL_len]); omega) | apply lk_prev)) (by first | rfl | exact upto_len | assumption | exact map_len | exact List.length_set | (rw [List.length_set]; assumption)) | exact Ints.tail (by with_reducible repeat (first | assumption | (apply lk_last; (try simp only [ll1, ll2, ll3, ll4, lls_len, lls2_len, markL_len]); omega) | apply lk_prev)) (by first | rfl | exact upto_len | assumption | exact map_len | exact List.length_set | (rw [List.length_set]; assumption)) | with_reducible apply Ints.app | (refine Ints.sub (by with_reducible repeat (first | assumption | apply Ints.app)) (by omega) (by omega) (by omega)))) (by omega)).1 hok) (fun k8 hk8 hLk8 => ?_)))
      have hbk8 := planL_lb hok
      have hbtk8 := hbk8.2
      try simp at hk8
      refine a_do rfl (o_move (by conv => lhs; whnf) ?_)
      refine a_do rfl (o_extract (by conv => lhs; whnf) rfl ?_)
      refine a_do rfl (o_extract (by conv => lhs; whnf) rfl ?_)
      refine a_do rfl (o_assign (by conv => lhs; whnf) ?_)
      refine a_do rfl (o_assign (by conv => lhs; whnf) ?_)
      refine a_end ?_
      refine awp_seq ?_
      refine awp_seq ?_
      refine awp_region rfl ?_
      refine a_do rfl (o_move (by conv => lhs; whnf) ?_)
      refine a_do rfl (o_move (by conv => lhs; whnf) ?_)
      refine a_do rfl (o_callF (lmap_cons (by conv => lhs; whnf) (lmap_cons (by conv => lhs; whnf) lmap_nil)) (Ret.toB (eqInt64SS_ret _ _ _ _ _ (by first | ((with_reducible repeat (first | assumption | apply Lists.app)); done) | exact lists_nil | repeat (first | with_reducible assumption | exact lls_lists (by (try simp only [ll1, ll2, ll3, ll4, lls_len, lls2_len, markL_len]); omega) (by first | rfl | exact markL_len) | exact lls2_left (by (try simp only [ll1, ll2, ll3, ll4, lls_len, lls2_len, markL_len]); omega) (by first | rfl | exact markL_len | simp) | exact lls2_right (by (try simp only [ll1, ll2, ll3, ll4, lls_len, lls2_len, markL_len]); omega) (by first | rfl | exact markL_len | simp) (by first | rfl | exact markL_len | simp) | with_reducible apply Lists.app)) (by first | ((with_reducible repeat (first | assumption | apply Lists.app)); done) | exact lists_nil | repeat (first | with_reducible assumption | exact lls_lists (by (try simp only [ll1, ll2, ll3, ll4, lls_len, lls2_len, markL_len]); omega) (by first | rfl | exact markL_len) | exact lls2_left (by (try simp only [ll1, ll2, ll3, ll4, lls_len, lls2_len, markL_len]); omega) (by first | rfl | exact markL_len | simp) | exact lls2_right (by (try simp only [ll1, ll2, ll3, ll4, lls_len, lls2_len, markL_len]); omega) (by first | rfl | exact markL_len | simp) (by first | rfl | exact markL_len | simp) | with_reducible apply Lists.app)) (by assumption)) (fun c9 => ?_) (fun c9 => ?_)))
      ·
        refine a_do rfl (o_notT (by conv => lhs; whnf) ?_)
        refine a_do rfl (o_move (by conv => lhs; whnf) ?_)
        refine a_do rfl (o_move (by conv => lhs; whnf) ?_)
        refine a_do rfl (o_move (by conv => lhs; whnf) ?_)
        refine a_do rfl (o_boolNeL (b := false) Try.underlying4 (by conv => lhs; whnf) (by conv => lhs; whnf) (by rfl) ?_)
        refine a_do rfl (o_pickF (by conv => lhs; whnf) (by conv => lhs; whnf) ?_)
        refine a_end ?_
        refine awp_condF (by conv => lhs; whnf) ?_
        refine awp_skip ?_
        refine awp_seq ?_
        refine awp_seq ?_
        refine awp_draw Try_mixed (by kernel_rfl) rfl ?_
        refine d_do rfl (o_loadAgg Try.underlying51 rfl ty51 (by conv => lhs; whnf) (by with_reducible repeat (first | assumption | (apply lk_last; (try simp only [ll1, ll2, ll3, ll4, lls_len, lls2_len, markL_len]); omega) | apply lk_prev)) (by rfl) (by exact (rfl : _ = [_, _])) (by rfl) ⟨rfl, rfl⟩) (by first | exact .prim rfl | exact within_func0 | (apply within_ptr; (with_reducible repeat (first | assumption | (apply lk_last; (try simp only [ll1, ll2, ll3, ll4, lls_len, lls2_len, markL_len]); omega) | apply lk_prev)); done) | (apply within_sl; (with_reducible repeat (first | assumption | (apply lk_last; (try simp only [ll1, ll2, ll3, ll4, lls_len, lls2_len, markL_len]); omega) | apply lk_prev)); done) | ((try apply within_sub); apply Ints.within; (with_reducible repeat (first | assumption | apply Ints.app)); done) | (apply Lists.within; (with_reducible repeat (first | assumption | apply Lists.app)); done) | (apply Flts.within; (with_reducible repeat (first | assumption | apply Flts.app)); done) | exact within_nilw | exact within_nilb | (apply within_tup2 <;> first | exact .prim rfl | (apply within_sl; (with_reducible repeat (first | assumption | (apply lk_last; (try simp only [ll1, ll2, ll3, ll4, lls_len, lls2_len, markL_len]); omega) | apply lk_prev)); done) | (apply Within.agg2 <;> (first | exact .prim rfl | (apply within_ptr; (with_reducible repeat (first | assumption | (apply lk_last; (try simp only [ll1, ll2, ll3, ll4, lls_len, lls2_len, markL_len]); omega) | apply lk_prev)); done) | (apply within_sl; (with_reducible repeat (first | assumption | (apply lk_last; (try simp only [ll1, ll2, ll3, ll4, lls_len, lls2_len, markL_len]); omega) | apply lk_prev)); done) | ((try apply within_sub); apply Ints.within; (with_reducible repeat (first | assumption | apply Ints.app)); done) | (apply Lists.within; (with_reducible repeat (first | assumption | apply Lists.app)); done) | (apply within_sl; (with_reducible repeat (first | assumption | (apply lk_last; (try simp only [ll1, ll2, ll3, ll4, lls_len, lls2_len, markL_len]); omega) | apply lk_prev)); done)))) | exact Within.mono ‹Within _ (Value.func _ _ _)› (by (try simp only [ll1, ll2, ll3, ll4, lls_len, lls2_len, markL_len]); omega) | (apply Within.agg4 <;> (first | exact .prim rfl | (apply within_ptr; (with_reducible repeat (first | assumption | (apply lk_last; (try simp only [ll1, ll2, ll3, ll4, lls_len, lls2_len, markL_len]); omega) | apply lk_prev)); done) | (apply within_sl; (with_reducible repeat (first | assumption | (apply lk_last; (try simp only [ll1, ll2, ll3, ll4, lls_len, lls2_len, markL_len]); omega) | apply lk_prev)); done) | ((try apply within_sub); apply Ints.within; (with_reducible repeat (first | assumption | apply Ints.app)); done) | (apply Lists.within; (with_reducible repeat (first | assumption | apply Lists.app)); done) | (apply within_sl; (with_reducible repeat (first | assumption | (apply lk_last; (try simp only [ll1, ll2, ll3, ll4, lls_len, lls2_len, markL_len]); omega) | apply lk_prev)); done))) | (apply Within.agg3 <;> (first | exact .prim rfl | (apply within_ptr; (with_reducible repeat (first | assumption | (apply lk_last; (try simp only [ll1, ll2, ll3, ll4, lls_len, lls2_len, markL_len]); omega) | apply lk_prev)); done) | (apply within_sl; (with_reducible repeat (first | assumption | (apply lk_last; (try simp only [ll1, ll2, ll3, ll4, lls_len, lls2_len, markL_len]); omega) | apply lk_prev)); done) | ((try apply within_sub); apply Ints.within; (with_reducible repeat (first | assumption | apply Ints.app)); done) | (apply Lists.within; (with_reducible repeat (first | assumption | apply Lists.app)); done) | (apply within_sl; (with_reducible repeat (first | assumption | (apply lk_last; (try simp only [ll1, ll2, ll3, ll4, lls_len, lls2_len, markL_len]); omega) | apply lk_prev)); done))) | (apply Within.agg2 <;> (first | exact .prim rfl | (apply within_ptr; (with_reducible repeat (first | assumption | (apply lk_last; (try simp only [ll1, ll2, ll3, ll4, lls_len, lls2_len, markL_len]); omega) | apply lk_prev)); done) | (apply within_sl; (with_reducible repeat (first | assumption | (apply lk_last; (try simp only [ll1, ll2, ll3, ll4, lls_len, lls2_len, markL_len]); omega) | apply lk_prev)); done) | ((try apply within_sub); apply Ints.within; (with_reducible repeat (first | assumption | apply Ints.app)); done) | (apply Lists.within; (with_reducible repeat (first | assumption | apply Lists.app)); done) | (apply within_sl; (with_reducible repeat (first | assumption | (apply lk_last; (try simp only [ll1, ll2, ll3, ll4, lls_len, lls2_len, markL_len]); omega) | apply lk_prev)); done)))) ?_
        refine d_do rfl (o_loadAgg Try.underlying48 rfl ty48 (by conv => lhs; whnf) (by with_reducible repeat (first | assumption | (apply lk_last; (try simp only [ll1, ll2, ll3, ll4, lls_len, lls2_len, markL_len]); omega) | apply lk_prev)) (by rfl) (by exact (rfl : _ = [_, _])) (by rfl) ⟨rfl, rfl⟩) (by first | exact .prim rfl | exact within_func0 | (apply within_ptr; (with_reducible repeat (first | assumption | (apply lk_last; (try simp only [ll1, ll2, ll3, ll4, lls_len, lls2_len, markL_len]); omega) | apply lk_prev)); done) | (apply within_sl; (with_reducible repeat (first | assumption | (apply lk_last; (try simp only [ll1, ll2, ll3, ll4, lls_len, lls2_len, markL_len]); omega) | apply lk_prev)); done) | ((try apply within_sub); apply Ints.within; (with_reducible repeat (first | assumption | apply Ints.app)); done) | (apply Lists.within; (with_reducible repeat (first | assumption | apply Lists.app)); done) | (apply Flts.within; (with_reducible repeat (first | assumption | apply Flts.app)); done) | exact within_nilw | exact within_nilb | (apply within_tup2 <;> first | exact .prim rfl | (apply within_sl; (with_reducible repeat (first | assumption | (apply lk_last; (try simp only [ll1, ll2, ll3, ll4, lls_len, lls2_len, markL_len]); omega) | apply lk_prev)); done) | (apply Within.agg2 <;> (first | exact .prim rfl | (apply within_ptr; (with_reducible repeat (first | assumption | (apply lk_last; (try simp only [ll1, ll2, ll3, ll4, lls_len, lls2_len, markL_len]); omega) | apply lk_prev)); done) | (apply within_sl; (with_reducible repeat (first | assumption | (apply lk_last; (try simp only [ll1, ll2, ll3, ll4, lls_len, lls2_len, markL_len]); omega) | apply lk_prev)); done) | ((try apply within_sub); apply Ints.within; (with_reducible repeat (first | assumption | apply Ints.app)); done) | (apply Lists.within; (with_reducible repeat (first | assumption | apply Lists.app)); done) | (apply within_sl; (with_reducible repeat (first | assumption | (apply lk_last; (try simp only [ll1, ll2, ll3, ll4, lls_len, lls2_len, markL_len]); omega) | apply lk_prev)); done)))) | exact Within.mono ‹Within _ (Value.func _ _ _)› (by (try simp only [ll1, ll2, ll3, ll4, lls_len, lls2_len, markL_len]); omega) | (apply Within.agg4 <;> (first | exact .prim rfl | (apply within_ptr; (with_reducible repeat (first | assumption | (apply lk_last; (try simp only [ll1, ll2, ll3, ll4, lls_len, lls2_len, markL_len]); omega) | apply lk_prev)); done) | (apply within_sl; (with_reducible repeat (first | assumption | (apply lk_last; (try simp only [ll1, ll2, ll3, ll4, lls_len, lls2_len, markL_len]); omega) | apply lk_prev)); done) | ((try apply within_sub); apply Ints.within; (with_reducible repeat (first | assumption | apply Ints.app)); done) | (apply Lists.within; (with_reducible repeat (first | assumption | apply Lists.app)); done) | (apply within_sl; (with_reducible repeat (first | assumption | (apply lk_last; (try simp only [ll1, ll2, ll3, ll4, lls_len, lls2_len, markL_len]); omega) | apply lk_prev)); done))) | (apply Within.agg3 <;> (first | exact .prim rfl | (apply within_ptr; (with_reducible repeat (first | assumption | (apply lk_last; (try simp only [ll1, ll2, ll3, ll4, lls_len, lls2_len, markL_len]); omega) | apply lk_prev)); done) | (apply within_sl; (with_reducible repeat (first | assumption | (apply lk_last; (try simp only [ll1, ll2, ll3, ll4, lls_len, lls2_len, markL_len]); omega) | apply lk_prev)); done) | ((try apply within_sub); apply Ints.within; (with_reducible repeat (first | assumption | apply Ints.app)); done) | (apply Lists.within; (with_reducible repeat (first | assumption | apply Lists.app)); done) | (apply within_sl; (with_reducible repeat (first | assumption | (apply lk_last; (try simp only [ll1, ll2, ll3, ll4, lls_len, lls2_len, markL_len]); omega) | apply lk_prev)); done))) | (apply Within.agg2 <;> (first | exact .prim rfl | (apply within_ptr; (with_reducible repeat (first | assumption | (apply lk_last; (try simp only [ll1, ll2, ll3, ll4, lls_len, lls2_len, markL_len]); omega) | apply lk_prev)); done) | (apply within_sl; (with_reducible repeat (first | assumption | (apply lk_last; (try simp only [ll1, ll2, ll3, ll4, lls_len, lls2_len, markL_len]); omega) | apply lk_prev)); done) | ((try apply within_sub); apply Ints.within; (with_reducible repeat (first | assumption | apply Ints.app)); done) | (apply Lists.within; (with_reducible repeat (first | assumption | apply Lists.app)); done) | (apply within_sl; (with_reducible repeat (first | assumption | (apply lk_last; (try simp only [ll1, ll2, ll3, ll4, lls_len, lls2_len, markL_len]); omega) | apply lk_prev)); done)))) ?_
        refine d_callN rfl (lmap_cons (by conv => lhs; whnf) lmap_nil) (toWorths_ret _ _ _ _ (by first | ((with_reducible repeat (first | assumption | apply Ints.app)); done) | repeat (first | with_reducible assumption | exact ints_nil | exact Ints.own (by with_reducible repeat (first | assumption | (apply lk_last; (try simp only [ll1, ll2, ll3, ll4, lls_len, lls2_len, markL_len]); omega) | apply lk_prev)) (by first | rfl | exact upto_len | assumption | exact map_len | exact List.length_set | (rw [List.length_set]; assumption)) | exact Ints.tail (by with_reducible repeat (first | assumption | (apply lk_last; (try simp only [ll1, ll2, ll3, ll4, lls_len, lls2_len, markL_len]); omega) | apply lk_prev)) (by first | rfl | exact upto_len | assumption | exact map_len | exact List.length_set | (rw [List.length_set]; assumption)) | with_reducible apply Ints.app | (refine Ints.sub (by with_reducible repeat (first | assumption | apply Ints.app)) (by omega) (by omega) (by omega)))) (by omega)) (by exact .agg2 (.prim rfl) (.slice (by (try simp only [ll1, ll2, ll3, ll4, lls_len, lls2_len, markL_len]); omega))) (by simp [lst, isPrim]) (fun k10 hk10 hgk10 => ?_)
        try simp at hk10
        have hIk10 := Ints.own hgk10 rfl
        refine d_callB rfl (lmap_cons (by conv => lhs; whnf) (lmap_cons (by conv => lhs; whnf) lmap_nil)) (eqWorths_ret _ _ _ _ _ _ _ (by first | ((with_reducible repeat (first | assumption | apply Ints.app)); done) | repeat (first | with_reducible assumption | exact ints_nil | exact Ints.own (by with_reducible repeat (first | assumption | (apply lk_last; (try simp only [ll1, ll2, ll3, ll4, lls_len, lls2_len, markL_len]); omega) | apply lk_prev)) (by first | rfl | exact upto_len | assumption | exact map_len | exact List.length_set | (rw [List.length_set]; assumption)) | exact Ints.tail (by with_reducible repeat (first | assumption | (apply lk_last; (try simp only [ll1, ll2, ll3, ll4, lls_len, lls2_len, markL_len]); omega) | apply lk_prev)) (by first | rfl | exact upto_len | assumption | exact map_len | exact List.length_set | (rw [List.length_set]; assumption)) | with_reducible apply Ints.app | (refine Ints.sub (by with_reducible repeat (first | assumption | apply Ints.app)) (by omega) (by omega) (by omega)))) (by first | ((with_reducible repeat (first | assumption | apply Ints.app)); done) | repeat (first | with_reducible assumption | exact ints_nil | exact Ints.own (by with_reducible repeat (first | assumption | (apply lk_last; (try simp only [ll1, ll2, ll3, ll4, lls_len, lls2_len, markL_len]); omega) | apply lk_prev)) (by first | rfl | exact upto_len | assumption | exact map_len | exact List.length_set | (rw [List.length_set]; assumption)) | exact Ints.tail (by with_reducible repeat (first | assumption | (apply lk_last; (try simp only [ll1, ll2, ll3, ll4, lls_len, lls2_len, markL_len]); omega) | apply lk_prev)) (by first | rfl | exact upto_len | assumption | exact map_len | exact List.length_set | (rw [List.length_set]; assumption)) | with_reducible apply Ints.app | (refine Ints.sub (by with_reducible repeat (first | assumption | apply Ints.app)) (by omega) (by omega) (by omega)))) (by first | omega | (simp; done))) (fun c11 => ?_) (fun c11 => ?_)
        ·
          refine d_do rfl (o_notT (by conv => lhs; whnf) ⟨rfl, rfl⟩) (by exact .prim rfl) ?_
          refine d_end ?_
          refine awp_condF (by conv => lhs; whnf) ?_
          refine awp_skip ?_
          refine awp_seq ?_
          refine awp_region rfl ?_
          refine a_do rfl (o_assign (by conv => lhs; whnf) ?_)
          refine a_end ?_
          refine awp_seq ?_
          refine awp_region rfl ?_
          refine a_do rfl (o_loadAgg Try.underlying51 rfl ty51 (by conv => lhs; whnf) (by with_reducible repeat (first | assumption | (apply lk_last; (try simp only [ll1, ll2, ll3, ll4, lls_len, lls2_len, markL_len]); omega) | apply lk_prev)) (by rfl) (by exact (rfl : _ = [_, _])) (by rfl) ?_)
          refine a_do rfl (o_move (by conv => lhs; whnf) ?_)
          refine a_do rfl (o_callF (lmap_cons (by conv => lhs; whnf) (lmap_cons (by conv => lhs; whnf) lmap_nil)) (Ret.to (Ret.heap (markWorths_ret _ _ _ _ _ _ (by first | ((with_reducible repeat (first | assumption | (apply lk_last; (try simp only [ll1, ll2, ll3, ll4, lls_len, lls2_len, markL_len]); omega) | apply lk_prev)); done) | repeat (first | assumption | exact lk_last (by (try simp only [ll1, ll2, ll3, ll4, lls_len, lls2_len, markL_len]); omega) | apply lk_prev)) (by first | rfl | exact upto_len | assumption | exact map_len | exact List.length_set | (rw [List.length_set]; assumption)) (by omega) (by omega)) (by with_reducible repeat (first | (apply set_last; (try simp only [ll1, ll2, ll3, ll4, lls_len, lls2_len, markL_len]); omega) | (apply set_step; (try simp only [ll1, ll2, ll3, ll4, lls_len, lls2_len, markL_len]); omega) | exact rfl))) ?_))
          refine a_do rfl (o_assign (by conv => lhs; whnf) ?_)
          refine a_end ?_
          refine awp_seq ?_
          refine awp_seq ?_
          refine awp_region rfl ?_
          refine a_do rfl (o_move (by conv => lhs; whnf) ?_)
          refine a_do rfl (o_lss (by conv => lhs; whnf) (by conv => lhs; whnf) (fun c12 => ?_) (fun c12 => ?_))
          ·
            refine a_do rfl (o_move (by conv => lhs; whnf) ?_)
            refine a_no rfl ?_
            refine a_no rfl ?_
            refine a_no rfl ?_
            refine a_no rfl ?_
            refine a_do rfl (o_pickT (by conv => lhs; whnf) (by conv => lhs; whnf) ?_)
            refine a_do rfl (o_move (by conv => lhs; whnf) ?_)
            refine a_no rfl ?_
            refine a_no rfl ?_
            refine a_no rfl ?_
            refine a_do rfl (o_pickT (by conv => lhs; whnf) (by conv => lhs; whnf) ?_)
            refine a_end ?_
            refine awp_condT (by conv => lhs; whnf) ?_
            refine awp_seq ?_
            refine awp_region rfl ?_
            refine a_do rfl (o_assign (by conv => lhs; whnf) ?_)
            refine a_end ?_
            refine awp_ret ?_
            refine ⟨.inl rfl, [_], ⟨ares_tmp (by conv => lhs; whnf), trivial⟩, ?_⟩
            exact ⟨by first | rfl | (exfalso; omega) | (exfalso; simp_all; done), (by first | ((repeat (first | with_reducible exact Grown.refl _ | with_reducible apply Grown.push)); done) | repeat (first | exact Grown.refl _ | refine Grown.push ?_ _))⟩
          ·
            refine a_do rfl (o_move (by conv => lhs; whnf) ?_)
            refine a_do rfl (o_move (by conv => lhs; whnf) ?_)
            refine a_do rfl (o_move (by conv => lhs; whnf) ?_)
            refine a_do rfl (o_callF (lmap_cons (by conv => lhs; whnf) (lmap_cons (by conv => lhs; whnf) lmap_nil)) (Ret.toB (eqInt64SS_ret _ _ _ _ _ (by first | ((with_reducible repeat (first | assumption | apply Lists.app)); done) | exact lists_nil | repeat (first | with_reducible assumption | exact lls_lists (by (try simp only [ll1, ll2, ll3, ll4, lls_len, lls2_len, markL_len]); omega) (by first | rfl | exact markL_len) | exact lls2_left (by (try simp only [ll1, ll2, ll3, ll4, lls_len, lls2_len, markL_len]); omega) (by first | rfl | exact markL_len | simp) | exact lls2_right (by (try simp only [ll1, ll2, ll3, ll4, lls_len, lls2_len, markL_len]); omega) (by first | rfl | exact markL_len | simp) (by first | rfl | exact markL_len | simp) | with_reducible apply Lists.app)) (by first | ((with_reducible repeat (first | assumption | apply Lists.app)); done) | exact lists_nil | repeat (first | with_reducible assumption | exact lls_lists (by (try simp only [ll1, ll2, ll3, ll4, lls_len, lls2_len, markL_len]); omega) (by first | rfl | exact markL_len) | exact lls2_left (by (try simp only [ll1, ll2, ll3, ll4, lls_len, lls2_len, markL_len]); omega) (by first | rfl | exact markL_len | simp) | exact lls2_right (by (try simp only [ll1, ll2, ll3, ll4, lls_len, lls2_len, markL_len]); omega) (by first | rfl | exact markL_len | simp) (by first | rfl | exact markL_len | simp) | with_reducible apply Lists.app)) (by assumption)) (fun c13 => ?_) (fun c13 => ?_)))
            ·
              refine a_do rfl (o_notT (by conv => lhs; whnf) ?_)
              refine a_do rfl (o_pickF (by conv => lhs; whnf) (by conv => lhs; whnf) ?_)
              refine a_do rfl (o_move (by conv => lhs; whnf) ?_)
              refine a_do rfl (o_move (by conv => lhs; whnf) ?_)
              refine a_do rfl (o_move (by conv => lhs; whnf) ?_)
              refine a_do rfl (o_boolNeL (b := false) Try.underlying4 (by conv => lhs; whnf) (by conv => lhs; whnf) (by rfl) ?_)
              refine a_do rfl (o_pickF (by conv => lhs; whnf) (by conv => lhs; whnf) ?_)
              refine a_end ?_
              refine awp_condF (by conv => lhs; whnf) ?_
              refine awp_skip ?_
              refine awp_seq ?_
              refine awp_region rfl ?_
              refine a_do rfl (o_assign (by conv => lhs; whnf) ?_)
              refine a_end ?_
              refine awp_seq ?_
              refine awp_region rfl ?_
              refine a_do rfl (o_move (by conv => lhs; whnf) ?_)
              refine a_do rfl (o_move (by conv => lhs; whnf) ?_)
              refine a_do rfl (o_callF (lmap_cons (by conv => lhs; whnf) (lmap_cons (by conv => lhs; whnf) lmap_nil)) (Ret.to (mark_spl (by with_reducible repeat (first | exact spl_here | apply spl_more)) (fun g => markInt64SS_ret _ _ _ _ _ g (by (try simp only [ll1, ll2, ll3, ll4, lls_len, lls2_len, markL_len]); omega) (by first | rfl | assumption) (by assumption) (by omega))) ?_))
              refine a_do rfl (o_assign (by conv => lhs; whnf) ?_)
              refine a_end ?_
              refine awp_seq ?_
              refine awp_region rfl ?_
              refine a_do rfl (o_assign (by conv => lhs; whnf) ?_)
              refine a_end ?_
              refine awp_seq ?_
              refine awp_region rfl ?_
              refine a_do rfl (o_move (by conv => lhs; whnf) ?_)
              refine a_do rfl (o_move (by conv => lhs; whnf) ?_)
              refine a_do rfl (o_callF (lmap_cons (by conv => lhs; whnf) (lmap_cons (by conv => lhs; whnf) lmap_nil)) (Ret.to (heldInt64SS_ret _ _ _ _ (by first | ((with_reducible repeat (first | assumption | apply Lists.app)); done) | exact lists_nil | repeat (first | with_reducible assumption | exact lls_lists (by (try simp only [ll1, ll2, ll3, ll4, lls_len, lls2_len, markL_len]); omega) (by first | rfl | exact markL_len) | exact lls2_left (by (try simp only [ll1, ll2, ll3, ll4, lls_len, lls2_len, markL_len]); omega) (by first | rfl | exact markL_len | simp) | exact lls2_right (by (try simp only [ll1, ll2, ll3, ll4, lls_len, lls2_len, markL_len]); omega) (by first | rfl | exact markL_len | simp) (by first | rfl | exact markL_len | simp) | with_reducible apply Lists.app)) (by assumption) (by omega)) ?_))
              refine a_do rfl (o_assign (by conv => lhs; whnf) ?_)
              refine a_end ?_
              refine awp_seq ?_
              refine awp_seq ?_
              refine awp_region rfl ?_
              refine a_do rfl (o_move (by conv => lhs; whnf) ?_)
              refine a_do rfl (o_lss (by conv => lhs; whnf) (by conv => lhs; whnf) (fun c14 => ?_) (fun c14 => ?_))
              ·
                refine a_end ?_
                refine awp_condT (by conv => lhs; whnf) ?_
                refine awp_seq ?_
                refine awp_region rfl ?_
                refine a_do rfl (o_assign (by conv => lhs; whnf) ?_)
                refine a_end ?_
                refine awp_ret ?_
                refine ⟨.inl rfl, [_], ⟨ares_tmp (by conv => lhs; whnf), trivial⟩, ?_⟩
                exact ⟨by first | rfl | (exfalso; omega) | (exfalso; simp_all; done), (by first | ((repeat (first | with_reducible exact Grown.refl _ | with_reducible apply Grown.push)); done) | repeat (first | exact Grown.refl _ | refine Grown.push ?_ _))⟩
              ·
                refine a_end ?_
                refine awp_condF (by conv => lhs; whnf) ?_
                refine awp_skip ?_
                refine awp_seq ?_
                refine awp_seq ?_
                refine awp_region rfl ?_
                refine a_do rfl (o_move (by conv => lhs; whnf) ?_)
                refine a_do rfl (o_move (by conv => lhs; whnf) ?_)
                refine a_do rfl (o_neq (by conv => lhs; whnf) (by conv => lhs; whnf) (fun c15 => ?_) (fun c15 => ?_))
                ·
                  refine a_end ?_
                  refine awp_condT (by conv => lhs; whnf) ?_
                  refine awp_seq ?_
                  refine awp_region rfl ?_
                  refine a_do rfl (o_assign (by conv => lhs; whnf) ?_)
                  refine a_end ?_
                  refine awp_ret ?_
                  refine ⟨.inl rfl, [_], ⟨ares_tmp (by conv => lhs; whnf), trivial⟩, ?_⟩
                  exact ⟨by first | rfl | (exfalso; omega) | (exfalso; simp_all; done), (by first | ((repeat (first | with_reducible exact Grown.refl _ | with_reducible apply Grown.push)); done) | repeat (first | exact Grown.refl _ | refine Grown.push ?_ _))⟩
                ·
                  refine a_end ?_
                  refine awp_condF (by conv => lhs; whnf) ?_
                  refine awp_skip ?_
                  refine awp_seq ?_
                  refine awp_region rfl ?_
                  refine a_do rfl (o_loadAgg Try.underlying48 rfl ty48 (by conv => lhs; whnf) (by with_reducible repeat (first | assumption | (apply lk_last; (try simp only [ll1, ll2, ll3, ll4, lls_len, lls2_len, markL_len]); omega) | apply lk_prev)) (by rfl) (by exact (rfl : _ = [_, _])) (by rfl) ?_)
                  refine a_do rfl (o_callF (lmap_cons (by conv => lhs; whnf) lmap_nil) (RetN.toN (toWorths_ret _ _ _ _ (by first | ((with_reducible repeat (first | assumption | apply Ints.app)); done) | repeat (first | with_reducible assumption | exact ints_nil | exact Ints.own (by with_reducible repeat (first | assumption | (apply lk_last; (try simp only [ll1, ll2, ll3, ll4, lls_len, lls2_len, markL_len]); omega) | apply lk_prev)) (by first | rfl | exact upto_len | assumption | exact map_len | exact List.length_set | (rw [List.length_set]; assumption)) | exact Ints.tail (by with_reducible repeat (first | assumption | (apply lk_last; (try simp only [ll1, ll2, ll3, ll4, lls_len, lls2_len, markL_len]); omega) | apply lk_prev)) (by first | rfl | exact upto_len | assumption | exact map_len | exact List.length_set | (rw [List.length_set]; assumption)) | with_reducible apply Ints.app | (refine Ints.sub (by with_reducible repeat (first | assumption | apply Ints.app)) (by omega) (by omega) (by omega)))) (by omega)) (fun k16 hk16 hgk16 => ?_)))
                  try simp at hk16
                  have hIk16 := Ints.own hgk16 rfl
                  refine a_do rfl (o_move (by conv => lhs; whnf) ?_)
                  refine a_do rfl (o_callF (lmap_cons (by conv => lhs; whnf) (lmap_cons (by conv => lhs; whnf) lmap_nil)) (RetG.toTL ((implCorePlans_ret _ _ _ _ _ (by first | ((with_reducible repeat (first | assumption | apply Ints.app)); done) | repeat (first | with_reducible assumption | exact ints_nil | exact Ints.own (by with_reducible repeat (first | assumption | (apply lk_last; (try simp only [ll1, ll2, ll3, ll4, lls_len, lls2_len, markL_len]); omega) | apply lk_prev)) (by first | rfl | exact upto_len | assumption | exact map_len | exact List.length_set | (rw [List.length_set]; assumption)) | exact Ints.tail (by with_reducible repeat (first | assumption | (apply lk_last; (try simp only [ll1, ll2, ll3, ll4, lls_len, lls2_len, markL_len]); omega) | apply lk_prev)) (by first | rfl | exact upto_len | assumption | exact map_len | exact List.length_set | (rw [List.length_set]; assumption)) | with_reducible apply Ints.app | (refine Ints.sub (by with_reducible repeat (first | assumption | apply Ints.app)) (by omega) (by omega) (by omega)))) (by omega)).1 hok) (fun k17 hk17 hLk17 => ?_)))
                  have hbk17 := planL_lb hok
                  have hbtk17 := hbk17.2
                  try simp at hk17
                  refine a_do rfl (o_move (by conv => lhs; whnf) ?_)
                  refine a_do rfl (o_extract (by conv => lhs; whnf) rfl ?_)
                  refine a_do rfl (o_extract (by conv => lhs; whnf) rfl ?_)
                  refine a_do rfl (o_assign (by conv => lhs; whnf) ?_)
                  refine a_do rfl (o_assign (by conv => lhs; whnf) ?_)
                  refine a_end ?_
                  refine awp_seq ?_
                  refine awp_seq ?_
                  refine awp_region rfl ?_
                  refine a_do rfl (o_move (by conv => lhs; whnf) ?_)
                  refine a_do rfl (o_move (by conv => lhs; whnf) ?_)
                  refine a_do rfl (o_callF (lmap_cons (by conv => lhs; whnf) (lmap_cons (by conv => lhs; whnf) lmap_nil)) (Ret.toB (eqInt64SS_ret _ _ _ _ _ (by first | ((with_reducible repeat (first | assumption | apply Lists.app)); done) | exact lists_nil | repeat (first | with_reducible assumption | exact lls_lists (by (try simp only [ll1, ll2, ll3, ll4, lls_len, lls2_len, markL_len]); omega) (by first | rfl | exact markL_len) | exact lls2_left (by (try simp only [ll1, ll2, ll3, ll4, lls_len, lls2_len, markL_len]); omega) (by first | rfl | exact markL_len | simp) | exact lls2_right (by (try simp only [ll1, ll2, ll3, ll4, lls_len, lls2_len, markL_len]); omega) (by first | rfl | exact markL_len | simp) (by first | rfl | exact markL_len | simp) | with_reducible apply Lists.app)) (by first | ((with_reducible repeat (first | assumption | apply Lists.app)); done) | exact lists_nil | repeat (first | with_reducible assumption | exact lls_lists (by (try simp only [ll1, ll2, ll3, ll4, lls_len, lls2_len, markL_len]); omega) (by first | rfl | exact markL_len) | exact lls2_left (by (try simp only [ll1, ll2, ll3, ll4, lls_len, lls2_len, markL_len]); omega) (by first | rfl | exact markL_len | simp) | exact lls2_right (by (try simp only [ll1, ll2, ll3, ll4, lls_len, lls2_len, markL_len]); omega) (by first | rfl | exact markL_len | simp) (by first | rfl | exact markL_len | simp) | with_reducible apply Lists.app)) (by assumption)) (fun c18 => ?_) (fun c18 => ?_)))
                  ·
                    refine a_do rfl (o_notT (by conv => lhs; whnf) ?_)
                    refine a_do rfl (o_move (by conv => lhs; whnf) ?_)
                    refine a_do rfl (o_move (by conv => lhs; whnf) ?_)
                    refine a_do rfl (o_move (by conv => lhs; whnf) ?_)
                    refine a_do rfl (o_boolNeL (b := false) Try.underlying4 (by conv => lhs; whnf) (by conv => lhs; whnf) (by rfl) ?_)
                    refine a_do rfl (o_pickF (by conv => lhs; whnf) (by conv => lhs; whnf) ?_)
                    refine a_end ?_
                    refine awp_condF (by conv => lhs; whnf) ?_
                    refine awp_skip ?_
                    refine awp_seq ?_
                    refine awp_region rfl ?_
                    refine a_do rfl (o_assign (by conv => lhs; whnf) ?_)
                    refine a_end ?_
                    refine awp_seq ?_
                    refine awp_region rfl ?_
                    refine a_do rfl (o_move (by conv => lhs; whnf) ?_)
                    refine a_do rfl (o_move (by conv => lhs; whnf) ?_)
                    refine a_do rfl (o_callF (lmap_cons (by conv => lhs; whnf) (lmap_cons (by conv => lhs; whnf) lmap_nil)) (Ret.to (heldInt64SS_ret _ _ _ _ (by first | ((with_reducible repeat (first | assumption | apply Lists.app)); done) | exact lists_nil | repeat (first | with_reducible assumption | exact lls_lists (by (try simp only [ll1, ll2, ll3, ll4, lls_len, lls2_len, markL_len]); omega) (by first | rfl | exact markL_len) | exact lls2_left (by (try simp only [ll1, ll2, ll3, ll4, lls_len, lls2_len, markL_len]); omega) (by first | rfl | exact markL_len | simp) | exact lls2_right (by (try simp only [ll1, ll2, ll3, ll4, lls_len, lls2_len, markL_len]); omega) (by first | rfl | exact markL_len | simp) (by first | rfl | exact markL_len | simp) | with_reducible apply Lists.app)) (by assumption) (by omega)) ?_))
                    refine a_do rfl (o_assign (by conv => lhs; whnf) ?_)
                    refine a_end ?_
                    refine awp_seq ?_
                    refine awp_seq ?_
                    refine awp_region rfl ?_
                    refine a_do rfl (o_move (by conv => lhs; whnf) ?_)
                    refine a_do rfl (o_lss (by conv => lhs; whnf) (by conv => lhs; whnf) (fun c19 => ?_) (fun c19 => ?_))
                    ·
                      refine a_end ?_
                      refine awp_condT (by conv => lhs; whnf) ?_
                      refine awp_seq ?_
                      refine awp_region rfl ?_
                      refine a_do rfl (o_assign (by conv => lhs; whnf) ?_)
                      refine a_end ?_
                      refine awp_ret ?_
                      refine ⟨.inl rfl, [_], ⟨ares_tmp (by conv => lhs; whnf), trivial⟩, ?_⟩
                      exact ⟨by first | rfl | (exfalso; omega) | (exfalso; simp_all; done), (by first | ((repeat (first | with_reducible exact Grown.refl _ | with_reducible apply Grown.push)); done) | repeat (first | exact Grown.refl _ | refine Grown.push ?_ _))⟩
                    ·
                      refine a_end ?_
                      refine awp_condF (by conv => lhs; whnf) ?_
                      refine awp_skip ?_
                      refine awp_seq ?_
                      refine awp_seq ?_
                      refine awp_region rfl ?_
                      refine a_do rfl (o_move (by conv => lhs; whnf) ?_)
                      refine a_do rfl (o_move (by conv => lhs; whnf) ?_)
                      refine a_do rfl (o_neq (by conv => lhs; whnf) (by conv => lhs; whnf) (fun c20 => ?_) (fun c20 => ?_))
                      ·
                        refine a_end ?_
                        refine awp_condT (by conv => lhs; whnf) ?_
                        refine awp_seq ?_
                        refine awp_region rfl ?_
                        refine a_do rfl (o_assign (by conv => lhs; whnf) ?_)
                        refine a_end ?_
                        refine awp_ret ?_
                        refine ⟨.inl rfl, [_], ⟨ares_tmp (by conv => lhs; whnf), trivial⟩, ?_⟩
                        exact ⟨by first | rfl | (exfalso; omega) | (exfalso; simp_all; done), (by first | ((repeat (first | with_reducible exact Grown.refl _ | with_reducible apply Grown.push)); done) | repeat (first | exact Grown.refl _ | refine Grown.push ?_ _))⟩
                      ·
                        refine a_end ?_
                        refine awp_condF (by conv => lhs; whnf) ?_
                        refine awp_skip ?_
                        refine awp_seq ?_
                        refine awp_region rfl ?_
                        refine a_do rfl (o_assign (by conv => lhs; whnf) ?_)
                        refine a_end ?_
                        refine awp_ret ?_
                        refine ⟨.inl rfl, [_], ⟨ares_tmp (by conv => lhs; whnf), trivial⟩, ?_⟩
                        exact ⟨by first | rfl | (exfalso; omega) | (exfalso; simp_all; done), (by first | ((repeat (first | with_reducible exact Grown.refl _ | with_reducible apply Grown.push)); done) | repeat (first | exact Grown.refl _ | refine Grown.push ?_ _))⟩
                  ·
                    refine a_do rfl (o_notF (by conv => lhs; whnf) ?_)
                    refine a_do rfl (o_move (by conv => lhs; whnf) ?_)
                    refine a_no rfl ?_
                    refine a_no rfl ?_
                    refine a_no rfl ?_
                    refine a_do rfl (o_pickT (by conv => lhs; whnf) (by conv => lhs; whnf) ?_)
                    refine a_end ?_
                    refine awp_condT (by conv => lhs; whnf) ?_
                    refine awp_seq ?_
                    refine awp_region rfl ?_
                    refine a_do rfl (o_assign (by conv => lhs; whnf) ?_)
                    refine a_end ?_
                    refine awp_ret ?_
                    refine ⟨.inl rfl, [_], ⟨ares_tmp (by conv => lhs; whnf), trivial⟩, ?_⟩
                    exact ⟨by first | rfl | (exfalso; omega) | (exfalso; simp_all; done), (by first | ((repeat (first | with_reducible exact Grown.refl _ | with_reducible apply Grown.push)); done) | repeat (first | exact Grown.refl _ | refine Grown.push ?_ _))⟩
            ·
              refine a_do rfl (o_notF (by conv => lhs; whnf) ?_)
              refine a_do rfl (o_pickF (by conv => lhs; whnf) (by conv => lhs; whnf) ?_)
              refine a_do rfl (o_move (by conv => lhs; whnf) ?_)
              refine a_no rfl ?_
              refine a_no rfl ?_
              refine a_no rfl ?_
              refine a_do rfl (o_pickT (by conv => lhs; whnf) (by conv => lhs; whnf) ?_)
              refine a_end ?_
              refine awp_condT (by conv => lhs; whnf) ?_
              refine awp_seq ?_
              refine awp_region rfl ?_
              refine a_do rfl (o_assign (by conv => lhs; whnf) ?_)
              refine a_end ?_
              refine awp_ret ?_
              refine ⟨.inl rfl, [_], ⟨ares_tmp (by conv => lhs; whnf), trivial⟩, ?_⟩
              exact ⟨by first | rfl | (exfalso; omega) | (exfalso; simp_all; done), (by first | ((repeat (first | with_reducible exact Grown.refl _ | with_reducible apply Grown.push)); done) | repeat (first | exact Grown.refl _ | refine Grown.push ?_ _))⟩
        ·
          refine d_do rfl (o_notF (by conv => lhs; whnf) ⟨rfl, rfl⟩) (by exact .prim rfl) ?_
          refine d_end ?_
          refine awp_condT (by conv => lhs; whnf) ?_
          refine awp_seq ?_
          refine awp_region rfl ?_
          refine a_do rfl (o_assign (by conv => lhs; whnf) ?_)
          refine a_end ?_
          refine awp_ret ?_
          refine ⟨.inl rfl, [_], ⟨ares_tmp (by conv => lhs; whnf), trivial⟩, ?_⟩
          exact ⟨by first | rfl | (exfalso; omega) | (exfalso; simp_all; done), (by first | ((repeat (first | with_reducible exact Grown.refl _ | with_reducible apply Grown.push)); done) | repeat (first | exact Grown.refl _ | refine Grown.push ?_ _))⟩
      ·
        refine a_do rfl (o_notF (by conv => lhs; whnf) ?_)
        refine a_do rfl (o_move (by conv => lhs; whnf) ?_)
        refine a_no rfl ?_
        refine a_no rfl ?_
        refine a_no rfl ?_
        refine a_do rfl (o_pickT (by conv => lhs; whnf) (by conv => lhs; whnf) ?_)
        refine a_end ?_
        refine awp_condT (by conv => lhs; whnf) ?_
        refine awp_seq ?_
        refine awp_region rfl ?_
        refine a_do rfl (o_assign (by conv => lhs; whnf) ?_)
        refine a_end ?_
        refine awp_ret ?_
        refine ⟨.inl rfl, [_], ⟨ares_tmp (by conv => lhs; whnf), trivial⟩, ?_⟩
        exact ⟨by first | rfl | (exfalso; omega) | (exfalso; simp_all; done), (by first | ((repeat (first | with_reducible exact Grown.refl _ | with_reducible apply Grown.push)); done) | repeat (first | exact Grown.refl _ | refine Grown.push ?_ _))⟩
    ·
      refine a_do rfl (o_callF (lmap_cons (by conv => lhs; whnf) (lmap_cons (by conv => lhs; whnf) lmap_nil)) (Ret.to ((specCorePlans_ret _ _ _ _ _ (by first | ((with_reducible repeat (first | assumption | apply Ints.app)); done) | repeat (first | with_reducible assumption | exact ints_nil | exact Ints.own (by with_reducible repeat (first | assumption | (apply lk_last; (try simp only [ll1, ll2, ll3, ll4, lls_len, lls2_len, markL_len]); omega) | apply lk_prev)) (by first | rfl | exact upto_len | assumption | exact map_len | exact List.length_set | (rw [List.length_set]; assumption)) | exact Ints.tail (by with_reducible repeat (first | assumption | (apply lk_last; (try simp only [ll1, ll2, ll3, ll4, lls_len, lls2_len, markL_len]); omega) | apply lk_prev)) (by first | rfl | exact upto_len | assumption | exact map_len | exact List.length_set | (rw [List.length_set]; assumption)) | with_reducible apply Ints.app | (refine Ints.sub (by with_reducible repeat (first | assumption | apply Ints.app)) (by omega) (by omega) (by omega)))) (by omega)).2 hok) ?_))
      refine a_do rfl (o_move (by conv => lhs; whnf) ?_)
      refine a_do rfl (o_extract (by conv => lhs; whnf) rfl ?_)
      refine a_do rfl (o_extract (by conv => lhs; whnf) rfl ?_)
      refine a_do rfl (o_assign (by conv => lhs; whnf) ?_)
      refine a_do rfl (o_assign (by conv => lhs; whnf) ?_)
      refine a_end ?_
      refine awp_seq ?_
      refine awp_region rfl ?_
      refine a_do rfl (o_loadAgg Try.underlying48 rfl ty48 (by conv => lhs; whnf) (by with_reducible repeat (first | assumption | (apply lk_last; (try simp only [ll1, ll2, ll3, ll4, lls_len, lls2_len, markL_len]); omega) | apply lk_prev)) (by rfl) (by exact (rfl : _ = [_, _])) (by rfl) ?_)
      refine a_do rfl (o_callF (lmap_cons (by conv => lhs; whnf) lmap_nil) (RetN.toN (toWorths_ret _ _ _ _ (by first | ((with_reducible repeat (first | assumption | apply Ints.app)); done) | repeat (first | with_reducible assumption | exact ints_nil | exact Ints.own (by with_reducible repeat (first | assumption | (apply lk_last; (try simp only [ll1, ll2, ll3, ll4, lls_len, lls2_len, markL_len]); omega) | apply lk_prev)) (by first | rfl | exact upto_len | assumption | exact map_len | exact List.length_set | (rw [List.length_set]; assumption)) | exact Ints.tail (by with_reducible repeat (first | assumption | (apply lk_last; (try simp only [ll1, ll2, ll3, ll4, lls_len, lls2_len, markL_len]); omega) | apply lk_prev)) (by first | rfl | exact upto_len | assumption | exact map_len | exact List.length_set | (rw [List.length_set]; assumption)) | with_reducible apply Ints.app | (refine Ints.sub (by with_reducible repeat (first | assumption | apply Ints.app)) (by omega) (by omega) (by omega)))) (by omega)) (fun k21 hk21 hgk21 => ?_)))
      try simp at hk21
      have hIk21 := Ints.own hgk21 rfl
      refine a_do rfl (o_allocN (n := 2) ty51 rfl (by exact (rfl : _ = [_, _])) (by rfl) (fun k22 hk22 => ?_))
      try simp at hk22
      refine a_do rfl (o_storeVAgg ty51 (by conv => lhs; whnf) (by with_reducible repeat (first | assumption | (apply lk_last; (try simp only [ll1, ll2, ll3, ll4, lls_len, lls2_len, markL_len]); omega) | apply lk_prev)) (by rfl) (by rfl) (by rfl) (by conv => lhs; whnf) (by rfl) (by rfl) (by first | rfl | exact one2 (by assumption)) (by first | exact (rfl : _ = [_]) | exact (rfl : _ = [_, _]) | exact (rfl : _ = [_, _, _]) | exact (rfl : _ = [_, _, _, _]) | rfl) (by with_reducible repeat (first | (apply set_last; (try simp only [ll1, ll2, ll3, ll4, lls_len, lls2_len, markL_len]); omega) | (apply set_step; (try simp only [ll1, ll2, ll3, ll4, lls_len, lls2_len, markL_len]); omega) | exact rfl)) ?_)
      refine a_end ?_
      refine awp_seq ?_
      refine awp_region rfl ?_
      refine a_do rfl (o_loadAgg Try.underlying51 rfl ty51 (by conv => lhs; whnf) (by with_reducible repeat (first | assumption | (apply lk_last; (try simp only [ll1, ll2, ll3, ll4, lls_len, lls2_len, markL_len]); omega) | apply lk_prev)) (by rfl) (by exact (rfl : _ = [_, _])) (by rfl) ?_)
      refine a_do rfl (o_move (by conv => lhs; whnf) ?_)
      refine a_do rfl (o_callF (lmap_cons (by conv => lhs; whnf) (lmap_cons (by conv => lhs; whnf) lmap_nil)) (Ret.to ((implCorePlans_ret _ _ _ _ _ (by first | ((with_reducible repeat (first | assumption | apply Ints.app)); done) | repeat (first | with_reducible assumption | exact ints_nil | exact Ints.own (by with_reducible repeat (first | assumption | (apply lk_last; (try simp only [ll1, ll2, ll3, ll4, lls_len, lls2_len, markL_len]); omega) | apply lk_prev)) (by first | rfl | exact upto_len | assumption | exact map_len | exact List.length_set | (rw [List.length_set]; assumption)) | exact Ints.tail (by with_reducible repeat (first | assumption | (apply lk_last; (try simp only [ll1, ll2, ll3, ll4, lls_len, lls2_len, markL_len]); omega) | apply lk_prev)) (by first | rfl | exact upto_len | assumption | exact map_len | exact List.length_set | (rw [List.length_set]; assumption)) | with_reducible apply Ints.app | (refine Ints.sub (by with_reducible repeat (first | assumption | apply Ints.app)) (by omega) (by omega) (by omega)))) (by omega)).2 hok) ?_))
      refine a_do rfl (o_move (by conv => lhs; whnf) ?_)
      refine a_do rfl (o_extract (by conv => lhs; whnf) rfl ?_)
      refine a_do rfl (o_extract (by conv => lhs; whnf) rfl ?_)
      refine a_do rfl (o_assign (by conv => lhs; whnf) ?_)
      refine a_do rfl (o_assign (by conv => lhs; whnf) ?_)
      refine a_end ?_
      refine awp_seq ?_
      refine awp_seq ?_
      refine awp_region rfl ?_
      refine a_do rfl (o_move (by conv => lhs; whnf) ?_)
      refine a_do rfl (o_move (by conv => lhs; whnf) ?_)
      refine a_do rfl (o_callF (lmap_cons (by conv => lhs; whnf) (lmap_cons (by conv => lhs; whnf) lmap_nil)) (Ret.toB (eqInt64SS_ret _ _ _ _ _ (by first | ((with_reducible repeat (first | assumption | apply Lists.app)); done) | exact lists_nil | repeat (first | with_reducible assumption | exact lls_lists (by (try simp only [ll1, ll2, ll3, ll4, lls_len, lls2_len, markL_len]); omega) (by first | rfl | exact markL_len) | exact lls2_left (by (try simp only [ll1, ll2, ll3, ll4, lls_len, lls2_len, markL_len]); omega) (by first | rfl | exact markL_len | simp) | exact lls2_right (by (try simp only [ll1, ll2, ll3, ll4, lls_len, lls2_len, markL_len]); omega) (by first | rfl | exact markL_len | simp) (by first | rfl | exact markL_len | simp) | with_reducible apply Lists.app)) (by first | ((with_reducible repeat (first | assumption | apply Lists.app)); done) | exact lists_nil | repeat (first | with_reducible assumption | exact lls_lists (by (try simp only [ll1, ll2, ll3, ll4, lls_len, lls2_len, markL_len]); omega) (by first | rfl | exact markL_len) | exact lls2_left (by (try simp only [ll1, ll2, ll3, ll4, lls_len, lls2_len, markL_len]); omega) (by first | rfl | exact markL_len | simp) | exact lls2_right (by (try simp only [ll1, ll2, ll3, ll4, lls_len, lls2_len, markL_len]); omega) (by first | rfl | exact markL_len | simp) (by first | rfl | exact markL_len | simp) | with_reducible apply Lists.app)) (by assumption)) (fun c23 => ?_) (fun c23 => ?_)))
      ·
        refine a_do rfl (o_notT (by conv => lhs; whnf) ?_)
        refine a_do rfl (o_move (by conv => lhs; whnf) ?_)
        refine a_do rfl (o_move (by conv => lhs; whnf) ?_)
        refine a_do rfl (o_move (by conv => lhs; whnf) ?_)
        refine a_do rfl (o_boolNeL (b := false) Try.underlying4 (by conv => lhs; whnf) (by conv => lhs; whnf) (by rfl) ?_)
        refine a_do rfl (o_pickF (by conv => lhs; whnf) (by conv => lhs; whnf) ?_)
        refine a_end ?_
        refine awp_condF (by conv => lhs; whnf) ?_
        refine awp_skip ?_
        refine awp_seq ?_
        refine awp_seq ?_
        refine awp_draw Try_mixed (by kernel_rfl) rfl ?_
        refine d_do rfl (o_loadAgg Try.underlying51 rfl ty51 (by conv => lhs; whnf) (by with_reducible repeat (first | assumption | (apply lk_last; (try simp only [ll1, ll2, ll3, ll4, lls_len, lls2_len, markL_len]); omega) | apply lk_prev)) (by rfl) (by exact (rfl : _ = [_, _])) (by rfl) ⟨rfl, rfl⟩) (by first | exact .prim rfl | exact within_func0 | (apply within_ptr; (with_reducible repeat (first | assumption | (apply lk_last; (try simp only [ll1, ll2, ll3, ll4, lls_len, lls2_len, markL_len]); omega) | apply lk_prev)); done) | (apply within_sl; (with_reducible repeat (first | assumption | (apply lk_last; (try simp only [ll1, ll2, ll3, ll4, lls_len, lls2_len, markL_len]); omega) | apply lk_prev)); done) | ((try apply within_sub); apply Ints.within; (with_reducible repeat (first | assumption | apply Ints.app)); done) | (apply Lists.within; (with_reducible repeat (first | assumption | apply Lists.app)); done) | (apply Flts.within; (with_reducible repeat (first | assumption | apply Flts.app)); done) | exact within_nilw | exact within_nilb | (apply within_tup2 <;> first | exact .prim rfl | (apply within_sl; (with_reducible repeat (first | assumption | (apply lk_last; (try simp only [ll1, ll2, ll3, ll4, lls_len, lls2_len, markL_len]); omega) | apply lk_prev)); done) | (apply Within.agg2 <;> (first | exact .prim rfl | (apply within_ptr; (with_reducible repeat (first | assumption | (apply lk_last; (try simp only [ll1, ll2, ll3, ll4, lls_len, lls2_len, markL_len]); omega) | apply lk_prev)); done) | (apply within_sl; (with_reducible repeat (first | assumption | (apply lk_last; (try simp only [ll1, ll2, ll3, ll4, lls_len, lls2_len, markL_len]); omega) | apply lk_prev)); done) | ((try apply within_sub); apply Ints.within; (with_reducible repeat (first | assumption | apply Ints.app)); done) | (apply Lists.within; (with_reducible repeat (first | assumption | apply Lists.app)); done) | (apply within_sl; (with_reducible repeat (first | assumption | (apply lk_last; (try simp only [ll1, ll2, ll3, ll4, lls_len, lls2_len, markL_len]); omega) | apply lk_prev)); done)))) | exact Within.mono ‹Within _ (Value.func _ _ _)› (by (try simp only [ll1, ll2, ll3, ll4, lls_len, lls2_len, markL_len]); omega) | (apply Within.agg4 <;> (first | exact .prim rfl | (apply within_ptr; (with_reducible repeat (first | assumption | (apply lk_last; (try simp only [ll1, ll2, ll3, ll4, lls_len, lls2_len, markL_len]); omega) | apply lk_prev)); done) | (apply within_sl; (with_reducible repeat (first | assumption | (apply lk_last; (try simp only [ll1, ll2, ll3, ll4, lls_len, lls2_len, markL_len]); omega) | apply lk_prev)); done) | ((try apply within_sub); apply Ints.within; (with_reducible repeat (first | assumption | apply Ints.app)); done) | (apply Lists.within; (with_reducible repeat (first | assumption | apply Lists.app)); done) | (apply within_sl; (with_reducible repeat (first | assumption | (apply lk_last; (try simp only [ll1, ll2, ll3, ll4, lls_len, lls2_len, markL_len]); omega) | apply lk_prev)); done))) | (apply Within.agg3 <;> (first | exact .prim rfl | (apply within_ptr; (with_reducible repeat (first | assumption | (apply lk_last; (try simp only [ll1, ll2, ll3, ll4, lls_len, lls2_len, markL_len]); omega) | apply lk_prev)); done) | (apply within_sl; (with_reducible repeat (first | assumption | (apply lk_last; (try simp only [ll1, ll2, ll3, ll4, lls_len, lls2_len, markL_len]); omega) | apply lk_prev)); done) | ((try apply within_sub); apply Ints.within; (with_reducible repeat (first | assumption | apply Ints.app)); done) | (apply Lists.within; (with_reducible repeat (first | assumption | apply Lists.app)); done) | (apply within_sl; (with_reducible repeat (first | assumption | (apply lk_last; (try simp only [ll1, ll2, ll3, ll4, lls_len, lls2_len, markL_len]); omega) | apply lk_prev)); done))) | (apply Within.agg2 <;> (first | exact .prim rfl | (apply within_ptr; (with_reducible repeat (first | assumption | (apply lk_last; (try simp only [ll1, ll2, ll3, ll4, lls_len, lls2_len, markL_len]); omega) | apply lk_prev)); done) | (apply within_sl; (with_reducible repeat (first | assumption | (apply lk_last; (try simp only [ll1, ll2, ll3, ll4, lls_len, lls2_len, markL_len]); omega) | apply lk_prev)); done) | ((try apply within_sub); apply Ints.within; (with_reducible repeat (first | assumption | apply Ints.app)); done) | (apply Lists.within; (with_reducible repeat (first | assumption | apply Lists.app)); done) | (apply within_sl; (with_reducible repeat (first | assumption | (apply lk_last; (try simp only [ll1, ll2, ll3, ll4, lls_len, lls2_len, markL_len]); omega) | apply lk_prev)); done)))) ?_
        refine d_do rfl (o_loadAgg Try.underlying48 rfl ty48 (by conv => lhs; whnf) (by with_reducible repeat (first | assumption | (apply lk_last; (try simp only [ll1, ll2, ll3, ll4, lls_len, lls2_len, markL_len]); omega) | apply lk_prev)) (by rfl) (by exact (rfl : _ = [_, _])) (by rfl) ⟨rfl, rfl⟩) (by first | exact .prim rfl | exact within_func0 | (apply within_ptr; (with_reducible repeat (first | assumption | (apply lk_last; (try simp only [ll1, ll2, ll3, ll4, lls_len, lls2_len, markL_len]); omega) | apply lk_prev)); done) | (apply within_sl; (with_reducible repeat (first | assumption | (apply lk_last; (try simp only [ll1, ll2, ll3, ll4, lls_len, lls2_len, markL_len]); omega) | apply lk_prev)); done) | ((try apply within_sub); apply Ints.within; (with_reducible repeat (first | assumption | apply Ints.app)); done) | (apply Lists.within; (with_reducible repeat (first | assumption | apply Lists.app)); done) | (apply Flts.within; (with_reducible repeat (first | assumption | apply Flts.app)); done) | exact within_nilw | exact within_nilb | (apply within_tup2 <;> first | exact .prim rfl | (apply within_sl; (with_reducible repeat (first | assumption | (apply lk_last; (try simp only [ll1, ll2, ll3, ll4, lls_len, lls2_len, markL_len]); omega) | apply lk_prev)); done) | (apply Within.agg2 <;> (first | exact .prim rfl | (apply within_ptr; (with_reducible repeat (first | assumption | (apply lk_last; (try simp only [ll1, ll2, ll3, ll4, lls_len, lls2_len, markL_len]); omega) | apply lk_prev)); done) | (apply within_sl; (with_reducible repeat (first | assumption | (apply lk_last; (try simp only [ll1, ll2, ll3, ll4, lls_len, lls2_len, markL_len]); omega) | apply lk_prev)); done) | ((try apply within_sub); apply Ints.within; (with_reducible repeat (first | assumption | apply Ints.app)); done) | (apply Lists.within; (with_reducible repeat (first | assumption | apply Lists.app)); done) | (apply within_sl; (with_reducible repeat (first | assumption | (apply lk_last; (try simp only [ll1, ll2, ll3, ll4, lls_len, lls2_len, markL_len]); omega) | apply lk_prev)); done)))) | exact Within.mono ‹Within _ (Value.func _ _ _)› (by (try simp only [ll1, ll2, ll3, ll4, lls_len, lls2_len, markL_len]); omega) | (apply Within.agg4 <;> (first | exact .prim rfl | (apply within_ptr; (with_reducible repeat (first | assumption | (apply lk_last; (try simp only [ll1, ll2, ll3, ll4, lls_len, lls2_len, markL_len]); omega) | apply lk_prev)); done) | (apply within_sl; (with_reducible repeat (first | assumption | (apply lk_last; (try simp only [ll1, ll2, ll3, ll4, lls_len, lls2_len, markL_len]); omega) | apply lk_prev)); done) | ((try apply within_sub); apply Ints.within; (with_reducible repeat (first | assumption | apply Ints.app)); done) | (apply Lists.within; (with_reducible repeat (first | assumption | apply Lists.app)); done) | (apply within_sl; (with_reducible repeat (first | assumption | (apply lk_last; (try simp only [ll1, ll2, ll3, ll4, lls_len, lls2_len, markL_len]); omega) | apply lk_prev)); done))) | (apply Within.agg3 <;> (first | exact .prim rfl | (apply within_ptr; (with_reducible repeat (first | assumption | (apply lk_last; (try simp only [ll1, ll2, ll3, ll4, lls_len, lls2_len, markL_len]); omega) | apply lk_prev)); done) | (apply within_sl; (with_reducible repeat (first | assumption | (apply lk_last; (try simp only [ll1, ll2, ll3, ll4, lls_len, lls2_len, markL_len]); omega) | apply lk_prev)); done) | ((try apply within_sub); apply Ints.within; (with_reducible repeat (first | assumption | apply Ints.app)); done) | (apply Lists.within; (with_reducible repeat (first | assumption | apply Lists.app)); done) | (apply within_sl; (with_reducible repeat (first | assumption | (apply lk_last; (try simp only [ll1, ll2, ll3, ll4, lls_len, lls2_len, markL_len]); omega) | apply lk_prev)); done))) | (apply Within.agg2 <;> (first | exact .prim rfl | (apply within_ptr; (with_reducible repeat (first | assumption | (apply lk_last; (try simp only [ll1, ll2, ll3, ll4, lls_len, lls2_len, markL_len]); omega) | apply lk_prev)); done) | (apply within_sl; (with_reducible repeat (first | assumption | (apply lk_last; (try simp only [ll1, ll2, ll3, ll4, lls_len, lls2_len, markL_len]); omega) | apply lk_prev)); done) | ((try apply within_sub); apply Ints.within; (with_reducible repeat (first | assumption | apply Ints.app)); done) | (apply Lists.within; (with_reducible repeat (first | assumption | apply Lists.app)); done) | (apply within_sl; (with_reducible repeat (first | assumption | (apply lk_last; (try simp only [ll1, ll2, ll3, ll4, lls_len, lls2_len, markL_len]); omega) | apply lk_prev)); done)))) ?_
        refine d_callN rfl (lmap_cons (by conv => lhs; whnf) lmap_nil) (toWorths_ret _ _ _ _ (by first | ((with_reducible repeat (first | assumption | apply Ints.app)); done) | repeat (first | with_reducible assumption | exact ints_nil | exact Ints.own (by with_reducible repeat (first | assumption | (apply lk_last; (try simp only [ll1, ll2, ll3, ll4, lls_len, lls2_len, markL_len]); omega) | apply lk_prev)) (by first | rfl | exact upto_len | assumption | exact map_len | exact List.length_set | (rw [List.length_set]; assumption)) | exact Ints.tail (by with_reducible repeat (first | assumption | (apply lk_last; (try simp only [ll1, ll2, ll3, ll4, lls_len, lls2_len, markL_len]); omega) | apply lk_prev)) (by first | rfl | exact upto_len | assumption | exact map_len | exact List.length_set | (rw [List.length_set]; assumption)) | with_reducible apply Ints.app | (refine Ints.sub (by with_reducible repeat (first | assumption | apply Ints.app)) (by omega) (by omega) (by omega)))) (by omega)) (by exact .agg2 (.prim rfl) (.slice (by (try simp only [ll1, ll2, ll3, ll4, lls_len, lls2_len, markL_len]); omega))) (by simp [lst, isPrim]) (fun k24 hk24 hgk24 => ?_)
        try simp at hk24
        have hIk24 := Ints.own hgk24 rfl
        refine d_callB rfl (lmap_cons (by conv => lhs; whnf) (lmap_cons (by conv => lhs; whnf) lmap_nil)) (eqWorths_ret _ _ _ _ _ _ _ (by first | ((with_reducible repeat (first | assumption | apply Ints.app)); done) | repeat (first | with_reducible assumption | exact ints_nil | exact Ints.own (by with_reducible repeat (first | assumption | (apply lk_last; (try simp only [ll1, ll2, ll3, ll4, lls_len, lls2_len, markL_len]); omega) | apply lk_prev)) (by first | rfl | exact upto_len | assumption | exact map_len | exact List.length_set | (rw [List.length_set]; assumption)) | exact Ints.tail (by with_reducible repeat (first | assumption | (apply lk_last; (try simp only [ll1, ll2, ll3, ll4, lls_len, lls2_len, markL_len]); omega) | apply lk_prev)) (by first | rfl | exact upto_len | assumption | exact map_len | exact List.length_set | (rw [List.length_set]; assumption)) | with_reducible apply Ints.app | (refine Ints.sub (by with_reducible repeat (first | assumption | apply Ints.app)) (by omega) (by omega) (by omega)))) (by first | ((with_reducible repeat (first | assumption | apply Ints.app)); done) | repeat (first | with_reducible assumption | exact ints_nil | exact Ints.own (by with_reducible repeat (first | assumption | (apply lk_last; (try simp only [ll1, ll2, ll3, ll4, lls_len, lls2_len, markL_len]); omega) | apply lk_prev)) (by first | rfl | exact upto_len | assumption | exact map_len | exact List.length_set | (rw [List.length_set]; assumption)) | exact Ints.tail (by with_reducible repeat (first | assumption | (apply lk_last; (try simp only [ll1, ll2, ll3, ll4, lls_len, lls2_len, markL_len]); omega) | apply lk_prev)) (by first | rfl | exact upto_len | assumption | exact map_len | exact List.length_set | (rw [List.length_set]; assumption)) | with_reducible apply Ints.app | (refine Ints.sub (by with_reducible repeat (first | assumption | apply Ints.app)) (by omega) (by omega) (by omega)))) (by first | omega | (simp; done))) (fun c25 => ?_) (fun c25 => ?_)
        ·
          refine d_do rfl (o_notT (by conv => lhs; whnf) ⟨rfl, rfl⟩) (by exact .prim rfl) ?_
          refine d_end ?_
          refine awp_condF (by conv => lhs; whnf) ?_
          refine awp_skip ?_
          refine awp_seq ?_
          refine awp_region rfl ?_
          refine a_do rfl (o_assign (by conv => lhs; whnf) ?_)
          refine a_end ?_
          refine awp_seq ?_
          refine awp_region rfl ?_
          refine a_do rfl (o_loadAgg Try.underlying51 rfl ty51 (by conv => lhs; whnf) (by with_reducible repeat (first | assumption | (apply lk_last; (try simp only [ll1, ll2, ll3, ll4, lls_len, lls2_len, markL_len]); omega) | apply lk_prev)) (by rfl) (by exact (rfl : _ = [_, _])) (by rfl) ?_)
          refine a_do rfl (o_move (by conv => lhs; whnf) ?_)
          refine a_do rfl (o_callF (lmap_cons (by conv => lhs; whnf) (lmap_cons (by conv => lhs; whnf) lmap_nil)) (Ret.to (Ret.heap (markWorths_ret _ _ _ _ _ _ (by first | ((with_reducible repeat (first | assumption | (apply lk_last; (try simp only [ll1, ll2, ll3, ll4, lls_len, lls2_len, markL_len]); omega) | apply lk_prev)); done) | repeat (first | assumption | exact lk_last (by (try simp only [ll1, ll2, ll3, ll4, lls_len, lls2_len, markL_len]); omega) | apply lk_prev)) (by first | rfl | exact upto_len | assumption | exact map_len | exact List.length_set | (rw [List.length_set]; assumption)) (by omega) (by omega)) (by with_reducible repeat (first | (apply set_last; (try simp only [ll1, ll2, ll3, ll4, lls_len, lls2_len, markL_len]); omega) | (apply set_step; (try simp only [ll1, ll2, ll3, ll4, lls_len, lls2_len, markL_len]); omega) | exact rfl))) ?_))
          refine a_do rfl (o_assign (by conv => lhs; whnf) ?_)
          refine a_end ?_
          refine awp_seq ?_
          refine awp_seq ?_
          refine awp_region rfl ?_
          refine a_do rfl (o_move (by conv => lhs; whnf) ?_)
          refine a_do rfl (o_lss (by conv => lhs; whnf) (by conv => lhs; whnf) (fun c26 => ?_) (fun c26 => ?_))
          ·
            refine a_do rfl (o_move (by conv => lhs; whnf) ?_)
            refine a_no rfl ?_
            refine a_no rfl ?_
            refine a_no rfl ?_
            refine a_no rfl ?_
            refine a_do rfl (o_pickT (by conv => lhs; whnf) (by conv => lhs; whnf) ?_)
            refine a_do rfl (o_move (by conv => lhs; whnf) ?_)
            refine a_no rfl ?_
            refine a_no rfl ?_
            refine a_no rfl ?_
            refine a_do rfl (o_pickT (by conv => lhs; whnf) (by conv => lhs; whnf) ?_)
            refine a_end ?_
            refine awp_condT (by conv => lhs; whnf) ?_
            refine awp_seq ?_
            refine awp_region rfl ?_
            refine a_do rfl (o_assign (by conv => lhs; whnf) ?_)
            refine a_end ?_
            refine awp_ret ?_
            refine ⟨.inl rfl, [_], ⟨ares_tmp (by conv => lhs; whnf), trivial⟩, ?_⟩
            exact ⟨by first | rfl | (exfalso; omega) | (exfalso; simp_all; done), (by first | ((repeat (first | with_reducible exact Grown.refl _ | with_reducible apply Grown.push)); done) | repeat (first | exact Grown.refl _ | refine Grown.push ?_ _))⟩
          ·
            refine a_do rfl (o_move (by conv => lhs; whnf) ?_)
            refine a_do rfl (o_move (by conv => lhs; whnf) ?_)
            refine a_do rfl (o_move (by conv => lhs; whnf) ?_)
            refine a_do rfl (o_callF (lmap_cons (by conv => lhs; whnf) (lmap_cons (by conv => lhs; whnf) lmap_nil)) (Ret.toB (eqInt64SS_ret _ _ _ _ _ (by first | ((with_reducible repeat (first | assumption | apply Lists.app)); done) | exact lists_nil | repeat (first | with_reducible assumption | exact lls_lists (by (try simp only [ll1, ll2, ll3, ll4, lls_len, lls2_len, markL_len]); omega) (by first | rfl | exact markL_len) | exact lls2_left (by (try simp only [ll1, ll2, ll3, ll4, lls_len, lls2_len, markL_len]); omega) (by first | rfl | exact markL_len | simp) | exact lls2_right (by (try simp only [ll1, ll2, ll3, ll4, lls_len, lls2_len, markL_len]); omega) (by first | rfl | exact markL_len | simp) (by first | rfl | exact markL_len | simp) | with_reducible apply Lists.app)) (by first | ((with_reducible repeat (first | assumption | apply Lists.app)); done) | exact lists_nil | repeat (first | with_reducible assumption | exact lls_lists (by (try simp only [ll1, ll2, ll3, ll4, lls_len, lls2_len, markL_len]); omega) (by first | rfl | exact markL_len) | exact lls2_left (by (try simp only [ll1, ll2, ll3, ll4, lls_len, lls2_len, markL_len]); omega) (by first | rfl | exact markL_len | simp) | exact lls2_right (by (try simp only [ll1, ll2, ll3, ll4, lls_len, lls2_len, markL_len]); omega) (by first | rfl | exact markL_len | simp) (by first | rfl | exact markL_len | simp) | with_reducible apply Lists.app)) (by assumption)) (fun c27 => ?_) (fun c27 => ?_)))
            ·
              refine a_do rfl (o_notT (by conv => lhs; whnf) ?_)
              refine a_do rfl (o_pickF (by conv => lhs; whnf) (by conv => lhs; whnf) ?_)
              refine a_do rfl (o_move (by conv => lhs; whnf) ?_)
              refine a_do rfl (o_move (by conv => lhs; whnf) ?_)
              refine a_do rfl (o_move (by conv => lhs; whnf) ?_)
              refine a_do rfl (o_boolNeL (b := false) Try.underlying4 (by conv => lhs; whnf) (by conv => lhs; whnf) (by rfl) ?_)
              refine a_do rfl (o_pickF (by conv => lhs; whnf) (by conv => lhs; whnf) ?_)
              refine a_end ?_
              refine awp_condF (by conv => lhs; whnf) ?_
              refine awp_skip ?_
              refine awp_seq ?_
              refine awp_region rfl ?_
              refine a_do rfl (o_assign (by conv => lhs; whnf) ?_)
              refine a_end ?_
              refine awp_seq ?_
              refine awp_region rfl ?_
              refine a_do rfl (o_move (by conv => lhs; whnf) ?_)
              refine a_do rfl (o_move (by conv => lhs; whnf) ?_)
              refine a_do rfl (o_callF (lmap_cons (by conv => lhs; whnf) (lmap_cons (by conv => lhs; whnf) lmap_nil)) (Ret.to (markSSN_ret _ _ (by omega)) ?_))
              refine a_do rfl (o_assign (by conv => lhs; whnf) ?_)
              refine a_end ?_
              refine awp_seq ?_
              refine awp_region rfl ?_
              refine a_do rfl (o_assign (by conv => lhs; whnf) ?_)
              refine a_end ?_
              refine awp_seq ?_
              refine awp_region rfl ?_
              refine a_do rfl (o_move (by conv => lhs; whnf) ?_)
              refine a_do rfl (o_move (by conv => lhs; whnf) ?_)
              refine a_do rfl (o_callF (lmap_cons (by conv => lhs; whnf) (lmap_cons (by conv => lhs; whnf) lmap_nil)) (Ret.to (heldSSN_ret _ _ (by omega)) ?_))
              refine a_do rfl (o_assign (by conv => lhs; whnf) ?_)
              refine a_end ?_
              refine awp_seq ?_
              refine awp_seq ?_
              refine awp_region rfl ?_
              refine a_do rfl (o_move (by conv => lhs; whnf) ?_)
              refine a_do rfl (o_lss (by conv => lhs; whnf) (by conv => lhs; whnf) (fun c28 => ?_) (fun c28 => ?_))
              ·
                refine a_end ?_
                refine awp_condT (by conv => lhs; whnf) ?_
                refine awp_seq ?_
                refine awp_region rfl ?_
                refine a_do rfl (o_assign (by conv => lhs; whnf) ?_)
                refine a_end ?_
                refine awp_ret ?_
                refine ⟨.inl rfl, [_], ⟨ares_tmp (by conv => lhs; whnf), trivial⟩, ?_⟩
                exact ⟨by first | rfl | (exfalso; omega) | (exfalso; simp_all; done), (by first | ((repeat (first | with_reducible exact Grown.refl _ | with_reducible apply Grown.push)); done) | repeat (first | exact Grown.refl _ | refine Grown.push ?_ _))⟩
              ·
                refine a_end ?_
                refine awp_condF (by conv => lhs; whnf) ?_
                refine awp_skip ?_
                refine awp_seq ?_
                refine awp_seq ?_
                refine awp_region rfl ?_
                refine a_do rfl (o_move (by conv => lhs; whnf) ?_)
                refine a_do rfl (o_move (by conv => lhs; whnf) ?_)
                refine a_do rfl (o_neq (by conv => lhs; whnf) (by conv => lhs; whnf) (fun c29 => ?_) (fun c29 => ?_))
                ·
                  refine a_end ?_
                  refine awp_condT (by conv => lhs; whnf) ?_
                  refine awp_seq ?_
                  refine awp_region rfl ?_
                  refine a_do rfl (o_assign (by conv => lhs; whnf) ?_)
                  refine a_end ?_
                  refine awp_ret ?_
                  refine ⟨.inl rfl, [_], ⟨ares_tmp (by conv => lhs; whnf), trivial⟩, ?_⟩
                  exact ⟨by first | rfl | (exfalso; omega) | (exfalso; simp_all; done), (by first | ((repeat (first | with_reducible exact Grown.refl _ | with_reducible apply Grown.push)); done) | repeat (first | exact Grown.refl _ | refine Grown.push ?_ _))⟩
                ·
                  refine a_end ?_
                  refine awp_condF (by conv => lhs; whnf) ?_
                  refine awp_skip ?_
                  refine awp_seq ?_
                  refine awp_region rfl ?_
                  refine a_do rfl (o_loadAgg Try.underlying48 rfl ty48 (by conv => lhs; whnf) (by with_reducible repeat (first | assumption | (apply lk_last; (try simp only [ll1, ll2, ll3, ll4, lls_len, lls2_len, markL_len]); omega) | apply lk_prev)) (by rfl) (by exact (rfl : _ = [_, _])) (by rfl) ?_)
                  refine a_do rfl (o_callF (lmap_cons (by conv => lhs; whnf) lmap_nil) (RetN.toN (toWorths_ret _ _ _ _ (by first | ((with_reducible repeat (first | assumption | apply Ints.app)); done) | repeat (first | with_reducible assumption | exact ints_nil | exact Ints.own (by with_reducible repeat (first | assumption | (apply lk_last; (try simp only [ll1, ll2, ll3, ll4, lls_len, lls2_len, markL_len]); omega) | apply lk_prev)) (by first | rfl | exact upto_len | assumption | exact map_len | exact List.length_set | (rw [List.length_set]; assumption)) | exact Ints.tail (by with_reducible repeat (first | assumption | (apply lk_last; (try simp only [ll1, ll2, ll3, ll4, lls_len, lls2_len, markL_len]); omega) | apply lk_prev)) (by first | rfl | exact upto_len | assumption | exact map_len | exact List.length_set | (rw [List.length_set]; assumption)) | with_reducible apply Ints.app | (refine Ints.sub (by with_reducible repeat (first | assumption | apply Ints.app)) (by omega) (by omega) (by omega)))) (by omega)) (fun k30 hk30 hgk30 => ?_)))
                  try simp at hk30
                  have hIk30 := Ints.own hgk30 rfl
                  refine a_do rfl (o_move (by conv => lhs; whnf) ?_)
                  refine a_do rfl (o_callF (lmap_cons (by conv => lhs; whnf) (lmap_cons (by conv => lhs; whnf) lmap_nil)) (Ret.to ((implCorePlans_ret _ _ _ _ _ (by first | ((with_reducible repeat (first | assumption | apply Ints.app)); done) | repeat (first | with_reducible assumption | exact ints_nil | exact Ints.own (by with_reducible repeat (first | assumption | (apply lk_last; (try simp only [ll1, ll2, ll3, ll4, lls_len, lls2_len, markL_len]); omega) | apply lk_prev)) (by first | rfl | exact upto_len | assumption | exact map_len | exact List.length_set | (rw [List.length_set]; assumption)) | exact Ints.tail (by with_reducible repeat (first | assumption | (apply lk_last; (try simp only [ll1, ll2, ll3, ll4, lls_len, lls2_len, markL_len]); omega) | apply lk_prev)) (by first | rfl | exact upto_len | assumption | exact map_len | exact List.length_set | (rw [List.length_set]; assumption)) | with_reducible apply Ints.app | (refine Ints.sub (by with_reducible repeat (first | assumption | apply Ints.app)) (by omega) (by omega) (by omega)))) (by omega)).2 hok) ?_))
                  refine a_do rfl (o_move (by conv => lhs; whnf) ?_)
                  refine a_do rfl (o_extract (by conv => lhs; whnf) rfl ?_)
                  refine a_do rfl (o_extract (by conv => lhs; whnf) rfl ?_)
                  refine a_do rfl (o_assign (by conv => lhs; whnf) ?_)
                  refine a_do rfl (o_assign (by conv => lhs; whnf) ?_)
                  refine a_end ?_
                  refine awp_seq ?_
                  refine awp_seq ?_
                  refine awp_region rfl ?_
                  refine a_do rfl (o_move (by conv => lhs; whnf) ?_)
                  refine a_do rfl (o_move (by conv => lhs; whnf) ?_)
                  refine a_do rfl (o_callF (lmap_cons (by conv => lhs; whnf) (lmap_cons (by conv => lhs; whnf) lmap_nil)) (Ret.toB (eqInt64SS_ret _ _ _ _ _ (by first | ((with_reducible repeat (first | assumption | apply Lists.app)); done) | exact lists_nil | repeat (first | with_reducible assumption | exact lls_lists (by (try simp only [ll1, ll2, ll3, ll4, lls_len, lls2_len, markL_len]); omega) (by first | rfl | exact markL_len) | exact lls2_left (by (try simp only [ll1, ll2, ll3, ll4, lls_len, lls2_len, markL_len]); omega) (by first | rfl | exact markL_len | simp) | exact lls2_right (by (try simp only [ll1, ll2, ll3, ll4, lls_len, lls2_len, markL_len]); omega) (by first | rfl | exact markL_len | simp) (by first | rfl | exact markL_len | simp) | with_reducible apply Lists.app)) (by first | ((with_reducible repeat (first | assumption | apply Lists.app)); done) | exact lists_nil | repeat (first | with_reducible assumption | exact lls_lists (by (try simp only [ll1, ll2, ll3, ll4, lls_len, lls2_len, markL_len]); omega) (by first | rfl | exact markL_len) | exact lls2_left (by (try simp only [ll1, ll2, ll3, ll4, lls_len, lls2_len, markL_len]); omega) (by first | rfl | exact markL_len | simp) | exact lls2_right (by (try simp only [ll1, ll2, ll3, ll4, lls_len, lls2_len, markL_len]); omega) (by first | rfl | exact markL_len | simp) (by first | rfl | exact markL_len | simp) | with_reducible apply Lists.app)) (by assumption)) (fun c31 => ?_) (fun c31 => ?_)))
                  ·
                    refine a_do rfl (o_notT (by conv => lhs; whnf) ?_)
                    refine a_do rfl (o_move (by conv => lhs; whnf) ?_)
                    refine a_do rfl (o_move (by conv => lhs; whnf) ?_)
                    refine a_do rfl (o_move (by conv => lhs; whnf) ?_)
                    refine a_do rfl (o_boolNeL (b := false) Try.underlying4 (by conv => lhs; whnf) (by conv => lhs; whnf) (by rfl) ?_)
                    refine a_do rfl (o_pickF (by conv => lhs; whnf) (by conv => lhs; whnf) ?_)
                    refine a_end ?_
                    refine awp_condF (by conv => lhs; whnf) ?_
                    refine awp_skip ?_
                    refine awp_seq ?_
                    refine awp_region rfl ?_
                    refine a_do rfl (o_assign (by conv => lhs; whnf) ?_)
                    refine a_end ?_
                    refine awp_seq ?_
                    refine awp_region rfl ?_
                    refine a_do rfl (o_move (by conv => lhs; whnf) ?_)
                    refine a_do rfl (o_move (by conv => lhs; whnf) ?_)
                    refine a_do rfl (o_callF (lmap_cons (by conv => lhs; whnf) (lmap_cons (by conv => lhs; whnf) lmap_nil)) (Ret.to (heldSSN_ret _ _ (by omega)) ?_))
                    refine a_do rfl (o_assign (by conv => lhs; whnf) ?_)
                    refine a_end ?_
                    refine awp_seq ?_
                    refine awp_seq ?_
                    refine awp_region rfl ?_
                    refine a_do rfl (o_move (by conv => lhs; whnf) ?_)
                    refine a_do rfl (o_lss (by conv => lhs; whnf) (by conv => lhs; whnf) (fun c32 => ?_) (fun c32 => ?_))
                    ·
                      refine a_end ?_
                      refine awp_condT (by conv => lhs; whnf) ?_
                      refine awp_seq ?_
                      refine awp_region rfl ?_
                      refine a_do rfl (o_assign (by conv => lhs; whnf) ?_)
                      refine a_end ?_
                      refine awp_ret ?_
                      refine ⟨.inl rfl, [_], ⟨ares_tmp (by conv => lhs; whnf), trivial⟩, ?_⟩
                      exact ⟨by first | rfl | (exfalso; omega) | (exfalso; simp_all; done), (by first | ((repeat (first | with_reducible exact Grown.refl _ | with_reducible apply Grown.push)); done) | repeat (first | exact Grown.refl _ | refine Grown.push ?_ _))⟩
                    ·
                      refine a_end ?_
                      refine awp_condF (by conv => lhs; whnf) ?_
                      refine awp_skip ?_
                      refine awp_seq ?_
                      refine awp_seq ?_
                      refine awp_region rfl ?_
                      refine a_do rfl (o_move (by conv => lhs; whnf) ?_)
                      refine a_do rfl (o_move (by conv => lhs; whnf) ?_)
                      refine a_do rfl (o_neq (by conv => lhs; whnf) (by conv => lhs; whnf) (fun c33 => ?_) (fun c33 => ?_))
                      ·
                        refine a_end ?_
                        refine awp_condT (by conv => lhs; whnf) ?_
                        refine awp_seq ?_
                        refine awp_region rfl ?_
                        refine a_do rfl (o_assign (by conv => lhs; whnf) ?_)
                        refine a_end ?_
                        refine awp_ret ?_
                        refine ⟨.inl rfl, [_], ⟨ares_tmp (by conv => lhs; whnf), trivial⟩, ?_⟩
                        exact ⟨by first | rfl | (exfalso; omega) | (exfalso; simp_all; done), (by first | ((repeat (first | with_reducible exact Grown.refl _ | with_reducible apply Grown.push)); done) | repeat (first | exact Grown.refl _ | refine Grown.push ?_ _))⟩
                      ·
                        refine a_end ?_
                        refine awp_condF (by conv => lhs; whnf) ?_
                        refine awp_skip ?_
                        refine awp_seq ?_
                        refine awp_region rfl ?_
                        refine a_do rfl (o_assign (by conv => lhs; whnf) ?_)
                        refine a_end ?_
                        refine awp_ret ?_
                        refine ⟨.inl rfl, [_], ⟨ares_tmp (by conv => lhs; whnf), trivial⟩, ?_⟩
                        exact ⟨by first | rfl | (exfalso; omega) | (exfalso; simp_all; done), (by first | ((repeat (first | with_reducible exact Grown.refl _ | with_reducible apply Grown.push)); done) | repeat (first | exact Grown.refl _ | refine Grown.push ?_ _))⟩
                  ·
                    refine a_do rfl (o_notF (by conv => lhs; whnf) ?_)
                    refine a_do rfl (o_move (by conv => lhs; whnf) ?_)
                    refine a_no rfl ?_
                    refine a_no rfl ?_
                    refine a_no rfl ?_
                    refine a_do rfl (o_pickT (by conv => lhs; whnf) (by conv => lhs; whnf) ?_)
                    refine a_end ?_
                    refine awp_condT (by conv => lhs; whnf) ?_
                    refine awp_seq ?_
                    refine awp_region rfl ?_
                    refine a_do rfl (o_assign (by conv => lhs; whnf) ?_)
                    refine a_end ?_
                    refine awp_ret ?_
                    refine ⟨.inl rfl, [_], ⟨ares_tmp (by conv => lhs; whnf), trivial⟩, ?_⟩
                    exact ⟨by first | rfl | (exfalso; omega) | (exfalso; simp_all; done), (by first | ((repeat (first | with_reducible exact Grown.refl _ | with_reducible apply Grown.push)); done) | repeat (first | exact Grown.refl _ | refine Grown.push ?_ _))⟩
            ·
              refine a_do rfl (o_notF (by conv => lhs; whnf) ?_)
              refine a_do rfl (o_pickF (by conv => lhs; whnf) (by conv => lhs; whnf) ?_)
              refine a_do rfl (o_move (by conv => lhs; whnf) ?_)
              refine a_no rfl ?_
              refine a_no rfl ?_
              refine a_no rfl ?_
              refine a_do rfl (o_pickT (by conv => lhs; whnf) (by conv => lhs; whnf) ?_)
              refine a_end ?_
              refine awp_condT (by conv => lhs; whnf) ?_
              refine awp_seq ?_
              refine awp_region rfl ?_
              refine a_do rfl (o_assign (by conv => lhs; whnf) ?_)
              refine a_end ?_
              refine awp_ret ?_
              refine ⟨.inl rfl, [_], ⟨ares_tmp (by conv => lhs; whnf), trivial⟩, ?_⟩
              exact ⟨by first | rfl | (exfalso; omega) | (exfalso; simp_all; done), (by first | ((repeat (first | with_reducible exact Grown.refl _ | with_reducible apply Grown.push)); done) | repeat (first | exact Grown.refl _ | refine Grown.push ?_ _))⟩
        ·
          refine d_do rfl (o_notF (by conv => lhs; whnf) ⟨rfl, rfl⟩) (by exact .prim rfl) ?_
          refine d_end ?_
          refine awp_condT (by conv => lhs; whnf) ?_
          refine awp_seq ?_
          refine awp_region rfl ?_
          refine a_do rfl (o_assign (by conv => lhs; whnf) ?_)
          refine a_end ?_
          refine awp_ret ?_
          refine ⟨.inl rfl, [_], ⟨ares_tmp (by conv => lhs; whnf), trivial⟩, ?_⟩
          exact ⟨by first | rfl | (exfalso; omega) | (exfalso; simp_all; done), (by first | ((repeat (first | with_reducible exact Grown.refl _ | with_reducible apply Grown.push)); done) | repeat (first | exact Grown.refl _ | refine Grown.push ?_ _))⟩
      ·
        refine a_do rfl (o_notF (by conv => lhs; whnf) ?_)
        refine a_do rfl (o_move (by conv => lhs; whnf) ?_)
        refine a_no rfl ?_
        refine a_no rfl ?_
        refine a_no rfl ?_
        refine a_do rfl (o_pickT (by conv => lhs; whnf) (by conv => lhs; whnf) ?_)
        refine a_end ?_
        refine awp_condT (by conv => lhs; whnf) ?_
        refine awp_seq ?_
        refine awp_region rfl ?_
        refine a_do rfl (o_assign (by conv => lhs; whnf) ?_)
        refine a_end ?_
        refine awp_ret ?_
        refine ⟨.inl rfl, [_], ⟨ares_tmp (by conv => lhs; whnf), trivial⟩, ?_⟩
        exact ⟨by first | rfl | (exfalso; omega) | (exfalso; simp_all; done), (by first | ((repeat (first | with_reducible exact Grown.refl _ | with_reducible apply Grown.push)); done) | repeat (first | exact Grown.refl _ | refine Grown.push ?_ _))⟩

end Go.Am
