/-
  What the law FnExactSharesOf answers over an abstract heap: true, for every input.
-/
import Derived.Test.YtlljlmokikgghaaFnExactSharesOfBk2
namespace Go.Am
open Go.Proofs
set_option linter.unusedSimpArgs false
set_option linter.unusedVariables false

set_option maxHeartbeats 4000000 in
set_option maxRecDepth 10000 in
theorem fnExactSharesOf_ret (p : Int) (xs : List Int) (v : Value) (h : AHeap) (hv : Ints h v xs) (hl : xs.length ≤ 9223372036854775807) : Ret Try.prog 8 [.agg #[i64 p, v]] h (.bool true) h := by
  refine ret_of (.prim rfl) ?_
  refine tri_of_body Try.func8 rfl (by kernel_rfl) (by show 1 ≤ 117; decide) ?_
  refine awp_seq ?_
  refine awp_region rfl ?_
  refine a_do rfl (o_boxN (n := 2) (by conv => lhs; whnf) (by exact (rfl : _ = [_, _])) (by rfl) (fun k2 hk2 => ?_))
  try simp at hk2
  refine a_do rfl (o_assign (by conv => lhs; whnf) ?_)
  refine a_end ?_
  refine awp_seq ?_
  refine awp_region rfl ?_
  refine a_do rfl (o_assign (by conv => lhs; whnf) ?_)
  refine a_end ?_
  refine awp_seq ?_
  refine awp_region rfl ?_
  refine a_do rfl (o_loadAgg Try.underlying24 rfl ty24 (by conv => lhs; whnf) (by repeat (first | assumption | exact lk_last (by (try simp only [List.length_append, List.length_cons, List.length_nil, List.length_set]); omega) | apply lk_prev)) (by rfl) (by exact (rfl : _ = [_, _])) (by rfl) ?_)
  refine a_do rfl (o_move (by conv => lhs; whnf) ?_)
  refine a_do rfl (o_callF (lmap_cons (by conv => lhs; whnf) (lmap_cons (by conv => lhs; whnf) lmap_nil)) (Ret.to (szWorths_ret _ _ _ _ _ (by repeat (first | assumption | exact ints_nil | exact Ints.own (by repeat (first | assumption | exact lk_last (by (try simp only [List.length_append, List.length_cons, List.length_nil, List.length_set]); omega) | apply lk_prev)) (by first | rfl | exact upto_len | assumption | exact map_len) | apply Ints.app | (refine Ints.sub (by repeat (first | assumption | apply Ints.app)) (by omega) (by omega) (by omega)))) (by omega) (by omega) (by omega)) ?_))
  refine a_do rfl (o_assign (by conv => lhs; whnf) ?_)
  refine a_end ?_
  refine awp_seq ?_
  refine awp_seq ?_
  refine awp_region rfl ?_
  refine a_do rfl (o_move (by conv => lhs; whnf) ?_)
  refine a_do rfl (o_lss (by conv => lhs; whnf) (by conv => lhs; whnf) (fun c3 => ?_) (fun c3 => ?_))
  ·
    refine a_end ?_
    refine awp_condT (by conv => lhs; whnf) ?_
    refine awp_seq ?_
    refine awp_region rfl ?_
    refine a_do rfl (o_assign (by conv => lhs; whnf) ?_)
    refine a_end ?_
    refine awp_ret ?_
    refine ⟨.inl rfl, [_], ⟨ares_tmp (by conv => lhs; whnf), trivial⟩, ?_⟩
    exact ⟨by first | rfl | (exfalso; omega) | (exfalso; simp_all; done), (by repeat (first | exact Grown.refl _ | refine Grown.push ?_ _))⟩
  ·
    have hz := szL_spec c3
    refine a_end ?_
    refine awp_condF (by conv => lhs; whnf) ?_
    refine awp_skip ?_
    refine awp_seq ?_
    refine awp_region rfl ?_
    refine a_do rfl (o_loadAgg Try.underlying24 rfl ty24 (by conv => lhs; whnf) (by repeat (first | assumption | exact lk_last (by (try simp only [List.length_append, List.length_cons, List.length_nil, List.length_set]); omega) | apply lk_prev)) (by rfl) (by exact (rfl : _ = [_, _])) (by rfl) ?_)
    refine a_do rfl (o_callF (lmap_cons (by conv => lhs; whnf) lmap_nil) (RetN.toN (toWorths_ret _ _ _ _ (by repeat (first | assumption | exact ints_nil | exact Ints.own (by repeat (first | assumption | exact lk_last (by (try simp only [List.length_append, List.length_cons, List.length_nil, List.length_set]); omega) | apply lk_prev)) (by first | rfl | exact upto_len | assumption | exact map_len) | apply Ints.app | (refine Ints.sub (by repeat (first | assumption | apply Ints.app)) (by omega) (by omega) (by omega)))) (by omega)) (fun k4 hk4 hgk4 => ?_)))
    try simp at hk4
    have hIk4 := Ints.own hgk4 rfl
    rcases Bool.eq_false_or_eq_true (isW 10000 p xs) with hok | hok
    ·
      refine a_do rfl (o_callF (lmap_cons (by conv => lhs; whnf) lmap_nil) (RetN.toN ((specSharesOf_ret _ _ _ _ (by repeat (first | assumption | exact ints_nil | exact Ints.own (by repeat (first | assumption | exact lk_last (by (try simp only [List.length_append, List.length_cons, List.length_nil, List.length_set]); omega) | apply lk_prev)) (by first | rfl | exact upto_len | assumption | exact map_len) | apply Ints.app | (refine Ints.sub (by repeat (first | assumption | apply Ints.app)) (by omega) (by omega) (by omega)))) (by omega)).1 hok) (fun k5 hk5 hgk5 => ?_)))
      try simp at hk5
      have hGk5 := isW_get hok
      have hlnk5 : (shL p xs).length = p.toNat := shL_len
      have hIk5 := Ints.own hgk5 hlnk5
      refine a_do rfl (o_move (by conv => lhs; whnf) ?_)
      refine a_do rfl (o_extract (by conv => lhs; whnf) rfl ?_)
      refine a_do rfl (o_extract (by conv => lhs; whnf) rfl ?_)
      refine a_do rfl (o_extract (by conv => lhs; whnf) rfl ?_)
      refine a_do rfl (o_assign (by conv => lhs; whnf) ?_)
      refine a_do rfl (o_assign (by conv => lhs; whnf) ?_)
      refine a_do rfl (o_assign (by conv => lhs; whnf) ?_)
      refine a_end ?_
      refine awp_seq ?_
      refine awp_region rfl ?_
      refine a_do rfl (o_loadAgg Try.underlying24 rfl ty24 (by conv => lhs; whnf) (by repeat (first | assumption | exact lk_last (by (try simp only [List.length_append, List.length_cons, List.length_nil, List.length_set]); omega) | apply lk_prev)) (by rfl) (by exact (rfl : _ = [_, _])) (by rfl) ?_)
      refine a_do rfl (o_callF (lmap_cons (by conv => lhs; whnf) lmap_nil) (RetN.toN (toWorths_ret _ _ _ _ (by repeat (first | assumption | exact ints_nil | exact Ints.own (by repeat (first | assumption | exact lk_last (by (try simp only [List.length_append, List.length_cons, List.length_nil, List.length_set]); omega) | apply lk_prev)) (by first | rfl | exact upto_len | assumption | exact map_len) | apply Ints.app | (refine Ints.sub (by repeat (first | assumption | apply Ints.app)) (by omega) (by omega) (by omega)))) (by omega)) (fun k6 hk6 hgk6 => ?_)))
      try simp at hk6
      have hIk6 := Ints.own hgk6 rfl
      refine a_do rfl (o_allocN (n := 2) ty28 rfl (by exact (rfl : _ = [_, _])) (by rfl) (fun k7 hk7 => ?_))
      try simp at hk7
      refine a_do rfl (o_storeVAgg ty28 (by conv => lhs; whnf) (by repeat (first | assumption | exact lk_last (by (try simp only [List.length_append, List.length_cons, List.length_nil, List.length_set]); omega) | apply lk_prev)) (by rfl) (by rfl) (by rfl) (by conv => lhs; whnf) (by rfl) (by rfl) (by first | rfl | exact one2 (by assumption)) (by first | exact (rfl : _ = [_]) | exact (rfl : _ = [_, _]) | exact (rfl : _ = [_, _, _]) | exact (rfl : _ = [_, _, _, _]) | rfl) (by repeat (first | exact set_last (by (try simp only [List.length_append, List.length_cons, List.length_nil, List.length_set]); omega) | (apply set_step; (try simp only [List.length_append, List.length_cons, List.length_nil, List.length_set]); omega) | exact rfl)) ?_)
      refine a_end ?_
      refine awp_seq ?_
      refine awp_region rfl ?_
      refine a_do rfl (o_loadAgg Try.underlying28 rfl ty28 (by conv => lhs; whnf) (by repeat (first | assumption | exact lk_last (by (try simp only [List.length_append, List.length_cons, List.length_nil, List.length_set]); omega) | apply lk_prev)) (by rfl) (by exact (rfl : _ = [_, _])) (by rfl) ?_)
      refine a_do rfl (o_callF (lmap_cons (by conv => lhs; whnf) lmap_nil) (RetN.toN ((implSharesOf_ret _ _ _ _ (by repeat (first | assumption | exact ints_nil | exact Ints.own (by repeat (first | assumption | exact lk_last (by (try simp only [List.length_append, List.length_cons, List.length_nil, List.length_set]); omega) | apply lk_prev)) (by first | rfl | exact upto_len | assumption | exact map_len) | apply Ints.app | (refine Ints.sub (by repeat (first | assumption | apply Ints.app)) (by omega) (by omega) (by omega)))) (by omega)).1 hok) (fun k8 hk8 hgk8 => ?_)))
      try simp at hk8
      have hGk8 := isW_get hok
      have hlnk8 : (shL p xs).length = p.toNat := shL_len
      have hIk8 := Ints.own hgk8 hlnk8
      refine a_do rfl (o_move (by conv => lhs; whnf) ?_)
      refine a_do rfl (o_extract (by conv => lhs; whnf) rfl ?_)
      refine a_do rfl (o_extract (by conv => lhs; whnf) rfl ?_)
      refine a_do rfl (o_extract (by conv => lhs; whnf) rfl ?_)
      refine a_do rfl (o_assign (by conv => lhs; whnf) ?_)
      refine a_do rfl (o_assign (by conv => lhs; whnf) ?_)
      refine a_do rfl (o_assign (by conv => lhs; whnf) ?_)
      refine a_end ?_
      refine awp_seq ?_
      refine awp_seq ?_
      refine awp_region rfl ?_
      refine a_do rfl (o_move (by conv => lhs; whnf) ?_)
      refine a_do rfl (o_move (by conv => lhs; whnf) ?_)
      refine a_do rfl (o_callF (lmap_cons (by conv => lhs; whnf) (lmap_cons (by conv => lhs; whnf) lmap_nil)) (Ret.toB (eqInt64S_ret _ _ _ _ _ (by repeat (first | assumption | exact ints_nil | exact Ints.own (by repeat (first | assumption | exact lk_last (by (try simp only [List.length_append, List.length_cons, List.length_nil, List.length_set]); omega) | apply lk_prev)) (by first | rfl | exact upto_len | assumption | exact map_len) | apply Ints.app | (refine Ints.sub (by repeat (first | assumption | apply Ints.app)) (by omega) (by omega) (by omega)))) (by repeat (first | assumption | exact ints_nil | exact Ints.own (by repeat (first | assumption | exact lk_last (by (try simp only [List.length_append, List.length_cons, List.length_nil, List.length_set]); omega) | apply lk_prev)) (by first | rfl | exact upto_len | assumption | exact map_len) | apply Ints.app | (refine Ints.sub (by repeat (first | assumption | apply Ints.app)) (by omega) (by omega) (by omega)))) (by first | omega | (simp; done))) (fun c9 => ?_) (fun c9 => ?_)))
      ·
        refine a_do rfl (o_notT (by conv => lhs; whnf) ?_)
        refine a_do rfl (o_move (by conv => lhs; whnf) ?_)
        refine a_do rfl (o_move (by conv => lhs; whnf) ?_)
        refine a_do rfl (o_move (by conv => lhs; whnf) ?_)
        refine a_do rfl (o_neq (by conv => lhs; whnf) (by conv => lhs; whnf) (fun c10 => ?_) (fun c10 => ?_))
        ·
          refine a_do rfl (o_pickF (by conv => lhs; whnf) (by conv => lhs; whnf) ?_)
          refine a_do rfl (o_move (by conv => lhs; whnf) ?_)
          refine a_no rfl ?_
          refine a_no rfl ?_
          refine a_no rfl ?_
          refine a_do rfl (o_pickT (by conv => lhs; whnf) (by conv => lhs; whnf) ?_)
          refine a_end ?_
          refine awp_condT (by conv => lhs; whnf) ?_
          refine awp_seq ?_
          refine awp_region rfl ?_
          refine a_do rfl (o_assign (by conv => lhs; whnf) ?_)
          refine a_end ?_
          refine awp_ret ?_
          refine ⟨.inl rfl, [_], ⟨ares_tmp (by conv => lhs; whnf), trivial⟩, ?_⟩
          exact ⟨by first | rfl | (exfalso; omega) | (exfalso; simp_all; done), (by repeat (first | exact Grown.refl _ | refine Grown.push ?_ _))⟩
        ·
          refine a_do rfl (o_pickF (by conv => lhs; whnf) (by conv => lhs; whnf) ?_)
          refine a_do rfl (o_move (by conv => lhs; whnf) ?_)
          refine a_do rfl (o_move (by conv => lhs; whnf) ?_)
          refine a_do rfl (o_move (by conv => lhs; whnf) ?_)
          refine a_do rfl (o_boolNeL (b := false) Try.underlying4 (by conv => lhs; whnf) (by conv => lhs; whnf) (by rfl) ?_)
          refine a_do rfl (o_pickF (by conv => lhs; whnf) (by conv => lhs; whnf) ?_)
          refine a_end ?_
          refine awp_condF (by conv => lhs; whnf) ?_
          refine awp_skip ?_
          refine awp_seq ?_
          refine awp_seq ?_
          refine awp_draw Try_mixed (by kernel_rfl) rfl ?_
          refine d_do rfl (o_loadAgg Try.underlying28 rfl ty28 (by conv => lhs; whnf) (by repeat (first | assumption | exact lk_last (by (try simp only [List.length_append, List.length_cons, List.length_nil, List.length_set]); omega) | apply lk_prev)) (by rfl) (by exact (rfl : _ = [_, _])) (by rfl) ⟨rfl, rfl⟩) (by first | exact .prim rfl | exact Within.mono ‹Within _ (Value.func _ _ _)› (by (try simp only [List.length_append, List.length_cons, List.length_nil, List.length_set]); omega) | (apply within_sub; apply Ints.within; repeat (first | assumption | apply Ints.app)) | (apply within_ptr; repeat (first | assumption | exact lk_last (by (try simp only [List.length_append, List.length_cons, List.length_nil, List.length_set]); omega) | apply lk_prev)) | (apply within_sl; repeat (first | assumption | exact lk_last (by (try simp only [List.length_append, List.length_cons, List.length_nil, List.length_set]); omega) | apply lk_prev)) | (apply Within.agg3 <;> (first | exact .prim rfl | (apply within_ptr; repeat (first | assumption | exact lk_last (by (try simp only [List.length_append, List.length_cons, List.length_nil, List.length_set]); omega) | apply lk_prev)) | (apply within_sl; repeat (first | assumption | exact lk_last (by (try simp only [List.length_append, List.length_cons, List.length_nil, List.length_set]); omega) | apply lk_prev)) | ((try apply within_sub); apply Ints.within; repeat (first | assumption | apply Ints.app)))) | (apply Within.agg2 <;> (first | exact .prim rfl | (apply within_ptr; repeat (first | assumption | exact lk_last (by (try simp only [List.length_append, List.length_cons, List.length_nil, List.length_set]); omega) | apply lk_prev)) | (apply within_sl; repeat (first | assumption | exact lk_last (by (try simp only [List.length_append, List.length_cons, List.length_nil, List.length_set]); omega) | apply lk_prev)) | ((try apply within_sub); apply Ints.within; repeat (first | assumption | apply Ints.app)))) | (apply Ints.within; repeat (first | assumption | apply Ints.app))) ?_
          refine d_do rfl (o_loadAgg Try.underlying24 rfl ty24 (by conv => lhs; whnf) (by repeat (first | assumption | exact lk_last (by (try simp only [List.length_append, List.length_cons, List.length_nil, List.length_set]); omega) | apply lk_prev)) (by rfl) (by exact (rfl : _ = [_, _])) (by rfl) ⟨rfl, rfl⟩) (by first | exact .prim rfl | exact Within.mono ‹Within _ (Value.func _ _ _)› (by (try simp only [List.length_append, List.length_cons, List.length_nil, List.length_set]); omega) | (apply within_sub; apply Ints.within; repeat (first | assumption | apply Ints.app)) | (apply within_ptr; repeat (first | assumption | exact lk_last (by (try simp only [List.length_append, List.length_cons, List.length_nil, List.length_set]); omega) | apply lk_prev)) | (apply within_sl; repeat (first | assumption | exact lk_last (by (try simp only [List.length_append, List.length_cons, List.length_nil, List.length_set]); omega) | apply lk_prev)) | (apply Within.agg3 <;> (first | exact .prim rfl | (apply within_ptr; repeat (first | assumption | exact lk_last (by (try simp only [List.length_append, List.length_cons, List.length_nil, List.length_set]); omega) | apply lk_prev)) | (apply within_sl; repeat (first | assumption | exact lk_last (by (try simp only [List.length_append, List.length_cons, List.length_nil, List.length_set]); omega) | apply lk_prev)) | ((try apply within_sub); apply Ints.within; repeat (first | assumption | apply Ints.app)))) | (apply Within.agg2 <;> (first | exact .prim rfl | (apply within_ptr; repeat (first | assumption | exact lk_last (by (try simp only [List.length_append, List.length_cons, List.length_nil, List.length_set]); omega) | apply lk_prev)) | (apply within_sl; repeat (first | assumption | exact lk_last (by (try simp only [List.length_append, List.length_cons, List.length_nil, List.length_set]); omega) | apply lk_prev)) | ((try apply within_sub); apply Ints.within; repeat (first | assumption | apply Ints.app)))) | (apply Ints.within; repeat (first | assumption | apply Ints.app))) ?_
          refine d_callN rfl (lmap_cons (by conv => lhs; whnf) lmap_nil) (toWorths_ret _ _ _ _ (by repeat (first | assumption | exact ints_nil | exact Ints.own (by repeat (first | assumption | exact lk_last (by (try simp only [List.length_append, List.length_cons, List.length_nil, List.length_set]); omega) | apply lk_prev)) (by first | rfl | exact upto_len | assumption | exact map_len) | apply Ints.app | (refine Ints.sub (by repeat (first | assumption | apply Ints.app)) (by omega) (by omega) (by omega)))) (by omega)) (by exact .agg2 (.prim rfl) (.slice (by (try simp only [List.length_append, List.length_cons, List.length_nil, List.length_set]); omega))) (by simp [lst, isPrim]) (fun k11 hk11 hgk11 => ?_)
          try simp at hk11
          have hIk11 := Ints.own hgk11 rfl
          refine d_callB rfl (lmap_cons (by conv => lhs; whnf) (lmap_cons (by conv => lhs; whnf) lmap_nil)) (eqWorths_ret _ _ _ _ _ _ _ (by repeat (first | assumption | exact ints_nil | exact Ints.own (by repeat (first | assumption | exact lk_last (by (try simp only [List.length_append, List.length_cons, List.length_nil, List.length_set]); omega) | apply lk_prev)) (by first | rfl | exact upto_len | assumption | exact map_len) | apply Ints.app | (refine Ints.sub (by repeat (first | assumption | apply Ints.app)) (by omega) (by omega) (by omega)))) (by repeat (first | assumption | exact ints_nil | exact Ints.own (by repeat (first | assumption | exact lk_last (by (try simp only [List.length_append, List.length_cons, List.length_nil, List.length_set]); omega) | apply lk_prev)) (by first | rfl | exact upto_len | assumption | exact map_len) | apply Ints.app | (refine Ints.sub (by repeat (first | assumption | apply Ints.app)) (by omega) (by omega) (by omega)))) (by first | omega | (simp; done))) (fun c12 => ?_) (fun c12 => ?_)
          ·
            refine d_do rfl (o_notT (by conv => lhs; whnf) ⟨rfl, rfl⟩) (by first | exact .prim rfl | exact Within.mono ‹Within _ (Value.func _ _ _)› (by (try simp only [List.length_append, List.length_cons, List.length_nil, List.length_set]); omega) | (apply within_sub; apply Ints.within; repeat (first | assumption | apply Ints.app)) | (apply within_ptr; repeat (first | assumption | exact lk_last (by (try simp only [List.length_append, List.length_cons, List.length_nil, List.length_set]); omega) | apply lk_prev)) | (apply within_sl; repeat (first | assumption | exact lk_last (by (try simp only [List.length_append, List.length_cons, List.length_nil, List.length_set]); omega) | apply lk_prev)) | (apply Within.agg3 <;> (first | exact .prim rfl | (apply within_ptr; repeat (first | assumption | exact lk_last (by (try simp only [List.length_append, List.length_cons, List.length_nil, List.length_set]); omega) | apply lk_prev)) | (apply within_sl; repeat (first | assumption | exact lk_last (by (try simp only [List.length_append, List.length_cons, List.length_nil, List.length_set]); omega) | apply lk_prev)) | ((try apply within_sub); apply Ints.within; repeat (first | assumption | apply Ints.app)))) | (apply Within.agg2 <;> (first | exact .prim rfl | (apply within_ptr; repeat (first | assumption | exact lk_last (by (try simp only [List.length_append, List.length_cons, List.length_nil, List.length_set]); omega) | apply lk_prev)) | (apply within_sl; repeat (first | assumption | exact lk_last (by (try simp only [List.length_append, List.length_cons, List.length_nil, List.length_set]); omega) | apply lk_prev)) | ((try apply within_sub); apply Ints.within; repeat (first | assumption | apply Ints.app)))) | (apply Ints.within; repeat (first | assumption | apply Ints.app))) ?_
            refine d_end ?_
            refine awp_condF (by conv => lhs; whnf) ?_
            refine awp_skip ?_
            refine awp_seq ?_
            refine awp_region rfl ?_
            refine a_do rfl (o_assign (by conv => lhs; whnf) ?_)
            refine a_end ?_
            refine awp_seq ?_
            refine awp_region rfl ?_
            refine a_do rfl (o_loadAgg Try.underlying28 rfl ty28 (by conv => lhs; whnf) (by repeat (first | assumption | exact lk_last (by (try simp only [List.length_append, List.length_cons, List.length_nil, List.length_set]); omega) | apply lk_prev)) (by rfl) (by exact (rfl : _ = [_, _])) (by rfl) ?_)
            refine a_do rfl (o_move (by conv => lhs; whnf) ?_)
            refine a_do rfl (o_callF (lmap_cons (by conv => lhs; whnf) (lmap_cons (by conv => lhs; whnf) lmap_nil)) (Ret.to (Ret.heap (markWorths_ret _ _ _ _ _ _ (by repeat (first | assumption | exact lk_last (by (try simp only [List.length_append, List.length_cons, List.length_nil, List.length_set]); omega) | apply lk_prev)) (by first | rfl | exact upto_len | assumption | exact map_len) (by omega) (by omega)) (by repeat (first | exact set_last (by (try simp only [List.length_append, List.length_cons, List.length_nil, List.length_set]); omega) | (apply set_step; (try simp only [List.length_append, List.length_cons, List.length_nil, List.length_set]); omega) | exact rfl))) ?_))
            refine a_do rfl (o_assign (by conv => lhs; whnf) ?_)
            refine a_end ?_
            refine awp_seq ?_
            refine awp_seq ?_
            refine awp_region rfl ?_
            refine a_do rfl (o_move (by conv => lhs; whnf) ?_)
            refine a_do rfl (o_lss (by conv => lhs; whnf) (by conv => lhs; whnf) (fun c13 => ?_) (fun c13 => ?_))
            ·
              refine a_do rfl (o_move (by conv => lhs; whnf) ?_)
              refine a_no rfl ?_
              refine a_no rfl ?_
              refine a_no rfl ?_
              refine a_no rfl ?_
              refine a_do rfl (o_pickT (by conv => lhs; whnf) (by conv => lhs; whnf) ?_)
              refine a_do rfl (o_move (by conv => lhs; whnf) ?_)
              refine a_no rfl ?_
              refine a_no rfl ?_
              refine a_no rfl ?_
              refine a_do rfl (o_pickT (by conv => lhs; whnf) (by conv => lhs; whnf) ?_)
              refine a_do rfl (o_move (by conv => lhs; whnf) ?_)
              refine a_no rfl ?_
              refine a_no rfl ?_
              refine a_no rfl ?_
              refine a_do rfl (o_pickT (by conv => lhs; whnf) (by conv => lhs; whnf) ?_)
              refine a_end ?_
              refine awp_condT (by conv => lhs; whnf) ?_
              refine awp_seq ?_
              refine awp_region rfl ?_
              refine a_do rfl (o_assign (by conv => lhs; whnf) ?_)
              refine a_end ?_
              refine awp_ret ?_
              refine ⟨.inl rfl, [_], ⟨ares_tmp (by conv => lhs; whnf), trivial⟩, ?_⟩
              exact ⟨by first | rfl | (exfalso; omega) | (exfalso; simp_all; done), (by repeat (first | exact Grown.refl _ | refine Grown.push ?_ _))⟩
            ·
              refine a_do rfl (o_move (by conv => lhs; whnf) ?_)
              refine a_do rfl (o_move (by conv => lhs; whnf) ?_)
              refine a_do rfl (o_move (by conv => lhs; whnf) ?_)
              refine a_do rfl (o_callF (lmap_cons (by conv => lhs; whnf) (lmap_cons (by conv => lhs; whnf) lmap_nil)) (Ret.toB (eqInt64S_ret _ _ _ _ _ (by repeat (first | assumption | exact ints_nil | exact Ints.own (by repeat (first | assumption | exact lk_last (by (try simp only [List.length_append, List.length_cons, List.length_nil, List.length_set]); omega) | apply lk_prev)) (by first | rfl | exact upto_len | assumption | exact map_len) | apply Ints.app | (refine Ints.sub (by repeat (first | assumption | apply Ints.app)) (by omega) (by omega) (by omega)))) (by repeat (first | assumption | exact ints_nil | exact Ints.own (by repeat (first | assumption | exact lk_last (by (try simp only [List.length_append, List.length_cons, List.length_nil, List.length_set]); omega) | apply lk_prev)) (by first | rfl | exact upto_len | assumption | exact map_len) | apply Ints.app | (refine Ints.sub (by repeat (first | assumption | apply Ints.app)) (by omega) (by omega) (by omega)))) (by first | omega | (simp; done))) (fun c14 => ?_) (fun c14 => ?_)))
              ·
                refine a_do rfl (o_notT (by conv => lhs; whnf) ?_)
                refine a_do rfl (o_pickF (by conv => lhs; whnf) (by conv => lhs; whnf) ?_)
                refine a_do rfl (o_move (by conv => lhs; whnf) ?_)
                refine a_do rfl (o_move (by conv => lhs; whnf) ?_)
                refine a_do rfl (o_move (by conv => lhs; whnf) ?_)
                refine a_do rfl (o_neq (by conv => lhs; whnf) (by conv => lhs; whnf) (fun c15 => ?_) (fun c15 => ?_))
                ·
                  refine a_do rfl (o_pickF (by conv => lhs; whnf) (by conv => lhs; whnf) ?_)
                  refine a_do rfl (o_move (by conv => lhs; whnf) ?_)
                  refine a_no rfl ?_
                  refine a_no rfl ?_
                  refine a_no rfl ?_
                  refine a_do rfl (o_pickT (by conv => lhs; whnf) (by conv => lhs; whnf) ?_)
                  refine a_end ?_
                  refine awp_condT (by conv => lhs; whnf) ?_
                  refine awp_seq ?_
                  refine awp_region rfl ?_
                  refine a_do rfl (o_assign (by conv => lhs; whnf) ?_)
                  refine a_end ?_
                  refine awp_ret ?_
                  refine ⟨.inl rfl, [_], ⟨ares_tmp (by conv => lhs; whnf), trivial⟩, ?_⟩
                  exact ⟨by first | rfl | (exfalso; omega) | (exfalso; simp_all; done), (by repeat (first | exact Grown.refl _ | refine Grown.push ?_ _))⟩
                ·
                  refine a_do rfl (o_pickF (by conv => lhs; whnf) (by conv => lhs; whnf) ?_)
                  refine a_do rfl (o_move (by conv => lhs; whnf) ?_)
                  refine a_do rfl (o_move (by conv => lhs; whnf) ?_)
                  refine a_do rfl (o_move (by conv => lhs; whnf) ?_)
                  refine a_do rfl (o_boolNeL (b := false) Try.underlying4 (by conv => lhs; whnf) (by conv => lhs; whnf) (by rfl) ?_)
                  refine a_do rfl (o_pickF (by conv => lhs; whnf) (by conv => lhs; whnf) ?_)
                  refine a_end ?_
                  refine awp_condF (by conv => lhs; whnf) ?_
                  refine awp_skip ?_
                  refine awp_seq ?_
                  refine awp_region rfl ?_
                  refine a_do rfl (o_assign (by conv => lhs; whnf) ?_)
                  refine a_end ?_
                  refine awp_seq ?_
                  refine awp_region rfl ?_
                  refine a_do rfl (o_move (by conv => lhs; whnf) ?_)
                  refine a_do rfl (o_move (by conv => lhs; whnf) ?_)
                  refine a_do rfl (o_callF (lmap_cons (by conv => lhs; whnf) (lmap_cons (by conv => lhs; whnf) lmap_nil)) (Ret.to (Ret.heap (markInt64S_ret _ _ _ _ _ (by repeat (first | assumption | exact lk_last (by (try simp only [List.length_append, List.length_cons, List.length_nil, List.length_set]); omega) | apply lk_prev)) (by first | rfl | exact upto_len | assumption | exact map_len) (by omega) (by omega)) (by repeat (first | exact set_last (by (try simp only [List.length_append, List.length_cons, List.length_nil, List.length_set]); omega) | (apply set_step; (try simp only [List.length_append, List.length_cons, List.length_nil, List.length_set]); omega) | exact rfl))) ?_))
                  refine a_do rfl (o_assign (by conv => lhs; whnf) ?_)
                  refine a_end ?_
                  refine awp_seq ?_
                  refine awp_region rfl ?_
                  refine a_do rfl (o_assign (by conv => lhs; whnf) ?_)
                  refine a_end ?_
                  refine awp_seq ?_
                  refine awp_region rfl ?_
                  refine a_do rfl (o_move (by conv => lhs; whnf) ?_)
                  refine a_do rfl (o_move (by conv => lhs; whnf) ?_)
                  refine a_do rfl (o_callF (lmap_cons (by conv => lhs; whnf) (lmap_cons (by conv => lhs; whnf) lmap_nil)) (Ret.to (heldU_ret _ _ _ _ (by repeat (first | assumption | exact ints_nil | exact Ints.own (by repeat (first | assumption | exact lk_last (by (try simp only [List.length_append, List.length_cons, List.length_nil, List.length_set]); omega) | apply lk_prev)) (by first | rfl | exact upto_len | assumption | exact map_len) | apply Ints.app | (refine Ints.sub (by repeat (first | assumption | apply Ints.app)) (by omega) (by omega) (by omega)))) (by omega) (by omega)) ?_))
                  refine a_do rfl (o_assign (by conv => lhs; whnf) ?_)
                  refine a_end ?_
                  refine awp_seq ?_
                  refine awp_seq ?_
                  refine awp_region rfl ?_
                  refine a_do rfl (o_move (by conv => lhs; whnf) ?_)
                  refine a_do rfl (o_lss (by conv => lhs; whnf) (by conv => lhs; whnf) (fun c16 => ?_) (fun c16 => ?_))
                  ·
                    refine a_end ?_
                    refine awp_condT (by conv => lhs; whnf) ?_
                    refine awp_seq ?_
                    refine awp_region rfl ?_
                    refine a_do rfl (o_assign (by conv => lhs; whnf) ?_)
                    refine a_end ?_
                    refine awp_ret ?_
                    refine ⟨.inl rfl, [_], ⟨ares_tmp (by conv => lhs; whnf), trivial⟩, ?_⟩
                    exact ⟨by first | rfl | (exfalso; omega) | (exfalso; simp_all; done), (by repeat (first | exact Grown.refl _ | refine Grown.push ?_ _))⟩
                  ·
                    refine a_end ?_
                    refine awp_condF (by conv => lhs; whnf) ?_
                    refine awp_skip ?_
                    refine awp_seq ?_
                    refine awp_seq ?_
                    refine awp_region rfl ?_
                    refine a_do rfl (o_move (by conv => lhs; whnf) ?_)
                    refine a_do rfl (o_move (by conv => lhs; whnf) ?_)
                    refine a_do rfl (o_neq (by conv => lhs; whnf) (by conv => lhs; whnf) (fun c17 => ?_) (fun c17 => ?_))
                    ·
                      refine a_end ?_
                      refine awp_condT (by conv => lhs; whnf) ?_
                      refine awp_seq ?_
                      refine awp_region rfl ?_
                      refine a_do rfl (o_assign (by conv => lhs; whnf) ?_)
                      refine a_end ?_
                      refine awp_ret ?_
                      refine ⟨.inl rfl, [_], ⟨ares_tmp (by conv => lhs; whnf), trivial⟩, ?_⟩
                      exact ⟨by first | rfl | (exfalso; omega) | (exfalso; simp_all; done), (by repeat (first | exact Grown.refl _ | refine Grown.push ?_ _))⟩
                    ·
                      refine a_end ?_
                      refine awp_condF (by conv => lhs; whnf) ?_
                      refine awp_skip ?_
                      refine awp_seq ?_
                      refine awp_region rfl ?_
                      refine a_do rfl (o_loadAgg Try.underlying24 rfl ty24 (by conv => lhs; whnf) (by repeat (first | assumption | exact lk_last (by (try simp only [List.length_append, List.length_cons, List.length_nil, List.length_set]); omega) | apply lk_prev)) (by rfl) (by exact (rfl : _ = [_, _])) (by rfl) ?_)
                      refine a_do rfl (o_callF (lmap_cons (by conv => lhs; whnf) lmap_nil) (RetN.toN (toWorths_ret _ _ _ _ (by repeat (first | assumption | exact ints_nil | exact Ints.own (by repeat (first | assumption | exact lk_last (by (try simp only [List.length_append, List.length_cons, List.length_nil, List.length_set]); omega) | apply lk_prev)) (by first | rfl | exact upto_len | assumption | exact map_len) | apply Ints.app | (refine Ints.sub (by repeat (first | assumption | apply Ints.app)) (by omega) (by omega) (by omega)))) (by omega)) (fun k18 hk18 hgk18 => ?_)))
                      try simp at hk18
                      have hIk18 := Ints.own hgk18 rfl
                      refine a_do rfl (o_callF (lmap_cons (by conv => lhs; whnf) lmap_nil) (RetN.toN ((implSharesOf_ret _ _ _ _ (by repeat (first | assumption | exact ints_nil | exact Ints.own (by repeat (first | assumption | exact lk_last (by (try simp only [List.length_append, List.length_cons, List.length_nil, List.length_set]); omega) | apply lk_prev)) (by first | rfl | exact upto_len | assumption | exact map_len) | apply Ints.app | (refine Ints.sub (by repeat (first | assumption | apply Ints.app)) (by omega) (by omega) (by omega)))) (by omega)).1 hok) (fun k19 hk19 hgk19 => ?_)))
                      try simp at hk19
                      have hGk19 := isW_get hok
                      have hlnk19 : (shL p xs).length = p.toNat := shL_len
                      have hIk19 := Ints.own hgk19 hlnk19
                      refine a_do rfl (o_move (by conv => lhs; whnf) ?_)
                      refine a_do rfl (o_extract (by conv => lhs; whnf) rfl ?_)
                      refine a_do rfl (o_extract (by conv => lhs; whnf) rfl ?_)
                      refine a_do rfl (o_extract (by conv => lhs; whnf) rfl ?_)
                      refine a_do rfl (o_assign (by conv => lhs; whnf) ?_)
                      refine a_do rfl (o_assign (by conv => lhs; whnf) ?_)
                      refine a_do rfl (o_assign (by conv => lhs; whnf) ?_)
                      refine a_end ?_
                      refine awp_seq ?_
                      refine awp_seq ?_
                      refine awp_region rfl ?_
                      refine a_do rfl (o_move (by conv => lhs; whnf) ?_)
                      refine a_do rfl (o_move (by conv => lhs; whnf) ?_)
                      refine a_do rfl (o_callF (lmap_cons (by conv => lhs; whnf) (lmap_cons (by conv => lhs; whnf) lmap_nil)) (Ret.toB (eqInt64S_ret _ _ _ _ _ (by repeat (first | assumption | exact ints_nil | exact Ints.own (by repeat (first | assumption | exact lk_last (by (try simp only [List.length_append, List.length_cons, List.length_nil, List.length_set]); omega) | apply lk_prev)) (by first | rfl | exact upto_len | assumption | exact map_len) | apply Ints.app | (refine Ints.sub (by repeat (first | assumption | apply Ints.app)) (by omega) (by omega) (by omega)))) (by repeat (first | assumption | exact ints_nil | exact Ints.own (by repeat (first | assumption | exact lk_last (by (try simp only [List.length_append, List.length_cons, List.length_nil, List.length_set]); omega) | apply lk_prev)) (by first | rfl | exact upto_len | assumption | exact map_len) | apply Ints.app | (refine Ints.sub (by repeat (first | assumption | apply Ints.app)) (by omega) (by omega) (by omega)))) (by first | omega | (simp; done))) (fun c20 => ?_) (fun c20 => ?_)))
                      ·
                        refine a_do rfl (o_notT (by conv => lhs; whnf) ?_)
                        refine a_do rfl (o_move (by conv => lhs; whnf) ?_)
                        refine a_do rfl (o_move (by conv => lhs; whnf) ?_)
                        refine a_do rfl (o_move (by conv => lhs; whnf) ?_)
                        refine a_do rfl (o_neq (by conv => lhs; whnf) (by conv => lhs; whnf) (fun c21 => ?_) (fun c21 => ?_))
                        ·
                          refine a_do rfl (o_pickF (by conv => lhs; whnf) (by conv => lhs; whnf) ?_)
                          refine a_do rfl (o_move (by conv => lhs; whnf) ?_)
                          refine a_no rfl ?_
                          refine a_no rfl ?_
                          refine a_no rfl ?_
                          refine a_do rfl (o_pickT (by conv => lhs; whnf) (by conv => lhs; whnf) ?_)
                          refine a_end ?_
                          refine awp_condT (by conv => lhs; whnf) ?_
                          refine awp_seq ?_
                          refine awp_region rfl ?_
                          refine a_do rfl (o_assign (by conv => lhs; whnf) ?_)
                          refine a_end ?_
                          refine awp_ret ?_
                          refine ⟨.inl rfl, [_], ⟨ares_tmp (by conv => lhs; whnf), trivial⟩, ?_⟩
                          exact ⟨by first | rfl | (exfalso; omega) | (exfalso; simp_all; done), (by repeat (first | exact Grown.refl _ | refine Grown.push ?_ _))⟩
                        ·
                          refine a_do rfl (o_pickF (by conv => lhs; whnf) (by conv => lhs; whnf) ?_)
                          refine a_do rfl (o_move (by conv => lhs; whnf) ?_)
                          refine a_do rfl (o_move (by conv => lhs; whnf) ?_)
                          refine a_do rfl (o_move (by conv => lhs; whnf) ?_)
                          refine a_do rfl (o_boolNeL (b := false) Try.underlying4 (by conv => lhs; whnf) (by conv => lhs; whnf) (by rfl) ?_)
                          refine a_do rfl (o_pickF (by conv => lhs; whnf) (by conv => lhs; whnf) ?_)
                          refine a_end ?_
                          refine awp_condF (by conv => lhs; whnf) ?_
                          refine awp_skip ?_
                          refine awp_seq ?_
                          refine awp_region rfl ?_
                          refine a_do rfl (o_assign (by conv => lhs; whnf) ?_)
                          refine a_end ?_
                          refine awp_seq ?_
                          refine awp_region rfl ?_
                          refine a_do rfl (o_move (by conv => lhs; whnf) ?_)
                          refine a_do rfl (o_move (by conv => lhs; whnf) ?_)
                          refine a_do rfl (o_callF (lmap_cons (by conv => lhs; whnf) (lmap_cons (by conv => lhs; whnf) lmap_nil)) (Ret.to (heldU_ret _ _ _ _ (by repeat (first | assumption | exact ints_nil | exact Ints.own (by repeat (first | assumption | exact lk_last (by (try simp only [List.length_append, List.length_cons, List.length_nil, List.length_set]); omega) | apply lk_prev)) (by first | rfl | exact upto_len | assumption | exact map_len) | apply Ints.app | (refine Ints.sub (by repeat (first | assumption | apply Ints.app)) (by omega) (by omega) (by omega)))) (by omega) (by omega)) ?_))
                          refine a_do rfl (o_assign (by conv => lhs; whnf) ?_)
                          refine a_end ?_
                          refine awp_seq ?_
                          refine awp_seq ?_
                          refine awp_region rfl ?_
                          refine a_do rfl (o_move (by conv => lhs; whnf) ?_)
                          refine a_do rfl (o_lss (by conv => lhs; whnf) (by conv => lhs; whnf) (fun c22 => ?_) (fun c22 => ?_))
                          ·
                            refine a_end ?_
                            refine awp_condT (by conv => lhs; whnf) ?_
                            refine awp_seq ?_
                            refine awp_region rfl ?_
                            refine a_do rfl (o_assign (by conv => lhs; whnf) ?_)
                            refine a_end ?_
                            refine awp_ret ?_
                            refine ⟨.inl rfl, [_], ⟨ares_tmp (by conv => lhs; whnf), trivial⟩, ?_⟩
                            exact ⟨by first | rfl | (exfalso; omega) | (exfalso; simp_all; done), (by repeat (first | exact Grown.refl _ | refine Grown.push ?_ _))⟩
                          ·
                            refine a_end ?_
                            refine awp_condF (by conv => lhs; whnf) ?_
                            refine awp_skip ?_
                            refine awp_seq ?_
                            refine awp_seq ?_
                            refine awp_region rfl ?_
                            refine a_do rfl (o_move (by conv => lhs; whnf) ?_)
                            refine a_do rfl (o_move (by conv => lhs; whnf) ?_)
                            refine a_do rfl (o_neq (by conv => lhs; whnf) (by conv => lhs; whnf) (fun c23 => ?_) (fun c23 => ?_))
                            ·
                              refine a_end ?_
                              refine awp_condT (by conv => lhs; whnf) ?_
                              refine awp_seq ?_
                              refine awp_region rfl ?_
                              refine a_do rfl (o_assign (by conv => lhs; whnf) ?_)
                              refine a_end ?_
                              refine awp_ret ?_
                              refine ⟨.inl rfl, [_], ⟨ares_tmp (by conv => lhs; whnf), trivial⟩, ?_⟩
                              exact ⟨by first | rfl | (exfalso; omega) | (exfalso; simp_all; done), (by repeat (first | exact Grown.refl _ | refine Grown.push ?_ _))⟩
                            ·
                              refine a_end ?_
                              refine awp_condF (by conv => lhs; whnf) ?_
                              refine awp_skip ?_
                              refine awp_seq ?_
                              refine awp_region rfl ?_
                              refine a_do rfl (o_assign (by conv => lhs; whnf) ?_)
                              refine a_end ?_
                              refine awp_ret ?_
                              refine ⟨.inl rfl, [_], ⟨ares_tmp (by conv => lhs; whnf), trivial⟩, ?_⟩
                              exact ⟨by first | rfl | (exfalso; omega) | (exfalso; simp_all; done), (by repeat (first | exact Grown.refl _ | refine Grown.push ?_ _))⟩
                      ·
                        refine a_do rfl (o_notF (by conv => lhs; whnf) ?_)
                        refine a_do rfl (o_move (by conv => lhs; whnf) ?_)
                        refine a_no rfl ?_
                        refine a_no rfl ?_
                        refine a_no rfl ?_
                        refine a_do rfl (o_pickT (by conv => lhs; whnf) (by conv => lhs; whnf) ?_)
                        refine a_do rfl (o_move (by conv => lhs; whnf) ?_)
                        refine a_no rfl ?_
                        refine a_no rfl ?_
                        refine a_no rfl ?_
                        refine a_do rfl (o_pickT (by conv => lhs; whnf) (by conv => lhs; whnf) ?_)
                        refine a_end ?_
                        refine awp_condT (by conv => lhs; whnf) ?_
                        refine awp_seq ?_
                        refine awp_region rfl ?_
                        refine a_do rfl (o_assign (by conv => lhs; whnf) ?_)
                        refine a_end ?_
                        refine awp_ret ?_
                        refine ⟨.inl rfl, [_], ⟨ares_tmp (by conv => lhs; whnf), trivial⟩, ?_⟩
                        exact ⟨by first | rfl | (exfalso; omega) | (exfalso; simp_all; done), (by repeat (first | exact Grown.refl _ | refine Grown.push ?_ _))⟩
              ·
                refine a_do rfl (o_notF (by conv => lhs; whnf) ?_)
                refine a_do rfl (o_pickF (by conv => lhs; whnf) (by conv => lhs; whnf) ?_)
                refine a_do rfl (o_move (by conv => lhs; whnf) ?_)
                refine a_no rfl ?_
                refine a_no rfl ?_
                refine a_no rfl ?_
                refine a_do rfl (o_pickT (by conv => lhs; whnf) (by conv => lhs; whnf) ?_)
                refine a_do rfl (o_move (by conv => lhs; whnf) ?_)
                refine a_no rfl ?_
                refine a_no rfl ?_
                refine a_no rfl ?_
                refine a_do rfl (o_pickT (by conv => lhs; whnf) (by conv => lhs; whnf) ?_)
                refine a_end ?_
                refine awp_condT (by conv => lhs; whnf) ?_
                refine awp_seq ?_
                refine awp_region rfl ?_
                refine a_do rfl (o_assign (by conv => lhs; whnf) ?_)
                refine a_end ?_
                refine awp_ret ?_
                refine ⟨.inl rfl, [_], ⟨ares_tmp (by conv => lhs; whnf), trivial⟩, ?_⟩
                exact ⟨by first | rfl | (exfalso; omega) | (exfalso; simp_all; done), (by repeat (first | exact Grown.refl _ | refine Grown.push ?_ _))⟩
          ·
            refine d_do rfl (o_notF (by conv => lhs; whnf) ⟨rfl, rfl⟩) (by first | exact .prim rfl | exact Within.mono ‹Within _ (Value.func _ _ _)› (by (try simp only [List.length_append, List.length_cons, List.length_nil, List.length_set]); omega) | (apply within_sub; apply Ints.within; repeat (first | assumption | apply Ints.app)) | (apply within_ptr; repeat (first | assumption | exact lk_last (by (try simp only [List.length_append, List.length_cons, List.length_nil, List.length_set]); omega) | apply lk_prev)) | (apply within_sl; repeat (first | assumption | exact lk_last (by (try simp only [List.length_append, List.length_cons, List.length_nil, List.length_set]); omega) | apply lk_prev)) | (apply Within.agg3 <;> (first | exact .prim rfl | (apply within_ptr; repeat (first | assumption | exact lk_last (by (try simp only [List.length_append, List.length_cons, List.length_nil, List.length_set]); omega) | apply lk_prev)) | (apply within_sl; repeat (first | assumption | exact lk_last (by (try simp only [List.length_append, List.length_cons, List.length_nil, List.length_set]); omega) | apply lk_prev)) | ((try apply within_sub); apply Ints.within; repeat (first | assumption | apply Ints.app)))) | (apply Within.agg2 <;> (first | exact .prim rfl | (apply within_ptr; repeat (first | assumption | exact lk_last (by (try simp only [List.length_append, List.length_cons, List.length_nil, List.length_set]); omega) | apply lk_prev)) | (apply within_sl; repeat (first | assumption | exact lk_last (by (try simp only [List.length_append, List.length_cons, List.length_nil, List.length_set]); omega) | apply lk_prev)) | ((try apply within_sub); apply Ints.within; repeat (first | assumption | apply Ints.app)))) | (apply Ints.within; repeat (first | assumption | apply Ints.app))) ?_
            refine d_end ?_
            refine awp_condT (by conv => lhs; whnf) ?_
            refine awp_seq ?_
            refine awp_region rfl ?_
            refine a_do rfl (o_assign (by conv => lhs; whnf) ?_)
            refine a_end ?_
            refine awp_ret ?_
            refine ⟨.inl rfl, [_], ⟨ares_tmp (by conv => lhs; whnf), trivial⟩, ?_⟩
            exact ⟨by first | rfl | (exfalso; omega) | (exfalso; simp_all; done), (by repeat (first | exact Grown.refl _ | refine Grown.push ?_ _))⟩
      ·
        refine a_do rfl (o_notF (by conv => lhs; whnf) ?_)
        refine a_do rfl (o_move (by conv => lhs; whnf) ?_)
        refine a_no rfl ?_
        refine a_no rfl ?_
        refine a_no rfl ?_
        refine a_do rfl (o_pickT (by conv => lhs; whnf) (by conv => lhs; whnf) ?_)
        refine a_do rfl (o_move (by conv => lhs; whnf) ?_)
        refine a_no rfl ?_
        refine a_no rfl ?_
        refine a_no rfl ?_
        refine a_do rfl (o_pickT (by conv => lhs; whnf) (by conv => lhs; whnf) ?_)
        refine a_end ?_
        refine awp_condT (by conv => lhs; whnf) ?_
        refine awp_seq ?_
        refine awp_region rfl ?_
        refine a_do rfl (o_assign (by conv => lhs; whnf) ?_)
        refine a_end ?_
        refine awp_ret ?_
        refine ⟨.inl rfl, [_], ⟨ares_tmp (by conv => lhs; whnf), trivial⟩, ?_⟩
        exact ⟨by first | rfl | (exfalso; omega) | (exfalso; simp_all; done), (by repeat (first | exact Grown.refl _ | refine Grown.push ?_ _))⟩
    ·
      refine a_do rfl (o_callF (lmap_cons (by conv => lhs; whnf) lmap_nil) (Ret.to ((specSharesOf_ret _ _ _ _ (by repeat (first | assumption | exact ints_nil | exact Ints.own (by repeat (first | assumption | exact lk_last (by (try simp only [List.length_append, List.length_cons, List.length_nil, List.length_set]); omega) | apply lk_prev)) (by first | rfl | exact upto_len | assumption | exact map_len) | apply Ints.app | (refine Ints.sub (by repeat (first | assumption | apply Ints.app)) (by omega) (by omega) (by omega)))) (by omega)).2 hok) ?_))
      refine a_do rfl (o_move (by conv => lhs; whnf) ?_)
      refine a_do rfl (o_extract (by conv => lhs; whnf) rfl ?_)
      refine a_do rfl (o_extract (by conv => lhs; whnf) rfl ?_)
      refine a_do rfl (o_extract (by conv => lhs; whnf) rfl ?_)
      refine a_do rfl (o_assign (by conv => lhs; whnf) ?_)
      refine a_do rfl (o_assign (by conv => lhs; whnf) ?_)
      refine a_do rfl (o_assign (by conv => lhs; whnf) ?_)
      refine a_end ?_
      refine awp_seq ?_
      refine awp_region rfl ?_
      refine a_do rfl (o_loadAgg Try.underlying24 rfl ty24 (by conv => lhs; whnf) (by repeat (first | assumption | exact lk_last (by (try simp only [List.length_append, List.length_cons, List.length_nil, List.length_set]); omega) | apply lk_prev)) (by rfl) (by exact (rfl : _ = [_, _])) (by rfl) ?_)
      refine a_do rfl (o_callF (lmap_cons (by conv => lhs; whnf) lmap_nil) (RetN.toN (toWorths_ret _ _ _ _ (by repeat (first | assumption | exact ints_nil | exact Ints.own (by repeat (first | assumption | exact lk_last (by (try simp only [List.length_append, List.length_cons, List.length_nil, List.length_set]); omega) | apply lk_prev)) (by first | rfl | exact upto_len | assumption | exact map_len) | apply Ints.app | (refine Ints.sub (by repeat (first | assumption | apply Ints.app)) (by omega) (by omega) (by omega)))) (by omega)) (fun k24 hk24 hgk24 => ?_)))
      try simp at hk24
      have hIk24 := Ints.own hgk24 rfl
      refine a_do rfl (o_allocN (n := 2) ty28 rfl (by exact (rfl : _ = [_, _])) (by rfl) (fun k25 hk25 => ?_))
      try simp at hk25
      refine a_do rfl (o_storeVAgg ty28 (by conv => lhs; whnf) (by repeat (first | assumption | exact lk_last (by (try simp only [List.length_append, List.length_cons, List.length_nil, List.length_set]); omega) | apply lk_prev)) (by rfl) (by rfl) (by rfl) (by conv => lhs; whnf) (by rfl) (by rfl) (by first | rfl | exact one2 (by assumption)) (by first | exact (rfl : _ = [_]) | exact (rfl : _ = [_, _]) | exact (rfl : _ = [_, _, _]) | exact (rfl : _ = [_, _, _, _]) | rfl) (by repeat (first | exact set_last (by (try simp only [List.length_append, List.length_cons, List.length_nil, List.length_set]); omega) | (apply set_step; (try simp only [List.length_append, List.length_cons, List.length_nil, List.length_set]); omega) | exact rfl)) ?_)
      refine a_end ?_
      refine awp_seq ?_
      refine awp_region rfl ?_
      refine a_do rfl (o_loadAgg Try.underlying28 rfl ty28 (by conv => lhs; whnf) (by repeat (first | assumption | exact lk_last (by (try simp only [List.length_append, List.length_cons, List.length_nil, List.length_set]); omega) | apply lk_prev)) (by rfl) (by exact (rfl : _ = [_, _])) (by rfl) ?_)
      refine a_do rfl (o_callF (lmap_cons (by conv => lhs; whnf) lmap_nil) (Ret.to ((implSharesOf_ret _ _ _ _ (by repeat (first | assumption | exact ints_nil | exact Ints.own (by repeat (first | assumption | exact lk_last (by (try simp only [List.length_append, List.length_cons, List.length_nil, List.length_set]); omega) | apply lk_prev)) (by first | rfl | exact upto_len | assumption | exact map_len) | apply Ints.app | (refine Ints.sub (by repeat (first | assumption | apply Ints.app)) (by omega) (by omega) (by omega)))) (by omega)).2 hok) ?_))
      refine a_do rfl (o_move (by conv => lhs; whnf) ?_)
      refine a_do rfl (o_extract (by conv => lhs; whnf) rfl ?_)
      refine a_do rfl (o_extract (by conv => lhs; whnf) rfl ?_)
      refine a_do rfl (o_extract (by conv => lhs; whnf) rfl ?_)
      refine a_do rfl (o_assign (by conv => lhs; whnf) ?_)
      refine a_do rfl (o_assign (by conv => lhs; whnf) ?_)
      refine a_do rfl (o_assign (by conv => lhs; whnf) ?_)
      refine a_end ?_
      refine awp_seq ?_
      refine awp_seq ?_
      refine awp_region rfl ?_
      refine a_do rfl (o_move (by conv => lhs; whnf) ?_)
      refine a_do rfl (o_move (by conv => lhs; whnf) ?_)
      refine a_do rfl (o_callF (lmap_cons (by conv => lhs; whnf) (lmap_cons (by conv => lhs; whnf) lmap_nil)) (Ret.toB (eqInt64S_ret _ _ _ _ _ (by repeat (first | assumption | exact ints_nil | exact Ints.own (by repeat (first | assumption | exact lk_last (by (try simp only [List.length_append, List.length_cons, List.length_nil, List.length_set]); omega) | apply lk_prev)) (by first | rfl | exact upto_len | assumption | exact map_len) | apply Ints.app | (refine Ints.sub (by repeat (first | assumption | apply Ints.app)) (by omega) (by omega) (by omega)))) (by repeat (first | assumption | exact ints_nil | exact Ints.own (by repeat (first | assumption | exact lk_last (by (try simp only [List.length_append, List.length_cons, List.length_nil, List.length_set]); omega) | apply lk_prev)) (by first | rfl | exact upto_len | assumption | exact map_len) | apply Ints.app | (refine Ints.sub (by repeat (first | assumption | apply Ints.app)) (by omega) (by omega) (by omega)))) (by first | omega | (simp; done))) (fun c26 => ?_) (fun c26 => ?_)))
      ·
        refine a_do rfl (o_notT (by conv => lhs; whnf) ?_)
        refine a_do rfl (o_move (by conv => lhs; whnf) ?_)
        refine a_do rfl (o_move (by conv => lhs; whnf) ?_)
        refine a_do rfl (o_move (by conv => lhs; whnf) ?_)
        refine a_do rfl (o_neq (by conv => lhs; whnf) (by conv => lhs; whnf) (fun c27 => ?_) (fun c27 => ?_))
        ·
          refine a_do rfl (o_pickF (by conv => lhs; whnf) (by conv => lhs; whnf) ?_)
          refine a_do rfl (o_move (by conv => lhs; whnf) ?_)
          refine a_no rfl ?_
          refine a_no rfl ?_
          refine a_no rfl ?_
          refine a_do rfl (o_pickT (by conv => lhs; whnf) (by conv => lhs; whnf) ?_)
          refine a_end ?_
          refine awp_condT (by conv => lhs; whnf) ?_
          refine awp_seq ?_
          refine awp_region rfl ?_
          refine a_do rfl (o_assign (by conv => lhs; whnf) ?_)
          refine a_end ?_
          refine awp_ret ?_
          refine ⟨.inl rfl, [_], ⟨ares_tmp (by conv => lhs; whnf), trivial⟩, ?_⟩
          exact ⟨by first | rfl | (exfalso; omega) | (exfalso; simp_all; done), (by repeat (first | exact Grown.refl _ | refine Grown.push ?_ _))⟩
        ·
          refine a_do rfl (o_pickF (by conv => lhs; whnf) (by conv => lhs; whnf) ?_)
          refine a_do rfl (o_move (by conv => lhs; whnf) ?_)
          refine a_do rfl (o_move (by conv => lhs; whnf) ?_)
          refine a_do rfl (o_move (by conv => lhs; whnf) ?_)
          refine a_do rfl (o_boolNeL (b := false) Try.underlying4 (by conv => lhs; whnf) (by conv => lhs; whnf) (by rfl) ?_)
          refine a_do rfl (o_pickF (by conv => lhs; whnf) (by conv => lhs; whnf) ?_)
          refine a_end ?_
          refine awp_condF (by conv => lhs; whnf) ?_
          refine awp_skip ?_
          refine awp_seq ?_
          refine awp_seq ?_
          refine awp_draw Try_mixed (by kernel_rfl) rfl ?_
          refine d_do rfl (o_loadAgg Try.underlying28 rfl ty28 (by conv => lhs; whnf) (by repeat (first | assumption | exact lk_last (by (try simp only [List.length_append, List.length_cons, List.length_nil, List.length_set]); omega) | apply lk_prev)) (by rfl) (by exact (rfl : _ = [_, _])) (by rfl) ⟨rfl, rfl⟩) (by first | exact .prim rfl | exact Within.mono ‹Within _ (Value.func _ _ _)› (by (try simp only [List.length_append, List.length_cons, List.length_nil, List.length_set]); omega) | (apply within_sub; apply Ints.within; repeat (first | assumption | apply Ints.app)) | (apply within_ptr; repeat (first | assumption | exact lk_last (by (try simp only [List.length_append, List.length_cons, List.length_nil, List.length_set]); omega) | apply lk_prev)) | (apply within_sl; repeat (first | assumption | exact lk_last (by (try simp only [List.length_append, List.length_cons, List.length_nil, List.length_set]); omega) | apply lk_prev)) | (apply Within.agg3 <;> (first | exact .prim rfl | (apply within_ptr; repeat (first | assumption | exact lk_last (by (try simp only [List.length_append, List.length_cons, List.length_nil, List.length_set]); omega) | apply lk_prev)) | (apply within_sl; repeat (first | assumption | exact lk_last (by (try simp only [List.length_append, List.length_cons, List.length_nil, List.length_set]); omega) | apply lk_prev)) | ((try apply within_sub); apply Ints.within; repeat (first | assumption | apply Ints.app)))) | (apply Within.agg2 <;> (first | exact .prim rfl | (apply within_ptr; repeat (first | assumption | exact lk_last (by (try simp only [List.length_append, List.length_cons, List.length_nil, List.length_set]); omega) | apply lk_prev)) | (apply within_sl; repeat (first | assumption | exact lk_last (by (try simp only [List.length_append, List.length_cons, List.length_nil, List.length_set]); omega) | apply lk_prev)) | ((try apply within_sub); apply Ints.within; repeat (first | assumption | apply Ints.app)))) | (apply Ints.within; repeat (first | assumption | apply Ints.app))) ?_
          refine d_do rfl (o_loadAgg Try.underlying24 rfl ty24 (by conv => lhs; whnf) (by repeat (first | assumption | exact lk_last (by (try simp only [List.length_append, List.length_cons, List.length_nil, List.length_set]); omega) | apply lk_prev)) (by rfl) (by exact (rfl : _ = [_, _])) (by rfl) ⟨rfl, rfl⟩) (by first | exact .prim rfl | exact Within.mono ‹Within _ (Value.func _ _ _)› (by (try simp only [List.length_append, List.length_cons, List.length_nil, List.length_set]); omega) | (apply within_sub; apply Ints.within; repeat (first | assumption | apply Ints.app)) | (apply within_ptr; repeat (first | assumption | exact lk_last (by (try simp only [List.length_append, List.length_cons, List.length_nil, List.length_set]); omega) | apply lk_prev)) | (apply within_sl; repeat (first | assumption | exact lk_last (by (try simp only [List.length_append, List.length_cons, List.length_nil, List.length_set]); omega) | apply lk_prev)) | (apply Within.agg3 <;> (first | exact .prim rfl | (apply within_ptr; repeat (first | assumption | exact lk_last (by (try simp only [List.length_append, List.length_cons, List.length_nil, List.length_set]); omega) | apply lk_prev)) | (apply within_sl; repeat (first | assumption | exact lk_last (by (try simp only [List.length_append, List.length_cons, List.length_nil, List.length_set]); omega) | apply lk_prev)) | ((try apply within_sub); apply Ints.within; repeat (first | assumption | apply Ints.app)))) | (apply Within.agg2 <;> (first | exact .prim rfl | (apply within_ptr; repeat (first | assumption | exact lk_last (by (try simp only [List.length_append, List.length_cons, List.length_nil, List.length_set]); omega) | apply lk_prev)) | (apply within_sl; repeat (first | assumption | exact lk_last (by (try simp only [List.length_append, List.length_cons, List.length_nil, List.length_set]); omega) | apply lk_prev)) | ((try apply within_sub); apply Ints.within; repeat (first | assumption | apply Ints.app)))) | (apply Ints.within; repeat (first | assumption | apply Ints.app))) ?_
          refine d_callN rfl (lmap_cons (by conv => lhs; whnf) lmap_nil) (toWorths_ret _ _ _ _ (by repeat (first | assumption | exact ints_nil | exact Ints.own (by repeat (first | assumption | exact lk_last (by (try simp only [List.length_append, List.length_cons, List.length_nil, List.length_set]); omega) | apply lk_prev)) (by first | rfl | exact upto_len | assumption | exact map_len) | apply Ints.app | (refine Ints.sub (by repeat (first | assumption | apply Ints.app)) (by omega) (by omega) (by omega)))) (by omega)) (by exact .agg2 (.prim rfl) (.slice (by (try simp only [List.length_append, List.length_cons, List.length_nil, List.length_set]); omega))) (by simp [lst, isPrim]) (fun k28 hk28 hgk28 => ?_)
          try simp at hk28
          have hIk28 := Ints.own hgk28 rfl
          refine d_callB rfl (lmap_cons (by conv => lhs; whnf) (lmap_cons (by conv => lhs; whnf) lmap_nil)) (eqWorths_ret _ _ _ _ _ _ _ (by repeat (first | assumption | exact ints_nil | exact Ints.own (by repeat (first | assumption | exact lk_last (by (try simp only [List.length_append, List.length_cons, List.length_nil, List.length_set]); omega) | apply lk_prev)) (by first | rfl | exact upto_len | assumption | exact map_len) | apply Ints.app | (refine Ints.sub (by repeat (first | assumption | apply Ints.app)) (by omega) (by omega) (by omega)))) (by repeat (first | assumption | exact ints_nil | exact Ints.own (by repeat (first | assumption | exact lk_last (by (try simp only [List.length_append, List.length_cons, List.length_nil, List.length_set]); omega) | apply lk_prev)) (by first | rfl | exact upto_len | assumption | exact map_len) | apply Ints.app | (refine Ints.sub (by repeat (first | assumption | apply Ints.app)) (by omega) (by omega) (by omega)))) (by first | omega | (simp; done))) (fun c29 => ?_) (fun c29 => ?_)
          ·
            refine d_do rfl (o_notT (by conv => lhs; whnf) ⟨rfl, rfl⟩) (by first | exact .prim rfl | exact Within.mono ‹Within _ (Value.func _ _ _)› (by (try simp only [List.length_append, List.length_cons, List.length_nil, List.length_set]); omega) | (apply within_sub; apply Ints.within; repeat (first | assumption | apply Ints.app)) | (apply within_ptr; repeat (first | assumption | exact lk_last (by (try simp only [List.length_append, List.length_cons, List.length_nil, List.length_set]); omega) | apply lk_prev)) | (apply within_sl; repeat (first | assumption | exact lk_last (by (try simp only [List.length_append, List.length_cons, List.length_nil, List.length_set]); omega) | apply lk_prev)) | (apply Within.agg3 <;> (first | exact .prim rfl | (apply within_ptr; repeat (first | assumption | exact lk_last (by (try simp only [List.length_append, List.length_cons, List.length_nil, List.length_set]); omega) | apply lk_prev)) | (apply within_sl; repeat (first | assumption | exact lk_last (by (try simp only [List.length_append, List.length_cons, List.length_nil, List.length_set]); omega) | apply lk_prev)) | ((try apply within_sub); apply Ints.within; repeat (first | assumption | apply Ints.app)))) | (apply Within.agg2 <;> (first | exact .prim rfl | (apply within_ptr; repeat (first | assumption | exact lk_last (by (try simp only [List.length_append, List.length_cons, List.length_nil, List.length_set]); omega) | apply lk_prev)) | (apply within_sl; repeat (first | assumption | exact lk_last (by (try simp only [List.length_append, List.length_cons, List.length_nil, List.length_set]); omega) | apply lk_prev)) | ((try apply within_sub); apply Ints.within; repeat (first | assumption | apply Ints.app)))) | (apply Ints.within; repeat (first | assumption | apply Ints.app))) ?_
            refine d_end ?_
            refine awp_condF (by conv => lhs; whnf) ?_
            refine awp_skip ?_
            refine awp_seq ?_
            refine awp_region rfl ?_
            refine a_do rfl (o_assign (by conv => lhs; whnf) ?_)
            refine a_end ?_
            refine awp_seq ?_
            refine awp_region rfl ?_
            refine a_do rfl (o_loadAgg Try.underlying28 rfl ty28 (by conv => lhs; whnf) (by repeat (first | assumption | exact lk_last (by (try simp only [List.length_append, List.length_cons, List.length_nil, List.length_set]); omega) | apply lk_prev)) (by rfl) (by exact (rfl : _ = [_, _])) (by rfl) ?_)
            refine a_do rfl (o_move (by conv => lhs; whnf) ?_)
            refine a_do rfl (o_callF (lmap_cons (by conv => lhs; whnf) (lmap_cons (by conv => lhs; whnf) lmap_nil)) (Ret.to (Ret.heap (markWorths_ret _ _ _ _ _ _ (by repeat (first | assumption | exact lk_last (by (try simp only [List.length_append, List.length_cons, List.length_nil, List.length_set]); omega) | apply lk_prev)) (by first | rfl | exact upto_len | assumption | exact map_len) (by omega) (by omega)) (by repeat (first | exact set_last (by (try simp only [List.length_append, List.length_cons, List.length_nil, List.length_set]); omega) | (apply set_step; (try simp only [List.length_append, List.length_cons, List.length_nil, List.length_set]); omega) | exact rfl))) ?_))
            refine a_do rfl (o_assign (by conv => lhs; whnf) ?_)
            refine a_end ?_
            refine awp_seq ?_
            refine awp_seq ?_
            refine awp_region rfl ?_
            refine a_do rfl (o_move (by conv => lhs; whnf) ?_)
            refine a_do rfl (o_lss (by conv => lhs; whnf) (by conv => lhs; whnf) (fun c30 => ?_) (fun c30 => ?_))
            ·
              refine a_do rfl (o_move (by conv => lhs; whnf) ?_)
              refine a_no rfl ?_
              refine a_no rfl ?_
              refine a_no rfl ?_
              refine a_no rfl ?_
              refine a_do rfl (o_pickT (by conv => lhs; whnf) (by conv => lhs; whnf) ?_)
              refine a_do rfl (o_move (by conv => lhs; whnf) ?_)
              refine a_no rfl ?_
              refine a_no rfl ?_
              refine a_no rfl ?_
              refine a_do rfl (o_pickT (by conv => lhs; whnf) (by conv => lhs; whnf) ?_)
              refine a_do rfl (o_move (by conv => lhs; whnf) ?_)
              refine a_no rfl ?_
              refine a_no rfl ?_
              refine a_no rfl ?_
              refine a_do rfl (o_pickT (by conv => lhs; whnf) (by conv => lhs; whnf) ?_)
              refine a_end ?_
              refine awp_condT (by conv => lhs; whnf) ?_
              refine awp_seq ?_
              refine awp_region rfl ?_
              refine a_do rfl (o_assign (by conv => lhs; whnf) ?_)
              refine a_end ?_
              refine awp_ret ?_
              refine ⟨.inl rfl, [_], ⟨ares_tmp (by conv => lhs; whnf), trivial⟩, ?_⟩
              exact ⟨by first | rfl | (exfalso; omega) | (exfalso; simp_all; done), (by repeat (first | exact Grown.refl _ | refine Grown.push ?_ _))⟩
            ·
              refine a_do rfl (o_move (by conv => lhs; whnf) ?_)
              refine a_do rfl (o_move (by conv => lhs; whnf) ?_)
              refine a_do rfl (o_move (by conv => lhs; whnf) ?_)
              refine a_do rfl (o_callF (lmap_cons (by conv => lhs; whnf) (lmap_cons (by conv => lhs; whnf) lmap_nil)) (Ret.toB (eqInt64S_ret _ _ _ _ _ (by repeat (first | assumption | exact ints_nil | exact Ints.own (by repeat (first | assumption | exact lk_last (by (try simp only [List.length_append, List.length_cons, List.length_nil, List.length_set]); omega) | apply lk_prev)) (by first | rfl | exact upto_len | assumption | exact map_len) | apply Ints.app | (refine Ints.sub (by repeat (first | assumption | apply Ints.app)) (by omega) (by omega) (by omega)))) (by repeat (first | assumption | exact ints_nil | exact Ints.own (by repeat (first | assumption | exact lk_last (by (try simp only [List.length_append, List.length_cons, List.length_nil, List.length_set]); omega) | apply lk_prev)) (by first | rfl | exact upto_len | assumption | exact map_len) | apply Ints.app | (refine Ints.sub (by repeat (first | assumption | apply Ints.app)) (by omega) (by omega) (by omega)))) (by first | omega | (simp; done))) (fun c31 => ?_) (fun c31 => ?_)))
              ·
                refine a_do rfl (o_notT (by conv => lhs; whnf) ?_)
                refine a_do rfl (o_pickF (by conv => lhs; whnf) (by conv => lhs; whnf) ?_)
                refine a_do rfl (o_move (by conv => lhs; whnf) ?_)
                refine a_do rfl (o_move (by conv => lhs; whnf) ?_)
                refine a_do rfl (o_move (by conv => lhs; whnf) ?_)
                refine a_do rfl (o_neq (by conv => lhs; whnf) (by conv => lhs; whnf) (fun c32 => ?_) (fun c32 => ?_))
                ·
                  refine a_do rfl (o_pickF (by conv => lhs; whnf) (by conv => lhs; whnf) ?_)
                  refine a_do rfl (o_move (by conv => lhs; whnf) ?_)
                  refine a_no rfl ?_
                  refine a_no rfl ?_
                  refine a_no rfl ?_
                  refine a_do rfl (o_pickT (by conv => lhs; whnf) (by conv => lhs; whnf) ?_)
                  refine a_end ?_
                  refine awp_condT (by conv => lhs; whnf) ?_
                  refine awp_seq ?_
                  refine awp_region rfl ?_
                  refine a_do rfl (o_assign (by conv => lhs; whnf) ?_)
                  refine a_end ?_
                  refine awp_ret ?_
                  refine ⟨.inl rfl, [_], ⟨ares_tmp (by conv => lhs; whnf), trivial⟩, ?_⟩
                  exact ⟨by first | rfl | (exfalso; omega) | (exfalso; simp_all; done), (by repeat (first | exact Grown.refl _ | refine Grown.push ?_ _))⟩
                ·
                  refine a_do rfl (o_pickF (by conv => lhs; whnf) (by conv => lhs; whnf) ?_)
                  refine a_do rfl (o_move (by conv => lhs; whnf) ?_)
                  refine a_do rfl (o_move (by conv => lhs; whnf) ?_)
                  refine a_do rfl (o_move (by conv => lhs; whnf) ?_)
                  refine a_do rfl (o_boolNeL (b := false) Try.underlying4 (by conv => lhs; whnf) (by conv => lhs; whnf) (by rfl) ?_)
                  refine a_do rfl (o_pickF (by conv => lhs; whnf) (by conv => lhs; whnf) ?_)
                  refine a_end ?_
                  refine awp_condF (by conv => lhs; whnf) ?_
                  refine awp_skip ?_
                  refine awp_seq ?_
                  refine awp_region rfl ?_
                  refine a_do rfl (o_assign (by conv => lhs; whnf) ?_)
                  refine a_end ?_
                  refine awp_seq ?_
                  refine awp_region rfl ?_
                  refine a_do rfl (o_move (by conv => lhs; whnf) ?_)
                  refine a_do rfl (o_move (by conv => lhs; whnf) ?_)
                  refine a_do rfl (o_callF (lmap_cons (by conv => lhs; whnf) (lmap_cons (by conv => lhs; whnf) lmap_nil)) (Ret.to (markNil_ret _ _ (by omega)) ?_))
                  refine a_do rfl (o_assign (by conv => lhs; whnf) ?_)
                  refine a_end ?_
                  refine awp_seq ?_
                  refine awp_region rfl ?_
                  refine a_do rfl (o_assign (by conv => lhs; whnf) ?_)
                  refine a_end ?_
                  refine awp_seq ?_
                  refine awp_region rfl ?_
                  refine a_do rfl (o_move (by conv => lhs; whnf) ?_)
                  refine a_do rfl (o_move (by conv => lhs; whnf) ?_)
                  refine a_do rfl (o_callF (lmap_cons (by conv => lhs; whnf) (lmap_cons (by conv => lhs; whnf) lmap_nil)) (Ret.to (heldNil_ret _ _ (by omega)) ?_))
                  refine a_do rfl (o_assign (by conv => lhs; whnf) ?_)
                  refine a_end ?_
                  refine awp_seq ?_
                  refine awp_seq ?_
                  refine awp_region rfl ?_
                  refine a_do rfl (o_move (by conv => lhs; whnf) ?_)
                  refine a_do rfl (o_lss (by conv => lhs; whnf) (by conv => lhs; whnf) (fun c33 => ?_) (fun c33 => ?_))
                  ·
                    refine a_end ?_
                    refine awp_condT (by conv => lhs; whnf) ?_
                    refine awp_seq ?_
                    refine awp_region rfl ?_
                    refine a_do rfl (o_assign (by conv => lhs; whnf) ?_)
                    refine a_end ?_
                    refine awp_ret ?_
                    refine ⟨.inl rfl, [_], ⟨ares_tmp (by conv => lhs; whnf), trivial⟩, ?_⟩
                    exact ⟨by first | rfl | (exfalso; omega) | (exfalso; simp_all; done), (by repeat (first | exact Grown.refl _ | refine Grown.push ?_ _))⟩
                  ·
                    refine a_end ?_
                    refine awp_condF (by conv => lhs; whnf) ?_
                    refine awp_skip ?_
                    refine awp_seq ?_
                    refine awp_seq ?_
                    refine awp_region rfl ?_
                    refine a_do rfl (o_move (by conv => lhs; whnf) ?_)
                    refine a_do rfl (o_move (by conv => lhs; whnf) ?_)
                    refine a_do rfl (o_neq (by conv => lhs; whnf) (by conv => lhs; whnf) (fun c34 => ?_) (fun c34 => ?_))
                    ·
                      refine a_end ?_
                      refine awp_condT (by conv => lhs; whnf) ?_
                      refine awp_seq ?_
                      refine awp_region rfl ?_
                      refine a_do rfl (o_assign (by conv => lhs; whnf) ?_)
                      refine a_end ?_
                      refine awp_ret ?_
                      refine ⟨.inl rfl, [_], ⟨ares_tmp (by conv => lhs; whnf), trivial⟩, ?_⟩
                      exact ⟨by first | rfl | (exfalso; omega) | (exfalso; simp_all; done), (by repeat (first | exact Grown.refl _ | refine Grown.push ?_ _))⟩
                    ·
                      refine a_end ?_
                      refine awp_condF (by conv => lhs; whnf) ?_
                      refine awp_skip ?_
                      refine awp_seq ?_
                      refine awp_region rfl ?_
                      refine a_do rfl (o_loadAgg Try.underlying24 rfl ty24 (by conv => lhs; whnf) (by repeat (first | assumption | exact lk_last (by (try simp only [List.length_append, List.length_cons, List.length_nil, List.length_set]); omega) | apply lk_prev)) (by rfl) (by exact (rfl : _ = [_, _])) (by rfl) ?_)
                      refine a_do rfl (o_callF (lmap_cons (by conv => lhs; whnf) lmap_nil) (RetN.toN (toWorths_ret _ _ _ _ (by repeat (first | assumption | exact ints_nil | exact Ints.own (by repeat (first | assumption | exact lk_last (by (try simp only [List.length_append, List.length_cons, List.length_nil, List.length_set]); omega) | apply lk_prev)) (by first | rfl | exact upto_len | assumption | exact map_len) | apply Ints.app | (refine Ints.sub (by repeat (first | assumption | apply Ints.app)) (by omega) (by omega) (by omega)))) (by omega)) (fun k35 hk35 hgk35 => ?_)))
                      try simp at hk35
                      have hIk35 := Ints.own hgk35 rfl
                      refine a_do rfl (o_callF (lmap_cons (by conv => lhs; whnf) lmap_nil) (Ret.to ((implSharesOf_ret _ _ _ _ (by repeat (first | assumption | exact ints_nil | exact Ints.own (by repeat (first | assumption | exact lk_last (by (try simp only [List.length_append, List.length_cons, List.length_nil, List.length_set]); omega) | apply lk_prev)) (by first | rfl | exact upto_len | assumption | exact map_len) | apply Ints.app | (refine Ints.sub (by repeat (first | assumption | apply Ints.app)) (by omega) (by omega) (by omega)))) (by omega)).2 hok) ?_))
                      refine a_do rfl (o_move (by conv => lhs; whnf) ?_)
                      refine a_do rfl (o_extract (by conv => lhs; whnf) rfl ?_)
                      refine a_do rfl (o_extract (by conv => lhs; whnf) rfl ?_)
                      refine a_do rfl (o_extract (by conv => lhs; whnf) rfl ?_)
                      refine a_do rfl (o_assign (by conv => lhs; whnf) ?_)
                      refine a_do rfl (o_assign (by conv => lhs; whnf) ?_)
                      refine a_do rfl (o_assign (by conv => lhs; whnf) ?_)
                      refine a_end ?_
                      refine awp_seq ?_
                      refine awp_seq ?_
                      refine awp_region rfl ?_
                      refine a_do rfl (o_move (by conv => lhs; whnf) ?_)
                      refine a_do rfl (o_move (by conv => lhs; whnf) ?_)
                      refine a_do rfl (o_callF (lmap_cons (by conv => lhs; whnf) (lmap_cons (by conv => lhs; whnf) lmap_nil)) (Ret.toB (eqInt64S_ret _ _ _ _ _ (by repeat (first | assumption | exact ints_nil | exact Ints.own (by repeat (first | assumption | exact lk_last (by (try simp only [List.length_append, List.length_cons, List.length_nil, List.length_set]); omega) | apply lk_prev)) (by first | rfl | exact upto_len | assumption | exact map_len) | apply Ints.app | (refine Ints.sub (by repeat (first | assumption | apply Ints.app)) (by omega) (by omega) (by omega)))) (by repeat (first | assumption | exact ints_nil | exact Ints.own (by repeat (first | assumption | exact lk_last (by (try simp only [List.length_append, List.length_cons, List.length_nil, List.length_set]); omega) | apply lk_prev)) (by first | rfl | exact upto_len | assumption | exact map_len) | apply Ints.app | (refine Ints.sub (by repeat (first | assumption | apply Ints.app)) (by omega) (by omega) (by omega)))) (by first | omega | (simp; done))) (fun c36 => ?_) (fun c36 => ?_)))
                      ·
                        refine a_do rfl (o_notT (by conv => lhs; whnf) ?_)
                        refine a_do rfl (o_move (by conv => lhs; whnf) ?_)
                        refine a_do rfl (o_move (by conv => lhs; whnf) ?_)
                        refine a_do rfl (o_move (by conv => lhs; whnf) ?_)
                        refine a_do rfl (o_neq (by conv => lhs; whnf) (by conv => lhs; whnf) (fun c37 => ?_) (fun c37 => ?_))
                        ·
                          refine a_do rfl (o_pickF (by conv => lhs; whnf) (by conv => lhs; whnf) ?_)
                          refine a_do rfl (o_move (by conv => lhs; whnf) ?_)
                          refine a_no rfl ?_
                          refine a_no rfl ?_
                          refine a_no rfl ?_
                          refine a_do rfl (o_pickT (by conv => lhs; whnf) (by conv => lhs; whnf) ?_)
                          refine a_end ?_
                          refine awp_condT (by conv => lhs; whnf) ?_
                          refine awp_seq ?_
                          refine awp_region rfl ?_
                          refine a_do rfl (o_assign (by conv => lhs; whnf) ?_)
                          refine a_end ?_
                          refine awp_ret ?_
                          refine ⟨.inl rfl, [_], ⟨ares_tmp (by conv => lhs; whnf), trivial⟩, ?_⟩
                          exact ⟨by first | rfl | (exfalso; omega) | (exfalso; simp_all; done), (by repeat (first | exact Grown.refl _ | refine Grown.push ?_ _))⟩
                        ·
                          refine a_do rfl (o_pickF (by conv => lhs; whnf) (by conv => lhs; whnf) ?_)
                          refine a_do rfl (o_move (by conv => lhs; whnf) ?_)
                          refine a_do rfl (o_move (by conv => lhs; whnf) ?_)
                          refine a_do rfl (o_move (by conv => lhs; whnf) ?_)
                          refine a_do rfl (o_boolNeL (b := false) Try.underlying4 (by conv => lhs; whnf) (by conv => lhs; whnf) (by rfl) ?_)
                          refine a_do rfl (o_pickF (by conv => lhs; whnf) (by conv => lhs; whnf) ?_)
                          refine a_end ?_
                          refine awp_condF (by conv => lhs; whnf) ?_
                          refine awp_skip ?_
                          refine awp_seq ?_
                          refine awp_region rfl ?_
                          refine a_do rfl (o_assign (by conv => lhs; whnf) ?_)
                          refine a_end ?_
                          refine awp_seq ?_
                          refine awp_region rfl ?_
                          refine a_do rfl (o_move (by conv => lhs; whnf) ?_)
                          refine a_do rfl (o_move (by conv => lhs; whnf) ?_)
                          refine a_do rfl (o_callF (lmap_cons (by conv => lhs; whnf) (lmap_cons (by conv => lhs; whnf) lmap_nil)) (Ret.to (heldNil_ret _ _ (by omega)) ?_))
                          refine a_do rfl (o_assign (by conv => lhs; whnf) ?_)
                          refine a_end ?_
                          refine awp_seq ?_
                          refine awp_seq ?_
                          refine awp_region rfl ?_
                          refine a_do rfl (o_move (by conv => lhs; whnf) ?_)
                          refine a_do rfl (o_lss (by conv => lhs; whnf) (by conv => lhs; whnf) (fun c38 => ?_) (fun c38 => ?_))
                          ·
                            refine a_end ?_
                            refine awp_condT (by conv => lhs; whnf) ?_
                            refine awp_seq ?_
                            refine awp_region rfl ?_
                            refine a_do rfl (o_assign (by conv => lhs; whnf) ?_)
                            refine a_end ?_
                            refine awp_ret ?_
                            refine ⟨.inl rfl, [_], ⟨ares_tmp (by conv => lhs; whnf), trivial⟩, ?_⟩
                            exact ⟨by first | rfl | (exfalso; omega) | (exfalso; simp_all; done), (by repeat (first | exact Grown.refl _ | refine Grown.push ?_ _))⟩
                          ·
                            refine a_end ?_
                            refine awp_condF (by conv => lhs; whnf) ?_
                            refine awp_skip ?_
                            refine awp_seq ?_
                            refine awp_seq ?_
                            refine awp_region rfl ?_
                            refine a_do rfl (o_move (by conv => lhs; whnf) ?_)
                            refine a_do rfl (o_move (by conv => lhs; whnf) ?_)
                            refine a_do rfl (o_neq (by conv => lhs; whnf) (by conv => lhs; whnf) (fun c39 => ?_) (fun c39 => ?_))
                            ·
                              refine a_end ?_
                              refine awp_condT (by conv => lhs; whnf) ?_
                              refine awp_seq ?_
                              refine awp_region rfl ?_
                              refine a_do rfl (o_assign (by conv => lhs; whnf) ?_)
                              refine a_end ?_
                              refine awp_ret ?_
                              refine ⟨.inl rfl, [_], ⟨ares_tmp (by conv => lhs; whnf), trivial⟩, ?_⟩
                              exact ⟨by first | rfl | (exfalso; omega) | (exfalso; simp_all; done), (by repeat (first | exact Grown.refl _ | refine Grown.push ?_ _))⟩
                            ·
                              refine a_end ?_
                              refine awp_condF (by conv => lhs; whnf) ?_
                              refine awp_skip ?_
                              refine awp_seq ?_
                              refine awp_region rfl ?_
                              refine a_do rfl (o_assign (by conv => lhs; whnf) ?_)
                              refine a_end ?_
                              refine awp_ret ?_
                              refine ⟨.inl rfl, [_], ⟨ares_tmp (by conv => lhs; whnf), trivial⟩, ?_⟩
                              exact ⟨by first | rfl | (exfalso; omega) | (exfalso; simp_all; done), (by repeat (first | exact Grown.refl _ | refine Grown.push ?_ _))⟩
                      ·
                        refine a_do rfl (o_notF (by conv => lhs; whnf) ?_)
                        refine a_do rfl (o_move (by conv => lhs; whnf) ?_)
                        refine a_no rfl ?_
                        refine a_no rfl ?_
                        refine a_no rfl ?_
                        refine a_do rfl (o_pickT (by conv => lhs; whnf) (by conv => lhs; whnf) ?_)
                        refine a_do rfl (o_move (by conv => lhs; whnf) ?_)
                        refine a_no rfl ?_
                        refine a_no rfl ?_
                        refine a_no rfl ?_
                        refine a_do rfl (o_pickT (by conv => lhs; whnf) (by conv => lhs; whnf) ?_)
                        refine a_end ?_
                        refine awp_condT (by conv => lhs; whnf) ?_
                        refine awp_seq ?_
                        refine awp_region rfl ?_
                        refine a_do rfl (o_assign (by conv => lhs; whnf) ?_)
                        refine a_end ?_
                        refine awp_ret ?_
                        refine ⟨.inl rfl, [_], ⟨ares_tmp (by conv => lhs; whnf), trivial⟩, ?_⟩
                        exact ⟨by first | rfl | (exfalso; omega) | (exfalso; simp_all; done), (by repeat (first | exact Grown.refl _ | refine Grown.push ?_ _))⟩
              ·
                refine a_do rfl (o_notF (by conv => lhs; whnf) ?_)
                refine a_do rfl (o_pickF (by conv => lhs; whnf) (by conv => lhs; whnf) ?_)
                refine a_do rfl (o_move (by conv => lhs; whnf) ?_)
                refine a_no rfl ?_
                refine a_no rfl ?_
                refine a_no rfl ?_
                refine a_do rfl (o_pickT (by conv => lhs; whnf) (by conv => lhs; whnf) ?_)
                refine a_do rfl (o_move (by conv => lhs; whnf) ?_)
                refine a_no rfl ?_
                refine a_no rfl ?_
                refine a_no rfl ?_
                refine a_do rfl (o_pickT (by conv => lhs; whnf) (by conv => lhs; whnf) ?_)
                refine a_end ?_
                refine awp_condT (by conv => lhs; whnf) ?_
                refine awp_seq ?_
                refine awp_region rfl ?_
                refine a_do rfl (o_assign (by conv => lhs; whnf) ?_)
                refine a_end ?_
                refine awp_ret ?_
                refine ⟨.inl rfl, [_], ⟨ares_tmp (by conv => lhs; whnf), trivial⟩, ?_⟩
                exact ⟨by first | rfl | (exfalso; omega) | (exfalso; simp_all; done), (by repeat (first | exact Grown.refl _ | refine Grown.push ?_ _))⟩
          ·
            refine d_do rfl (o_notF (by conv => lhs; whnf) ⟨rfl, rfl⟩) (by first | exact .prim rfl | exact Within.mono ‹Within _ (Value.func _ _ _)› (by (try simp only [List.length_append, List.length_cons, List.length_nil, List.length_set]); omega) | (apply within_sub; apply Ints.within; repeat (first | assumption | apply Ints.app)) | (apply within_ptr; repeat (first | assumption | exact lk_last (by (try simp only [List.length_append, List.length_cons, List.length_nil, List.length_set]); omega) | apply lk_prev)) | (apply within_sl; repeat (first | assumption | exact lk_last (by (try simp only [List.length_append, List.length_cons, List.length_nil, List.length_set]); omega) | apply lk_prev)) | (apply Within.agg3 <;> (first | exact .prim rfl | (apply within_ptr; repeat (first | assumption | exact lk_last (by (try simp only [List.length_append, List.length_cons, List.length_nil, List.length_set]); omega) | apply lk_prev)) | (apply within_sl; repeat (first | assumption | exact lk_last (by (try simp only [List.length_append, List.length_cons, List.length_nil, List.length_set]); omega) | apply lk_prev)) | ((try apply within_sub); apply Ints.within; repeat (first | assumption | apply Ints.app)))) | (apply Within.agg2 <;> (first | exact .prim rfl | (apply within_ptr; repeat (first | assumption | exact lk_last (by (try simp only [List.length_append, List.length_cons, List.length_nil, List.length_set]); omega) | apply lk_prev)) | (apply within_sl; repeat (first | assumption | exact lk_last (by (try simp only [List.length_append, List.length_cons, List.length_nil, List.length_set]); omega) | apply lk_prev)) | ((try apply within_sub); apply Ints.within; repeat (first | assumption | apply Ints.app)))) | (apply Ints.within; repeat (first | assumption | apply Ints.app))) ?_
            refine d_end ?_
            refine awp_condT (by conv => lhs; whnf) ?_
            refine awp_seq ?_
            refine awp_region rfl ?_
            refine a_do rfl (o_assign (by conv => lhs; whnf) ?_)
            refine a_end ?_
            refine awp_ret ?_
            refine ⟨.inl rfl, [_], ⟨ares_tmp (by conv => lhs; whnf), trivial⟩, ?_⟩
            exact ⟨by first | rfl | (exfalso; omega) | (exfalso; simp_all; done), (by repeat (first | exact Grown.refl _ | refine Grown.push ?_ _))⟩
      ·
        refine a_do rfl (o_notF (by conv => lhs; whnf) ?_)
        refine a_do rfl (o_move (by conv => lhs; whnf) ?_)
        refine a_no rfl ?_
        refine a_no rfl ?_
        refine a_no rfl ?_
        refine a_do rfl (o_pickT (by conv => lhs; whnf) (by conv => lhs; whnf) ?_)
        refine a_do rfl (o_move (by conv => lhs; whnf) ?_)
        refine a_no rfl ?_
        refine a_no rfl ?_
        refine a_no rfl ?_
        refine a_do rfl (o_pickT (by conv => lhs; whnf) (by conv => lhs; whnf) ?_)
        refine a_end ?_
        refine awp_condT (by conv => lhs; whnf) ?_
        refine awp_seq ?_
        refine awp_region rfl ?_
        refine a_do rfl (o_assign (by conv => lhs; whnf) ?_)
        refine a_end ?_
        refine awp_ret ?_
        refine ⟨.inl rfl, [_], ⟨ares_tmp (by conv => lhs; whnf), trivial⟩, ?_⟩
        exact ⟨by first | rfl | (exfalso; omega) | (exfalso; simp_all; done), (by repeat (first | exact Grown.refl _ | refine Grown.push ?_ _))⟩

end Go.Am
