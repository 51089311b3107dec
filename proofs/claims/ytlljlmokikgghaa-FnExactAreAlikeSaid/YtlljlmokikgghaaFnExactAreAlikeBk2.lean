/-
  More of what the functions that the law FnExactAreAlike calls answer.
-/
import Derived.Test.YtlljlmokikgghaaFnExactAreAlikeBk1
namespace Go.Am
open Go.Proofs
set_option linter.unusedSimpArgs false
set_option linter.unusedVariables false

set_option maxRecDepth 10000 in
theorem specAreAlike_ret (p i k : Int) (xs : List Int) (v : Value) (h : AHeap) (hv : Ints h v xs) (hl : xs.length ≤ 1073741824) : Ret Try.prog 24 [.agg #[i64 p, v], i64 i, i64 k] h (.tuple #[.bool ((isW 10000 p xs && decide (0 ≤ i ∧ i ≤ p - 1) && decide (0 ≤ k ∧ k ≤ p - 1) && decide (¬ i = k)) && alikeB xs i.toNat k.toNat xs.length), .bool (isW 10000 p xs && decide (0 ≤ i ∧ i ≤ p - 1) && decide (0 ≤ k ∧ k ≤ p - 1) && decide (¬ i = k))]) h := by
  refine ret_of (within_tup2 (.prim rfl) (.prim rfl)) ?_
  refine tri_of_body Try.func24 rfl (by kernel_rfl) (by show 3 ≤ 70; decide) ?_
  refine awp_seq ?_
  refine awp_region rfl ?_
  refine a_do rfl (o_boxN (n := 2) (by conv => lhs; whnf) (by exact (rfl : _ = [_, _])) (by rfl) (fun k2 hk2 => ?_))
  try simp at hk2
  refine a_do rfl (o_assign (by conv => lhs; whnf) ?_)
  refine a_do rfl (o_assign (by conv => lhs; whnf) ?_)
  refine a_end ?_
  refine awp_seq ?_
  refine awp_seq ?_
  refine awp_region rfl ?_
  refine a_do rfl (o_callF (lmap_cons (by conv => lhs; whnf) lmap_nil) (Ret.toB (l03Is_ret _ _ _ _ _ (by repeat (first | assumption | exact lk_last (by (try simp only [List.length_append, List.length_cons, List.length_nil, List.length_set]); omega) | apply lk_prev)) (by repeat (first | assumption | apply Ints.app | (refine Ints.sub (by repeat (first | assumption | apply Ints.app)) (by omega) (by omega) (by omega)))) (by omega)) (fun c3 => ?_) (fun c3 => ?_)))
  ·
    have hW := c3
    have hG := isW_get hW
    refine a_do rfl (o_notT (by conv => lhs; whnf) ?_)
    refine a_do rfl (o_move (by conv => lhs; whnf) ?_)
    refine a_do rfl (o_move (by conv => lhs; whnf) ?_)
    refine a_do rfl (o_fieldAddr Try.underlying28 rfl ty2 (by conv => lhs; whnf) (by repeat (first | assumption | exact lk_last (by (try simp only [List.length_append, List.length_cons, List.length_nil, List.length_set]); omega) | apply lk_prev)) (by rfl) ?_)
    refine a_do rfl (o_load Try.underlying2 rfl (by conv => lhs; whnf) (by repeat (first | assumption | exact lk_last (by (try simp only [List.length_append, List.length_cons, List.length_nil, List.length_set]); omega) | apply lk_prev)) (by rfl) (by rfl) ?_)
    refine a_do rfl (o_sub (by conv => lhs; whnf) (by conv => lhs; whnf) (by omega) (by omega) ?_)
    refine a_do rfl (o_callF (lmap_cons (by conv => lhs; whnf) (lmap_cons (by conv => lhs; whnf) (lmap_cons (by conv => lhs; whnf) lmap_nil))) (Ret.toB (l00In_ret _ _ _ _) (fun c4 => ?_) (fun c4 => ?_)))
    ·
      have hi := of_decide_eq_true c4
      refine a_do rfl (o_notT (by conv => lhs; whnf) ?_)
      refine a_do rfl (o_pickF (by conv => lhs; whnf) (by conv => lhs; whnf) ?_)
      refine a_do rfl (o_move (by conv => lhs; whnf) ?_)
      refine a_do rfl (o_move (by conv => lhs; whnf) ?_)
      refine a_do rfl (o_fieldAddr Try.underlying28 rfl ty2 (by conv => lhs; whnf) (by repeat (first | assumption | exact lk_last (by (try simp only [List.length_append, List.length_cons, List.length_nil, List.length_set]); omega) | apply lk_prev)) (by rfl) ?_)
      refine a_do rfl (o_load Try.underlying2 rfl (by conv => lhs; whnf) (by repeat (first | assumption | exact lk_last (by (try simp only [List.length_append, List.length_cons, List.length_nil, List.length_set]); omega) | apply lk_prev)) (by rfl) (by rfl) ?_)
      refine a_do rfl (o_sub (by conv => lhs; whnf) (by conv => lhs; whnf) (by omega) (by omega) ?_)
      refine a_do rfl (o_callF (lmap_cons (by conv => lhs; whnf) (lmap_cons (by conv => lhs; whnf) (lmap_cons (by conv => lhs; whnf) lmap_nil))) (Ret.toB (l00In_ret _ _ _ _) (fun c5 => ?_) (fun c5 => ?_)))
      ·
        have hk := of_decide_eq_true c5
        refine a_do rfl (o_notT (by conv => lhs; whnf) ?_)
        refine a_do rfl (o_pickF (by conv => lhs; whnf) (by conv => lhs; whnf) ?_)
        refine a_do rfl (o_move (by conv => lhs; whnf) ?_)
        refine a_do rfl (o_move (by conv => lhs; whnf) ?_)
        refine a_do rfl (o_move (by conv => lhs; whnf) ?_)
        refine a_do rfl (o_eql (by conv => lhs; whnf) (by conv => lhs; whnf) (fun c6 => ?_) (fun c6 => ?_))
        ·
          refine a_do rfl (o_pickF (by conv => lhs; whnf) (by conv => lhs; whnf) ?_)
          refine a_end ?_
          refine awp_condT (by conv => lhs; whnf) ?_
          refine awp_seq ?_
          refine awp_region rfl ?_
          refine a_do rfl (o_assign (by conv => lhs; whnf) ?_)
          refine a_do rfl (o_assign (by conv => lhs; whnf) ?_)
          refine a_end ?_
          refine awp_ret ?_
          refine ⟨.inl rfl, [_, _], ⟨ares_tmp (by conv => lhs; whnf), ares_tmp (by conv => lhs; whnf), trivial⟩, ?_⟩
          exact ⟨by first | exact tup2 (alikeB_yes (by simp [*]) ha (by omega)) (by simp [*]) | exact tup2 (alikeB_off (n := xs.length) (s := s) (by omega) (by assumption) (by assumption) (by assumption)) (by simp [*]) | exact tup2 (by simp [*]) (by simp [*]), (by repeat (first | exact Grown.refl _ | refine Grown.push ?_ _))⟩
        ·
          refine a_do rfl (o_pickF (by conv => lhs; whnf) (by conv => lhs; whnf) ?_)
          refine a_end ?_
          refine awp_condF (by conv => lhs; whnf) ?_
          refine awp_skip ?_
          refine awp_seq ?_
          refine awp_seq ?_
          refine awp_region rfl ?_
          refine a_do rfl (o_fieldAddr Try.underlying28 rfl ty22 (by conv => lhs; whnf) (by repeat (first | assumption | exact lk_last (by (try simp only [List.length_append, List.length_cons, List.length_nil, List.length_set]); omega) | apply lk_prev)) (by rfl) ?_)
          refine a_do rfl (o_load Try.underlying22 rfl (by conv => lhs; whnf) (by repeat (first | assumption | exact lk_last (by (try simp only [List.length_append, List.length_cons, List.length_nil, List.length_set]); omega) | apply lk_prev)) (by rfl) (by rfl) ?_)
          refine a_do rfl (o_lenI Try.underlying22 (by conv => lhs; whnf) (by repeat (first | assumption | apply Ints.app | (refine Ints.sub (by repeat (first | assumption | apply Ints.app)) (by omega) (by omega) (by omega)))) ?_)
          refine a_do rfl (o_move (by conv => lhs; whnf) ?_)
          refine a_end ?_
          refine awp_block ?_
          refine awp_loop (σ := Nat) (fun s env1 h1 => Slots env1 [(1, i64 i), (2, i64 k), (3, .pointer (some ⟨k2, 0, some 2⟩)), (34, i64 xs.length), (35, i64 s)] ∧ h1 = h ++ [⟨[i64 p, v], true, 1⟩] ∧ s ≤ xs.length ∧ alikeB xs i.toNat k.toNat s = true) (fun s => xs.length - s) 0 ?_ ?_
          · refine ⟨Slots.mk ⟨?_, ?_, ?_, ?_, ?_, trivial⟩, ?_, ?_⟩
            all_goals first | rfl | (simp; done) | exact ⟨by omega, rfl⟩
          · intro s env1 h1 hI1
            obtain ⟨⟨e1, rfl⟩, rfl, ⟨hs, ha⟩⟩ := hI1
            refine awp_seq ?_
            refine awp_region rfl ?_
            refine a_do rfl (o_lss (by conv => lhs; whnf) (by conv => lhs; whnf) (fun c7 => ?_) (fun c7 => ?_))
            ·
              refine a_end ?_
              refine awp_seq ?_
              refine awp_condT (by conv => lhs; whnf) ?_
              refine awp_skip ?_
              refine awp_seq ?_
              refine awp_block ?_
              refine awp_seq ?_
              refine awp_region rfl ?_
              refine a_do rfl (o_move (by conv => lhs; whnf) ?_)
              refine a_do rfl (o_assign (by conv => lhs; whnf) ?_)
              refine a_end ?_
              refine awp_seq ?_
              refine awp_draw Try_mixed (by kernel_rfl) rfl ?_
              refine d_do rfl (o_move (by conv => lhs; whnf) ⟨rfl, rfl⟩) (by first | exact .prim rfl | (apply within_sub; apply Ints.within; repeat (first | assumption | apply Ints.app)) | (apply within_ptr; repeat (first | assumption | exact lk_last (by (try simp only [List.length_append, List.length_cons, List.length_nil, List.length_set]); omega) | apply lk_prev)) | (apply within_sl; repeat (first | assumption | exact lk_last (by (try simp only [List.length_append, List.length_cons, List.length_nil, List.length_set]); omega) | apply lk_prev)) | (apply Within.agg3 <;> (first | exact .prim rfl | (apply within_ptr; repeat (first | assumption | exact lk_last (by (try simp only [List.length_append, List.length_cons, List.length_nil, List.length_set]); omega) | apply lk_prev)) | (apply within_sl; repeat (first | assumption | exact lk_last (by (try simp only [List.length_append, List.length_cons, List.length_nil, List.length_set]); omega) | apply lk_prev)) | ((try apply within_sub); apply Ints.within; repeat (first | assumption | apply Ints.app)))) | (apply Within.agg2 <;> (first | exact .prim rfl | (apply within_ptr; repeat (first | assumption | exact lk_last (by (try simp only [List.length_append, List.length_cons, List.length_nil, List.length_set]); omega) | apply lk_prev)) | (apply within_sl; repeat (first | assumption | exact lk_last (by (try simp only [List.length_append, List.length_cons, List.length_nil, List.length_set]); omega) | apply lk_prev)) | ((try apply within_sub); apply Ints.within; repeat (first | assumption | apply Ints.app)))) | (apply Ints.within; repeat (first | assumption | apply Ints.app))) ?_
              refine d_do rfl (o_move (by conv => lhs; whnf) ⟨rfl, rfl⟩) (by first | exact .prim rfl | (apply within_sub; apply Ints.within; repeat (first | assumption | apply Ints.app)) | (apply within_ptr; repeat (first | assumption | exact lk_last (by (try simp only [List.length_append, List.length_cons, List.length_nil, List.length_set]); omega) | apply lk_prev)) | (apply within_sl; repeat (first | assumption | exact lk_last (by (try simp only [List.length_append, List.length_cons, List.length_nil, List.length_set]); omega) | apply lk_prev)) | (apply Within.agg3 <;> (first | exact .prim rfl | (apply within_ptr; repeat (first | assumption | exact lk_last (by (try simp only [List.length_append, List.length_cons, List.length_nil, List.length_set]); omega) | apply lk_prev)) | (apply within_sl; repeat (first | assumption | exact lk_last (by (try simp only [List.length_append, List.length_cons, List.length_nil, List.length_set]); omega) | apply lk_prev)) | ((try apply within_sub); apply Ints.within; repeat (first | assumption | apply Ints.app)))) | (apply Within.agg2 <;> (first | exact .prim rfl | (apply within_ptr; repeat (first | assumption | exact lk_last (by (try simp only [List.length_append, List.length_cons, List.length_nil, List.length_set]); omega) | apply lk_prev)) | (apply within_sl; repeat (first | assumption | exact lk_last (by (try simp only [List.length_append, List.length_cons, List.length_nil, List.length_set]); omega) | apply lk_prev)) | ((try apply within_sub); apply Ints.within; repeat (first | assumption | apply Ints.app)))) | (apply Ints.within; repeat (first | assumption | apply Ints.app))) ?_
              refine d_callB rfl (lmap_cons (by conv => lhs; whnf) (lmap_cons (by conv => lhs; whnf) lmap_nil)) (l03In_ret _ _ _ (by omega) (by omega)) (fun c8 => ?_) (fun c8 => ?_)
              ·
                refine d_do rfl (o_notT (by conv => lhs; whnf) ⟨rfl, rfl⟩) (by first | exact .prim rfl | (apply within_sub; apply Ints.within; repeat (first | assumption | apply Ints.app)) | (apply within_ptr; repeat (first | assumption | exact lk_last (by (try simp only [List.length_append, List.length_cons, List.length_nil, List.length_set]); omega) | apply lk_prev)) | (apply within_sl; repeat (first | assumption | exact lk_last (by (try simp only [List.length_append, List.length_cons, List.length_nil, List.length_set]); omega) | apply lk_prev)) | (apply Within.agg3 <;> (first | exact .prim rfl | (apply within_ptr; repeat (first | assumption | exact lk_last (by (try simp only [List.length_append, List.length_cons, List.length_nil, List.length_set]); omega) | apply lk_prev)) | (apply within_sl; repeat (first | assumption | exact lk_last (by (try simp only [List.length_append, List.length_cons, List.length_nil, List.length_set]); omega) | apply lk_prev)) | ((try apply within_sub); apply Ints.within; repeat (first | assumption | apply Ints.app)))) | (apply Within.agg2 <;> (first | exact .prim rfl | (apply within_ptr; repeat (first | assumption | exact lk_last (by (try simp only [List.length_append, List.length_cons, List.length_nil, List.length_set]); omega) | apply lk_prev)) | (apply within_sl; repeat (first | assumption | exact lk_last (by (try simp only [List.length_append, List.length_cons, List.length_nil, List.length_set]); omega) | apply lk_prev)) | ((try apply within_sub); apply Ints.within; repeat (first | assumption | apply Ints.app)))) | (apply Ints.within; repeat (first | assumption | apply Ints.app))) ?_
                refine d_do rfl (o_move (by conv => lhs; whnf) ⟨rfl, rfl⟩) (by first | exact .prim rfl | (apply within_sub; apply Ints.within; repeat (first | assumption | apply Ints.app)) | (apply within_ptr; repeat (first | assumption | exact lk_last (by (try simp only [List.length_append, List.length_cons, List.length_nil, List.length_set]); omega) | apply lk_prev)) | (apply within_sl; repeat (first | assumption | exact lk_last (by (try simp only [List.length_append, List.length_cons, List.length_nil, List.length_set]); omega) | apply lk_prev)) | (apply Within.agg3 <;> (first | exact .prim rfl | (apply within_ptr; repeat (first | assumption | exact lk_last (by (try simp only [List.length_append, List.length_cons, List.length_nil, List.length_set]); omega) | apply lk_prev)) | (apply within_sl; repeat (first | assumption | exact lk_last (by (try simp only [List.length_append, List.length_cons, List.length_nil, List.length_set]); omega) | apply lk_prev)) | ((try apply within_sub); apply Ints.within; repeat (first | assumption | apply Ints.app)))) | (apply Within.agg2 <;> (first | exact .prim rfl | (apply within_ptr; repeat (first | assumption | exact lk_last (by (try simp only [List.length_append, List.length_cons, List.length_nil, List.length_set]); omega) | apply lk_prev)) | (apply within_sl; repeat (first | assumption | exact lk_last (by (try simp only [List.length_append, List.length_cons, List.length_nil, List.length_set]); omega) | apply lk_prev)) | ((try apply within_sub); apply Ints.within; repeat (first | assumption | apply Ints.app)))) | (apply Ints.within; repeat (first | assumption | apply Ints.app))) ?_
                refine d_no rfl ?_
                refine d_no rfl ?_
                refine d_no rfl ?_
                refine d_no rfl ?_
                refine d_do rfl (o_pickF (by conv => lhs; whnf) (by conv => lhs; whnf) ⟨rfl, rfl⟩) (by first | exact .prim rfl | (apply within_sub; apply Ints.within; repeat (first | assumption | apply Ints.app)) | (apply within_ptr; repeat (first | assumption | exact lk_last (by (try simp only [List.length_append, List.length_cons, List.length_nil, List.length_set]); omega) | apply lk_prev)) | (apply within_sl; repeat (first | assumption | exact lk_last (by (try simp only [List.length_append, List.length_cons, List.length_nil, List.length_set]); omega) | apply lk_prev)) | (apply Within.agg3 <;> (first | exact .prim rfl | (apply within_ptr; repeat (first | assumption | exact lk_last (by (try simp only [List.length_append, List.length_cons, List.length_nil, List.length_set]); omega) | apply lk_prev)) | (apply within_sl; repeat (first | assumption | exact lk_last (by (try simp only [List.length_append, List.length_cons, List.length_nil, List.length_set]); omega) | apply lk_prev)) | ((try apply within_sub); apply Ints.within; repeat (first | assumption | apply Ints.app)))) | (apply Within.agg2 <;> (first | exact .prim rfl | (apply within_ptr; repeat (first | assumption | exact lk_last (by (try simp only [List.length_append, List.length_cons, List.length_nil, List.length_set]); omega) | apply lk_prev)) | (apply within_sl; repeat (first | assumption | exact lk_last (by (try simp only [List.length_append, List.length_cons, List.length_nil, List.length_set]); omega) | apply lk_prev)) | ((try apply within_sub); apply Ints.within; repeat (first | assumption | apply Ints.app)))) | (apply Ints.within; repeat (first | assumption | apply Ints.app))) ?_
                refine d_do rfl (o_move (by conv => lhs; whnf) ⟨rfl, rfl⟩) (by first | exact .prim rfl | (apply within_sub; apply Ints.within; repeat (first | assumption | apply Ints.app)) | (apply within_ptr; repeat (first | assumption | exact lk_last (by (try simp only [List.length_append, List.length_cons, List.length_nil, List.length_set]); omega) | apply lk_prev)) | (apply within_sl; repeat (first | assumption | exact lk_last (by (try simp only [List.length_append, List.length_cons, List.length_nil, List.length_set]); omega) | apply lk_prev)) | (apply Within.agg3 <;> (first | exact .prim rfl | (apply within_ptr; repeat (first | assumption | exact lk_last (by (try simp only [List.length_append, List.length_cons, List.length_nil, List.length_set]); omega) | apply lk_prev)) | (apply within_sl; repeat (first | assumption | exact lk_last (by (try simp only [List.length_append, List.length_cons, List.length_nil, List.length_set]); omega) | apply lk_prev)) | ((try apply within_sub); apply Ints.within; repeat (first | assumption | apply Ints.app)))) | (apply Within.agg2 <;> (first | exact .prim rfl | (apply within_ptr; repeat (first | assumption | exact lk_last (by (try simp only [List.length_append, List.length_cons, List.length_nil, List.length_set]); omega) | apply lk_prev)) | (apply within_sl; repeat (first | assumption | exact lk_last (by (try simp only [List.length_append, List.length_cons, List.length_nil, List.length_set]); omega) | apply lk_prev)) | ((try apply within_sub); apply Ints.within; repeat (first | assumption | apply Ints.app)))) | (apply Ints.within; repeat (first | assumption | apply Ints.app))) ?_
                refine d_no rfl ?_
                refine d_no rfl ?_
                refine d_no rfl ?_
                refine d_no rfl ?_
                refine d_no rfl ?_
                refine d_no rfl ?_
                refine d_no rfl ?_
                refine d_no rfl ?_
                refine d_no rfl ?_
                refine d_no rfl ?_
                refine d_no rfl ?_
                refine d_no rfl ?_
                refine d_no rfl ?_
                refine d_no rfl ?_
                refine d_no rfl ?_
                refine d_no rfl ?_
                refine d_no rfl ?_
                refine d_no rfl ?_
                refine d_no rfl ?_
                refine d_do rfl (o_pickF (by conv => lhs; whnf) (by conv => lhs; whnf) ⟨rfl, rfl⟩) (by first | exact .prim rfl | (apply within_sub; apply Ints.within; repeat (first | assumption | apply Ints.app)) | (apply within_ptr; repeat (first | assumption | exact lk_last (by (try simp only [List.length_append, List.length_cons, List.length_nil, List.length_set]); omega) | apply lk_prev)) | (apply within_sl; repeat (first | assumption | exact lk_last (by (try simp only [List.length_append, List.length_cons, List.length_nil, List.length_set]); omega) | apply lk_prev)) | (apply Within.agg3 <;> (first | exact .prim rfl | (apply within_ptr; repeat (first | assumption | exact lk_last (by (try simp only [List.length_append, List.length_cons, List.length_nil, List.length_set]); omega) | apply lk_prev)) | (apply within_sl; repeat (first | assumption | exact lk_last (by (try simp only [List.length_append, List.length_cons, List.length_nil, List.length_set]); omega) | apply lk_prev)) | ((try apply within_sub); apply Ints.within; repeat (first | assumption | apply Ints.app)))) | (apply Within.agg2 <;> (first | exact .prim rfl | (apply within_ptr; repeat (first | assumption | exact lk_last (by (try simp only [List.length_append, List.length_cons, List.length_nil, List.length_set]); omega) | apply lk_prev)) | (apply within_sl; repeat (first | assumption | exact lk_last (by (try simp only [List.length_append, List.length_cons, List.length_nil, List.length_set]); omega) | apply lk_prev)) | ((try apply within_sub); apply Ints.within; repeat (first | assumption | apply Ints.app)))) | (apply Ints.within; repeat (first | assumption | apply Ints.app))) ?_
                refine d_end ?_
                refine awp_condF (by conv => lhs; whnf) ?_
                refine awp_skip ?_
                refine awp_region rfl ?_
                refine a_do rfl (o_add (by conv => lhs; whnf) (by conv => lhs; whnf) (by omega) (by omega) ?_)
                refine a_do rfl (o_move (by conv => lhs; whnf) ?_)
                refine a_end ?_
                refine ⟨s + 1, ⟨Slots.mk ⟨?_, ?_, ?_, ?_, ?_, trivial⟩, ?_, ?_⟩, ?_⟩
                all_goals first | rfl | omega | exact congrArg i64 (by omega) | exact ⟨by omega, by rw [alikeB_step, ha, decide_eq_true (by omega)]; simp⟩ | exact ⟨by omega, by rw [alikeB_step, ha]; simp [*]⟩
              ·
                obtain ⟨hu1, hu2, hu3, hu4, hu5⟩ := bit_up (s := s) (q := i) hW (by omega) (by omega) c8
                refine d_do rfl (o_notF (by conv => lhs; whnf) ⟨rfl, rfl⟩) (by first | exact .prim rfl | (apply within_sub; apply Ints.within; repeat (first | assumption | apply Ints.app)) | (apply within_ptr; repeat (first | assumption | exact lk_last (by (try simp only [List.length_append, List.length_cons, List.length_nil, List.length_set]); omega) | apply lk_prev)) | (apply within_sl; repeat (first | assumption | exact lk_last (by (try simp only [List.length_append, List.length_cons, List.length_nil, List.length_set]); omega) | apply lk_prev)) | (apply Within.agg3 <;> (first | exact .prim rfl | (apply within_ptr; repeat (first | assumption | exact lk_last (by (try simp only [List.length_append, List.length_cons, List.length_nil, List.length_set]); omega) | apply lk_prev)) | (apply within_sl; repeat (first | assumption | exact lk_last (by (try simp only [List.length_append, List.length_cons, List.length_nil, List.length_set]); omega) | apply lk_prev)) | ((try apply within_sub); apply Ints.within; repeat (first | assumption | apply Ints.app)))) | (apply Within.agg2 <;> (first | exact .prim rfl | (apply within_ptr; repeat (first | assumption | exact lk_last (by (try simp only [List.length_append, List.length_cons, List.length_nil, List.length_set]); omega) | apply lk_prev)) | (apply within_sl; repeat (first | assumption | exact lk_last (by (try simp only [List.length_append, List.length_cons, List.length_nil, List.length_set]); omega) | apply lk_prev)) | ((try apply within_sub); apply Ints.within; repeat (first | assumption | apply Ints.app)))) | (apply Ints.within; repeat (first | assumption | apply Ints.app))) ?_
                refine d_do rfl (o_move (by conv => lhs; whnf) ⟨rfl, rfl⟩) (by first | exact .prim rfl | (apply within_sub; apply Ints.within; repeat (first | assumption | apply Ints.app)) | (apply within_ptr; repeat (first | assumption | exact lk_last (by (try simp only [List.length_append, List.length_cons, List.length_nil, List.length_set]); omega) | apply lk_prev)) | (apply within_sl; repeat (first | assumption | exact lk_last (by (try simp only [List.length_append, List.length_cons, List.length_nil, List.length_set]); omega) | apply lk_prev)) | (apply Within.agg3 <;> (first | exact .prim rfl | (apply within_ptr; repeat (first | assumption | exact lk_last (by (try simp only [List.length_append, List.length_cons, List.length_nil, List.length_set]); omega) | apply lk_prev)) | (apply within_sl; repeat (first | assumption | exact lk_last (by (try simp only [List.length_append, List.length_cons, List.length_nil, List.length_set]); omega) | apply lk_prev)) | ((try apply within_sub); apply Ints.within; repeat (first | assumption | apply Ints.app)))) | (apply Within.agg2 <;> (first | exact .prim rfl | (apply within_ptr; repeat (first | assumption | exact lk_last (by (try simp only [List.length_append, List.length_cons, List.length_nil, List.length_set]); omega) | apply lk_prev)) | (apply within_sl; repeat (first | assumption | exact lk_last (by (try simp only [List.length_append, List.length_cons, List.length_nil, List.length_set]); omega) | apply lk_prev)) | ((try apply within_sub); apply Ints.within; repeat (first | assumption | apply Ints.app)))) | (apply Ints.within; repeat (first | assumption | apply Ints.app))) ?_
                refine d_do rfl (o_move (by conv => lhs; whnf) ⟨rfl, rfl⟩) (by first | exact .prim rfl | (apply within_sub; apply Ints.within; repeat (first | assumption | apply Ints.app)) | (apply within_ptr; repeat (first | assumption | exact lk_last (by (try simp only [List.length_append, List.length_cons, List.length_nil, List.length_set]); omega) | apply lk_prev)) | (apply within_sl; repeat (first | assumption | exact lk_last (by (try simp only [List.length_append, List.length_cons, List.length_nil, List.length_set]); omega) | apply lk_prev)) | (apply Within.agg3 <;> (first | exact .prim rfl | (apply within_ptr; repeat (first | assumption | exact lk_last (by (try simp only [List.length_append, List.length_cons, List.length_nil, List.length_set]); omega) | apply lk_prev)) | (apply within_sl; repeat (first | assumption | exact lk_last (by (try simp only [List.length_append, List.length_cons, List.length_nil, List.length_set]); omega) | apply lk_prev)) | ((try apply within_sub); apply Ints.within; repeat (first | assumption | apply Ints.app)))) | (apply Within.agg2 <;> (first | exact .prim rfl | (apply within_ptr; repeat (first | assumption | exact lk_last (by (try simp only [List.length_append, List.length_cons, List.length_nil, List.length_set]); omega) | apply lk_prev)) | (apply within_sl; repeat (first | assumption | exact lk_last (by (try simp only [List.length_append, List.length_cons, List.length_nil, List.length_set]); omega) | apply lk_prev)) | ((try apply within_sub); apply Ints.within; repeat (first | assumption | apply Ints.app)))) | (apply Ints.within; repeat (first | assumption | apply Ints.app))) ?_
                refine d_do rfl (o_move (by conv => lhs; whnf) ⟨rfl, rfl⟩) (by first | exact .prim rfl | (apply within_sub; apply Ints.within; repeat (first | assumption | apply Ints.app)) | (apply within_ptr; repeat (first | assumption | exact lk_last (by (try simp only [List.length_append, List.length_cons, List.length_nil, List.length_set]); omega) | apply lk_prev)) | (apply within_sl; repeat (first | assumption | exact lk_last (by (try simp only [List.length_append, List.length_cons, List.length_nil, List.length_set]); omega) | apply lk_prev)) | (apply Within.agg3 <;> (first | exact .prim rfl | (apply within_ptr; repeat (first | assumption | exact lk_last (by (try simp only [List.length_append, List.length_cons, List.length_nil, List.length_set]); omega) | apply lk_prev)) | (apply within_sl; repeat (first | assumption | exact lk_last (by (try simp only [List.length_append, List.length_cons, List.length_nil, List.length_set]); omega) | apply lk_prev)) | ((try apply within_sub); apply Ints.within; repeat (first | assumption | apply Ints.app)))) | (apply Within.agg2 <;> (first | exact .prim rfl | (apply within_ptr; repeat (first | assumption | exact lk_last (by (try simp only [List.length_append, List.length_cons, List.length_nil, List.length_set]); omega) | apply lk_prev)) | (apply within_sl; repeat (first | assumption | exact lk_last (by (try simp only [List.length_append, List.length_cons, List.length_nil, List.length_set]); omega) | apply lk_prev)) | ((try apply within_sub); apply Ints.within; repeat (first | assumption | apply Ints.app)))) | (apply Ints.within; repeat (first | assumption | apply Ints.app))) ?_
                refine d_callB rfl (lmap_cons (by conv => lhs; whnf) (lmap_cons (by conv => lhs; whnf) lmap_nil)) (l03In_ret _ _ _ (by omega) (by omega)) (fun c9 => ?_) (fun c9 => ?_)
                ·
                  refine d_do rfl (o_notT (by conv => lhs; whnf) ⟨rfl, rfl⟩) (by first | exact .prim rfl | (apply within_sub; apply Ints.within; repeat (first | assumption | apply Ints.app)) | (apply within_ptr; repeat (first | assumption | exact lk_last (by (try simp only [List.length_append, List.length_cons, List.length_nil, List.length_set]); omega) | apply lk_prev)) | (apply within_sl; repeat (first | assumption | exact lk_last (by (try simp only [List.length_append, List.length_cons, List.length_nil, List.length_set]); omega) | apply lk_prev)) | (apply Within.agg3 <;> (first | exact .prim rfl | (apply within_ptr; repeat (first | assumption | exact lk_last (by (try simp only [List.length_append, List.length_cons, List.length_nil, List.length_set]); omega) | apply lk_prev)) | (apply within_sl; repeat (first | assumption | exact lk_last (by (try simp only [List.length_append, List.length_cons, List.length_nil, List.length_set]); omega) | apply lk_prev)) | ((try apply within_sub); apply Ints.within; repeat (first | assumption | apply Ints.app)))) | (apply Within.agg2 <;> (first | exact .prim rfl | (apply within_ptr; repeat (first | assumption | exact lk_last (by (try simp only [List.length_append, List.length_cons, List.length_nil, List.length_set]); omega) | apply lk_prev)) | (apply within_sl; repeat (first | assumption | exact lk_last (by (try simp only [List.length_append, List.length_cons, List.length_nil, List.length_set]); omega) | apply lk_prev)) | ((try apply within_sub); apply Ints.within; repeat (first | assumption | apply Ints.app)))) | (apply Ints.within; repeat (first | assumption | apply Ints.app))) ?_
                  refine d_do rfl (o_pickT (by conv => lhs; whnf) (by conv => lhs; whnf) ⟨rfl, rfl⟩) (by first | exact .prim rfl | (apply within_sub; apply Ints.within; repeat (first | assumption | apply Ints.app)) | (apply within_ptr; repeat (first | assumption | exact lk_last (by (try simp only [List.length_append, List.length_cons, List.length_nil, List.length_set]); omega) | apply lk_prev)) | (apply within_sl; repeat (first | assumption | exact lk_last (by (try simp only [List.length_append, List.length_cons, List.length_nil, List.length_set]); omega) | apply lk_prev)) | (apply Within.agg3 <;> (first | exact .prim rfl | (apply within_ptr; repeat (first | assumption | exact lk_last (by (try simp only [List.length_append, List.length_cons, List.length_nil, List.length_set]); omega) | apply lk_prev)) | (apply within_sl; repeat (first | assumption | exact lk_last (by (try simp only [List.length_append, List.length_cons, List.length_nil, List.length_set]); omega) | apply lk_prev)) | ((try apply within_sub); apply Ints.within; repeat (first | assumption | apply Ints.app)))) | (apply Within.agg2 <;> (first | exact .prim rfl | (apply within_ptr; repeat (first | assumption | exact lk_last (by (try simp only [List.length_append, List.length_cons, List.length_nil, List.length_set]); omega) | apply lk_prev)) | (apply within_sl; repeat (first | assumption | exact lk_last (by (try simp only [List.length_append, List.length_cons, List.length_nil, List.length_set]); omega) | apply lk_prev)) | ((try apply within_sub); apply Ints.within; repeat (first | assumption | apply Ints.app)))) | (apply Ints.within; repeat (first | assumption | apply Ints.app))) ?_
                  refine d_do rfl (o_move (by conv => lhs; whnf) ⟨rfl, rfl⟩) (by first | exact .prim rfl | (apply within_sub; apply Ints.within; repeat (first | assumption | apply Ints.app)) | (apply within_ptr; repeat (first | assumption | exact lk_last (by (try simp only [List.length_append, List.length_cons, List.length_nil, List.length_set]); omega) | apply lk_prev)) | (apply within_sl; repeat (first | assumption | exact lk_last (by (try simp only [List.length_append, List.length_cons, List.length_nil, List.length_set]); omega) | apply lk_prev)) | (apply Within.agg3 <;> (first | exact .prim rfl | (apply within_ptr; repeat (first | assumption | exact lk_last (by (try simp only [List.length_append, List.length_cons, List.length_nil, List.length_set]); omega) | apply lk_prev)) | (apply within_sl; repeat (first | assumption | exact lk_last (by (try simp only [List.length_append, List.length_cons, List.length_nil, List.length_set]); omega) | apply lk_prev)) | ((try apply within_sub); apply Ints.within; repeat (first | assumption | apply Ints.app)))) | (apply Within.agg2 <;> (first | exact .prim rfl | (apply within_ptr; repeat (first | assumption | exact lk_last (by (try simp only [List.length_append, List.length_cons, List.length_nil, List.length_set]); omega) | apply lk_prev)) | (apply within_sl; repeat (first | assumption | exact lk_last (by (try simp only [List.length_append, List.length_cons, List.length_nil, List.length_set]); omega) | apply lk_prev)) | ((try apply within_sub); apply Ints.within; repeat (first | assumption | apply Ints.app)))) | (apply Ints.within; repeat (first | assumption | apply Ints.app))) ?_
                  refine d_no rfl ?_
                  refine d_no rfl ?_
                  refine d_no rfl ?_
                  refine d_no rfl ?_
                  refine d_no rfl ?_
                  refine d_no rfl ?_
                  refine d_no rfl ?_
                  refine d_no rfl ?_
                  refine d_no rfl ?_
                  refine d_no rfl ?_
                  refine d_no rfl ?_
                  refine d_no rfl ?_
                  refine d_no rfl ?_
                  refine d_no rfl ?_
                  refine d_no rfl ?_
                  refine d_no rfl ?_
                  refine d_no rfl ?_
                  refine d_no rfl ?_
                  refine d_no rfl ?_
                  refine d_do rfl (o_pickF (by conv => lhs; whnf) (by conv => lhs; whnf) ⟨rfl, rfl⟩) (by first | exact .prim rfl | (apply within_sub; apply Ints.within; repeat (first | assumption | apply Ints.app)) | (apply within_ptr; repeat (first | assumption | exact lk_last (by (try simp only [List.length_append, List.length_cons, List.length_nil, List.length_set]); omega) | apply lk_prev)) | (apply within_sl; repeat (first | assumption | exact lk_last (by (try simp only [List.length_append, List.length_cons, List.length_nil, List.length_set]); omega) | apply lk_prev)) | (apply Within.agg3 <;> (first | exact .prim rfl | (apply within_ptr; repeat (first | assumption | exact lk_last (by (try simp only [List.length_append, List.length_cons, List.length_nil, List.length_set]); omega) | apply lk_prev)) | (apply within_sl; repeat (first | assumption | exact lk_last (by (try simp only [List.length_append, List.length_cons, List.length_nil, List.length_set]); omega) | apply lk_prev)) | ((try apply within_sub); apply Ints.within; repeat (first | assumption | apply Ints.app)))) | (apply Within.agg2 <;> (first | exact .prim rfl | (apply within_ptr; repeat (first | assumption | exact lk_last (by (try simp only [List.length_append, List.length_cons, List.length_nil, List.length_set]); omega) | apply lk_prev)) | (apply within_sl; repeat (first | assumption | exact lk_last (by (try simp only [List.length_append, List.length_cons, List.length_nil, List.length_set]); omega) | apply lk_prev)) | ((try apply within_sub); apply Ints.within; repeat (first | assumption | apply Ints.app)))) | (apply Ints.within; repeat (first | assumption | apply Ints.app))) ?_
                  refine d_end ?_
                  refine awp_condF (by conv => lhs; whnf) ?_
                  refine awp_skip ?_
                  refine awp_region rfl ?_
                  refine a_do rfl (o_add (by conv => lhs; whnf) (by conv => lhs; whnf) (by omega) (by omega) ?_)
                  refine a_do rfl (o_move (by conv => lhs; whnf) ?_)
                  refine a_end ?_
                  refine ⟨s + 1, ⟨Slots.mk ⟨?_, ?_, ?_, ?_, ?_, trivial⟩, ?_, ?_⟩, ?_⟩
                  all_goals first | rfl | omega | exact congrArg i64 (by omega) | exact ⟨by omega, by rw [alikeB_step, ha, decide_eq_true (by omega)]; simp⟩ | exact ⟨by omega, by rw [alikeB_step, ha]; simp [*]⟩
                ·
                  obtain ⟨hw1, hw2, hw3, hw4, hw5⟩ := bit_up (s := s) (q := k) hW (by omega) (by omega) c9
                  refine d_do rfl (o_notF (by conv => lhs; whnf) ⟨rfl, rfl⟩) (by first | exact .prim rfl | (apply within_sub; apply Ints.within; repeat (first | assumption | apply Ints.app)) | (apply within_ptr; repeat (first | assumption | exact lk_last (by (try simp only [List.length_append, List.length_cons, List.length_nil, List.length_set]); omega) | apply lk_prev)) | (apply within_sl; repeat (first | assumption | exact lk_last (by (try simp only [List.length_append, List.length_cons, List.length_nil, List.length_set]); omega) | apply lk_prev)) | (apply Within.agg3 <;> (first | exact .prim rfl | (apply within_ptr; repeat (first | assumption | exact lk_last (by (try simp only [List.length_append, List.length_cons, List.length_nil, List.length_set]); omega) | apply lk_prev)) | (apply within_sl; repeat (first | assumption | exact lk_last (by (try simp only [List.length_append, List.length_cons, List.length_nil, List.length_set]); omega) | apply lk_prev)) | ((try apply within_sub); apply Ints.within; repeat (first | assumption | apply Ints.app)))) | (apply Within.agg2 <;> (first | exact .prim rfl | (apply within_ptr; repeat (first | assumption | exact lk_last (by (try simp only [List.length_append, List.length_cons, List.length_nil, List.length_set]); omega) | apply lk_prev)) | (apply within_sl; repeat (first | assumption | exact lk_last (by (try simp only [List.length_append, List.length_cons, List.length_nil, List.length_set]); omega) | apply lk_prev)) | ((try apply within_sub); apply Ints.within; repeat (first | assumption | apply Ints.app)))) | (apply Ints.within; repeat (first | assumption | apply Ints.app))) ?_
                  refine d_do rfl (o_pickT (by conv => lhs; whnf) (by conv => lhs; whnf) ⟨rfl, rfl⟩) (by first | exact .prim rfl | (apply within_sub; apply Ints.within; repeat (first | assumption | apply Ints.app)) | (apply within_ptr; repeat (first | assumption | exact lk_last (by (try simp only [List.length_append, List.length_cons, List.length_nil, List.length_set]); omega) | apply lk_prev)) | (apply within_sl; repeat (first | assumption | exact lk_last (by (try simp only [List.length_append, List.length_cons, List.length_nil, List.length_set]); omega) | apply lk_prev)) | (apply Within.agg3 <;> (first | exact .prim rfl | (apply within_ptr; repeat (first | assumption | exact lk_last (by (try simp only [List.length_append, List.length_cons, List.length_nil, List.length_set]); omega) | apply lk_prev)) | (apply within_sl; repeat (first | assumption | exact lk_last (by (try simp only [List.length_append, List.length_cons, List.length_nil, List.length_set]); omega) | apply lk_prev)) | ((try apply within_sub); apply Ints.within; repeat (first | assumption | apply Ints.app)))) | (apply Within.agg2 <;> (first | exact .prim rfl | (apply within_ptr; repeat (first | assumption | exact lk_last (by (try simp only [List.length_append, List.length_cons, List.length_nil, List.length_set]); omega) | apply lk_prev)) | (apply within_sl; repeat (first | assumption | exact lk_last (by (try simp only [List.length_append, List.length_cons, List.length_nil, List.length_set]); omega) | apply lk_prev)) | ((try apply within_sub); apply Ints.within; repeat (first | assumption | apply Ints.app)))) | (apply Ints.within; repeat (first | assumption | apply Ints.app))) ?_
                  refine d_do rfl (o_move (by conv => lhs; whnf) ⟨rfl, rfl⟩) (by first | exact .prim rfl | (apply within_sub; apply Ints.within; repeat (first | assumption | apply Ints.app)) | (apply within_ptr; repeat (first | assumption | exact lk_last (by (try simp only [List.length_append, List.length_cons, List.length_nil, List.length_set]); omega) | apply lk_prev)) | (apply within_sl; repeat (first | assumption | exact lk_last (by (try simp only [List.length_append, List.length_cons, List.length_nil, List.length_set]); omega) | apply lk_prev)) | (apply Within.agg3 <;> (first | exact .prim rfl | (apply within_ptr; repeat (first | assumption | exact lk_last (by (try simp only [List.length_append, List.length_cons, List.length_nil, List.length_set]); omega) | apply lk_prev)) | (apply within_sl; repeat (first | assumption | exact lk_last (by (try simp only [List.length_append, List.length_cons, List.length_nil, List.length_set]); omega) | apply lk_prev)) | ((try apply within_sub); apply Ints.within; repeat (first | assumption | apply Ints.app)))) | (apply Within.agg2 <;> (first | exact .prim rfl | (apply within_ptr; repeat (first | assumption | exact lk_last (by (try simp only [List.length_append, List.length_cons, List.length_nil, List.length_set]); omega) | apply lk_prev)) | (apply within_sl; repeat (first | assumption | exact lk_last (by (try simp only [List.length_append, List.length_cons, List.length_nil, List.length_set]); omega) | apply lk_prev)) | ((try apply within_sub); apply Ints.within; repeat (first | assumption | apply Ints.app)))) | (apply Ints.within; repeat (first | assumption | apply Ints.app))) ?_
                  refine d_do rfl (o_fieldAddr Try.underlying28 rfl ty22 (by conv => lhs; whnf) (by repeat (first | assumption | exact lk_last (by (try simp only [List.length_append, List.length_cons, List.length_nil, List.length_set]); omega) | apply lk_prev)) (by rfl) ⟨rfl, rfl⟩) (by first | exact .prim rfl | (apply within_sub; apply Ints.within; repeat (first | assumption | apply Ints.app)) | (apply within_ptr; repeat (first | assumption | exact lk_last (by (try simp only [List.length_append, List.length_cons, List.length_nil, List.length_set]); omega) | apply lk_prev)) | (apply within_sl; repeat (first | assumption | exact lk_last (by (try simp only [List.length_append, List.length_cons, List.length_nil, List.length_set]); omega) | apply lk_prev)) | (apply Within.agg3 <;> (first | exact .prim rfl | (apply within_ptr; repeat (first | assumption | exact lk_last (by (try simp only [List.length_append, List.length_cons, List.length_nil, List.length_set]); omega) | apply lk_prev)) | (apply within_sl; repeat (first | assumption | exact lk_last (by (try simp only [List.length_append, List.length_cons, List.length_nil, List.length_set]); omega) | apply lk_prev)) | ((try apply within_sub); apply Ints.within; repeat (first | assumption | apply Ints.app)))) | (apply Within.agg2 <;> (first | exact .prim rfl | (apply within_ptr; repeat (first | assumption | exact lk_last (by (try simp only [List.length_append, List.length_cons, List.length_nil, List.length_set]); omega) | apply lk_prev)) | (apply within_sl; repeat (first | assumption | exact lk_last (by (try simp only [List.length_append, List.length_cons, List.length_nil, List.length_set]); omega) | apply lk_prev)) | ((try apply within_sub); apply Ints.within; repeat (first | assumption | apply Ints.app)))) | (apply Ints.within; repeat (first | assumption | apply Ints.app))) ?_
                  refine d_do rfl (o_load Try.underlying22 rfl (by conv => lhs; whnf) (by repeat (first | assumption | exact lk_last (by (try simp only [List.length_append, List.length_cons, List.length_nil, List.length_set]); omega) | apply lk_prev)) (by rfl) (by rfl) ⟨rfl, rfl⟩) (by first | exact .prim rfl | (apply within_sub; apply Ints.within; repeat (first | assumption | apply Ints.app)) | (apply within_ptr; repeat (first | assumption | exact lk_last (by (try simp only [List.length_append, List.length_cons, List.length_nil, List.length_set]); omega) | apply lk_prev)) | (apply within_sl; repeat (first | assumption | exact lk_last (by (try simp only [List.length_append, List.length_cons, List.length_nil, List.length_set]); omega) | apply lk_prev)) | (apply Within.agg3 <;> (first | exact .prim rfl | (apply within_ptr; repeat (first | assumption | exact lk_last (by (try simp only [List.length_append, List.length_cons, List.length_nil, List.length_set]); omega) | apply lk_prev)) | (apply within_sl; repeat (first | assumption | exact lk_last (by (try simp only [List.length_append, List.length_cons, List.length_nil, List.length_set]); omega) | apply lk_prev)) | ((try apply within_sub); apply Ints.within; repeat (first | assumption | apply Ints.app)))) | (apply Within.agg2 <;> (first | exact .prim rfl | (apply within_ptr; repeat (first | assumption | exact lk_last (by (try simp only [List.length_append, List.length_cons, List.length_nil, List.length_set]); omega) | apply lk_prev)) | (apply within_sl; repeat (first | assumption | exact lk_last (by (try simp only [List.length_append, List.length_cons, List.length_nil, List.length_set]); omega) | apply lk_prev)) | ((try apply within_sub); apply Ints.within; repeat (first | assumption | apply Ints.app)))) | (apply Ints.within; repeat (first | assumption | apply Ints.app))) ?_
                  refine d_do rfl (o_move (by conv => lhs; whnf) ⟨rfl, rfl⟩) (by first | exact .prim rfl | (apply within_sub; apply Ints.within; repeat (first | assumption | apply Ints.app)) | (apply within_ptr; repeat (first | assumption | exact lk_last (by (try simp only [List.length_append, List.length_cons, List.length_nil, List.length_set]); omega) | apply lk_prev)) | (apply within_sl; repeat (first | assumption | exact lk_last (by (try simp only [List.length_append, List.length_cons, List.length_nil, List.length_set]); omega) | apply lk_prev)) | (apply Within.agg3 <;> (first | exact .prim rfl | (apply within_ptr; repeat (first | assumption | exact lk_last (by (try simp only [List.length_append, List.length_cons, List.length_nil, List.length_set]); omega) | apply lk_prev)) | (apply within_sl; repeat (first | assumption | exact lk_last (by (try simp only [List.length_append, List.length_cons, List.length_nil, List.length_set]); omega) | apply lk_prev)) | ((try apply within_sub); apply Ints.within; repeat (first | assumption | apply Ints.app)))) | (apply Within.agg2 <;> (first | exact .prim rfl | (apply within_ptr; repeat (first | assumption | exact lk_last (by (try simp only [List.length_append, List.length_cons, List.length_nil, List.length_set]); omega) | apply lk_prev)) | (apply within_sl; repeat (first | assumption | exact lk_last (by (try simp only [List.length_append, List.length_cons, List.length_nil, List.length_set]); omega) | apply lk_prev)) | ((try apply within_sub); apply Ints.within; repeat (first | assumption | apply Ints.app)))) | (apply Ints.within; repeat (first | assumption | apply Ints.app))) ?_
                  refine d_do rfl (o_move (by conv => lhs; whnf) ⟨rfl, rfl⟩) (by first | exact .prim rfl | (apply within_sub; apply Ints.within; repeat (first | assumption | apply Ints.app)) | (apply within_ptr; repeat (first | assumption | exact lk_last (by (try simp only [List.length_append, List.length_cons, List.length_nil, List.length_set]); omega) | apply lk_prev)) | (apply within_sl; repeat (first | assumption | exact lk_last (by (try simp only [List.length_append, List.length_cons, List.length_nil, List.length_set]); omega) | apply lk_prev)) | (apply Within.agg3 <;> (first | exact .prim rfl | (apply within_ptr; repeat (first | assumption | exact lk_last (by (try simp only [List.length_append, List.length_cons, List.length_nil, List.length_set]); omega) | apply lk_prev)) | (apply within_sl; repeat (first | assumption | exact lk_last (by (try simp only [List.length_append, List.length_cons, List.length_nil, List.length_set]); omega) | apply lk_prev)) | ((try apply within_sub); apply Ints.within; repeat (first | assumption | apply Ints.app)))) | (apply Within.agg2 <;> (first | exact .prim rfl | (apply within_ptr; repeat (first | assumption | exact lk_last (by (try simp only [List.length_append, List.length_cons, List.length_nil, List.length_set]); omega) | apply lk_prev)) | (apply within_sl; repeat (first | assumption | exact lk_last (by (try simp only [List.length_append, List.length_cons, List.length_nil, List.length_set]); omega) | apply lk_prev)) | ((try apply within_sub); apply Ints.within; repeat (first | assumption | apply Ints.app)))) | (apply Ints.within; repeat (first | assumption | apply Ints.app))) ?_
                  refine d_do rfl (o_convU Try.underlying2 Try.underlying68 (by conv => lhs; whnf) (by omega) (by omega) ⟨rfl, rfl⟩) (by first | exact .prim rfl | (apply within_sub; apply Ints.within; repeat (first | assumption | apply Ints.app)) | (apply within_ptr; repeat (first | assumption | exact lk_last (by (try simp only [List.length_append, List.length_cons, List.length_nil, List.length_set]); omega) | apply lk_prev)) | (apply within_sl; repeat (first | assumption | exact lk_last (by (try simp only [List.length_append, List.length_cons, List.length_nil, List.length_set]); omega) | apply lk_prev)) | (apply Within.agg3 <;> (first | exact .prim rfl | (apply within_ptr; repeat (first | assumption | exact lk_last (by (try simp only [List.length_append, List.length_cons, List.length_nil, List.length_set]); omega) | apply lk_prev)) | (apply within_sl; repeat (first | assumption | exact lk_last (by (try simp only [List.length_append, List.length_cons, List.length_nil, List.length_set]); omega) | apply lk_prev)) | ((try apply within_sub); apply Ints.within; repeat (first | assumption | apply Ints.app)))) | (apply Within.agg2 <;> (first | exact .prim rfl | (apply within_ptr; repeat (first | assumption | exact lk_last (by (try simp only [List.length_append, List.length_cons, List.length_nil, List.length_set]); omega) | apply lk_prev)) | (apply within_sl; repeat (first | assumption | exact lk_last (by (try simp only [List.length_append, List.length_cons, List.length_nil, List.length_set]); omega) | apply lk_prev)) | ((try apply within_sub); apply Ints.within; repeat (first | assumption | apply Ints.app)))) | (apply Ints.within; repeat (first | assumption | apply Ints.app))) ?_
                  refine d_do rfl (o_shl (by conv => lhs; whnf) (by conv => lhs; whnf) (by omega) (by omega) (by omega) (by omega) ⟨rfl, rfl⟩) (by first | exact .prim rfl | (apply within_sub; apply Ints.within; repeat (first | assumption | apply Ints.app)) | (apply within_ptr; repeat (first | assumption | exact lk_last (by (try simp only [List.length_append, List.length_cons, List.length_nil, List.length_set]); omega) | apply lk_prev)) | (apply within_sl; repeat (first | assumption | exact lk_last (by (try simp only [List.length_append, List.length_cons, List.length_nil, List.length_set]); omega) | apply lk_prev)) | (apply Within.agg3 <;> (first | exact .prim rfl | (apply within_ptr; repeat (first | assumption | exact lk_last (by (try simp only [List.length_append, List.length_cons, List.length_nil, List.length_set]); omega) | apply lk_prev)) | (apply within_sl; repeat (first | assumption | exact lk_last (by (try simp only [List.length_append, List.length_cons, List.length_nil, List.length_set]); omega) | apply lk_prev)) | ((try apply within_sub); apply Ints.within; repeat (first | assumption | apply Ints.app)))) | (apply Within.agg2 <;> (first | exact .prim rfl | (apply within_ptr; repeat (first | assumption | exact lk_last (by (try simp only [List.length_append, List.length_cons, List.length_nil, List.length_set]); omega) | apply lk_prev)) | (apply within_sl; repeat (first | assumption | exact lk_last (by (try simp only [List.length_append, List.length_cons, List.length_nil, List.length_set]); omega) | apply lk_prev)) | ((try apply within_sub); apply Ints.within; repeat (first | assumption | apply Ints.app)))) | (apply Ints.within; repeat (first | assumption | apply Ints.app))) ?_
                  refine d_do rfl (o_add (by conv => lhs; whnf) (by conv => lhs; whnf) (by omega) (by omega) ⟨rfl, rfl⟩) (by first | exact .prim rfl | (apply within_sub; apply Ints.within; repeat (first | assumption | apply Ints.app)) | (apply within_ptr; repeat (first | assumption | exact lk_last (by (try simp only [List.length_append, List.length_cons, List.length_nil, List.length_set]); omega) | apply lk_prev)) | (apply within_sl; repeat (first | assumption | exact lk_last (by (try simp only [List.length_append, List.length_cons, List.length_nil, List.length_set]); omega) | apply lk_prev)) | (apply Within.agg3 <;> (first | exact .prim rfl | (apply within_ptr; repeat (first | assumption | exact lk_last (by (try simp only [List.length_append, List.length_cons, List.length_nil, List.length_set]); omega) | apply lk_prev)) | (apply within_sl; repeat (first | assumption | exact lk_last (by (try simp only [List.length_append, List.length_cons, List.length_nil, List.length_set]); omega) | apply lk_prev)) | ((try apply within_sub); apply Ints.within; repeat (first | assumption | apply Ints.app)))) | (apply Within.agg2 <;> (first | exact .prim rfl | (apply within_ptr; repeat (first | assumption | exact lk_last (by (try simp only [List.length_append, List.length_cons, List.length_nil, List.length_set]); omega) | apply lk_prev)) | (apply within_sl; repeat (first | assumption | exact lk_last (by (try simp only [List.length_append, List.length_cons, List.length_nil, List.length_set]); omega) | apply lk_prev)) | ((try apply within_sub); apply Ints.within; repeat (first | assumption | apply Ints.app)))) | (apply Ints.within; repeat (first | assumption | apply Ints.app))) ?_
                  refine d_indexI (i := s + 2 ^ i.toNat) rfl Try.underlying22 ty2 (by conv => lhs; whnf) (by repeat (first | assumption | apply Ints.app | (refine Ints.sub (by repeat (first | assumption | apply Ints.app)) (by omega) (by omega) (by omega)))) (by exact congrArg i64 hu5) (by omega) (fun p10 hp10 => ?_)
                  refine d_do rfl (o_loadI Try.underlying2 rfl (by conv => lhs; whnf) hp10 (by repeat (first | assumption | apply Ints.app | (refine Ints.sub (by repeat (first | assumption | apply Ints.app)) (by omega) (by omega) (by omega)))) (by omega) ⟨rfl, rfl⟩) (by first | exact .prim rfl | (apply within_sub; apply Ints.within; repeat (first | assumption | apply Ints.app)) | (apply within_ptr; repeat (first | assumption | exact lk_last (by (try simp only [List.length_append, List.length_cons, List.length_nil, List.length_set]); omega) | apply lk_prev)) | (apply within_sl; repeat (first | assumption | exact lk_last (by (try simp only [List.length_append, List.length_cons, List.length_nil, List.length_set]); omega) | apply lk_prev)) | (apply Within.agg3 <;> (first | exact .prim rfl | (apply within_ptr; repeat (first | assumption | exact lk_last (by (try simp only [List.length_append, List.length_cons, List.length_nil, List.length_set]); omega) | apply lk_prev)) | (apply within_sl; repeat (first | assumption | exact lk_last (by (try simp only [List.length_append, List.length_cons, List.length_nil, List.length_set]); omega) | apply lk_prev)) | ((try apply within_sub); apply Ints.within; repeat (first | assumption | apply Ints.app)))) | (apply Within.agg2 <;> (first | exact .prim rfl | (apply within_ptr; repeat (first | assumption | exact lk_last (by (try simp only [List.length_append, List.length_cons, List.length_nil, List.length_set]); omega) | apply lk_prev)) | (apply within_sl; repeat (first | assumption | exact lk_last (by (try simp only [List.length_append, List.length_cons, List.length_nil, List.length_set]); omega) | apply lk_prev)) | ((try apply within_sub); apply Ints.within; repeat (first | assumption | apply Ints.app)))) | (apply Ints.within; repeat (first | assumption | apply Ints.app))) ?_
                  refine d_do rfl (o_fieldAddr Try.underlying28 rfl ty22 (by conv => lhs; whnf) (by repeat (first | assumption | exact lk_last (by (try simp only [List.length_append, List.length_cons, List.length_nil, List.length_set]); omega) | apply lk_prev)) (by rfl) ⟨rfl, rfl⟩) (by first | exact .prim rfl | (apply within_sub; apply Ints.within; repeat (first | assumption | apply Ints.app)) | (apply within_ptr; repeat (first | assumption | exact lk_last (by (try simp only [List.length_append, List.length_cons, List.length_nil, List.length_set]); omega) | apply lk_prev)) | (apply within_sl; repeat (first | assumption | exact lk_last (by (try simp only [List.length_append, List.length_cons, List.length_nil, List.length_set]); omega) | apply lk_prev)) | (apply Within.agg3 <;> (first | exact .prim rfl | (apply within_ptr; repeat (first | assumption | exact lk_last (by (try simp only [List.length_append, List.length_cons, List.length_nil, List.length_set]); omega) | apply lk_prev)) | (apply within_sl; repeat (first | assumption | exact lk_last (by (try simp only [List.length_append, List.length_cons, List.length_nil, List.length_set]); omega) | apply lk_prev)) | ((try apply within_sub); apply Ints.within; repeat (first | assumption | apply Ints.app)))) | (apply Within.agg2 <;> (first | exact .prim rfl | (apply within_ptr; repeat (first | assumption | exact lk_last (by (try simp only [List.length_append, List.length_cons, List.length_nil, List.length_set]); omega) | apply lk_prev)) | (apply within_sl; repeat (first | assumption | exact lk_last (by (try simp only [List.length_append, List.length_cons, List.length_nil, List.length_set]); omega) | apply lk_prev)) | ((try apply within_sub); apply Ints.within; repeat (first | assumption | apply Ints.app)))) | (apply Ints.within; repeat (first | assumption | apply Ints.app))) ?_
                  refine d_do rfl (o_load Try.underlying22 rfl (by conv => lhs; whnf) (by repeat (first | assumption | exact lk_last (by (try simp only [List.length_append, List.length_cons, List.length_nil, List.length_set]); omega) | apply lk_prev)) (by rfl) (by rfl) ⟨rfl, rfl⟩) (by first | exact .prim rfl | (apply within_sub; apply Ints.within; repeat (first | assumption | apply Ints.app)) | (apply within_ptr; repeat (first | assumption | exact lk_last (by (try simp only [List.length_append, List.length_cons, List.length_nil, List.length_set]); omega) | apply lk_prev)) | (apply within_sl; repeat (first | assumption | exact lk_last (by (try simp only [List.length_append, List.length_cons, List.length_nil, List.length_set]); omega) | apply lk_prev)) | (apply Within.agg3 <;> (first | exact .prim rfl | (apply within_ptr; repeat (first | assumption | exact lk_last (by (try simp only [List.length_append, List.length_cons, List.length_nil, List.length_set]); omega) | apply lk_prev)) | (apply within_sl; repeat (first | assumption | exact lk_last (by (try simp only [List.length_append, List.length_cons, List.length_nil, List.length_set]); omega) | apply lk_prev)) | ((try apply within_sub); apply Ints.within; repeat (first | assumption | apply Ints.app)))) | (apply Within.agg2 <;> (first | exact .prim rfl | (apply within_ptr; repeat (first | assumption | exact lk_last (by (try simp only [List.length_append, List.length_cons, List.length_nil, List.length_set]); omega) | apply lk_prev)) | (apply within_sl; repeat (first | assumption | exact lk_last (by (try simp only [List.length_append, List.length_cons, List.length_nil, List.length_set]); omega) | apply lk_prev)) | ((try apply within_sub); apply Ints.within; repeat (first | assumption | apply Ints.app)))) | (apply Ints.within; repeat (first | assumption | apply Ints.app))) ?_
                  refine d_do rfl (o_move (by conv => lhs; whnf) ⟨rfl, rfl⟩) (by first | exact .prim rfl | (apply within_sub; apply Ints.within; repeat (first | assumption | apply Ints.app)) | (apply within_ptr; repeat (first | assumption | exact lk_last (by (try simp only [List.length_append, List.length_cons, List.length_nil, List.length_set]); omega) | apply lk_prev)) | (apply within_sl; repeat (first | assumption | exact lk_last (by (try simp only [List.length_append, List.length_cons, List.length_nil, List.length_set]); omega) | apply lk_prev)) | (apply Within.agg3 <;> (first | exact .prim rfl | (apply within_ptr; repeat (first | assumption | exact lk_last (by (try simp only [List.length_append, List.length_cons, List.length_nil, List.length_set]); omega) | apply lk_prev)) | (apply within_sl; repeat (first | assumption | exact lk_last (by (try simp only [List.length_append, List.length_cons, List.length_nil, List.length_set]); omega) | apply lk_prev)) | ((try apply within_sub); apply Ints.within; repeat (first | assumption | apply Ints.app)))) | (apply Within.agg2 <;> (first | exact .prim rfl | (apply within_ptr; repeat (first | assumption | exact lk_last (by (try simp only [List.length_append, List.length_cons, List.length_nil, List.length_set]); omega) | apply lk_prev)) | (apply within_sl; repeat (first | assumption | exact lk_last (by (try simp only [List.length_append, List.length_cons, List.length_nil, List.length_set]); omega) | apply lk_prev)) | ((try apply within_sub); apply Ints.within; repeat (first | assumption | apply Ints.app)))) | (apply Ints.within; repeat (first | assumption | apply Ints.app))) ?_
                  refine d_do rfl (o_move (by conv => lhs; whnf) ⟨rfl, rfl⟩) (by first | exact .prim rfl | (apply within_sub; apply Ints.within; repeat (first | assumption | apply Ints.app)) | (apply within_ptr; repeat (first | assumption | exact lk_last (by (try simp only [List.length_append, List.length_cons, List.length_nil, List.length_set]); omega) | apply lk_prev)) | (apply within_sl; repeat (first | assumption | exact lk_last (by (try simp only [List.length_append, List.length_cons, List.length_nil, List.length_set]); omega) | apply lk_prev)) | (apply Within.agg3 <;> (first | exact .prim rfl | (apply within_ptr; repeat (first | assumption | exact lk_last (by (try simp only [List.length_append, List.length_cons, List.length_nil, List.length_set]); omega) | apply lk_prev)) | (apply within_sl; repeat (first | assumption | exact lk_last (by (try simp only [List.length_append, List.length_cons, List.length_nil, List.length_set]); omega) | apply lk_prev)) | ((try apply within_sub); apply Ints.within; repeat (first | assumption | apply Ints.app)))) | (apply Within.agg2 <;> (first | exact .prim rfl | (apply within_ptr; repeat (first | assumption | exact lk_last (by (try simp only [List.length_append, List.length_cons, List.length_nil, List.length_set]); omega) | apply lk_prev)) | (apply within_sl; repeat (first | assumption | exact lk_last (by (try simp only [List.length_append, List.length_cons, List.length_nil, List.length_set]); omega) | apply lk_prev)) | ((try apply within_sub); apply Ints.within; repeat (first | assumption | apply Ints.app)))) | (apply Ints.within; repeat (first | assumption | apply Ints.app))) ?_
                  refine d_do rfl (o_convU Try.underlying2 Try.underlying68 (by conv => lhs; whnf) (by omega) (by omega) ⟨rfl, rfl⟩) (by first | exact .prim rfl | (apply within_sub; apply Ints.within; repeat (first | assumption | apply Ints.app)) | (apply within_ptr; repeat (first | assumption | exact lk_last (by (try simp only [List.length_append, List.length_cons, List.length_nil, List.length_set]); omega) | apply lk_prev)) | (apply within_sl; repeat (first | assumption | exact lk_last (by (try simp only [List.length_append, List.length_cons, List.length_nil, List.length_set]); omega) | apply lk_prev)) | (apply Within.agg3 <;> (first | exact .prim rfl | (apply within_ptr; repeat (first | assumption | exact lk_last (by (try simp only [List.length_append, List.length_cons, List.length_nil, List.length_set]); omega) | apply lk_prev)) | (apply within_sl; repeat (first | assumption | exact lk_last (by (try simp only [List.length_append, List.length_cons, List.length_nil, List.length_set]); omega) | apply lk_prev)) | ((try apply within_sub); apply Ints.within; repeat (first | assumption | apply Ints.app)))) | (apply Within.agg2 <;> (first | exact .prim rfl | (apply within_ptr; repeat (first | assumption | exact lk_last (by (try simp only [List.length_append, List.length_cons, List.length_nil, List.length_set]); omega) | apply lk_prev)) | (apply within_sl; repeat (first | assumption | exact lk_last (by (try simp only [List.length_append, List.length_cons, List.length_nil, List.length_set]); omega) | apply lk_prev)) | ((try apply within_sub); apply Ints.within; repeat (first | assumption | apply Ints.app)))) | (apply Ints.within; repeat (first | assumption | apply Ints.app))) ?_
                  refine d_do rfl (o_shl (by conv => lhs; whnf) (by conv => lhs; whnf) (by omega) (by omega) (by omega) (by omega) ⟨rfl, rfl⟩) (by first | exact .prim rfl | (apply within_sub; apply Ints.within; repeat (first | assumption | apply Ints.app)) | (apply within_ptr; repeat (first | assumption | exact lk_last (by (try simp only [List.length_append, List.length_cons, List.length_nil, List.length_set]); omega) | apply lk_prev)) | (apply within_sl; repeat (first | assumption | exact lk_last (by (try simp only [List.length_append, List.length_cons, List.length_nil, List.length_set]); omega) | apply lk_prev)) | (apply Within.agg3 <;> (first | exact .prim rfl | (apply within_ptr; repeat (first | assumption | exact lk_last (by (try simp only [List.length_append, List.length_cons, List.length_nil, List.length_set]); omega) | apply lk_prev)) | (apply within_sl; repeat (first | assumption | exact lk_last (by (try simp only [List.length_append, List.length_cons, List.length_nil, List.length_set]); omega) | apply lk_prev)) | ((try apply within_sub); apply Ints.within; repeat (first | assumption | apply Ints.app)))) | (apply Within.agg2 <;> (first | exact .prim rfl | (apply within_ptr; repeat (first | assumption | exact lk_last (by (try simp only [List.length_append, List.length_cons, List.length_nil, List.length_set]); omega) | apply lk_prev)) | (apply within_sl; repeat (first | assumption | exact lk_last (by (try simp only [List.length_append, List.length_cons, List.length_nil, List.length_set]); omega) | apply lk_prev)) | ((try apply within_sub); apply Ints.within; repeat (first | assumption | apply Ints.app)))) | (apply Ints.within; repeat (first | assumption | apply Ints.app))) ?_
                  refine d_do rfl (o_add (by conv => lhs; whnf) (by conv => lhs; whnf) (by omega) (by omega) ⟨rfl, rfl⟩) (by first | exact .prim rfl | (apply within_sub; apply Ints.within; repeat (first | assumption | apply Ints.app)) | (apply within_ptr; repeat (first | assumption | exact lk_last (by (try simp only [List.length_append, List.length_cons, List.length_nil, List.length_set]); omega) | apply lk_prev)) | (apply within_sl; repeat (first | assumption | exact lk_last (by (try simp only [List.length_append, List.length_cons, List.length_nil, List.length_set]); omega) | apply lk_prev)) | (apply Within.agg3 <;> (first | exact .prim rfl | (apply within_ptr; repeat (first | assumption | exact lk_last (by (try simp only [List.length_append, List.length_cons, List.length_nil, List.length_set]); omega) | apply lk_prev)) | (apply within_sl; repeat (first | assumption | exact lk_last (by (try simp only [List.length_append, List.length_cons, List.length_nil, List.length_set]); omega) | apply lk_prev)) | ((try apply within_sub); apply Ints.within; repeat (first | assumption | apply Ints.app)))) | (apply Within.agg2 <;> (first | exact .prim rfl | (apply within_ptr; repeat (first | assumption | exact lk_last (by (try simp only [List.length_append, List.length_cons, List.length_nil, List.length_set]); omega) | apply lk_prev)) | (apply within_sl; repeat (first | assumption | exact lk_last (by (try simp only [List.length_append, List.length_cons, List.length_nil, List.length_set]); omega) | apply lk_prev)) | ((try apply within_sub); apply Ints.within; repeat (first | assumption | apply Ints.app)))) | (apply Ints.within; repeat (first | assumption | apply Ints.app))) ?_
                  refine d_indexI (i := s + 2 ^ k.toNat) rfl Try.underlying22 ty2 (by conv => lhs; whnf) (by repeat (first | assumption | apply Ints.app | (refine Ints.sub (by repeat (first | assumption | apply Ints.app)) (by omega) (by omega) (by omega)))) (by exact congrArg i64 hw5) (by omega) (fun p11 hp11 => ?_)
                  refine d_do rfl (o_loadI Try.underlying2 rfl (by conv => lhs; whnf) hp11 (by repeat (first | assumption | apply Ints.app | (refine Ints.sub (by repeat (first | assumption | apply Ints.app)) (by omega) (by omega) (by omega)))) (by omega) ⟨rfl, rfl⟩) (by first | exact .prim rfl | (apply within_sub; apply Ints.within; repeat (first | assumption | apply Ints.app)) | (apply within_ptr; repeat (first | assumption | exact lk_last (by (try simp only [List.length_append, List.length_cons, List.length_nil, List.length_set]); omega) | apply lk_prev)) | (apply within_sl; repeat (first | assumption | exact lk_last (by (try simp only [List.length_append, List.length_cons, List.length_nil, List.length_set]); omega) | apply lk_prev)) | (apply Within.agg3 <;> (first | exact .prim rfl | (apply within_ptr; repeat (first | assumption | exact lk_last (by (try simp only [List.length_append, List.length_cons, List.length_nil, List.length_set]); omega) | apply lk_prev)) | (apply within_sl; repeat (first | assumption | exact lk_last (by (try simp only [List.length_append, List.length_cons, List.length_nil, List.length_set]); omega) | apply lk_prev)) | ((try apply within_sub); apply Ints.within; repeat (first | assumption | apply Ints.app)))) | (apply Within.agg2 <;> (first | exact .prim rfl | (apply within_ptr; repeat (first | assumption | exact lk_last (by (try simp only [List.length_append, List.length_cons, List.length_nil, List.length_set]); omega) | apply lk_prev)) | (apply within_sl; repeat (first | assumption | exact lk_last (by (try simp only [List.length_append, List.length_cons, List.length_nil, List.length_set]); omega) | apply lk_prev)) | ((try apply within_sub); apply Ints.within; repeat (first | assumption | apply Ints.app)))) | (apply Ints.within; repeat (first | assumption | apply Ints.app))) ?_
                  refine d_neq rfl (by conv => lhs; whnf) (by conv => lhs; whnf) (fun c12 => ?_) (fun c12 => ?_)
                  ·
                    refine d_do rfl (o_pickT (by conv => lhs; whnf) (by conv => lhs; whnf) ⟨rfl, rfl⟩) (by first | exact .prim rfl | (apply within_sub; apply Ints.within; repeat (first | assumption | apply Ints.app)) | (apply within_ptr; repeat (first | assumption | exact lk_last (by (try simp only [List.length_append, List.length_cons, List.length_nil, List.length_set]); omega) | apply lk_prev)) | (apply within_sl; repeat (first | assumption | exact lk_last (by (try simp only [List.length_append, List.length_cons, List.length_nil, List.length_set]); omega) | apply lk_prev)) | (apply Within.agg3 <;> (first | exact .prim rfl | (apply within_ptr; repeat (first | assumption | exact lk_last (by (try simp only [List.length_append, List.length_cons, List.length_nil, List.length_set]); omega) | apply lk_prev)) | (apply within_sl; repeat (first | assumption | exact lk_last (by (try simp only [List.length_append, List.length_cons, List.length_nil, List.length_set]); omega) | apply lk_prev)) | ((try apply within_sub); apply Ints.within; repeat (first | assumption | apply Ints.app)))) | (apply Within.agg2 <;> (first | exact .prim rfl | (apply within_ptr; repeat (first | assumption | exact lk_last (by (try simp only [List.length_append, List.length_cons, List.length_nil, List.length_set]); omega) | apply lk_prev)) | (apply within_sl; repeat (first | assumption | exact lk_last (by (try simp only [List.length_append, List.length_cons, List.length_nil, List.length_set]); omega) | apply lk_prev)) | ((try apply within_sub); apply Ints.within; repeat (first | assumption | apply Ints.app)))) | (apply Ints.within; repeat (first | assumption | apply Ints.app))) ?_
                    refine d_end ?_
                    refine awp_condT (by conv => lhs; whnf) ?_
                    refine awp_seq ?_
                    refine awp_region rfl ?_
                    refine a_do rfl (o_assign (by conv => lhs; whnf) ?_)
                    refine a_do rfl (o_assign (by conv => lhs; whnf) ?_)
                    refine a_end ?_
                    refine awp_ret ?_
                    refine ⟨.inl rfl, [_, _], ⟨ares_tmp (by conv => lhs; whnf), ares_tmp (by conv => lhs; whnf), trivial⟩, ?_⟩
                    exact ⟨by first | exact tup2 (alikeB_yes (by simp [*]) ha (by omega)) (by simp [*]) | exact tup2 (alikeB_off (n := xs.length) (s := s) (by omega) (by assumption) (by assumption) (by assumption)) (by simp [*]) | exact tup2 (by simp [*]) (by simp [*]), (by repeat (first | exact Grown.refl _ | refine Grown.push ?_ _))⟩
                  ·
                    refine d_do rfl (o_pickT (by conv => lhs; whnf) (by conv => lhs; whnf) ⟨rfl, rfl⟩) (by first | exact .prim rfl | (apply within_sub; apply Ints.within; repeat (first | assumption | apply Ints.app)) | (apply within_ptr; repeat (first | assumption | exact lk_last (by (try simp only [List.length_append, List.length_cons, List.length_nil, List.length_set]); omega) | apply lk_prev)) | (apply within_sl; repeat (first | assumption | exact lk_last (by (try simp only [List.length_append, List.length_cons, List.length_nil, List.length_set]); omega) | apply lk_prev)) | (apply Within.agg3 <;> (first | exact .prim rfl | (apply within_ptr; repeat (first | assumption | exact lk_last (by (try simp only [List.length_append, List.length_cons, List.length_nil, List.length_set]); omega) | apply lk_prev)) | (apply within_sl; repeat (first | assumption | exact lk_last (by (try simp only [List.length_append, List.length_cons, List.length_nil, List.length_set]); omega) | apply lk_prev)) | ((try apply within_sub); apply Ints.within; repeat (first | assumption | apply Ints.app)))) | (apply Within.agg2 <;> (first | exact .prim rfl | (apply within_ptr; repeat (first | assumption | exact lk_last (by (try simp only [List.length_append, List.length_cons, List.length_nil, List.length_set]); omega) | apply lk_prev)) | (apply within_sl; repeat (first | assumption | exact lk_last (by (try simp only [List.length_append, List.length_cons, List.length_nil, List.length_set]); omega) | apply lk_prev)) | ((try apply within_sub); apply Ints.within; repeat (first | assumption | apply Ints.app)))) | (apply Ints.within; repeat (first | assumption | apply Ints.app))) ?_
                    refine d_end ?_
                    refine awp_condF (by conv => lhs; whnf) ?_
                    refine awp_skip ?_
                    refine awp_region rfl ?_
                    refine a_do rfl (o_add (by conv => lhs; whnf) (by conv => lhs; whnf) (by omega) (by omega) ?_)
                    refine a_do rfl (o_move (by conv => lhs; whnf) ?_)
                    refine a_end ?_
                    refine ⟨s + 1, ⟨Slots.mk ⟨?_, ?_, ?_, ?_, ?_, trivial⟩, ?_, ?_⟩, ?_⟩
                    all_goals first | rfl | omega | exact congrArg i64 (by omega) | exact ⟨by omega, by rw [alikeB_step, ha, decide_eq_true (by omega)]; simp⟩ | exact ⟨by omega, by rw [alikeB_step, ha]; simp [*]⟩
            ·
              refine a_end ?_
              refine awp_seq ?_
              refine awp_condF (by conv => lhs; whnf) ?_
              refine awp_exit ?_
              refine awp_seq ?_
              refine awp_region rfl ?_
              refine a_do rfl (o_assign (by conv => lhs; whnf) ?_)
              refine a_do rfl (o_assign (by conv => lhs; whnf) ?_)
              refine a_end ?_
              refine awp_ret ?_
              refine ⟨.inl rfl, [_, _], ⟨ares_tmp (by conv => lhs; whnf), ares_tmp (by conv => lhs; whnf), trivial⟩, ?_⟩
              exact ⟨by first | exact tup2 (alikeB_yes (by simp [*]) ha (by omega)) (by simp [*]) | exact tup2 (alikeB_off (n := xs.length) (s := s) (by omega) (by assumption) (by assumption) (by assumption)) (by simp [*]) | exact tup2 (by simp [*]) (by simp [*]), (by repeat (first | exact Grown.refl _ | refine Grown.push ?_ _))⟩
      ·
        refine a_do rfl (o_notF (by conv => lhs; whnf) ?_)
        refine a_do rfl (o_pickF (by conv => lhs; whnf) (by conv => lhs; whnf) ?_)
        refine a_do rfl (o_move (by conv => lhs; whnf) ?_)
        refine a_no rfl ?_
        refine a_no rfl ?_
        refine a_no rfl ?_
        refine a_do rfl (o_pickT (by conv => lhs; whnf) (by conv => lhs; whnf) ?_)
        refine a_end ?_
        refine awp_condT (by conv => lhs; whnf) ?_
        refine awp_seq ?_
        refine awp_region rfl ?_
        refine a_do rfl (o_assign (by conv => lhs; whnf) ?_)
        refine a_do rfl (o_assign (by conv => lhs; whnf) ?_)
        refine a_end ?_
        refine awp_ret ?_
        refine ⟨.inl rfl, [_, _], ⟨ares_tmp (by conv => lhs; whnf), ares_tmp (by conv => lhs; whnf), trivial⟩, ?_⟩
        exact ⟨by first | exact tup2 (alikeB_yes (by simp [*]) ha (by omega)) (by simp [*]) | exact tup2 (alikeB_off (n := xs.length) (s := s) (by omega) (by assumption) (by assumption) (by assumption)) (by simp [*]) | exact tup2 (by simp [*]) (by simp [*]), (by repeat (first | exact Grown.refl _ | refine Grown.push ?_ _))⟩
    ·
      refine a_do rfl (o_notF (by conv => lhs; whnf) ?_)
      refine a_do rfl (o_pickF (by conv => lhs; whnf) (by conv => lhs; whnf) ?_)
      refine a_do rfl (o_move (by conv => lhs; whnf) ?_)
      refine a_no rfl ?_
      refine a_no rfl ?_
      refine a_no rfl ?_
      refine a_no rfl ?_
      refine a_no rfl ?_
      refine a_no rfl ?_
      refine a_do rfl (o_pickT (by conv => lhs; whnf) (by conv => lhs; whnf) ?_)
      refine a_do rfl (o_move (by conv => lhs; whnf) ?_)
      refine a_no rfl ?_
      refine a_no rfl ?_
      refine a_no rfl ?_
      refine a_do rfl (o_pickT (by conv => lhs; whnf) (by conv => lhs; whnf) ?_)
      refine a_end ?_
      refine awp_condT (by conv => lhs; whnf) ?_
      refine awp_seq ?_
      refine awp_region rfl ?_
      refine a_do rfl (o_assign (by conv => lhs; whnf) ?_)
      refine a_do rfl (o_assign (by conv => lhs; whnf) ?_)
      refine a_end ?_
      refine awp_ret ?_
      refine ⟨.inl rfl, [_, _], ⟨ares_tmp (by conv => lhs; whnf), ares_tmp (by conv => lhs; whnf), trivial⟩, ?_⟩
      exact ⟨by first | exact tup2 (alikeB_yes (by simp [*]) ha (by omega)) (by simp [*]) | exact tup2 (alikeB_off (n := xs.length) (s := s) (by omega) (by assumption) (by assumption) (by assumption)) (by simp [*]) | exact tup2 (by simp [*]) (by simp [*]), (by repeat (first | exact Grown.refl _ | refine Grown.push ?_ _))⟩
  ·
    refine a_do rfl (o_notF (by conv => lhs; whnf) ?_)
    refine a_do rfl (o_move (by conv => lhs; whnf) ?_)
    refine a_no rfl ?_
    refine a_no rfl ?_
    refine a_no rfl ?_
    refine a_no rfl ?_
    refine a_no rfl ?_
    refine a_no rfl ?_
    refine a_do rfl (o_pickT (by conv => lhs; whnf) (by conv => lhs; whnf) ?_)
    refine a_do rfl (o_move (by conv => lhs; whnf) ?_)
    refine a_no rfl ?_
    refine a_no rfl ?_
    refine a_no rfl ?_
    refine a_no rfl ?_
    refine a_no rfl ?_
    refine a_no rfl ?_
    refine a_do rfl (o_pickT (by conv => lhs; whnf) (by conv => lhs; whnf) ?_)
    refine a_do rfl (o_move (by conv => lhs; whnf) ?_)
    refine a_no rfl ?_
    refine a_no rfl ?_
    refine a_no rfl ?_
    refine a_do rfl (o_pickT (by conv => lhs; whnf) (by conv => lhs; whnf) ?_)
    refine a_end ?_
    refine awp_condT (by conv => lhs; whnf) ?_
    refine awp_seq ?_
    refine awp_region rfl ?_
    refine a_do rfl (o_assign (by conv => lhs; whnf) ?_)
    refine a_do rfl (o_assign (by conv => lhs; whnf) ?_)
    refine a_end ?_
    refine awp_ret ?_
    refine ⟨.inl rfl, [_, _], ⟨ares_tmp (by conv => lhs; whnf), ares_tmp (by conv => lhs; whnf), trivial⟩, ?_⟩
    exact ⟨by first | exact tup2 (alikeB_yes (by simp [*]) ha (by omega)) (by simp [*]) | exact tup2 (alikeB_off (n := xs.length) (s := s) (by omega) (by assumption) (by assumption) (by assumption)) (by simp [*]) | exact tup2 (by simp [*]) (by simp [*]), (by repeat (first | exact Grown.refl _ | refine Grown.push ?_ _))⟩

set_option maxRecDepth 10000 in
theorem implAreAlike_ret (p i k : Int) (xs : List Int) (v : Value) (h : AHeap) (hv : Ints h v xs) (hl : xs.length ≤ 1073741824) : Ret Try.prog 25 [.agg #[i64 p, v], i64 i, i64 k] h (.tuple #[.bool ((isW 10000 p xs && decide (0 ≤ i ∧ i ≤ p - 1) && decide (0 ≤ k ∧ k ≤ p - 1) && decide (¬ i = k)) && alikeB xs i.toNat k.toNat xs.length), .bool (isW 10000 p xs && decide (0 ≤ i ∧ i ≤ p - 1) && decide (0 ≤ k ∧ k ≤ p - 1) && decide (¬ i = k))]) h := by
  refine ret_of (within_tup2 (.prim rfl) (.prim rfl)) ?_
  refine tri_of_body Try.func25 rfl (by kernel_rfl) (by show 3 ≤ 34; decide) ?_
  refine awp_seq ?_
  refine awp_region rfl ?_
  refine a_do rfl (o_boxN (n := 2) (by conv => lhs; whnf) (by exact (rfl : _ = [_, _])) (by rfl) (fun k2 hk2 => ?_))
  try simp at hk2
  refine a_do rfl (o_boxN (n := 1) (by conv => lhs; whnf) (by exact (rfl : _ = [_])) (by rfl) (fun k4 hk4 => ?_))
  try simp at hk4
  refine a_do rfl (o_boxN (n := 1) (by conv => lhs; whnf) (by exact (rfl : _ = [_])) (by rfl) (fun k6 hk6 => ?_))
  try simp at hk6
  refine a_do rfl (o_assign (by conv => lhs; whnf) ?_)
  refine a_do rfl (o_assign (by conv => lhs; whnf) ?_)
  refine a_end ?_
  refine awp_seq ?_
  refine awp_seq ?_
  refine awp_region rfl ?_
  refine a_do rfl (o_loadAgg Try.underlying28 rfl ty28 (by conv => lhs; whnf) (by repeat (first | assumption | exact lk_last (by (try simp only [List.length_append, List.length_cons, List.length_nil, List.length_set]); omega) | apply lk_prev)) (by rfl) (by exact (rfl : _ = [_, _])) (by rfl) ?_)
  refine a_do rfl (o_callF (lmap_cons (by conv => lhs; whnf) lmap_nil) (Ret.toB (implValidWorths_ret _ _ _ _ (by repeat (first | assumption | apply Ints.app | (refine Ints.sub (by repeat (first | assumption | apply Ints.app)) (by omega) (by omega) (by omega)))) (by omega)) (fun c7 => ?_) (fun c7 => ?_)))
  ·
    have hW := c7
    have hG := isW_get hW
    refine a_do rfl (o_notT (by conv => lhs; whnf) ?_)
    refine a_do rfl (o_move (by conv => lhs; whnf) ?_)
    refine a_do rfl (o_loadAgg Try.underlying28 rfl ty28 (by conv => lhs; whnf) (by repeat (first | assumption | exact lk_last (by (try simp only [List.length_append, List.length_cons, List.length_nil, List.length_set]); omega) | apply lk_prev)) (by rfl) (by exact (rfl : _ = [_, _])) (by rfl) ?_)
    refine a_do rfl (o_load Try.underlying2 rfl (by conv => lhs; whnf) (by repeat (first | assumption | exact lk_last (by (try simp only [List.length_append, List.length_cons, List.length_nil, List.length_set]); omega) | apply lk_prev)) (by rfl) (by rfl) ?_)
    refine a_do rfl (o_callF (lmap_cons (by conv => lhs; whnf) (lmap_cons (by conv => lhs; whnf) lmap_nil)) (Ret.toB (has_ret _ _ _ _ (Ints.within (by repeat (first | assumption | apply Ints.app | (refine Ints.sub (by repeat (first | assumption | apply Ints.app)) (by omega) (by omega) (by omega))))) (by omega)) (fun c8 => ?_) (fun c8 => ?_)))
    ·
      have hi := of_decide_eq_true c8
      refine a_do rfl (o_notT (by conv => lhs; whnf) ?_)
      refine a_do rfl (o_pickF (by conv => lhs; whnf) (by conv => lhs; whnf) ?_)
      refine a_do rfl (o_move (by conv => lhs; whnf) ?_)
      refine a_do rfl (o_loadAgg Try.underlying28 rfl ty28 (by conv => lhs; whnf) (by repeat (first | assumption | exact lk_last (by (try simp only [List.length_append, List.length_cons, List.length_nil, List.length_set]); omega) | apply lk_prev)) (by rfl) (by exact (rfl : _ = [_, _])) (by rfl) ?_)
      refine a_do rfl (o_load Try.underlying2 rfl (by conv => lhs; whnf) (by repeat (first | assumption | exact lk_last (by (try simp only [List.length_append, List.length_cons, List.length_nil, List.length_set]); omega) | apply lk_prev)) (by rfl) (by rfl) ?_)
      refine a_do rfl (o_callF (lmap_cons (by conv => lhs; whnf) (lmap_cons (by conv => lhs; whnf) lmap_nil)) (Ret.toB (has_ret _ _ _ _ (Ints.within (by repeat (first | assumption | apply Ints.app | (refine Ints.sub (by repeat (first | assumption | apply Ints.app)) (by omega) (by omega) (by omega))))) (by omega)) (fun c9 => ?_) (fun c9 => ?_)))
      ·
        have hk := of_decide_eq_true c9
        refine a_do rfl (o_notT (by conv => lhs; whnf) ?_)
        refine a_do rfl (o_pickF (by conv => lhs; whnf) (by conv => lhs; whnf) ?_)
        refine a_do rfl (o_move (by conv => lhs; whnf) ?_)
        refine a_do rfl (o_load Try.underlying2 rfl (by conv => lhs; whnf) (by repeat (first | assumption | exact lk_last (by (try simp only [List.length_append, List.length_cons, List.length_nil, List.length_set]); omega) | apply lk_prev)) (by rfl) (by rfl) ?_)
        refine a_do rfl (o_load Try.underlying2 rfl (by conv => lhs; whnf) (by repeat (first | assumption | exact lk_last (by (try simp only [List.length_append, List.length_cons, List.length_nil, List.length_set]); omega) | apply lk_prev)) (by rfl) (by rfl) ?_)
        refine a_do rfl (o_eql (by conv => lhs; whnf) (by conv => lhs; whnf) (fun c10 => ?_) (fun c10 => ?_))
        ·
          refine a_do rfl (o_pickF (by conv => lhs; whnf) (by conv => lhs; whnf) ?_)
          refine a_end ?_
          refine awp_condT (by conv => lhs; whnf) ?_
          refine awp_seq ?_
          refine awp_region rfl ?_
          refine a_do rfl (o_assign (by conv => lhs; whnf) ?_)
          refine a_do rfl (o_assign (by conv => lhs; whnf) ?_)
          refine a_end ?_
          refine awp_ret ?_
          refine ⟨.inl rfl, [_, _], ⟨ares_tmp (by conv => lhs; whnf), ares_tmp (by conv => lhs; whnf), trivial⟩, ?_⟩
          exact ⟨by first | exact tup2 (by simp [*]) (by simp [*]), (by repeat (first | exact Grown.refl _ | refine Grown.push ?_ _))⟩
        ·
          refine a_do rfl (o_pickF (by conv => lhs; whnf) (by conv => lhs; whnf) ?_)
          refine a_end ?_
          refine awp_condF (by conv => lhs; whnf) ?_
          refine awp_skip ?_
          refine awp_seq ?_
          refine awp_region rfl ?_
          refine a_do rfl (o_allocN (n := 1) ty4 rfl (by exact (rfl : _ = [_])) (by rfl) (fun k11 hk11 => ?_))
          try simp at hk11
          refine a_do rfl (o_storeV ty4 (by conv => lhs; whnf) (by repeat (first | assumption | exact lk_last (by (try simp only [List.length_append, List.length_cons, List.length_nil, List.length_set]); omega) | apply lk_prev)) (by rfl) (by rfl) (by rfl) (by conv => lhs; whnf) (by rfl) (by rfl) (by first | exact (rfl : _ = [_]) | exact (rfl : _ = [_, _]) | exact (rfl : _ = [_, _, _]) | exact (rfl : _ = [_, _, _, _]) | rfl) (by repeat (first | exact set_last (by (try simp only [List.length_append, List.length_cons, List.length_nil, List.length_set]); omega) | (apply set_step; (try simp only [List.length_append, List.length_cons, List.length_nil, List.length_set]); omega) | exact rfl)) ?_)
          refine a_end ?_
          refine awp_seq ?_
          refine awp_region rfl ?_
          refine a_do rfl (o_loadAgg Try.underlying28 rfl ty28 (by conv => lhs; whnf) (by repeat (first | assumption | exact lk_last (by (try simp only [List.length_append, List.length_cons, List.length_nil, List.length_set]); omega) | apply lk_prev)) (by rfl) (by exact (rfl : _ = [_, _])) (by rfl) ?_)
          refine a_do rfl (o_load Try.underlying2 rfl (by conv => lhs; whnf) (by repeat (first | assumption | exact lk_last (by (try simp only [List.length_append, List.length_cons, List.length_nil, List.length_set]); omega) | apply lk_prev)) (by rfl) (by rfl) ?_)
          refine a_do rfl (o_makeFunc (amap0) (amap4 (by conv => lhs; whnf) (by conv => lhs; whnf) (by conv => lhs; whnf) (by conv => lhs; whnf)) ?_)
          have hcl : ∀ (s : Nat) (g : List AObj), s < xs.length → s.testBit i.toNat = false → Ret Try.prog 67 (i64 s :: (#[.pointer (some ⟨k6, 0, some 1⟩), .pointer (some ⟨k11, 0, some 1⟩), .pointer (some ⟨k2, 0, some 2⟩), .pointer (some ⟨k4, 0, some 1⟩)] : Array Value).toList) (h ++ [⟨[i64 p, v], true, 1⟩] ++ [⟨[i64 i], true, 1⟩] ++ [⟨[i64 k], true, 1⟩] ++ [⟨[.bool (alikeB xs i.toNat k.toNat s)], true, 1⟩] ++ g) (.tuple #[]) (h ++ [⟨[i64 p, v], true, 1⟩] ++ [⟨[i64 i], true, 1⟩] ++ [⟨[i64 k], true, 1⟩] ++ [⟨[.bool (alikeB xs i.toNat k.toNat (s + 1))], true, 1⟩] ++ g) := by
            intro s g hs hb
            have hI : Ints (h ++ [⟨[i64 p, v], true, 1⟩] ++ [⟨[i64 i], true, 1⟩] ++ [⟨[i64 k], true, 1⟩] ++ [⟨[.bool (alikeB xs i.toNat k.toNat s)], true, 1⟩] ++ g) v xs := by repeat (first | assumption | apply Ints.app)
            cases hn : alikeB xs i.toNat k.toNat s
            · rw [alikeB_step, hn, hb]; rw [hn] at hI
              refine (areAlike1F_ret s k6 k11 k2 k4 i k p xs v _ hI hl (by repeat (first | assumption | exact lk_last (by (try simp only [List.length_append, List.length_cons, List.length_nil, List.length_set]); omega) | apply lk_prev)) (by repeat (first | assumption | exact lk_last (by (try simp only [List.length_append, List.length_cons, List.length_nil, List.length_set]); omega) | apply lk_prev)) (by repeat (first | assumption | exact lk_last (by (try simp only [List.length_append, List.length_cons, List.length_nil, List.length_set]); omega) | apply lk_prev)) (by repeat (first | assumption | exact lk_last (by (try simp only [List.length_append, List.length_cons, List.length_nil, List.length_set]); omega) | apply lk_prev)) hW hs (by omega) (by omega) hb).heap ?_
              repeat (first | exact set_last (by (try simp only [List.length_append, List.length_cons, List.length_nil, List.length_set]); omega) | (apply set_step; (try simp only [List.length_append, List.length_cons, List.length_nil, List.length_set]); omega))
            · rw [alikeB_step, hn, hb]; rw [hn] at hI
              refine (areAlike1T_ret s k6 k11 k2 k4 i k p xs v _ hI hl (by repeat (first | assumption | exact lk_last (by (try simp only [List.length_append, List.length_cons, List.length_nil, List.length_set]); omega) | apply lk_prev)) (by repeat (first | assumption | exact lk_last (by (try simp only [List.length_append, List.length_cons, List.length_nil, List.length_set]); omega) | apply lk_prev)) (by repeat (first | assumption | exact lk_last (by (try simp only [List.length_append, List.length_cons, List.length_nil, List.length_set]); omega) | apply lk_prev)) (by repeat (first | assumption | exact lk_last (by (try simp only [List.length_append, List.length_cons, List.length_nil, List.length_set]); omega) | apply lk_prev)) hW hs (by omega) (by omega) hb).heap ?_
              repeat (first | exact set_last (by (try simp only [List.length_append, List.length_cons, List.length_nil, List.length_set]); omega) | (apply set_step; (try simp only [List.length_append, List.length_cons, List.length_nil, List.length_set]); omega))
          refine a_do rfl (o_callF (lmap_cons (by conv => lhs; whnf) (lmap_cons (by conv => lhs; whnf) (lmap_cons (by conv => lhs; whnf) lmap_nil))) (Ret.to (outside_ret _ _ _ (fun s => h ++ [⟨[i64 p, v], true, 1⟩] ++ [⟨[i64 i], true, 1⟩] ++ [⟨[i64 k], true, 1⟩] ++ [⟨[.bool (alikeB xs i.toNat k.toNat s)], true, 1⟩]) _ _ _ (fun s => by repeat (first | assumption | apply Ints.app)) hl (by omega) (fun s => by simp) (fun s hc => Closed.swap hc (by simp [isPrim])) hcl (fun s hs hb => by show _ = _; rw [alikeB_skip hb])) ?_))
          refine a_end ?_
          refine awp_seq ?_
          refine awp_region rfl ?_
          refine a_do rfl (o_load Try.underlying4 rfl (by conv => lhs; whnf) (by repeat (first | assumption | exact lk_last (by (try simp only [List.length_append, List.length_cons, List.length_nil, List.length_set]); omega) | apply lk_prev)) (by rfl) (by rfl) ?_)
          refine a_do rfl (o_assign (by conv => lhs; whnf) ?_)
          refine a_do rfl (o_assign (by conv => lhs; whnf) ?_)
          refine a_end ?_
          refine awp_ret ?_
          refine ⟨.inl rfl, [_, _], ⟨ares_tmp (by conv => lhs; whnf), ares_tmp (by conv => lhs; whnf), trivial⟩, ?_⟩
          exact ⟨by first | exact tup2 (by simp [*]) (by simp [*]), (by repeat (first | exact Grown.refl _ | refine Grown.push ?_ _))⟩
      ·
        refine a_do rfl (o_notF (by conv => lhs; whnf) ?_)
        refine a_do rfl (o_pickF (by conv => lhs; whnf) (by conv => lhs; whnf) ?_)
        refine a_do rfl (o_move (by conv => lhs; whnf) ?_)
        refine a_no rfl ?_
        refine a_no rfl ?_
        refine a_no rfl ?_
        refine a_do rfl (o_pickT (by conv => lhs; whnf) (by conv => lhs; whnf) ?_)
        refine a_end ?_
        refine awp_condT (by conv => lhs; whnf) ?_
        refine awp_seq ?_
        refine awp_region rfl ?_
        refine a_do rfl (o_assign (by conv => lhs; whnf) ?_)
        refine a_do rfl (o_assign (by conv => lhs; whnf) ?_)
        refine a_end ?_
        refine awp_ret ?_
        refine ⟨.inl rfl, [_, _], ⟨ares_tmp (by conv => lhs; whnf), ares_tmp (by conv => lhs; whnf), trivial⟩, ?_⟩
        exact ⟨by first | exact tup2 (by simp [*]) (by simp [*]), (by repeat (first | exact Grown.refl _ | refine Grown.push ?_ _))⟩
    ·
      refine a_do rfl (o_notF (by conv => lhs; whnf) ?_)
      refine a_do rfl (o_pickF (by conv => lhs; whnf) (by conv => lhs; whnf) ?_)
      refine a_do rfl (o_move (by conv => lhs; whnf) ?_)
      refine a_no rfl ?_
      refine a_no rfl ?_
      refine a_no rfl ?_
      refine a_no rfl ?_
      refine a_do rfl (o_pickT (by conv => lhs; whnf) (by conv => lhs; whnf) ?_)
      refine a_do rfl (o_move (by conv => lhs; whnf) ?_)
      refine a_no rfl ?_
      refine a_no rfl ?_
      refine a_no rfl ?_
      refine a_do rfl (o_pickT (by conv => lhs; whnf) (by conv => lhs; whnf) ?_)
      refine a_end ?_
      refine awp_condT (by conv => lhs; whnf) ?_
      refine awp_seq ?_
      refine awp_region rfl ?_
      refine a_do rfl (o_assign (by conv => lhs; whnf) ?_)
      refine a_do rfl (o_assign (by conv => lhs; whnf) ?_)
      refine a_end ?_
      refine awp_ret ?_
      refine ⟨.inl rfl, [_, _], ⟨ares_tmp (by conv => lhs; whnf), ares_tmp (by conv => lhs; whnf), trivial⟩, ?_⟩
      exact ⟨by first | exact tup2 (by simp [*]) (by simp [*]), (by repeat (first | exact Grown.refl _ | refine Grown.push ?_ _))⟩
  ·
    refine a_do rfl (o_notF (by conv => lhs; whnf) ?_)
    refine a_do rfl (o_move (by conv => lhs; whnf) ?_)
    refine a_no rfl ?_
    refine a_no rfl ?_
    refine a_no rfl ?_
    refine a_no rfl ?_
    refine a_do rfl (o_pickT (by conv => lhs; whnf) (by conv => lhs; whnf) ?_)
    refine a_do rfl (o_move (by conv => lhs; whnf) ?_)
    refine a_no rfl ?_
    refine a_no rfl ?_
    refine a_no rfl ?_
    refine a_no rfl ?_
    refine a_do rfl (o_pickT (by conv => lhs; whnf) (by conv => lhs; whnf) ?_)
    refine a_do rfl (o_move (by conv => lhs; whnf) ?_)
    refine a_no rfl ?_
    refine a_no rfl ?_
    refine a_no rfl ?_
    refine a_do rfl (o_pickT (by conv => lhs; whnf) (by conv => lhs; whnf) ?_)
    refine a_end ?_
    refine awp_condT (by conv => lhs; whnf) ?_
    refine awp_seq ?_
    refine awp_region rfl ?_
    refine a_do rfl (o_assign (by conv => lhs; whnf) ?_)
    refine a_do rfl (o_assign (by conv => lhs; whnf) ?_)
    refine a_end ?_
    refine awp_ret ?_
    refine ⟨.inl rfl, [_, _], ⟨ares_tmp (by conv => lhs; whnf), ares_tmp (by conv => lhs; whnf), trivial⟩, ?_⟩
    exact ⟨by first | exact tup2 (by simp [*]) (by simp [*]), (by repeat (first | exact Grown.refl _ | refine Grown.push ?_ _))⟩

end Go.Am
