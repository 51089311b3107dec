/-
  More of what the functions that the law FnExactWithoutPlayer calls answer.
-/
import Derived.Test.YtlljlmokikgghaaFnExactWithoutPlayerBk1
namespace Go.Am
open Go.Proofs
set_option linter.unusedSimpArgs false
set_option linter.unusedVariables false

set_option maxRecDepth 10000 in
theorem specWithoutPlayer_ret (p q : Int) (xs : List Int) (v : Value) (h : AHeap) (hv : Ints h v xs) (hl : xs.length ≤ 1073741824) : RetO Try.prog 49 [.agg #[i64 p, v], i64 q] h (isW 10000 p xs && decide (0 ≤ q ∧ q ≤ p - 1) && decide (2 ≤ p) && isW 10000 (p - 1) (mapR (outF xs q) (p - 1))) (VW (p - 1) (2 ^ (p - 1).toNat)) (lst (mapR (outF xs q) (p - 1))) NW := by
  refine retW_of ?_
  refine tri_of_body Try.func49 rfl (by kernel_rfl) (by show 2 ≤ 53; decide) ?_
  refine awp_seq ?_
  refine awp_region rfl ?_
  refine a_do rfl (o_boxN (n := 2) (by conv => lhs; whnf) (by exact (rfl : _ = [_, _])) (by rfl) (fun k2 hk2 => ?_))
  try simp at hk2
  refine a_do rfl (o_allocN (n := 2) ty28 rfl (by exact (rfl : _ = [_, _])) (by rfl) (fun k3 hk3 => ?_))
  try simp at hk3
  refine a_do rfl (o_assign (by conv => lhs; whnf) ?_)
  refine a_end ?_
  refine awp_seq ?_
  refine awp_seq ?_
  refine awp_region rfl ?_
  refine a_do rfl (o_callF (lmap_cons (by conv => lhs; whnf) lmap_nil) (Ret.toB (l03Is_ret _ _ _ _ _ (by repeat (first | assumption | exact lk_last (by (try simp only [List.length_append, List.length_cons, List.length_nil, List.length_set]); omega) | apply lk_prev)) (by repeat (first | assumption | exact ints_nil | exact Ints.own (by repeat (first | assumption | exact lk_last (by (try simp only [List.length_append, List.length_cons, List.length_nil, List.length_set]); omega) | apply lk_prev)) (by first | rfl | exact upto_len | assumption | exact map_len) | apply Ints.app | (refine Ints.sub (by repeat (first | assumption | apply Ints.app)) (by omega) (by omega) (by omega)))) (by omega)) (fun c4 => ?_) (fun c4 => ?_)))
  ·
    have hW := c4
    have hG := isW_get hW
    have hxl := toNat_pow hG.2.1
    refine a_do rfl (o_notT (by conv => lhs; whnf) ?_)
    refine a_do rfl (o_move (by conv => lhs; whnf) ?_)
    refine a_do rfl (o_move (by conv => lhs; whnf) ?_)
    refine a_do rfl (o_fieldAddr Try.underlying28 rfl ty2 (by conv => lhs; whnf) (by repeat (first | assumption | exact lk_last (by (try simp only [List.length_append, List.length_cons, List.length_nil, List.length_set]); omega) | apply lk_prev)) (by rfl) ?_)
    refine a_do rfl (o_load Try.underlying2 rfl (by conv => lhs; whnf) (by repeat (first | assumption | exact lk_last (by (try simp only [List.length_append, List.length_cons, List.length_nil, List.length_set]); omega) | apply lk_prev)) (by rfl) (by rfl) ?_)
    refine a_do rfl (o_sub (by conv => lhs; whnf) (by conv => lhs; whnf) (by omega) (by omega) ?_)
    refine a_do rfl (o_callF (lmap_cons (by conv => lhs; whnf) (lmap_cons (by conv => lhs; whnf) (lmap_cons (by conv => lhs; whnf) lmap_nil))) (Ret.toB (l00In_ret _ _ _ _) (fun c5 => ?_) (fun c5 => ?_)))
    ·
      have hq9 := c5
      have hq := of_decide_eq_true c5
      refine a_do rfl (o_notT (by conv => lhs; whnf) ?_)
      refine a_do rfl (o_pickF (by conv => lhs; whnf) (by conv => lhs; whnf) ?_)
      refine a_do rfl (o_move (by conv => lhs; whnf) ?_)
      refine a_do rfl (o_fieldAddr Try.underlying28 rfl ty2 (by conv => lhs; whnf) (by repeat (first | assumption | exact lk_last (by (try simp only [List.length_append, List.length_cons, List.length_nil, List.length_set]); omega) | apply lk_prev)) (by rfl) ?_)
      refine a_do rfl (o_load Try.underlying2 rfl (by conv => lhs; whnf) (by repeat (first | assumption | exact lk_last (by (try simp only [List.length_append, List.length_cons, List.length_nil, List.length_set]); omega) | apply lk_prev)) (by rfl) (by rfl) ?_)
      refine a_do rfl (o_lss (by conv => lhs; whnf) (by conv => lhs; whnf) (fun c6 => ?_) (fun c6 => ?_))
      ·
        have h2n : decide (2 ≤ p) = false := decide_eq_false (by omega)
        refine a_do rfl (o_pickF (by conv => lhs; whnf) (by conv => lhs; whnf) ?_)
        refine a_end ?_
        refine awp_condT (by conv => lhs; whnf) ?_
        refine awp_seq ?_
        refine awp_region rfl ?_
        refine a_do rfl (o_build20 Try.underlying28 ty2 ty22 ty28 rfl ?_)
        refine a_do rfl (o_storeVAgg ty28 (by conv => lhs; whnf) (by repeat (first | assumption | exact lk_last (by (try simp only [List.length_append, List.length_cons, List.length_nil, List.length_set]); omega) | apply lk_prev)) (by rfl) (by rfl) (by rfl) (by conv => lhs; whnf) (by rfl) (by rfl) (by first | rfl | exact one2 (by assumption)) (by first | exact (rfl : _ = [_]) | exact (rfl : _ = [_, _]) | exact (rfl : _ = [_, _, _]) | exact (rfl : _ = [_, _, _, _]) | rfl) (by repeat (first | exact set_last (by (try simp only [List.length_append, List.length_cons, List.length_nil, List.length_set]); omega) | (apply set_step; (try simp only [List.length_append, List.length_cons, List.length_nil, List.length_set]); omega) | exact rfl)) ?_)
        refine a_do rfl (o_assign (by conv => lhs; whnf) ?_)
        refine a_end ?_
        refine awp_ret ?_
        refine ⟨.inl rfl, [_, _], ⟨ares_cellAgg (by conv => lhs; whnf) (by repeat (first | assumption | exact lk_last (by (try simp only [List.length_append, List.length_cons, List.length_nil, List.length_set]); omega) | apply lk_prev)) (by rfl) Try.underlying28 rfl ty28 (by exact (rfl : _ = [_, _])) (by rfl), ares_tmp (by conv => lhs; whnf), trivial⟩, ?_⟩
        first | exact .inr ⟨by simp [*], rfl, (by repeat (first | exact Grown.refl _ | refine Grown.push ?_ _))⟩ | exact .inl ⟨by rw [hW, hq9, h2p, hgive]; rfl, kG, rfl, (by repeat (first | exact Grown.refl _ | refine Grown.push ?_ _)), (by repeat (first | assumption | exact lk_last (by (try simp only [List.length_append, List.length_cons, List.length_nil, List.length_set]); omega) | apply lk_prev)), by omega⟩
      ·
        have h2p : decide (2 ≤ p) = true := decide_eq_true (by omega)
        refine a_do rfl (o_pickF (by conv => lhs; whnf) (by conv => lhs; whnf) ?_)
        refine a_end ?_
        refine awp_condF (by conv => lhs; whnf) ?_
        refine awp_skip ?_
        refine awp_seq ?_
        refine awp_region rfl ?_
        refine a_do rfl (o_fieldAddr Try.underlying28 rfl ty2 (by conv => lhs; whnf) (by repeat (first | assumption | exact lk_last (by (try simp only [List.length_append, List.length_cons, List.length_nil, List.length_set]); omega) | apply lk_prev)) (by rfl) ?_)
        refine a_do rfl (o_load Try.underlying2 rfl (by conv => lhs; whnf) (by repeat (first | assumption | exact lk_last (by (try simp only [List.length_append, List.length_cons, List.length_nil, List.length_set]); omega) | apply lk_prev)) (by rfl) (by rfl) ?_)
        refine a_do rfl (o_sub (by conv => lhs; whnf) (by conv => lhs; whnf) (by omega) (by omega) ?_)
        refine a_do rfl (o_build21 Try.underlying28 rfl ty2 ty22 ty28 rfl (by conv => lhs; whnf) ?_)
        refine a_do rfl (o_allocN (n := 2) ty28 rfl (by exact (rfl : _ = [_, _])) (by rfl) (fun k7 hk7 => ?_))
        try simp at hk7
        refine a_do rfl (o_storeVAgg ty28 (by conv => lhs; whnf) (by repeat (first | assumption | exact lk_last (by (try simp only [List.length_append, List.length_cons, List.length_nil, List.length_set]); omega) | apply lk_prev)) (by rfl) (by rfl) (by rfl) (by conv => lhs; whnf) (by rfl) (by rfl) (by first | rfl | exact one2 (by assumption)) (by first | exact (rfl : _ = [_]) | exact (rfl : _ = [_, _]) | exact (rfl : _ = [_, _, _]) | exact (rfl : _ = [_, _, _, _]) | rfl) (by repeat (first | exact set_last (by (try simp only [List.length_append, List.length_cons, List.length_nil, List.length_set]); omega) | (apply set_step; (try simp only [List.length_append, List.length_cons, List.length_nil, List.length_set]); omega) | exact rfl)) ?_)
        refine a_end ?_
        refine awp_seq ?_
        refine awp_seq ?_
        refine awp_region rfl ?_
        refine a_do rfl (o_fieldAddr Try.underlying28 rfl ty22 (by conv => lhs; whnf) (by repeat (first | assumption | exact lk_last (by (try simp only [List.length_append, List.length_cons, List.length_nil, List.length_set]); omega) | apply lk_prev)) (by rfl) ?_)
        refine a_do rfl (o_load Try.underlying22 rfl (by conv => lhs; whnf) (by repeat (first | assumption | exact lk_last (by (try simp only [List.length_append, List.length_cons, List.length_nil, List.length_set]); omega) | apply lk_prev)) (by rfl) (by rfl) ?_)
        refine a_do rfl (o_lenI Try.underlying22 (by conv => lhs; whnf) (by repeat (first | assumption | exact ints_nil | exact Ints.own (by repeat (first | assumption | exact lk_last (by (try simp only [List.length_append, List.length_cons, List.length_nil, List.length_set]); omega) | apply lk_prev)) (by first | rfl | exact upto_len | assumption | exact map_len) | apply Ints.app | (refine Ints.sub (by repeat (first | assumption | apply Ints.app)) (by omega) (by omega) (by omega)))) ?_)
        refine a_do rfl (o_move (by conv => lhs; whnf) ?_)
        refine a_end ?_
        refine awp_block ?_
        obtain ⟨kG, hkG⟩ : ∃ k, k = h.length + 3 := ⟨_, rfl⟩
        refine awp_ghost (k := kG) (kw := k7) (cs := [i64 (p - 1), .slice none 0 0]) (cs' := [i64 (p - 1), sl kG 0]) (by simp [hkG]) (by repeat (first | assumption | exact lk_last (by (try simp only [List.length_append, List.length_cons, List.length_nil, List.length_set]); omega) | apply lk_prev)) (by repeat (first | exact set_last (by (try simp only [List.length_append, List.length_cons, List.length_nil, List.length_set]); omega) | (apply set_step; (try simp only [List.length_append, List.length_cons, List.length_nil, List.length_set]); omega) | exact rfl)) gcells2 ?_
        refine awp_loop (σ := Nat) (fun s env1 h1 => Slots env1 [(1, i64 q), (2, .pointer (some ⟨k2, 0, some 2⟩)), (4, .pointer (some ⟨k3, 0, some 2⟩)), (6, .pointer (some ⟨k7, 0, some 2⟩)), (30, i64 xs.length), (31, i64 s)] ∧ Grown (h ++ [⟨[i64 p, v], true, 1⟩] ++ [⟨[i64 0, .slice none 0 0], true, 1⟩] ++ [⟨[i64 (p - 1), sl kG (cntO q.toNat s)], true, 1⟩] ++ [lst ((List.range (cntO q.toNat s)).map (outF xs q))]) h1 ∧ s ≤ xs.length) (fun s => xs.length - s) 0 ?_ ?_
        · refine ⟨Slots.mk ⟨?_, ?_, ?_, ?_, ?_, ?_, trivial⟩, ?_, ?_⟩
          all_goals first | rfl | exact Grown.refl _ | omega | (simp; done)
        · intro s env1 h1 hI1
          obtain ⟨⟨e1, rfl⟩, ⟨gs, rfl⟩, hs⟩ := hI1
          have hcc := cntO_le (q := q.toNat) s
          refine awp_seq ?_
          refine awp_region rfl ?_
          refine a_do rfl (o_lss (by conv => lhs; whnf) (by conv => lhs; whnf) (fun c8 => ?_) (fun c8 => ?_))
          ·
            refine a_end ?_
            refine awp_seq ?_
            refine awp_condT (by conv => lhs; whnf) ?_
            refine awp_skip ?_
            refine awp_seq ?_
            refine awp_block ?_
            refine awp_seq ?_
            refine awp_region rfl ?_
            refine a_do rfl (o_move (by conv => lhs; whnf) ?_)
            refine a_do rfl (o_assign (by conv => lhs; whnf) ?_)
            refine a_end ?_
            refine awp_seq ?_
            refine awp_region rfl ?_
            refine a_do rfl (o_move (by conv => lhs; whnf) ?_)
            refine a_do rfl (o_move (by conv => lhs; whnf) ?_)
            refine a_do rfl (o_callF (lmap_cons (by conv => lhs; whnf) (lmap_cons (by conv => lhs; whnf) lmap_nil)) (Ret.toB (l03In_ret _ _ _ (by omega) (by omega)) (fun c9 => ?_) (fun c9 => ?_)))
            ·
              refine a_do rfl (o_notT (by conv => lhs; whnf) ?_)
              refine a_end ?_
              refine awp_condF (by conv => lhs; whnf) ?_
              refine awp_skip ?_
              refine awp_region rfl ?_
              refine a_do rfl (o_add (by conv => lhs; whnf) (by conv => lhs; whnf) (by omega) (by omega) ?_)
              refine a_do rfl (o_move (by conv => lhs; whnf) ?_)
              refine a_end ?_
              refine ⟨s + 1, ⟨Slots.mk ⟨?_, ?_, ?_, ?_, ?_, ?_, trivial⟩, ?_, ?_⟩, ?_⟩
              all_goals first | rfl | omega | exact congrArg i64 (by omega) | (repeat (first | exact Grown.refl _ | (rw [cntO_in ‹_›]; exact Grown.refl _) | (rw [← out_app (xs := xs) (q := q) (s := s) (by omega) (by omega) ‹_›, cntO_out ‹_›]; exact Grown.refl _) | refine Grown.push ?_ _))
            ·
              refine a_do rfl (o_notF (by conv => lhs; whnf) ?_)
              refine a_end ?_
              refine awp_condT (by conv => lhs; whnf) ?_
              refine awp_drawAt 8 rfl rfl Try_mixed (by kernel_rfl) (by kernel_rfl) (by kernel_rfl) rfl rfl rfl rfl rfl rfl ?_
              refine d_do rfl (o_fieldAddr Try.underlying28 rfl ty22 (by conv => lhs; whnf) (by repeat (first | assumption | exact lk_last (by (try simp only [List.length_append, List.length_cons, List.length_nil, List.length_set]); omega) | apply lk_prev)) (by rfl) ⟨rfl, rfl⟩) (by first | exact .prim rfl | exact Within.mono ‹Within _ (Value.func _ _ _)› (by (try simp only [List.length_append, List.length_cons, List.length_nil, List.length_set]); omega) | (apply within_sub; apply Ints.within; repeat (first | assumption | apply Ints.app)) | (apply within_ptr; repeat (first | assumption | exact lk_last (by (try simp only [List.length_append, List.length_cons, List.length_nil, List.length_set]); omega) | apply lk_prev)) | (apply within_sl; repeat (first | assumption | exact lk_last (by (try simp only [List.length_append, List.length_cons, List.length_nil, List.length_set]); omega) | apply lk_prev)) | (apply Within.agg3 <;> (first | exact .prim rfl | (apply within_ptr; repeat (first | assumption | exact lk_last (by (try simp only [List.length_append, List.length_cons, List.length_nil, List.length_set]); omega) | apply lk_prev)) | (apply within_sl; repeat (first | assumption | exact lk_last (by (try simp only [List.length_append, List.length_cons, List.length_nil, List.length_set]); omega) | apply lk_prev)) | ((try apply within_sub); apply Ints.within; repeat (first | assumption | apply Ints.app)))) | (apply Within.agg2 <;> (first | exact .prim rfl | (apply within_ptr; repeat (first | assumption | exact lk_last (by (try simp only [List.length_append, List.length_cons, List.length_nil, List.length_set]); omega) | apply lk_prev)) | (apply within_sl; repeat (first | assumption | exact lk_last (by (try simp only [List.length_append, List.length_cons, List.length_nil, List.length_set]); omega) | apply lk_prev)) | ((try apply within_sub); apply Ints.within; repeat (first | assumption | apply Ints.app)))) | (apply Ints.within; repeat (first | assumption | apply Ints.app))) ?_
              refine d_do rfl (o_load Try.underlying22 rfl (by conv => lhs; whnf) (by repeat (first | assumption | exact lk_last (by (try simp only [List.length_append, List.length_cons, List.length_nil, List.length_set]); omega) | apply lk_prev)) (by rfl) (by rfl) ⟨rfl, rfl⟩) (by first | exact .prim rfl | exact Within.mono ‹Within _ (Value.func _ _ _)› (by (try simp only [List.length_append, List.length_cons, List.length_nil, List.length_set]); omega) | (apply within_sub; apply Ints.within; repeat (first | assumption | apply Ints.app)) | (apply within_ptr; repeat (first | assumption | exact lk_last (by (try simp only [List.length_append, List.length_cons, List.length_nil, List.length_set]); omega) | apply lk_prev)) | (apply within_sl; repeat (first | assumption | exact lk_last (by (try simp only [List.length_append, List.length_cons, List.length_nil, List.length_set]); omega) | apply lk_prev)) | (apply Within.agg3 <;> (first | exact .prim rfl | (apply within_ptr; repeat (first | assumption | exact lk_last (by (try simp only [List.length_append, List.length_cons, List.length_nil, List.length_set]); omega) | apply lk_prev)) | (apply within_sl; repeat (first | assumption | exact lk_last (by (try simp only [List.length_append, List.length_cons, List.length_nil, List.length_set]); omega) | apply lk_prev)) | ((try apply within_sub); apply Ints.within; repeat (first | assumption | apply Ints.app)))) | (apply Within.agg2 <;> (first | exact .prim rfl | (apply within_ptr; repeat (first | assumption | exact lk_last (by (try simp only [List.length_append, List.length_cons, List.length_nil, List.length_set]); omega) | apply lk_prev)) | (apply within_sl; repeat (first | assumption | exact lk_last (by (try simp only [List.length_append, List.length_cons, List.length_nil, List.length_set]); omega) | apply lk_prev)) | ((try apply within_sub); apply Ints.within; repeat (first | assumption | apply Ints.app)))) | (apply Ints.within; repeat (first | assumption | apply Ints.app))) ?_
              refine d_do rfl (o_fieldAddr Try.underlying28 rfl ty22 (by conv => lhs; whnf) (by repeat (first | assumption | exact lk_last (by (try simp only [List.length_append, List.length_cons, List.length_nil, List.length_set]); omega) | apply lk_prev)) (by rfl) ⟨rfl, rfl⟩) (by first | exact .prim rfl | exact Within.mono ‹Within _ (Value.func _ _ _)› (by (try simp only [List.length_append, List.length_cons, List.length_nil, List.length_set]); omega) | (apply within_sub; apply Ints.within; repeat (first | assumption | apply Ints.app)) | (apply within_ptr; repeat (first | assumption | exact lk_last (by (try simp only [List.length_append, List.length_cons, List.length_nil, List.length_set]); omega) | apply lk_prev)) | (apply within_sl; repeat (first | assumption | exact lk_last (by (try simp only [List.length_append, List.length_cons, List.length_nil, List.length_set]); omega) | apply lk_prev)) | (apply Within.agg3 <;> (first | exact .prim rfl | (apply within_ptr; repeat (first | assumption | exact lk_last (by (try simp only [List.length_append, List.length_cons, List.length_nil, List.length_set]); omega) | apply lk_prev)) | (apply within_sl; repeat (first | assumption | exact lk_last (by (try simp only [List.length_append, List.length_cons, List.length_nil, List.length_set]); omega) | apply lk_prev)) | ((try apply within_sub); apply Ints.within; repeat (first | assumption | apply Ints.app)))) | (apply Within.agg2 <;> (first | exact .prim rfl | (apply within_ptr; repeat (first | assumption | exact lk_last (by (try simp only [List.length_append, List.length_cons, List.length_nil, List.length_set]); omega) | apply lk_prev)) | (apply within_sl; repeat (first | assumption | exact lk_last (by (try simp only [List.length_append, List.length_cons, List.length_nil, List.length_set]); omega) | apply lk_prev)) | ((try apply within_sub); apply Ints.within; repeat (first | assumption | apply Ints.app)))) | (apply Ints.within; repeat (first | assumption | apply Ints.app))) ?_
              refine d_do rfl (o_load Try.underlying22 rfl (by conv => lhs; whnf) (by repeat (first | assumption | exact lk_last (by (try simp only [List.length_append, List.length_cons, List.length_nil, List.length_set]); omega) | apply lk_prev)) (by rfl) (by rfl) ⟨rfl, rfl⟩) (by first | exact .prim rfl | exact Within.mono ‹Within _ (Value.func _ _ _)› (by (try simp only [List.length_append, List.length_cons, List.length_nil, List.length_set]); omega) | (apply within_sub; apply Ints.within; repeat (first | assumption | apply Ints.app)) | (apply within_ptr; repeat (first | assumption | exact lk_last (by (try simp only [List.length_append, List.length_cons, List.length_nil, List.length_set]); omega) | apply lk_prev)) | (apply within_sl; repeat (first | assumption | exact lk_last (by (try simp only [List.length_append, List.length_cons, List.length_nil, List.length_set]); omega) | apply lk_prev)) | (apply Within.agg3 <;> (first | exact .prim rfl | (apply within_ptr; repeat (first | assumption | exact lk_last (by (try simp only [List.length_append, List.length_cons, List.length_nil, List.length_set]); omega) | apply lk_prev)) | (apply within_sl; repeat (first | assumption | exact lk_last (by (try simp only [List.length_append, List.length_cons, List.length_nil, List.length_set]); omega) | apply lk_prev)) | ((try apply within_sub); apply Ints.within; repeat (first | assumption | apply Ints.app)))) | (apply Within.agg2 <;> (first | exact .prim rfl | (apply within_ptr; repeat (first | assumption | exact lk_last (by (try simp only [List.length_append, List.length_cons, List.length_nil, List.length_set]); omega) | apply lk_prev)) | (apply within_sl; repeat (first | assumption | exact lk_last (by (try simp only [List.length_append, List.length_cons, List.length_nil, List.length_set]); omega) | apply lk_prev)) | ((try apply within_sub); apply Ints.within; repeat (first | assumption | apply Ints.app)))) | (apply Ints.within; repeat (first | assumption | apply Ints.app))) ?_
              refine d_do rfl (o_move (by conv => lhs; whnf) ⟨rfl, rfl⟩) (by first | exact .prim rfl | exact Within.mono ‹Within _ (Value.func _ _ _)› (by (try simp only [List.length_append, List.length_cons, List.length_nil, List.length_set]); omega) | (apply within_sub; apply Ints.within; repeat (first | assumption | apply Ints.app)) | (apply within_ptr; repeat (first | assumption | exact lk_last (by (try simp only [List.length_append, List.length_cons, List.length_nil, List.length_set]); omega) | apply lk_prev)) | (apply within_sl; repeat (first | assumption | exact lk_last (by (try simp only [List.length_append, List.length_cons, List.length_nil, List.length_set]); omega) | apply lk_prev)) | (apply Within.agg3 <;> (first | exact .prim rfl | (apply within_ptr; repeat (first | assumption | exact lk_last (by (try simp only [List.length_append, List.length_cons, List.length_nil, List.length_set]); omega) | apply lk_prev)) | (apply within_sl; repeat (first | assumption | exact lk_last (by (try simp only [List.length_append, List.length_cons, List.length_nil, List.length_set]); omega) | apply lk_prev)) | ((try apply within_sub); apply Ints.within; repeat (first | assumption | apply Ints.app)))) | (apply Within.agg2 <;> (first | exact .prim rfl | (apply within_ptr; repeat (first | assumption | exact lk_last (by (try simp only [List.length_append, List.length_cons, List.length_nil, List.length_set]); omega) | apply lk_prev)) | (apply within_sl; repeat (first | assumption | exact lk_last (by (try simp only [List.length_append, List.length_cons, List.length_nil, List.length_set]); omega) | apply lk_prev)) | ((try apply within_sub); apply Ints.within; repeat (first | assumption | apply Ints.app)))) | (apply Ints.within; repeat (first | assumption | apply Ints.app))) ?_
              first | refine d_indexI rfl Try.underlying22 ty2 (by conv => lhs; whnf) (by repeat (first | assumption | exact ints_nil | exact Ints.own (by repeat (first | assumption | exact lk_last (by (try simp only [List.length_append, List.length_cons, List.length_nil, List.length_set]); omega) | apply lk_prev)) (by first | rfl | exact upto_len | assumption | exact map_len) | apply Ints.app | (refine Ints.sub (by repeat (first | assumption | apply Ints.app)) (by omega) (by omega) (by omega)))) (by conv => lhs; whnf) (by omega) (fun p10 hp10 => ?_) | refine d_indexZ rfl Try.underlying22 ty2 (by conv => lhs; whnf) (by repeat (first | assumption | exact ints_nil | exact Ints.own (by repeat (first | assumption | exact lk_last (by (try simp only [List.length_append, List.length_cons, List.length_nil, List.length_set]); omega) | apply lk_prev)) (by first | rfl | exact upto_len | assumption | exact map_len) | apply Ints.app | (refine Ints.sub (by repeat (first | assumption | apply Ints.app)) (by omega) (by omega) (by omega)))) (by conv => lhs; whnf) (by omega) (by omega) (fun p10 hp10 => ?_)
              refine d_do rfl (o_loadI Try.underlying2 rfl (by conv => lhs; whnf) hp10 (by repeat (first | assumption | exact ints_nil | exact Ints.own (by repeat (first | assumption | exact lk_last (by (try simp only [List.length_append, List.length_cons, List.length_nil, List.length_set]); omega) | apply lk_prev)) (by first | rfl | exact upto_len | assumption | exact map_len) | apply Ints.app | (refine Ints.sub (by repeat (first | assumption | apply Ints.app)) (by omega) (by omega) (by omega)))) (by omega) ⟨rfl, rfl⟩) (by first | exact .prim rfl | exact Within.mono ‹Within _ (Value.func _ _ _)› (by (try simp only [List.length_append, List.length_cons, List.length_nil, List.length_set]); omega) | (apply within_sub; apply Ints.within; repeat (first | assumption | apply Ints.app)) | (apply within_ptr; repeat (first | assumption | exact lk_last (by (try simp only [List.length_append, List.length_cons, List.length_nil, List.length_set]); omega) | apply lk_prev)) | (apply within_sl; repeat (first | assumption | exact lk_last (by (try simp only [List.length_append, List.length_cons, List.length_nil, List.length_set]); omega) | apply lk_prev)) | (apply Within.agg3 <;> (first | exact .prim rfl | (apply within_ptr; repeat (first | assumption | exact lk_last (by (try simp only [List.length_append, List.length_cons, List.length_nil, List.length_set]); omega) | apply lk_prev)) | (apply within_sl; repeat (first | assumption | exact lk_last (by (try simp only [List.length_append, List.length_cons, List.length_nil, List.length_set]); omega) | apply lk_prev)) | ((try apply within_sub); apply Ints.within; repeat (first | assumption | apply Ints.app)))) | (apply Within.agg2 <;> (first | exact .prim rfl | (apply within_ptr; repeat (first | assumption | exact lk_last (by (try simp only [List.length_append, List.length_cons, List.length_nil, List.length_set]); omega) | apply lk_prev)) | (apply within_sl; repeat (first | assumption | exact lk_last (by (try simp only [List.length_append, List.length_cons, List.length_nil, List.length_set]); omega) | apply lk_prev)) | ((try apply within_sub); apply Ints.within; repeat (first | assumption | apply Ints.app)))) | (apply Ints.within; repeat (first | assumption | apply Ints.app))) ?_
              refine d_buildI1 rfl Try.underlying22 ty2 (by conv => lhs; whnf) (fun k11 hk11 hgk11 => ?_)
              try simp at hk11
              refine d_end ?_
              refine app_mid (o_fieldAddr Try.underlying28 rfl ty22 (by conv => lhs; whnf) (by repeat (first | assumption | exact lk_last (by (try simp only [List.length_append, List.length_cons, List.length_nil, List.length_set]); omega) | apply lk_prev)) (by rfl) ⟨rfl, rfl⟩) (by first | exact .prim rfl | exact Within.mono ‹Within _ (Value.func _ _ _)› (by (try simp only [List.length_append, List.length_cons, List.length_nil, List.length_set]); omega) | (apply within_sub; apply Ints.within; repeat (first | assumption | apply Ints.app)) | (apply within_ptr; repeat (first | assumption | exact lk_last (by (try simp only [List.length_append, List.length_cons, List.length_nil, List.length_set]); omega) | apply lk_prev)) | (apply within_sl; repeat (first | assumption | exact lk_last (by (try simp only [List.length_append, List.length_cons, List.length_nil, List.length_set]); omega) | apply lk_prev)) | (apply Within.agg3 <;> (first | exact .prim rfl | (apply within_ptr; repeat (first | assumption | exact lk_last (by (try simp only [List.length_append, List.length_cons, List.length_nil, List.length_set]); omega) | apply lk_prev)) | (apply within_sl; repeat (first | assumption | exact lk_last (by (try simp only [List.length_append, List.length_cons, List.length_nil, List.length_set]); omega) | apply lk_prev)) | ((try apply within_sub); apply Ints.within; repeat (first | assumption | apply Ints.app)))) | (apply Within.agg2 <;> (first | exact .prim rfl | (apply within_ptr; repeat (first | assumption | exact lk_last (by (try simp only [List.length_append, List.length_cons, List.length_nil, List.length_set]); omega) | apply lk_prev)) | (apply within_sl; repeat (first | assumption | exact lk_last (by (try simp only [List.length_append, List.length_cons, List.length_nil, List.length_set]); omega) | apply lk_prev)) | ((try apply within_sub); apply Ints.within; repeat (first | assumption | apply Ints.app)))) | (apply Ints.within; repeat (first | assumption | apply Ints.app))) ?_
              refine o_appendI Try.underlying22 ty2 (by conv => lhs; whnf) (by repeat (first | assumption | exact lk_last (by (try simp only [List.length_append, List.length_cons, List.length_nil, List.length_set]); omega) | apply lk_prev)) (by first | rfl | exact map_len | omega | (simp; done) | (simp; omega)) (by conv => lhs; whnf) (by first | exact Ints.own (by repeat (first | assumption | exact lk_last (by (try simp only [List.length_append, List.length_cons, List.length_nil, List.length_set]); omega) | apply lk_prev)) (by first | rfl | exact upto_len | assumption | exact map_len) | repeat (first | assumption | apply Ints.app)) (by first | omega | (simp; omega)) (by repeat (first | exact set_last (by (try simp only [List.length_append, List.length_cons, List.length_nil, List.length_set]); omega) | (apply set_step; (try simp only [List.length_append, List.length_cons, List.length_nil, List.length_set]); omega) | exact rfl)) ?_
              refine ⟨o_fieldAddr Try.underlying28 rfl ty22 (by conv => lhs; whnf) (by repeat (first | assumption | exact lk_last (by (try simp only [List.length_append, List.length_cons, List.length_nil, List.length_set]); omega) | apply lk_prev)) (by rfl) ⟨rfl, rfl⟩, ?_⟩
              refine o_storeV ty22 (by conv => lhs; whnf) (by repeat (first | assumption | exact lk_last (by (try simp only [List.length_append, List.length_cons, List.length_nil, List.length_set]); omega) | apply lk_prev)) (by rfl) (by rfl) (by rfl) (by conv => lhs; whnf) (by rfl) (by rfl) (by first | exact (rfl : _ = [_]) | exact (rfl : _ = [_, _]) | exact (rfl : _ = [_, _, _]) | exact (rfl : _ = [_, _, _, _]) | rfl) (by repeat (first | exact set_last (by (try simp only [List.length_append, List.length_cons, List.length_nil, List.length_set]); omega) | (apply set_step; (try simp only [List.length_append, List.length_cons, List.length_nil, List.length_set]); omega) | exact rfl)) ?_
              refine awp_region rfl ?_
              refine a_do rfl (o_add (by conv => lhs; whnf) (by conv => lhs; whnf) (by omega) (by omega) ?_)
              refine a_do rfl (o_move (by conv => lhs; whnf) ?_)
              refine a_end ?_
              refine ⟨s + 1, ⟨Slots.mk ⟨?_, ?_, ?_, ?_, ?_, ?_, trivial⟩, ?_, ?_⟩, ?_⟩
              all_goals first | rfl | omega | exact congrArg i64 (by omega) | (repeat (first | exact Grown.refl _ | (rw [cntO_in ‹_›]; exact Grown.refl _) | (rw [← out_app (xs := xs) (q := q) (s := s) (by omega) (by omega) ‹_›, cntO_out ‹_›]; exact Grown.refl _) | refine Grown.push ?_ _))
          ·
            refine a_end ?_
            refine awp_seq ?_
            refine awp_condF (by conv => lhs; whnf) ?_
            refine awp_exit ?_
            refine awp_seq ?_
            refine awp_region rfl ?_
            have hcf := out_full (q := q) hxl (by omega) (by omega) (show s = xs.length by omega)
            rw [hcf]
            have hml2 : (mapR (outF xs q) (p - 1)).length = 2 ^ (p - 1).toNat := mapR_len
            have hpn := pow_nat (n := p - 1) (by omega)
            refine a_do rfl (o_loadAgg Try.underlying28 rfl ty28 (by conv => lhs; whnf) (by repeat (first | assumption | exact lk_last (by (try simp only [List.length_append, List.length_cons, List.length_nil, List.length_set]); omega) | apply lk_prev)) (by rfl) (by exact (rfl : _ = [_, _])) (by rfl) ?_)
            rcases Bool.eq_false_or_eq_true (isW 10000 (p - 1) (mapR (outF xs q) (p - 1))) with hgive | hgive
            ·
              refine a_do rfl (o_callF (lmap_cons (by conv => lhs; whnf) lmap_nil) (Ret.to ((l03Give_ret _ _ _ _ (by repeat (first | assumption | exact ints_nil | exact Ints.own (by repeat (first | assumption | exact lk_last (by (try simp only [List.length_append, List.length_cons, List.length_nil, List.length_set]); omega) | apply lk_prev)) (by first | rfl | exact upto_len | assumption | exact map_len) | apply Ints.app | (refine Ints.sub (by repeat (first | assumption | apply Ints.app)) (by omega) (by omega) (by omega)))) (by omega)).ites.1 hgive) ?_))
              refine a_do rfl (o_extract (by conv => lhs; whnf) rfl ?_)
              refine a_do rfl (o_extract (by conv => lhs; whnf) rfl ?_)
              refine a_do rfl (o_storeVAgg ty28 (by conv => lhs; whnf) (by repeat (first | assumption | exact lk_last (by (try simp only [List.length_append, List.length_cons, List.length_nil, List.length_set]); omega) | apply lk_prev)) (by rfl) (by rfl) (by rfl) (by conv => lhs; whnf) (by rfl) (by rfl) (by first | rfl | exact one2 (by assumption)) (by first | exact (rfl : _ = [_]) | exact (rfl : _ = [_, _]) | exact (rfl : _ = [_, _, _]) | exact (rfl : _ = [_, _, _, _]) | rfl) (by repeat (first | exact set_last (by (try simp only [List.length_append, List.length_cons, List.length_nil, List.length_set]); omega) | (apply set_step; (try simp only [List.length_append, List.length_cons, List.length_nil, List.length_set]); omega) | exact rfl)) ?_)
              refine a_do rfl (o_assign (by conv => lhs; whnf) ?_)
              refine a_end ?_
              refine awp_ret ?_
              refine ⟨.inl rfl, [_, _], ⟨ares_cellAgg (by conv => lhs; whnf) (by repeat (first | assumption | exact lk_last (by (try simp only [List.length_append, List.length_cons, List.length_nil, List.length_set]); omega) | apply lk_prev)) (by rfl) Try.underlying28 rfl ty28 (by exact (rfl : _ = [_, _])) (by rfl), ares_tmp (by conv => lhs; whnf), trivial⟩, ?_⟩
              first | exact .inr ⟨by simp [*], rfl, (by repeat (first | exact Grown.refl _ | refine Grown.push ?_ _))⟩ | exact .inl ⟨by rw [hW, hq9, h2p, hgive]; rfl, kG, rfl, (by repeat (first | exact Grown.refl _ | refine Grown.push ?_ _)), (by repeat (first | assumption | exact lk_last (by (try simp only [List.length_append, List.length_cons, List.length_nil, List.length_set]); omega) | apply lk_prev)), by omega⟩
            ·
              refine a_do rfl (o_callF (lmap_cons (by conv => lhs; whnf) lmap_nil) (Ret.to ((l03Give_ret _ _ _ _ (by repeat (first | assumption | exact ints_nil | exact Ints.own (by repeat (first | assumption | exact lk_last (by (try simp only [List.length_append, List.length_cons, List.length_nil, List.length_set]); omega) | apply lk_prev)) (by first | rfl | exact upto_len | assumption | exact map_len) | apply Ints.app | (refine Ints.sub (by repeat (first | assumption | apply Ints.app)) (by omega) (by omega) (by omega)))) (by omega)).ites.2 hgive) ?_))
              refine a_do rfl (o_extract (by conv => lhs; whnf) rfl ?_)
              refine a_do rfl (o_extract (by conv => lhs; whnf) rfl ?_)
              refine a_do rfl (o_storeVAgg ty28 (by conv => lhs; whnf) (by repeat (first | assumption | exact lk_last (by (try simp only [List.length_append, List.length_cons, List.length_nil, List.length_set]); omega) | apply lk_prev)) (by rfl) (by rfl) (by rfl) (by conv => lhs; whnf) (by rfl) (by rfl) (by first | rfl | exact one2 (by assumption)) (by first | exact (rfl : _ = [_]) | exact (rfl : _ = [_, _]) | exact (rfl : _ = [_, _, _]) | exact (rfl : _ = [_, _, _, _]) | rfl) (by repeat (first | exact set_last (by (try simp only [List.length_append, List.length_cons, List.length_nil, List.length_set]); omega) | (apply set_step; (try simp only [List.length_append, List.length_cons, List.length_nil, List.length_set]); omega) | exact rfl)) ?_)
              refine a_do rfl (o_assign (by conv => lhs; whnf) ?_)
              refine a_end ?_
              refine awp_ret ?_
              refine ⟨.inl rfl, [_, _], ⟨ares_cellAgg (by conv => lhs; whnf) (by repeat (first | assumption | exact lk_last (by (try simp only [List.length_append, List.length_cons, List.length_nil, List.length_set]); omega) | apply lk_prev)) (by rfl) Try.underlying28 rfl ty28 (by exact (rfl : _ = [_, _])) (by rfl), ares_tmp (by conv => lhs; whnf), trivial⟩, ?_⟩
              first | exact .inr ⟨by simp [*], rfl, (by repeat (first | exact Grown.refl _ | refine Grown.push ?_ _))⟩ | exact .inl ⟨by rw [hW, hq9, h2p, hgive]; rfl, kG, rfl, (by repeat (first | exact Grown.refl _ | refine Grown.push ?_ _)), (by repeat (first | assumption | exact lk_last (by (try simp only [List.length_append, List.length_cons, List.length_nil, List.length_set]); omega) | apply lk_prev)), by omega⟩
    ·
      refine a_do rfl (o_notF (by conv => lhs; whnf) ?_)
      refine a_do rfl (o_pickF (by conv => lhs; whnf) (by conv => lhs; whnf) ?_)
      refine a_do rfl (o_move (by conv => lhs; whnf) ?_)
      refine a_no rfl ?_
      refine a_no rfl ?_
      refine a_no rfl ?_
      refine a_do rfl (o_pickT (by conv => lhs; whnf) (by conv => lhs; whnf) ?_)
      refine a_end ?_
      refine awp_condT (by conv => lhs; whnf) ?_
      refine awp_seq ?_
      refine awp_region rfl ?_
      refine a_do rfl (o_build20 Try.underlying28 ty2 ty22 ty28 rfl ?_)
      refine a_do rfl (o_storeVAgg ty28 (by conv => lhs; whnf) (by repeat (first | assumption | exact lk_last (by (try simp only [List.length_append, List.length_cons, List.length_nil, List.length_set]); omega) | apply lk_prev)) (by rfl) (by rfl) (by rfl) (by conv => lhs; whnf) (by rfl) (by rfl) (by first | rfl | exact one2 (by assumption)) (by first | exact (rfl : _ = [_]) | exact (rfl : _ = [_, _]) | exact (rfl : _ = [_, _, _]) | exact (rfl : _ = [_, _, _, _]) | rfl) (by repeat (first | exact set_last (by (try simp only [List.length_append, List.length_cons, List.length_nil, List.length_set]); omega) | (apply set_step; (try simp only [List.length_append, List.length_cons, List.length_nil, List.length_set]); omega) | exact rfl)) ?_)
      refine a_do rfl (o_assign (by conv => lhs; whnf) ?_)
      refine a_end ?_
      refine awp_ret ?_
      refine ⟨.inl rfl, [_, _], ⟨ares_cellAgg (by conv => lhs; whnf) (by repeat (first | assumption | exact lk_last (by (try simp only [List.length_append, List.length_cons, List.length_nil, List.length_set]); omega) | apply lk_prev)) (by rfl) Try.underlying28 rfl ty28 (by exact (rfl : _ = [_, _])) (by rfl), ares_tmp (by conv => lhs; whnf), trivial⟩, ?_⟩
      first | exact .inr ⟨by simp [*], rfl, (by repeat (first | exact Grown.refl _ | refine Grown.push ?_ _))⟩ | exact .inl ⟨by rw [hW, hq9, h2p, hgive]; rfl, kG, rfl, (by repeat (first | exact Grown.refl _ | refine Grown.push ?_ _)), (by repeat (first | assumption | exact lk_last (by (try simp only [List.length_append, List.length_cons, List.length_nil, List.length_set]); omega) | apply lk_prev)), by omega⟩
  ·
    refine a_do rfl (o_notF (by conv => lhs; whnf) ?_)
    refine a_do rfl (o_move (by conv => lhs; whnf) ?_)
    refine a_no rfl ?_
    refine a_no rfl ?_
    refine a_no rfl ?_
    refine a_no rfl ?_
    refine a_no rfl ?_
    refine a_no rfl ?_
    refine a_do rfl (o_pickT (by conv => lhs; whnf) (by conv => lhs; whnf) ?_)
    refine a_do rfl (o_move (by conv => lhs; whnf) ?_)
    refine a_no rfl ?_
    refine a_no rfl ?_
    refine a_no rfl ?_
    refine a_do rfl (o_pickT (by conv => lhs; whnf) (by conv => lhs; whnf) ?_)
    refine a_end ?_
    refine awp_condT (by conv => lhs; whnf) ?_
    refine awp_seq ?_
    refine awp_region rfl ?_
    refine a_do rfl (o_build20 Try.underlying28 ty2 ty22 ty28 rfl ?_)
    refine a_do rfl (o_storeVAgg ty28 (by conv => lhs; whnf) (by repeat (first | assumption | exact lk_last (by (try simp only [List.length_append, List.length_cons, List.length_nil, List.length_set]); omega) | apply lk_prev)) (by rfl) (by rfl) (by rfl) (by conv => lhs; whnf) (by rfl) (by rfl) (by first | rfl | exact one2 (by assumption)) (by first | exact (rfl : _ = [_]) | exact (rfl : _ = [_, _]) | exact (rfl : _ = [_, _, _]) | exact (rfl : _ = [_, _, _, _]) | rfl) (by repeat (first | exact set_last (by (try simp only [List.length_append, List.length_cons, List.length_nil, List.length_set]); omega) | (apply set_step; (try simp only [List.length_append, List.length_cons, List.length_nil, List.length_set]); omega) | exact rfl)) ?_)
    refine a_do rfl (o_assign (by conv => lhs; whnf) ?_)
    refine a_end ?_
    refine awp_ret ?_
    refine ⟨.inl rfl, [_, _], ⟨ares_cellAgg (by conv => lhs; whnf) (by repeat (first | assumption | exact lk_last (by (try simp only [List.length_append, List.length_cons, List.length_nil, List.length_set]); omega) | apply lk_prev)) (by rfl) Try.underlying28 rfl ty28 (by exact (rfl : _ = [_, _])) (by rfl), ares_tmp (by conv => lhs; whnf), trivial⟩, ?_⟩
    first | exact .inr ⟨by simp [*], rfl, (by repeat (first | exact Grown.refl _ | refine Grown.push ?_ _))⟩ | exact .inl ⟨by rw [hW, hq9, h2p, hgive]; rfl, kG, rfl, (by repeat (first | exact Grown.refl _ | refine Grown.push ?_ _)), (by repeat (first | assumption | exact lk_last (by (try simp only [List.length_append, List.length_cons, List.length_nil, List.length_set]); omega) | apply lk_prev)), by omega⟩

end Go.Am
