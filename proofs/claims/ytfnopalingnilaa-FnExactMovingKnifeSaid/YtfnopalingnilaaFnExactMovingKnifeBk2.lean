/-
  More of what the functions that the law FnExactMovingKnife calls answer.
-/
import Derived.Test.YtfnopalingnilaaFnExactMovingKnifeBk1
namespace Go.Am
open Go.Proofs
set_option linter.unusedSimpArgs false
set_option linter.unusedVariables false

set_option maxRecDepth 10000 in
theorem l04Eaten_ret (k : Nat) (p q i : Int) (x y : Nat) (xs : List Int) (v : Value) (h : AHeap) (hv : Ints h v xs) (hl : xs.length ≤ 1073741824) (ho : h[k]? = some ⟨[i64 p, i64 q, v], true, 1⟩) (hok1 : (validC p q xs && decide (0 ≤ i ∧ i ≤ p - 1)) = true) (hok2 : plF q x = true) (hok3 : plF q y = true) : Ret Try.prog 51 [.pointer (some ⟨k, 0, some 3⟩), i64 i, fl x, fl y] h (fl (cSum x y (rowC q i xs) q.toNat)) h := by
  refine ret_of (.prim rfl) ?_
  obtain ⟨hp, hq, -⟩ := validC_get (hasC_get hok1).1
  have hH := hasC_get hok1
  obtain ⟨hp, hq, hxq, -⟩ := validC_get hH.1
  have hrc := rowC_ok hH.1 hH.2
  have hX := pl_of (p := q) (by omega) hok2
  have hY := pl_of (p := q) (by omega) hok3
  have hW := hrc.2.2.2.1
  have hrl := hrc.2.2.1
  have hIr : Ints h (subv v (i * q).toNat ((i + 1) * q).toNat) (rowC q i xs) := Ints.sub hv hrc.2.2.2.2.2 (by omega) (by omega)
  generalize hu9 : subv v (i * q).toNat ((i + 1) * q).toNat = u9 at hIr
  refine tri_of_body Try.func51 rfl (by kernel_rfl) (by show 4 ≤ 60; decide) ?_
  refine awp_seq ?_
  refine awp_region rfl ?_
  refine a_do rfl (o_assign (by conv => lhs; whnf) ?_)
  refine a_end ?_
  refine awp_seq ?_
  refine awp_region rfl ?_
  refine a_do rfl (o_assign (by conv => lhs; whnf) ?_)
  refine a_end ?_
  refine awp_seq ?_
  refine awp_seq ?_
  refine awp_region rfl ?_
  refine a_do rfl (o_assign (by conv => lhs; whnf) ?_)
  refine a_end ?_
  refine awp_block ?_
  refine awp_loop (σ := Nat) (fun s env1 h1 => Slots env1 [(0, .pointer (some ⟨k, 0, some 3⟩)), (1, i64 i), (2, fl x), (3, fl y), (9, fl (cSum x y (rowC q i xs) s)), (10, i64 s)] ∧ h1 = h ∧ s ≤ q.toNat) (fun s => q.toNat - s) 0 ?_ ?_
  · refine ⟨Slots.mk ⟨?_, ?_, ?_, ?_, ?_, ?_, trivial⟩, ?_, ?_⟩
    all_goals first | rfl | omega | (simp; done)
  · intro s env1 h1 hI1
    obtain ⟨⟨e1, rfl⟩, rfl, hs⟩ := hI1
    have hsp := cSum_ps hX hY hW s (by omega)
    refine awp_seq ?_
    refine awp_seq ?_
    refine awp_region rfl ?_
    refine a_do rfl (o_move (by conv => lhs; whnf) ?_)
    refine a_do rfl (o_move (by conv => lhs; whnf) ?_)
    refine a_do rfl (o_nilCheck (by conv => lhs; whnf) ?_)
    refine a_do rfl (o_fieldAddr Try.underlying29 rfl ty2 (by conv => lhs; whnf) (by with_reducible repeat (first | assumption | (apply lk_last; (try simp only [ll1, ll2, ll3, ll4, lls_len, lls2_len, markL_len]); first | done | omega) | apply lk_prev)) (by rfl) ?_)
    refine a_do rfl (o_load Try.underlying2 rfl (by conv => lhs; whnf) (by with_reducible repeat (first | assumption | (apply lk_last; (try simp only [ll1, ll2, ll3, ll4, lls_len, lls2_len, markL_len]); first | done | omega) | apply lk_prev)) (by rfl) (by rfl) ?_)
    refine a_do rfl (o_lss (by conv => lhs; whnf) (by conv => lhs; whnf) (fun c1 => ?_) (fun c1 => ?_))
    ·
      refine a_end ?_
      refine awp_condT (by conv => lhs; whnf) ?_
      refine awp_skip ?_
      refine awp_seq ?_
      refine awp_block ?_
      refine awp_seq ?_
      refine awp_region rfl ?_
      refine a_do rfl (o_move (by conv => lhs; whnf) ?_)
      refine a_do rfl (o_convI32 Try.underlying2 Try.underlying47 (by conv => lhs; whnf) ?_)
      refine a_do rfl (o_assign (by conv => lhs; whnf) ?_)
      refine a_end ?_
      refine awp_seq ?_
      refine awp_seq ?_
      refine awp_region rfl ?_
      refine a_do rfl (o_move (by conv => lhs; whnf) ?_)
      refine a_do rfl (o_move (by conv => lhs; whnf) ?_)
      refine a_do rfl (o_fcmp (by conv => lhs; whnf) (by conv => lhs; whnf) rfl (fun c2 => ?_) (fun c2 => ?_))
      ·
        have hca := cA_yes c2
        refine a_end ?_
        refine awp_condT (by conv => lhs; whnf) ?_
        refine awp_region rfl ?_
        refine a_do rfl (o_move (by conv => lhs; whnf) ?_)
        refine a_do rfl (o_assign (by conv => lhs; whnf) ?_)
        refine a_end ?_
        refine awp_seq ?_
        refine awp_region rfl ?_
        refine a_do rfl (o_move (by conv => lhs; whnf) ?_)
        refine a_do rfl (o_add (by conv => lhs; whnf) (by conv => lhs; whnf) (by omega) (by omega) ?_)
        refine a_do rfl (o_convI32 Try.underlying2 Try.underlying47 (by conv => lhs; whnf) ?_)
        refine a_do rfl (o_assign (by conv => lhs; whnf) ?_)
        refine a_end ?_
        refine awp_seq ?_
        refine awp_seq ?_
        refine awp_region rfl ?_
        refine a_do rfl (o_move (by conv => lhs; whnf) ?_)
        refine a_do rfl (o_move (by conv => lhs; whnf) ?_)
        refine a_do rfl (o_fcmp (by conv => lhs; whnf) (by conv => lhs; whnf) rfl (fun c3 => ?_) (fun c3 => ?_))
        ·
          have hcb := cB_yes c3
          refine a_end ?_
          refine awp_condT (by conv => lhs; whnf) ?_
          refine awp_region rfl ?_
          refine a_do rfl (o_move (by conv => lhs; whnf) ?_)
          refine a_do rfl (o_assign (by conv => lhs; whnf) ?_)
          refine a_end ?_
          refine awp_seq ?_
          refine awp_region rfl ?_
          refine a_do rfl (o_move (by conv => lhs; whnf) ?_)
          refine a_do rfl (o_move (by conv => lhs; whnf) ?_)
          refine a_do rfl (o_fbin (by conv => lhs; whnf) (by conv => lhs; whnf) (cD_use hX hY (by omega) hca hcb) ?_)
          refine a_do rfl (o_fcmp (by conv => lhs; whnf) (by conv => lhs; whnf) rfl (fun c4 => ?_) (fun c4 => ?_))
          ·
            have hgt : gtB (cD x y s) 0 = true := c4
            have hst := cSum_step hX hY hW (by omega) hsp hgt
            refine a_end ?_
            refine awp_condT (by conv => lhs; whnf) ?_
            refine awp_draw Try_mixed (by kernel_rfl) rfl ?_
            refine d_do rfl (o_move (by conv => lhs; whnf) ⟨rfl, rfl⟩) (by exact .prim rfl) ?_
            refine d_do rfl (o_move (by conv => lhs; whnf) ⟨rfl, rfl⟩) (by first | exact .prim rfl | (apply within_ptr; (with_reducible repeat (first | assumption | (apply lk_last; (try simp only [ll1, ll2, ll3, ll4, lls_len, lls2_len, markL_len]); first | done | omega) | apply lk_prev)); done)) ?_
            refine d_do rfl (o_nilCheck (by conv => lhs; whnf) ⟨rfl, rfl⟩) (by first | (apply within_ptr; (with_reducible repeat (first | assumption | (apply lk_last; (try simp only [ll1, ll2, ll3, ll4, lls_len, lls2_len, markL_len]); first | done | omega) | apply lk_prev)); done) | exact .prim rfl) ?_
            refine d_do rfl (o_fieldAddr Try.underlying29 rfl ty22 (by conv => lhs; whnf) (by with_reducible repeat (first | assumption | (apply lk_last; (try simp only [ll1, ll2, ll3, ll4, lls_len, lls2_len, markL_len]); first | done | omega) | apply lk_prev)) (by rfl) ⟨rfl, rfl⟩) (by first | (apply within_ptr; (with_reducible repeat (first | assumption | (apply lk_last; (try simp only [ll1, ll2, ll3, ll4, lls_len, lls2_len, markL_len]); first | done | omega) | apply lk_prev)); done) | exact .prim rfl) ?_
            refine d_do rfl (o_load Try.underlying22 rfl (by conv => lhs; whnf) (by with_reducible repeat (first | assumption | (apply lk_last; (try simp only [ll1, ll2, ll3, ll4, lls_len, lls2_len, markL_len]); first | done | omega) | apply lk_prev)) (by rfl) (by rfl) ⟨rfl, rfl⟩) (by first | exact .prim rfl | exact within_func0 | (apply within_ptr; (with_reducible repeat (first | assumption | (apply lk_last; (try simp only [ll1, ll2, ll3, ll4, lls_len, lls2_len, markL_len]); first | done | omega) | apply lk_prev)); done) | (apply within_sl; (with_reducible repeat (first | assumption | (apply lk_last; (try simp only [ll1, ll2, ll3, ll4, lls_len, lls2_len, markL_len]); first | done | omega) | apply lk_prev)); done) | ((try apply within_sub); apply Ints.within; (with_reducible repeat (first | assumption | apply Ints.app)); done) | (apply Lists.within; (with_reducible repeat (first | assumption | apply Lists.app)); done) | (apply Flts.within; (with_reducible repeat (first | assumption | apply Flts.app)); done) | (apply Byts.within; (with_reducible repeat (first | assumption | apply Byts.app)); done) | exact within_nilw | exact within_nilb | (apply within_tup2 <;> first | exact .prim rfl | (apply within_sl; (with_reducible repeat (first | assumption | (apply lk_last; (try simp only [ll1, ll2, ll3, ll4, lls_len, lls2_len, markL_len]); first | done | omega) | apply lk_prev)); done) | (apply Within.agg2 <;> (first | exact .prim rfl | (apply within_ptr; (with_reducible repeat (first | assumption | (apply lk_last; (try simp only [ll1, ll2, ll3, ll4, lls_len, lls2_len, markL_len]); first | done | omega) | apply lk_prev)); done) | (apply within_sl; (with_reducible repeat (first | assumption | (apply lk_last; (try simp only [ll1, ll2, ll3, ll4, lls_len, lls2_len, markL_len]); first | done | omega) | apply lk_prev)); done) | ((try apply within_sub); apply Ints.within; (with_reducible repeat (first | assumption | apply Ints.app)); done) | (apply Lists.within; (with_reducible repeat (first | assumption | apply Lists.app)); done) | (apply within_sl; (with_reducible repeat (first | assumption | (apply lk_last; (try simp only [ll1, ll2, ll3, ll4, lls_len, lls2_len, markL_len]); first | done | omega) | apply lk_prev)); done)))) | exact Within.mono ‹Within _ (Value.func _ _ _)› (by (try simp only [ll1, ll2, ll3, ll4, lls_len, lls2_len, markL_len]); first | done | omega) | (apply Within.agg4 <;> (first | exact .prim rfl | (apply within_ptr; (with_reducible repeat (first | assumption | (apply lk_last; (try simp only [ll1, ll2, ll3, ll4, lls_len, lls2_len, markL_len]); first | done | omega) | apply lk_prev)); done) | (apply within_sl; (with_reducible repeat (first | assumption | (apply lk_last; (try simp only [ll1, ll2, ll3, ll4, lls_len, lls2_len, markL_len]); first | done | omega) | apply lk_prev)); done) | ((try apply within_sub); apply Ints.within; (with_reducible repeat (first | assumption | apply Ints.app)); done) | (apply Lists.within; (with_reducible repeat (first | assumption | apply Lists.app)); done) | (apply within_sl; (with_reducible repeat (first | assumption | (apply lk_last; (try simp only [ll1, ll2, ll3, ll4, lls_len, lls2_len, markL_len]); first | done | omega) | apply lk_prev)); done))) | (apply Within.agg3 <;> (first | exact .prim rfl | (apply within_ptr; (with_reducible repeat (first | assumption | (apply lk_last; (try simp only [ll1, ll2, ll3, ll4, lls_len, lls2_len, markL_len]); first | done | omega) | apply lk_prev)); done) | (apply within_sl; (with_reducible repeat (first | assumption | (apply lk_last; (try simp only [ll1, ll2, ll3, ll4, lls_len, lls2_len, markL_len]); first | done | omega) | apply lk_prev)); done) | ((try apply within_sub); apply Ints.within; (with_reducible repeat (first | assumption | apply Ints.app)); done) | (apply Lists.within; (with_reducible repeat (first | assumption | apply Lists.app)); done) | (apply within_sl; (with_reducible repeat (first | assumption | (apply lk_last; (try simp only [ll1, ll2, ll3, ll4, lls_len, lls2_len, markL_len]); first | done | omega) | apply lk_prev)); done))) | (apply Within.agg2 <;> (first | exact .prim rfl | (apply within_ptr; (with_reducible repeat (first | assumption | (apply lk_last; (try simp only [ll1, ll2, ll3, ll4, lls_len, lls2_len, markL_len]); first | done | omega) | apply lk_prev)); done) | (apply within_sl; (with_reducible repeat (first | assumption | (apply lk_last; (try simp only [ll1, ll2, ll3, ll4, lls_len, lls2_len, markL_len]); first | done | omega) | apply lk_prev)); done) | ((try apply within_sub); apply Ints.within; (with_reducible repeat (first | assumption | apply Ints.app)); done) | (apply Lists.within; (with_reducible repeat (first | assumption | apply Lists.app)); done) | (apply within_sl; (with_reducible repeat (first | assumption | (apply lk_last; (try simp only [ll1, ll2, ll3, ll4, lls_len, lls2_len, markL_len]); first | done | omega) | apply lk_prev)); done)))) ?_
            refine d_do rfl (o_move (by conv => lhs; whnf) ⟨rfl, rfl⟩) (by exact .prim rfl) ?_
            refine d_do rfl (o_move (by conv => lhs; whnf) ⟨rfl, rfl⟩) (by first | exact .prim rfl | (apply within_ptr; (with_reducible repeat (first | assumption | (apply lk_last; (try simp only [ll1, ll2, ll3, ll4, lls_len, lls2_len, markL_len]); first | done | omega) | apply lk_prev)); done)) ?_
            refine d_do rfl (o_nilCheck (by conv => lhs; whnf) ⟨rfl, rfl⟩) (by first | (apply within_ptr; (with_reducible repeat (first | assumption | (apply lk_last; (try simp only [ll1, ll2, ll3, ll4, lls_len, lls2_len, markL_len]); first | done | omega) | apply lk_prev)); done) | exact .prim rfl) ?_
            refine d_do rfl (o_fieldAddr Try.underlying29 rfl ty2 (by conv => lhs; whnf) (by with_reducible repeat (first | assumption | (apply lk_last; (try simp only [ll1, ll2, ll3, ll4, lls_len, lls2_len, markL_len]); first | done | omega) | apply lk_prev)) (by rfl) ⟨rfl, rfl⟩) (by first | (apply within_ptr; (with_reducible repeat (first | assumption | (apply lk_last; (try simp only [ll1, ll2, ll3, ll4, lls_len, lls2_len, markL_len]); first | done | omega) | apply lk_prev)); done) | exact .prim rfl) ?_
            refine d_do rfl (o_load Try.underlying2 rfl (by conv => lhs; whnf) (by with_reducible repeat (first | assumption | (apply lk_last; (try simp only [ll1, ll2, ll3, ll4, lls_len, lls2_len, markL_len]); first | done | omega) | apply lk_prev)) (by rfl) (by rfl) ⟨rfl, rfl⟩) (by exact .prim rfl) ?_
            refine d_do rfl (o_mul (by conv => lhs; whnf) (by conv => lhs; whnf) (by omega) (by omega) ⟨rfl, rfl⟩) (by exact .prim rfl) ?_
            refine d_do rfl (o_move (by conv => lhs; whnf) ⟨rfl, rfl⟩) (by exact .prim rfl) ?_
            refine d_do rfl (o_add (by conv => lhs; whnf) (by conv => lhs; whnf) (by omega) (by omega) ⟨rfl, rfl⟩) (by exact .prim rfl) ?_
            first | refine d_indexI rfl Try.underlying22 ty2 (by conv => lhs; whnf) (by first | ((with_reducible repeat (first | assumption | apply Ints.app)); done) | repeat (first | with_reducible assumption | exact ints_nil | exact Ints.own (by with_reducible repeat (first | assumption | (apply lk_last; (try simp only [ll1, ll2, ll3, ll4, lls_len, lls2_len, markL_len]); first | done | omega) | apply lk_prev)) (by first | rfl | exact upto_len | assumption | exact map_len | exact List.length_set | (rw [List.length_set]; assumption)) | exact Ints.tail (by with_reducible repeat (first | assumption | (apply lk_last; (try simp only [ll1, ll2, ll3, ll4, lls_len, lls2_len, markL_len]); first | done | omega) | apply lk_prev)) (by first | rfl | exact upto_len | assumption | exact map_len | exact List.length_set | (rw [List.length_set]; assumption)) | with_reducible apply Ints.app | (refine Ints.sub (by with_reducible repeat (first | assumption | apply Ints.app)) (by omega) (by omega) (by omega)))) (by conv => lhs; whnf) (by omega) (fun p5 hp5 => ?_) | refine d_indexZ rfl Try.underlying22 ty2 (by conv => lhs; whnf) (by first | ((with_reducible repeat (first | assumption | apply Ints.app)); done) | repeat (first | with_reducible assumption | exact ints_nil | exact Ints.own (by with_reducible repeat (first | assumption | (apply lk_last; (try simp only [ll1, ll2, ll3, ll4, lls_len, lls2_len, markL_len]); first | done | omega) | apply lk_prev)) (by first | rfl | exact upto_len | assumption | exact map_len | exact List.length_set | (rw [List.length_set]; assumption)) | exact Ints.tail (by with_reducible repeat (first | assumption | (apply lk_last; (try simp only [ll1, ll2, ll3, ll4, lls_len, lls2_len, markL_len]); first | done | omega) | apply lk_prev)) (by first | rfl | exact upto_len | assumption | exact map_len | exact List.length_set | (rw [List.length_set]; assumption)) | with_reducible apply Ints.app | (refine Ints.sub (by with_reducible repeat (first | assumption | apply Ints.app)) (by omega) (by omega) (by omega)))) (by conv => lhs; whnf) (by omega) (by omega) (fun p5 hp5 => ?_)
            refine d_do rfl (o_loadI Try.underlying2 rfl (by conv => lhs; whnf) hp5 (by first | ((with_reducible repeat (first | assumption | apply Ints.app)); done) | repeat (first | with_reducible assumption | exact ints_nil | exact Ints.own (by with_reducible repeat (first | assumption | (apply lk_last; (try simp only [ll1, ll2, ll3, ll4, lls_len, lls2_len, markL_len]); first | done | omega) | apply lk_prev)) (by first | rfl | exact upto_len | assumption | exact map_len | exact List.length_set | (rw [List.length_set]; assumption)) | exact Ints.tail (by with_reducible repeat (first | assumption | (apply lk_last; (try simp only [ll1, ll2, ll3, ll4, lls_len, lls2_len, markL_len]); first | done | omega) | apply lk_prev)) (by first | rfl | exact upto_len | assumption | exact map_len | exact List.length_set | (rw [List.length_set]; assumption)) | with_reducible apply Ints.app | (refine Ints.sub (by with_reducible repeat (first | assumption | apply Ints.app)) (by omega) (by omega) (by omega)))) (by omega) ⟨rfl, rfl⟩) (by exact .prim rfl) ?_
            rw [rowC_get hH.1 hH.2 (by omega)]
            refine d_do rfl (o_convI32 Try.underlying2 Try.underlying47 (by conv => lhs; whnf) ⟨rfl, rfl⟩) (by exact .prim rfl) ?_
            refine d_do rfl (o_move (by conv => lhs; whnf) ⟨rfl, rfl⟩) (by exact .prim rfl) ?_
            refine d_do rfl (o_move (by conv => lhs; whnf) ⟨rfl, rfl⟩) (by exact .prim rfl) ?_
            refine d_do rfl (o_fbin (by conv => lhs; whnf) (by conv => lhs; whnf) (cD_use hX hY (by omega) hca hcb) ⟨rfl, rfl⟩) (by exact .prim rfl) ?_
            refine d_do rfl (o_fbin (by conv => lhs; whnf) (by conv => lhs; whnf) (fb_mul hst.1) ⟨rfl, rfl⟩) (by exact .prim rfl) ?_
            refine d_do rfl (o_fbin (by conv => lhs; whnf) (by conv => lhs; whnf) (fb_add hst.2.1) ⟨rfl, rfl⟩) (by exact .prim rfl) ?_
            refine d_do rfl (o_assign (by conv => lhs; whnf) ⟨rfl, rfl⟩) (by exact .prim rfl) ?_
            refine d_end ?_
            refine awp_region rfl ?_
            refine a_do rfl (o_move (by conv => lhs; whnf) ?_)
            refine a_do rfl (o_add (by conv => lhs; whnf) (by conv => lhs; whnf) (by omega) (by omega) ?_)
            refine a_do rfl (o_assign (by conv => lhs; whnf) ?_)
            refine a_end ?_
            refine ⟨s + 1, ⟨Slots.mk ⟨?_, ?_, ?_, ?_, ?_, ?_, trivial⟩, ?_, ?_⟩, ?_⟩
            all_goals first | rfl | omega | exact congrArg i64 (by omega) | exact congrArg fl hsk
          ·
            have hsk : cSum x y (rowC q i xs) s = cSum x y (rowC q i xs) (s + 1) := cSum_skip c4
            refine a_end ?_
            refine awp_condF (by conv => lhs; whnf) ?_
            refine awp_skip ?_
            refine awp_region rfl ?_
            refine a_do rfl (o_move (by conv => lhs; whnf) ?_)
            refine a_do rfl (o_add (by conv => lhs; whnf) (by conv => lhs; whnf) (by omega) (by omega) ?_)
            refine a_do rfl (o_assign (by conv => lhs; whnf) ?_)
            refine a_end ?_
            refine ⟨s + 1, ⟨Slots.mk ⟨?_, ?_, ?_, ?_, ?_, ?_, trivial⟩, ?_, ?_⟩, ?_⟩
            all_goals first | rfl | omega | exact congrArg i64 (by omega) | exact congrArg fl hsk
        ·
          have hcb := cB_no c3
          refine a_end ?_
          refine awp_condF (by conv => lhs; whnf) ?_
          refine awp_skip ?_
          refine awp_seq ?_
          refine awp_region rfl ?_
          refine a_do rfl (o_move (by conv => lhs; whnf) ?_)
          refine a_do rfl (o_move (by conv => lhs; whnf) ?_)
          refine a_do rfl (o_fbin (by conv => lhs; whnf) (by conv => lhs; whnf) (cD_use hX hY (by omega) hca hcb) ?_)
          refine a_do rfl (o_fcmp (by conv => lhs; whnf) (by conv => lhs; whnf) rfl (fun c6 => ?_) (fun c6 => ?_))
          ·
            have hgt : gtB (cD x y s) 0 = true := c6
            have hst := cSum_step hX hY hW (by omega) hsp hgt
            refine a_end ?_
            refine awp_condT (by conv => lhs; whnf) ?_
            refine awp_draw Try_mixed (by kernel_rfl) rfl ?_
            refine d_do rfl (o_move (by conv => lhs; whnf) ⟨rfl, rfl⟩) (by exact .prim rfl) ?_
            refine d_do rfl (o_move (by conv => lhs; whnf) ⟨rfl, rfl⟩) (by first | exact .prim rfl | (apply within_ptr; (with_reducible repeat (first | assumption | (apply lk_last; (try simp only [ll1, ll2, ll3, ll4, lls_len, lls2_len, markL_len]); first | done | omega) | apply lk_prev)); done)) ?_
            refine d_do rfl (o_nilCheck (by conv => lhs; whnf) ⟨rfl, rfl⟩) (by first | (apply within_ptr; (with_reducible repeat (first | assumption | (apply lk_last; (try simp only [ll1, ll2, ll3, ll4, lls_len, lls2_len, markL_len]); first | done | omega) | apply lk_prev)); done) | exact .prim rfl) ?_
            refine d_do rfl (o_fieldAddr Try.underlying29 rfl ty22 (by conv => lhs; whnf) (by with_reducible repeat (first | assumption | (apply lk_last; (try simp only [ll1, ll2, ll3, ll4, lls_len, lls2_len, markL_len]); first | done | omega) | apply lk_prev)) (by rfl) ⟨rfl, rfl⟩) (by first | (apply within_ptr; (with_reducible repeat (first | assumption | (apply lk_last; (try simp only [ll1, ll2, ll3, ll4, lls_len, lls2_len, markL_len]); first | done | omega) | apply lk_prev)); done) | exact .prim rfl) ?_
            refine d_do rfl (o_load Try.underlying22 rfl (by conv => lhs; whnf) (by with_reducible repeat (first | assumption | (apply lk_last; (try simp only [ll1, ll2, ll3, ll4, lls_len, lls2_len, markL_len]); first | done | omega) | apply lk_prev)) (by rfl) (by rfl) ⟨rfl, rfl⟩) (by first | exact .prim rfl | exact within_func0 | (apply within_ptr; (with_reducible repeat (first | assumption | (apply lk_last; (try simp only [ll1, ll2, ll3, ll4, lls_len, lls2_len, markL_len]); first | done | omega) | apply lk_prev)); done) | (apply within_sl; (with_reducible repeat (first | assumption | (apply lk_last; (try simp only [ll1, ll2, ll3, ll4, lls_len, lls2_len, markL_len]); first | done | omega) | apply lk_prev)); done) | ((try apply within_sub); apply Ints.within; (with_reducible repeat (first | assumption | apply Ints.app)); done) | (apply Lists.within; (with_reducible repeat (first | assumption | apply Lists.app)); done) | (apply Flts.within; (with_reducible repeat (first | assumption | apply Flts.app)); done) | (apply Byts.within; (with_reducible repeat (first | assumption | apply Byts.app)); done) | exact within_nilw | exact within_nilb | (apply within_tup2 <;> first | exact .prim rfl | (apply within_sl; (with_reducible repeat (first | assumption | (apply lk_last; (try simp only [ll1, ll2, ll3, ll4, lls_len, lls2_len, markL_len]); first | done | omega) | apply lk_prev)); done) | (apply Within.agg2 <;> (first | exact .prim rfl | (apply within_ptr; (with_reducible repeat (first | assumption | (apply lk_last; (try simp only [ll1, ll2, ll3, ll4, lls_len, lls2_len, markL_len]); first | done | omega) | apply lk_prev)); done) | (apply within_sl; (with_reducible repeat (first | assumption | (apply lk_last; (try simp only [ll1, ll2, ll3, ll4, lls_len, lls2_len, markL_len]); first | done | omega) | apply lk_prev)); done) | ((try apply within_sub); apply Ints.within; (with_reducible repeat (first | assumption | apply Ints.app)); done) | (apply Lists.within; (with_reducible repeat (first | assumption | apply Lists.app)); done) | (apply within_sl; (with_reducible repeat (first | assumption | (apply lk_last; (try simp only [ll1, ll2, ll3, ll4, lls_len, lls2_len, markL_len]); first | done | omega) | apply lk_prev)); done)))) | exact Within.mono ‹Within _ (Value.func _ _ _)› (by (try simp only [ll1, ll2, ll3, ll4, lls_len, lls2_len, markL_len]); first | done | omega) | (apply Within.agg4 <;> (first | exact .prim rfl | (apply within_ptr; (with_reducible repeat (first | assumption | (apply lk_last; (try simp only [ll1, ll2, ll3, ll4, lls_len, lls2_len, markL_len]); first | done | omega) | apply lk_prev)); done) | (apply within_sl; (with_reducible repeat (first | assumption | (apply lk_last; (try simp only [ll1, ll2, ll3, ll4, lls_len, lls2_len, markL_len]); first | done | omega) | apply lk_prev)); done) | ((try apply within_sub); apply Ints.within; (with_reducible repeat (first | assumption | apply Ints.app)); done) | (apply Lists.within; (with_reducible repeat (first | assumption | apply Lists.app)); done) | (apply within_sl; (with_reducible repeat (first | assumption | (apply lk_last; (try simp only [ll1, ll2, ll3, ll4, lls_len, lls2_len, markL_len]); first | done | omega) | apply lk_prev)); done))) | (apply Within.agg3 <;> (first | exact .prim rfl | (apply within_ptr; (with_reducible repeat (first | assumption | (apply lk_last; (try simp only [ll1, ll2, ll3, ll4, lls_len, lls2_len, markL_len]); first | done | omega) | apply lk_prev)); done) | (apply within_sl; (with_reducible repeat (first | assumption | (apply lk_last; (try simp only [ll1, ll2, ll3, ll4, lls_len, lls2_len, markL_len]); first | done | omega) | apply lk_prev)); done) | ((try apply within_sub); apply Ints.within; (with_reducible repeat (first | assumption | apply Ints.app)); done) | (apply Lists.within; (with_reducible repeat (first | assumption | apply Lists.app)); done) | (apply within_sl; (with_reducible repeat (first | assumption | (apply lk_last; (try simp only [ll1, ll2, ll3, ll4, lls_len, lls2_len, markL_len]); first | done | omega) | apply lk_prev)); done))) | (apply Within.agg2 <;> (first | exact .prim rfl | (apply within_ptr; (with_reducible repeat (first | assumption | (apply lk_last; (try simp only [ll1, ll2, ll3, ll4, lls_len, lls2_len, markL_len]); first | done | omega) | apply lk_prev)); done) | (apply within_sl; (with_reducible repeat (first | assumption | (apply lk_last; (try simp only [ll1, ll2, ll3, ll4, lls_len, lls2_len, markL_len]); first | done | omega) | apply lk_prev)); done) | ((try apply within_sub); apply Ints.within; (with_reducible repeat (first | assumption | apply Ints.app)); done) | (apply Lists.within; (with_reducible repeat (first | assumption | apply Lists.app)); done) | (apply within_sl; (with_reducible repeat (first | assumption | (apply lk_last; (try simp only [ll1, ll2, ll3, ll4, lls_len, lls2_len, markL_len]); first | done | omega) | apply lk_prev)); done)))) ?_
            refine d_do rfl (o_move (by conv => lhs; whnf) ⟨rfl, rfl⟩) (by exact .prim rfl) ?_
            refine d_do rfl (o_move (by conv => lhs; whnf) ⟨rfl, rfl⟩) (by first | exact .prim rfl | (apply within_ptr; (with_reducible repeat (first | assumption | (apply lk_last; (try simp only [ll1, ll2, ll3, ll4, lls_len, lls2_len, markL_len]); first | done | omega) | apply lk_prev)); done)) ?_
            refine d_do rfl (o_nilCheck (by conv => lhs; whnf) ⟨rfl, rfl⟩) (by first | (apply within_ptr; (with_reducible repeat (first | assumption | (apply lk_last; (try simp only [ll1, ll2, ll3, ll4, lls_len, lls2_len, markL_len]); first | done | omega) | apply lk_prev)); done) | exact .prim rfl) ?_
            refine d_do rfl (o_fieldAddr Try.underlying29 rfl ty2 (by conv => lhs; whnf) (by with_reducible repeat (first | assumption | (apply lk_last; (try simp only [ll1, ll2, ll3, ll4, lls_len, lls2_len, markL_len]); first | done | omega) | apply lk_prev)) (by rfl) ⟨rfl, rfl⟩) (by first | (apply within_ptr; (with_reducible repeat (first | assumption | (apply lk_last; (try simp only [ll1, ll2, ll3, ll4, lls_len, lls2_len, markL_len]); first | done | omega) | apply lk_prev)); done) | exact .prim rfl) ?_
            refine d_do rfl (o_load Try.underlying2 rfl (by conv => lhs; whnf) (by with_reducible repeat (first | assumption | (apply lk_last; (try simp only [ll1, ll2, ll3, ll4, lls_len, lls2_len, markL_len]); first | done | omega) | apply lk_prev)) (by rfl) (by rfl) ⟨rfl, rfl⟩) (by exact .prim rfl) ?_
            refine d_do rfl (o_mul (by conv => lhs; whnf) (by conv => lhs; whnf) (by omega) (by omega) ⟨rfl, rfl⟩) (by exact .prim rfl) ?_
            refine d_do rfl (o_move (by conv => lhs; whnf) ⟨rfl, rfl⟩) (by exact .prim rfl) ?_
            refine d_do rfl (o_add (by conv => lhs; whnf) (by conv => lhs; whnf) (by omega) (by omega) ⟨rfl, rfl⟩) (by exact .prim rfl) ?_
            first | refine d_indexI rfl Try.underlying22 ty2 (by conv => lhs; whnf) (by first | ((with_reducible repeat (first | assumption | apply Ints.app)); done) | repeat (first | with_reducible assumption | exact ints_nil | exact Ints.own (by with_reducible repeat (first | assumption | (apply lk_last; (try simp only [ll1, ll2, ll3, ll4, lls_len, lls2_len, markL_len]); first | done | omega) | apply lk_prev)) (by first | rfl | exact upto_len | assumption | exact map_len | exact List.length_set | (rw [List.length_set]; assumption)) | exact Ints.tail (by with_reducible repeat (first | assumption | (apply lk_last; (try simp only [ll1, ll2, ll3, ll4, lls_len, lls2_len, markL_len]); first | done | omega) | apply lk_prev)) (by first | rfl | exact upto_len | assumption | exact map_len | exact List.length_set | (rw [List.length_set]; assumption)) | with_reducible apply Ints.app | (refine Ints.sub (by with_reducible repeat (first | assumption | apply Ints.app)) (by omega) (by omega) (by omega)))) (by conv => lhs; whnf) (by omega) (fun p7 hp7 => ?_) | refine d_indexZ rfl Try.underlying22 ty2 (by conv => lhs; whnf) (by first | ((with_reducible repeat (first | assumption | apply Ints.app)); done) | repeat (first | with_reducible assumption | exact ints_nil | exact Ints.own (by with_reducible repeat (first | assumption | (apply lk_last; (try simp only [ll1, ll2, ll3, ll4, lls_len, lls2_len, markL_len]); first | done | omega) | apply lk_prev)) (by first | rfl | exact upto_len | assumption | exact map_len | exact List.length_set | (rw [List.length_set]; assumption)) | exact Ints.tail (by with_reducible repeat (first | assumption | (apply lk_last; (try simp only [ll1, ll2, ll3, ll4, lls_len, lls2_len, markL_len]); first | done | omega) | apply lk_prev)) (by first | rfl | exact upto_len | assumption | exact map_len | exact List.length_set | (rw [List.length_set]; assumption)) | with_reducible apply Ints.app | (refine Ints.sub (by with_reducible repeat (first | assumption | apply Ints.app)) (by omega) (by omega) (by omega)))) (by conv => lhs; whnf) (by omega) (by omega) (fun p7 hp7 => ?_)
            refine d_do rfl (o_loadI Try.underlying2 rfl (by conv => lhs; whnf) hp7 (by first | ((with_reducible repeat (first | assumption | apply Ints.app)); done) | repeat (first | with_reducible assumption | exact ints_nil | exact Ints.own (by with_reducible repeat (first | assumption | (apply lk_last; (try simp only [ll1, ll2, ll3, ll4, lls_len, lls2_len, markL_len]); first | done | omega) | apply lk_prev)) (by first | rfl | exact upto_len | assumption | exact map_len | exact List.length_set | (rw [List.length_set]; assumption)) | exact Ints.tail (by with_reducible repeat (first | assumption | (apply lk_last; (try simp only [ll1, ll2, ll3, ll4, lls_len, lls2_len, markL_len]); first | done | omega) | apply lk_prev)) (by first | rfl | exact upto_len | assumption | exact map_len | exact List.length_set | (rw [List.length_set]; assumption)) | with_reducible apply Ints.app | (refine Ints.sub (by with_reducible repeat (first | assumption | apply Ints.app)) (by omega) (by omega) (by omega)))) (by omega) ⟨rfl, rfl⟩) (by exact .prim rfl) ?_
            rw [rowC_get hH.1 hH.2 (by omega)]
            refine d_do rfl (o_convI32 Try.underlying2 Try.underlying47 (by conv => lhs; whnf) ⟨rfl, rfl⟩) (by exact .prim rfl) ?_
            refine d_do rfl (o_move (by conv => lhs; whnf) ⟨rfl, rfl⟩) (by exact .prim rfl) ?_
            refine d_do rfl (o_move (by conv => lhs; whnf) ⟨rfl, rfl⟩) (by exact .prim rfl) ?_
            refine d_do rfl (o_fbin (by conv => lhs; whnf) (by conv => lhs; whnf) (cD_use hX hY (by omega) hca hcb) ⟨rfl, rfl⟩) (by exact .prim rfl) ?_
            refine d_do rfl (o_fbin (by conv => lhs; whnf) (by conv => lhs; whnf) (fb_mul hst.1) ⟨rfl, rfl⟩) (by exact .prim rfl) ?_
            refine d_do rfl (o_fbin (by conv => lhs; whnf) (by conv => lhs; whnf) (fb_add hst.2.1) ⟨rfl, rfl⟩) (by exact .prim rfl) ?_
            refine d_do rfl (o_assign (by conv => lhs; whnf) ⟨rfl, rfl⟩) (by exact .prim rfl) ?_
            refine d_end ?_
            refine awp_region rfl ?_
            refine a_do rfl (o_move (by conv => lhs; whnf) ?_)
            refine a_do rfl (o_add (by conv => lhs; whnf) (by conv => lhs; whnf) (by omega) (by omega) ?_)
            refine a_do rfl (o_assign (by conv => lhs; whnf) ?_)
            refine a_end ?_
            refine ⟨s + 1, ⟨Slots.mk ⟨?_, ?_, ?_, ?_, ?_, ?_, trivial⟩, ?_, ?_⟩, ?_⟩
            all_goals first | rfl | omega | exact congrArg i64 (by omega) | exact congrArg fl hsk
          ·
            have hsk : cSum x y (rowC q i xs) s = cSum x y (rowC q i xs) (s + 1) := cSum_skip c6
            refine a_end ?_
            refine awp_condF (by conv => lhs; whnf) ?_
            refine awp_skip ?_
            refine awp_region rfl ?_
            refine a_do rfl (o_move (by conv => lhs; whnf) ?_)
            refine a_do rfl (o_add (by conv => lhs; whnf) (by conv => lhs; whnf) (by omega) (by omega) ?_)
            refine a_do rfl (o_assign (by conv => lhs; whnf) ?_)
            refine a_end ?_
            refine ⟨s + 1, ⟨Slots.mk ⟨?_, ?_, ?_, ?_, ?_, ?_, trivial⟩, ?_, ?_⟩, ?_⟩
            all_goals first | rfl | omega | exact congrArg i64 (by omega) | exact congrArg fl hsk
      ·
        have hca := cA_no c2
        refine a_end ?_
        refine awp_condF (by conv => lhs; whnf) ?_
        refine awp_skip ?_
        refine awp_seq ?_
        refine awp_region rfl ?_
        refine a_do rfl (o_move (by conv => lhs; whnf) ?_)
        refine a_do rfl (o_add (by conv => lhs; whnf) (by conv => lhs; whnf) (by omega) (by omega) ?_)
        refine a_do rfl (o_convI32 Try.underlying2 Try.underlying47 (by conv => lhs; whnf) ?_)
        refine a_do rfl (o_assign (by conv => lhs; whnf) ?_)
        refine a_end ?_
        refine awp_seq ?_
        refine awp_seq ?_
        refine awp_region rfl ?_
        refine a_do rfl (o_move (by conv => lhs; whnf) ?_)
        refine a_do rfl (o_move (by conv => lhs; whnf) ?_)
        refine a_do rfl (o_fcmp (by conv => lhs; whnf) (by conv => lhs; whnf) rfl (fun c8 => ?_) (fun c8 => ?_))
        ·
          have hcb := cB_yes c8
          refine a_end ?_
          refine awp_condT (by conv => lhs; whnf) ?_
          refine awp_region rfl ?_
          refine a_do rfl (o_move (by conv => lhs; whnf) ?_)
          refine a_do rfl (o_assign (by conv => lhs; whnf) ?_)
          refine a_end ?_
          refine awp_seq ?_
          refine awp_region rfl ?_
          refine a_do rfl (o_move (by conv => lhs; whnf) ?_)
          refine a_do rfl (o_move (by conv => lhs; whnf) ?_)
          refine a_do rfl (o_fbin (by conv => lhs; whnf) (by conv => lhs; whnf) (cD_use hX hY (by omega) hca hcb) ?_)
          refine a_do rfl (o_fcmp (by conv => lhs; whnf) (by conv => lhs; whnf) rfl (fun c9 => ?_) (fun c9 => ?_))
          ·
            have hgt : gtB (cD x y s) 0 = true := c9
            have hst := cSum_step hX hY hW (by omega) hsp hgt
            refine a_end ?_
            refine awp_condT (by conv => lhs; whnf) ?_
            refine awp_draw Try_mixed (by kernel_rfl) rfl ?_
            refine d_do rfl (o_move (by conv => lhs; whnf) ⟨rfl, rfl⟩) (by exact .prim rfl) ?_
            refine d_do rfl (o_move (by conv => lhs; whnf) ⟨rfl, rfl⟩) (by first | exact .prim rfl | (apply within_ptr; (with_reducible repeat (first | assumption | (apply lk_last; (try simp only [ll1, ll2, ll3, ll4, lls_len, lls2_len, markL_len]); first | done | omega) | apply lk_prev)); done)) ?_
            refine d_do rfl (o_nilCheck (by conv => lhs; whnf) ⟨rfl, rfl⟩) (by first | (apply within_ptr; (with_reducible repeat (first | assumption | (apply lk_last; (try simp only [ll1, ll2, ll3, ll4, lls_len, lls2_len, markL_len]); first | done | omega) | apply lk_prev)); done) | exact .prim rfl) ?_
            refine d_do rfl (o_fieldAddr Try.underlying29 rfl ty22 (by conv => lhs; whnf) (by with_reducible repeat (first | assumption | (apply lk_last; (try simp only [ll1, ll2, ll3, ll4, lls_len, lls2_len, markL_len]); first | done | omega) | apply lk_prev)) (by rfl) ⟨rfl, rfl⟩) (by first | (apply within_ptr; (with_reducible repeat (first | assumption | (apply lk_last; (try simp only [ll1, ll2, ll3, ll4, lls_len, lls2_len, markL_len]); first | done | omega) | apply lk_prev)); done) | exact .prim rfl) ?_
            refine d_do rfl (o_load Try.underlying22 rfl (by conv => lhs; whnf) (by with_reducible repeat (first | assumption | (apply lk_last; (try simp only [ll1, ll2, ll3, ll4, lls_len, lls2_len, markL_len]); first | done | omega) | apply lk_prev)) (by rfl) (by rfl) ⟨rfl, rfl⟩) (by first | exact .prim rfl | exact within_func0 | (apply within_ptr; (with_reducible repeat (first | assumption | (apply lk_last; (try simp only [ll1, ll2, ll3, ll4, lls_len, lls2_len, markL_len]); first | done | omega) | apply lk_prev)); done) | (apply within_sl; (with_reducible repeat (first | assumption | (apply lk_last; (try simp only [ll1, ll2, ll3, ll4, lls_len, lls2_len, markL_len]); first | done | omega) | apply lk_prev)); done) | ((try apply within_sub); apply Ints.within; (with_reducible repeat (first | assumption | apply Ints.app)); done) | (apply Lists.within; (with_reducible repeat (first | assumption | apply Lists.app)); done) | (apply Flts.within; (with_reducible repeat (first | assumption | apply Flts.app)); done) | (apply Byts.within; (with_reducible repeat (first | assumption | apply Byts.app)); done) | exact within_nilw | exact within_nilb | (apply within_tup2 <;> first | exact .prim rfl | (apply within_sl; (with_reducible repeat (first | assumption | (apply lk_last; (try simp only [ll1, ll2, ll3, ll4, lls_len, lls2_len, markL_len]); first | done | omega) | apply lk_prev)); done) | (apply Within.agg2 <;> (first | exact .prim rfl | (apply within_ptr; (with_reducible repeat (first | assumption | (apply lk_last; (try simp only [ll1, ll2, ll3, ll4, lls_len, lls2_len, markL_len]); first | done | omega) | apply lk_prev)); done) | (apply within_sl; (with_reducible repeat (first | assumption | (apply lk_last; (try simp only [ll1, ll2, ll3, ll4, lls_len, lls2_len, markL_len]); first | done | omega) | apply lk_prev)); done) | ((try apply within_sub); apply Ints.within; (with_reducible repeat (first | assumption | apply Ints.app)); done) | (apply Lists.within; (with_reducible repeat (first | assumption | apply Lists.app)); done) | (apply within_sl; (with_reducible repeat (first | assumption | (apply lk_last; (try simp only [ll1, ll2, ll3, ll4, lls_len, lls2_len, markL_len]); first | done | omega) | apply lk_prev)); done)))) | exact Within.mono ‹Within _ (Value.func _ _ _)› (by (try simp only [ll1, ll2, ll3, ll4, lls_len, lls2_len, markL_len]); first | done | omega) | (apply Within.agg4 <;> (first | exact .prim rfl | (apply within_ptr; (with_reducible repeat (first | assumption | (apply lk_last; (try simp only [ll1, ll2, ll3, ll4, lls_len, lls2_len, markL_len]); first | done | omega) | apply lk_prev)); done) | (apply within_sl; (with_reducible repeat (first | assumption | (apply lk_last; (try simp only [ll1, ll2, ll3, ll4, lls_len, lls2_len, markL_len]); first | done | omega) | apply lk_prev)); done) | ((try apply within_sub); apply Ints.within; (with_reducible repeat (first | assumption | apply Ints.app)); done) | (apply Lists.within; (with_reducible repeat (first | assumption | apply Lists.app)); done) | (apply within_sl; (with_reducible repeat (first | assumption | (apply lk_last; (try simp only [ll1, ll2, ll3, ll4, lls_len, lls2_len, markL_len]); first | done | omega) | apply lk_prev)); done))) | (apply Within.agg3 <;> (first | exact .prim rfl | (apply within_ptr; (with_reducible repeat (first | assumption | (apply lk_last; (try simp only [ll1, ll2, ll3, ll4, lls_len, lls2_len, markL_len]); first | done | omega) | apply lk_prev)); done) | (apply within_sl; (with_reducible repeat (first | assumption | (apply lk_last; (try simp only [ll1, ll2, ll3, ll4, lls_len, lls2_len, markL_len]); first | done | omega) | apply lk_prev)); done) | ((try apply within_sub); apply Ints.within; (with_reducible repeat (first | assumption | apply Ints.app)); done) | (apply Lists.within; (with_reducible repeat (first | assumption | apply Lists.app)); done) | (apply within_sl; (with_reducible repeat (first | assumption | (apply lk_last; (try simp only [ll1, ll2, ll3, ll4, lls_len, lls2_len, markL_len]); first | done | omega) | apply lk_prev)); done))) | (apply Within.agg2 <;> (first | exact .prim rfl | (apply within_ptr; (with_reducible repeat (first | assumption | (apply lk_last; (try simp only [ll1, ll2, ll3, ll4, lls_len, lls2_len, markL_len]); first | done | omega) | apply lk_prev)); done) | (apply within_sl; (with_reducible repeat (first | assumption | (apply lk_last; (try simp only [ll1, ll2, ll3, ll4, lls_len, lls2_len, markL_len]); first | done | omega) | apply lk_prev)); done) | ((try apply within_sub); apply Ints.within; (with_reducible repeat (first | assumption | apply Ints.app)); done) | (apply Lists.within; (with_reducible repeat (first | assumption | apply Lists.app)); done) | (apply within_sl; (with_reducible repeat (first | assumption | (apply lk_last; (try simp only [ll1, ll2, ll3, ll4, lls_len, lls2_len, markL_len]); first | done | omega) | apply lk_prev)); done)))) ?_
            refine d_do rfl (o_move (by conv => lhs; whnf) ⟨rfl, rfl⟩) (by exact .prim rfl) ?_
            refine d_do rfl (o_move (by conv => lhs; whnf) ⟨rfl, rfl⟩) (by first | exact .prim rfl | (apply within_ptr; (with_reducible repeat (first | assumption | (apply lk_last; (try simp only [ll1, ll2, ll3, ll4, lls_len, lls2_len, markL_len]); first | done | omega) | apply lk_prev)); done)) ?_
            refine d_do rfl (o_nilCheck (by conv => lhs; whnf) ⟨rfl, rfl⟩) (by first | (apply within_ptr; (with_reducible repeat (first | assumption | (apply lk_last; (try simp only [ll1, ll2, ll3, ll4, lls_len, lls2_len, markL_len]); first | done | omega) | apply lk_prev)); done) | exact .prim rfl) ?_
            refine d_do rfl (o_fieldAddr Try.underlying29 rfl ty2 (by conv => lhs; whnf) (by with_reducible repeat (first | assumption | (apply lk_last; (try simp only [ll1, ll2, ll3, ll4, lls_len, lls2_len, markL_len]); first | done | omega) | apply lk_prev)) (by rfl) ⟨rfl, rfl⟩) (by first | (apply within_ptr; (with_reducible repeat (first | assumption | (apply lk_last; (try simp only [ll1, ll2, ll3, ll4, lls_len, lls2_len, markL_len]); first | done | omega) | apply lk_prev)); done) | exact .prim rfl) ?_
            refine d_do rfl (o_load Try.underlying2 rfl (by conv => lhs; whnf) (by with_reducible repeat (first | assumption | (apply lk_last; (try simp only [ll1, ll2, ll3, ll4, lls_len, lls2_len, markL_len]); first | done | omega) | apply lk_prev)) (by rfl) (by rfl) ⟨rfl, rfl⟩) (by exact .prim rfl) ?_
            refine d_do rfl (o_mul (by conv => lhs; whnf) (by conv => lhs; whnf) (by omega) (by omega) ⟨rfl, rfl⟩) (by exact .prim rfl) ?_
            refine d_do rfl (o_move (by conv => lhs; whnf) ⟨rfl, rfl⟩) (by exact .prim rfl) ?_
            refine d_do rfl (o_add (by conv => lhs; whnf) (by conv => lhs; whnf) (by omega) (by omega) ⟨rfl, rfl⟩) (by exact .prim rfl) ?_
            first | refine d_indexI rfl Try.underlying22 ty2 (by conv => lhs; whnf) (by first | ((with_reducible repeat (first | assumption | apply Ints.app)); done) | repeat (first | with_reducible assumption | exact ints_nil | exact Ints.own (by with_reducible repeat (first | assumption | (apply lk_last; (try simp only [ll1, ll2, ll3, ll4, lls_len, lls2_len, markL_len]); first | done | omega) | apply lk_prev)) (by first | rfl | exact upto_len | assumption | exact map_len | exact List.length_set | (rw [List.length_set]; assumption)) | exact Ints.tail (by with_reducible repeat (first | assumption | (apply lk_last; (try simp only [ll1, ll2, ll3, ll4, lls_len, lls2_len, markL_len]); first | done | omega) | apply lk_prev)) (by first | rfl | exact upto_len | assumption | exact map_len | exact List.length_set | (rw [List.length_set]; assumption)) | with_reducible apply Ints.app | (refine Ints.sub (by with_reducible repeat (first | assumption | apply Ints.app)) (by omega) (by omega) (by omega)))) (by conv => lhs; whnf) (by omega) (fun p10 hp10 => ?_) | refine d_indexZ rfl Try.underlying22 ty2 (by conv => lhs; whnf) (by first | ((with_reducible repeat (first | assumption | apply Ints.app)); done) | repeat (first | with_reducible assumption | exact ints_nil | exact Ints.own (by with_reducible repeat (first | assumption | (apply lk_last; (try simp only [ll1, ll2, ll3, ll4, lls_len, lls2_len, markL_len]); first | done | omega) | apply lk_prev)) (by first | rfl | exact upto_len | assumption | exact map_len | exact List.length_set | (rw [List.length_set]; assumption)) | exact Ints.tail (by with_reducible repeat (first | assumption | (apply lk_last; (try simp only [ll1, ll2, ll3, ll4, lls_len, lls2_len, markL_len]); first | done | omega) | apply lk_prev)) (by first | rfl | exact upto_len | assumption | exact map_len | exact List.length_set | (rw [List.length_set]; assumption)) | with_reducible apply Ints.app | (refine Ints.sub (by with_reducible repeat (first | assumption | apply Ints.app)) (by omega) (by omega) (by omega)))) (by conv => lhs; whnf) (by omega) (by omega) (fun p10 hp10 => ?_)
            refine d_do rfl (o_loadI Try.underlying2 rfl (by conv => lhs; whnf) hp10 (by first | ((with_reducible repeat (first | assumption | apply Ints.app)); done) | repeat (first | with_reducible assumption | exact ints_nil | exact Ints.own (by with_reducible repeat (first | assumption | (apply lk_last; (try simp only [ll1, ll2, ll3, ll4, lls_len, lls2_len, markL_len]); first | done | omega) | apply lk_prev)) (by first | rfl | exact upto_len | assumption | exact map_len | exact List.length_set | (rw [List.length_set]; assumption)) | exact Ints.tail (by with_reducible repeat (first | assumption | (apply lk_last; (try simp only [ll1, ll2, ll3, ll4, lls_len, lls2_len, markL_len]); first | done | omega) | apply lk_prev)) (by first | rfl | exact upto_len | assumption | exact map_len | exact List.length_set | (rw [List.length_set]; assumption)) | with_reducible apply Ints.app | (refine Ints.sub (by with_reducible repeat (first | assumption | apply Ints.app)) (by omega) (by omega) (by omega)))) (by omega) ⟨rfl, rfl⟩) (by exact .prim rfl) ?_
            rw [rowC_get hH.1 hH.2 (by omega)]
            refine d_do rfl (o_convI32 Try.underlying2 Try.underlying47 (by conv => lhs; whnf) ⟨rfl, rfl⟩) (by exact .prim rfl) ?_
            refine d_do rfl (o_move (by conv => lhs; whnf) ⟨rfl, rfl⟩) (by exact .prim rfl) ?_
            refine d_do rfl (o_move (by conv => lhs; whnf) ⟨rfl, rfl⟩) (by exact .prim rfl) ?_
            refine d_do rfl (o_fbin (by conv => lhs; whnf) (by conv => lhs; whnf) (cD_use hX hY (by omega) hca hcb) ⟨rfl, rfl⟩) (by exact .prim rfl) ?_
            refine d_do rfl (o_fbin (by conv => lhs; whnf) (by conv => lhs; whnf) (fb_mul hst.1) ⟨rfl, rfl⟩) (by exact .prim rfl) ?_
            refine d_do rfl (o_fbin (by conv => lhs; whnf) (by conv => lhs; whnf) (fb_add hst.2.1) ⟨rfl, rfl⟩) (by exact .prim rfl) ?_
            refine d_do rfl (o_assign (by conv => lhs; whnf) ⟨rfl, rfl⟩) (by exact .prim rfl) ?_
            refine d_end ?_
            refine awp_region rfl ?_
            refine a_do rfl (o_move (by conv => lhs; whnf) ?_)
            refine a_do rfl (o_add (by conv => lhs; whnf) (by conv => lhs; whnf) (by omega) (by omega) ?_)
            refine a_do rfl (o_assign (by conv => lhs; whnf) ?_)
            refine a_end ?_
            refine ⟨s + 1, ⟨Slots.mk ⟨?_, ?_, ?_, ?_, ?_, ?_, trivial⟩, ?_, ?_⟩, ?_⟩
            all_goals first | rfl | omega | exact congrArg i64 (by omega) | exact congrArg fl hsk
          ·
            have hsk : cSum x y (rowC q i xs) s = cSum x y (rowC q i xs) (s + 1) := cSum_skip c9
            refine a_end ?_
            refine awp_condF (by conv => lhs; whnf) ?_
            refine awp_skip ?_
            refine awp_region rfl ?_
            refine a_do rfl (o_move (by conv => lhs; whnf) ?_)
            refine a_do rfl (o_add (by conv => lhs; whnf) (by conv => lhs; whnf) (by omega) (by omega) ?_)
            refine a_do rfl (o_assign (by conv => lhs; whnf) ?_)
            refine a_end ?_
            refine ⟨s + 1, ⟨Slots.mk ⟨?_, ?_, ?_, ?_, ?_, ?_, trivial⟩, ?_, ?_⟩, ?_⟩
            all_goals first | rfl | omega | exact congrArg i64 (by omega) | exact congrArg fl hsk
        ·
          have hcb := cB_no c8
          refine a_end ?_
          refine awp_condF (by conv => lhs; whnf) ?_
          refine awp_skip ?_
          refine awp_seq ?_
          refine awp_region rfl ?_
          refine a_do rfl (o_move (by conv => lhs; whnf) ?_)
          refine a_do rfl (o_move (by conv => lhs; whnf) ?_)
          refine a_do rfl (o_fbin (by conv => lhs; whnf) (by conv => lhs; whnf) (cD_use hX hY (by omega) hca hcb) ?_)
          refine a_do rfl (o_fcmp (by conv => lhs; whnf) (by conv => lhs; whnf) rfl (fun c11 => ?_) (fun c11 => ?_))
          ·
            have hgt : gtB (cD x y s) 0 = true := c11
            have hst := cSum_step hX hY hW (by omega) hsp hgt
            refine a_end ?_
            refine awp_condT (by conv => lhs; whnf) ?_
            refine awp_draw Try_mixed (by kernel_rfl) rfl ?_
            refine d_do rfl (o_move (by conv => lhs; whnf) ⟨rfl, rfl⟩) (by exact .prim rfl) ?_
            refine d_do rfl (o_move (by conv => lhs; whnf) ⟨rfl, rfl⟩) (by first | exact .prim rfl | (apply within_ptr; (with_reducible repeat (first | assumption | (apply lk_last; (try simp only [ll1, ll2, ll3, ll4, lls_len, lls2_len, markL_len]); first | done | omega) | apply lk_prev)); done)) ?_
            refine d_do rfl (o_nilCheck (by conv => lhs; whnf) ⟨rfl, rfl⟩) (by first | (apply within_ptr; (with_reducible repeat (first | assumption | (apply lk_last; (try simp only [ll1, ll2, ll3, ll4, lls_len, lls2_len, markL_len]); first | done | omega) | apply lk_prev)); done) | exact .prim rfl) ?_
            refine d_do rfl (o_fieldAddr Try.underlying29 rfl ty22 (by conv => lhs; whnf) (by with_reducible repeat (first | assumption | (apply lk_last; (try simp only [ll1, ll2, ll3, ll4, lls_len, lls2_len, markL_len]); first | done | omega) | apply lk_prev)) (by rfl) ⟨rfl, rfl⟩) (by first | (apply within_ptr; (with_reducible repeat (first | assumption | (apply lk_last; (try simp only [ll1, ll2, ll3, ll4, lls_len, lls2_len, markL_len]); first | done | omega) | apply lk_prev)); done) | exact .prim rfl) ?_
            refine d_do rfl (o_load Try.underlying22 rfl (by conv => lhs; whnf) (by with_reducible repeat (first | assumption | (apply lk_last; (try simp only [ll1, ll2, ll3, ll4, lls_len, lls2_len, markL_len]); first | done | omega) | apply lk_prev)) (by rfl) (by rfl) ⟨rfl, rfl⟩) (by first | exact .prim rfl | exact within_func0 | (apply within_ptr; (with_reducible repeat (first | assumption | (apply lk_last; (try simp only [ll1, ll2, ll3, ll4, lls_len, lls2_len, markL_len]); first | done | omega) | apply lk_prev)); done) | (apply within_sl; (with_reducible repeat (first | assumption | (apply lk_last; (try simp only [ll1, ll2, ll3, ll4, lls_len, lls2_len, markL_len]); first | done | omega) | apply lk_prev)); done) | ((try apply within_sub); apply Ints.within; (with_reducible repeat (first | assumption | apply Ints.app)); done) | (apply Lists.within; (with_reducible repeat (first | assumption | apply Lists.app)); done) | (apply Flts.within; (with_reducible repeat (first | assumption | apply Flts.app)); done) | (apply Byts.within; (with_reducible repeat (first | assumption | apply Byts.app)); done) | exact within_nilw | exact within_nilb | (apply within_tup2 <;> first | exact .prim rfl | (apply within_sl; (with_reducible repeat (first | assumption | (apply lk_last; (try simp only [ll1, ll2, ll3, ll4, lls_len, lls2_len, markL_len]); first | done | omega) | apply lk_prev)); done) | (apply Within.agg2 <;> (first | exact .prim rfl | (apply within_ptr; (with_reducible repeat (first | assumption | (apply lk_last; (try simp only [ll1, ll2, ll3, ll4, lls_len, lls2_len, markL_len]); first | done | omega) | apply lk_prev)); done) | (apply within_sl; (with_reducible repeat (first | assumption | (apply lk_last; (try simp only [ll1, ll2, ll3, ll4, lls_len, lls2_len, markL_len]); first | done | omega) | apply lk_prev)); done) | ((try apply within_sub); apply Ints.within; (with_reducible repeat (first | assumption | apply Ints.app)); done) | (apply Lists.within; (with_reducible repeat (first | assumption | apply Lists.app)); done) | (apply within_sl; (with_reducible repeat (first | assumption | (apply lk_last; (try simp only [ll1, ll2, ll3, ll4, lls_len, lls2_len, markL_len]); first | done | omega) | apply lk_prev)); done)))) | exact Within.mono ‹Within _ (Value.func _ _ _)› (by (try simp only [ll1, ll2, ll3, ll4, lls_len, lls2_len, markL_len]); first | done | omega) | (apply Within.agg4 <;> (first | exact .prim rfl | (apply within_ptr; (with_reducible repeat (first | assumption | (apply lk_last; (try simp only [ll1, ll2, ll3, ll4, lls_len, lls2_len, markL_len]); first | done | omega) | apply lk_prev)); done) | (apply within_sl; (with_reducible repeat (first | assumption | (apply lk_last; (try simp only [ll1, ll2, ll3, ll4, lls_len, lls2_len, markL_len]); first | done | omega) | apply lk_prev)); done) | ((try apply within_sub); apply Ints.within; (with_reducible repeat (first | assumption | apply Ints.app)); done) | (apply Lists.within; (with_reducible repeat (first | assumption | apply Lists.app)); done) | (apply within_sl; (with_reducible repeat (first | assumption | (apply lk_last; (try simp only [ll1, ll2, ll3, ll4, lls_len, lls2_len, markL_len]); first | done | omega) | apply lk_prev)); done))) | (apply Within.agg3 <;> (first | exact .prim rfl | (apply within_ptr; (with_reducible repeat (first | assumption | (apply lk_last; (try simp only [ll1, ll2, ll3, ll4, lls_len, lls2_len, markL_len]); first | done | omega) | apply lk_prev)); done) | (apply within_sl; (with_reducible repeat (first | assumption | (apply lk_last; (try simp only [ll1, ll2, ll3, ll4, lls_len, lls2_len, markL_len]); first | done | omega) | apply lk_prev)); done) | ((try apply within_sub); apply Ints.within; (with_reducible repeat (first | assumption | apply Ints.app)); done) | (apply Lists.within; (with_reducible repeat (first | assumption | apply Lists.app)); done) | (apply within_sl; (with_reducible repeat (first | assumption | (apply lk_last; (try simp only [ll1, ll2, ll3, ll4, lls_len, lls2_len, markL_len]); first | done | omega) | apply lk_prev)); done))) | (apply Within.agg2 <;> (first | exact .prim rfl | (apply within_ptr; (with_reducible repeat (first | assumption | (apply lk_last; (try simp only [ll1, ll2, ll3, ll4, lls_len, lls2_len, markL_len]); first | done | omega) | apply lk_prev)); done) | (apply within_sl; (with_reducible repeat (first | assumption | (apply lk_last; (try simp only [ll1, ll2, ll3, ll4, lls_len, lls2_len, markL_len]); first | done | omega) | apply lk_prev)); done) | ((try apply within_sub); apply Ints.within; (with_reducible repeat (first | assumption | apply Ints.app)); done) | (apply Lists.within; (with_reducible repeat (first | assumption | apply Lists.app)); done) | (apply within_sl; (with_reducible repeat (first | assumption | (apply lk_last; (try simp only [ll1, ll2, ll3, ll4, lls_len, lls2_len, markL_len]); first | done | omega) | apply lk_prev)); done)))) ?_
            refine d_do rfl (o_move (by conv => lhs; whnf) ⟨rfl, rfl⟩) (by exact .prim rfl) ?_
            refine d_do rfl (o_move (by conv => lhs; whnf) ⟨rfl, rfl⟩) (by first | exact .prim rfl | (apply within_ptr; (with_reducible repeat (first | assumption | (apply lk_last; (try simp only [ll1, ll2, ll3, ll4, lls_len, lls2_len, markL_len]); first | done | omega) | apply lk_prev)); done)) ?_
            refine d_do rfl (o_nilCheck (by conv => lhs; whnf) ⟨rfl, rfl⟩) (by first | (apply within_ptr; (with_reducible repeat (first | assumption | (apply lk_last; (try simp only [ll1, ll2, ll3, ll4, lls_len, lls2_len, markL_len]); first | done | omega) | apply lk_prev)); done) | exact .prim rfl) ?_
            refine d_do rfl (o_fieldAddr Try.underlying29 rfl ty2 (by conv => lhs; whnf) (by with_reducible repeat (first | assumption | (apply lk_last; (try simp only [ll1, ll2, ll3, ll4, lls_len, lls2_len, markL_len]); first | done | omega) | apply lk_prev)) (by rfl) ⟨rfl, rfl⟩) (by first | (apply within_ptr; (with_reducible repeat (first | assumption | (apply lk_last; (try simp only [ll1, ll2, ll3, ll4, lls_len, lls2_len, markL_len]); first | done | omega) | apply lk_prev)); done) | exact .prim rfl) ?_
            refine d_do rfl (o_load Try.underlying2 rfl (by conv => lhs; whnf) (by with_reducible repeat (first | assumption | (apply lk_last; (try simp only [ll1, ll2, ll3, ll4, lls_len, lls2_len, markL_len]); first | done | omega) | apply lk_prev)) (by rfl) (by rfl) ⟨rfl, rfl⟩) (by exact .prim rfl) ?_
            refine d_do rfl (o_mul (by conv => lhs; whnf) (by conv => lhs; whnf) (by omega) (by omega) ⟨rfl, rfl⟩) (by exact .prim rfl) ?_
            refine d_do rfl (o_move (by conv => lhs; whnf) ⟨rfl, rfl⟩) (by exact .prim rfl) ?_
            refine d_do rfl (o_add (by conv => lhs; whnf) (by conv => lhs; whnf) (by omega) (by omega) ⟨rfl, rfl⟩) (by exact .prim rfl) ?_
            first | refine d_indexI rfl Try.underlying22 ty2 (by conv => lhs; whnf) (by first | ((with_reducible repeat (first | assumption | apply Ints.app)); done) | repeat (first | with_reducible assumption | exact ints_nil | exact Ints.own (by with_reducible repeat (first | assumption | (apply lk_last; (try simp only [ll1, ll2, ll3, ll4, lls_len, lls2_len, markL_len]); first | done | omega) | apply lk_prev)) (by first | rfl | exact upto_len | assumption | exact map_len | exact List.length_set | (rw [List.length_set]; assumption)) | exact Ints.tail (by with_reducible repeat (first | assumption | (apply lk_last; (try simp only [ll1, ll2, ll3, ll4, lls_len, lls2_len, markL_len]); first | done | omega) | apply lk_prev)) (by first | rfl | exact upto_len | assumption | exact map_len | exact List.length_set | (rw [List.length_set]; assumption)) | with_reducible apply Ints.app | (refine Ints.sub (by with_reducible repeat (first | assumption | apply Ints.app)) (by omega) (by omega) (by omega)))) (by conv => lhs; whnf) (by omega) (fun p12 hp12 => ?_) | refine d_indexZ rfl Try.underlying22 ty2 (by conv => lhs; whnf) (by first | ((with_reducible repeat (first | assumption | apply Ints.app)); done) | repeat (first | with_reducible assumption | exact ints_nil | exact Ints.own (by with_reducible repeat (first | assumption | (apply lk_last; (try simp only [ll1, ll2, ll3, ll4, lls_len, lls2_len, markL_len]); first | done | omega) | apply lk_prev)) (by first | rfl | exact upto_len | assumption | exact map_len | exact List.length_set | (rw [List.length_set]; assumption)) | exact Ints.tail (by with_reducible repeat (first | assumption | (apply lk_last; (try simp only [ll1, ll2, ll3, ll4, lls_len, lls2_len, markL_len]); first | done | omega) | apply lk_prev)) (by first | rfl | exact upto_len | assumption | exact map_len | exact List.length_set | (rw [List.length_set]; assumption)) | with_reducible apply Ints.app | (refine Ints.sub (by with_reducible repeat (first | assumption | apply Ints.app)) (by omega) (by omega) (by omega)))) (by conv => lhs; whnf) (by omega) (by omega) (fun p12 hp12 => ?_)
            refine d_do rfl (o_loadI Try.underlying2 rfl (by conv => lhs; whnf) hp12 (by first | ((with_reducible repeat (first | assumption | apply Ints.app)); done) | repeat (first | with_reducible assumption | exact ints_nil | exact Ints.own (by with_reducible repeat (first | assumption | (apply lk_last; (try simp only [ll1, ll2, ll3, ll4, lls_len, lls2_len, markL_len]); first | done | omega) | apply lk_prev)) (by first | rfl | exact upto_len | assumption | exact map_len | exact List.length_set | (rw [List.length_set]; assumption)) | exact Ints.tail (by with_reducible repeat (first | assumption | (apply lk_last; (try simp only [ll1, ll2, ll3, ll4, lls_len, lls2_len, markL_len]); first | done | omega) | apply lk_prev)) (by first | rfl | exact upto_len | assumption | exact map_len | exact List.length_set | (rw [List.length_set]; assumption)) | with_reducible apply Ints.app | (refine Ints.sub (by with_reducible repeat (first | assumption | apply Ints.app)) (by omega) (by omega) (by omega)))) (by omega) ⟨rfl, rfl⟩) (by exact .prim rfl) ?_
            rw [rowC_get hH.1 hH.2 (by omega)]
            refine d_do rfl (o_convI32 Try.underlying2 Try.underlying47 (by conv => lhs; whnf) ⟨rfl, rfl⟩) (by exact .prim rfl) ?_
            refine d_do rfl (o_move (by conv => lhs; whnf) ⟨rfl, rfl⟩) (by exact .prim rfl) ?_
            refine d_do rfl (o_move (by conv => lhs; whnf) ⟨rfl, rfl⟩) (by exact .prim rfl) ?_
            refine d_do rfl (o_fbin (by conv => lhs; whnf) (by conv => lhs; whnf) (cD_use hX hY (by omega) hca hcb) ⟨rfl, rfl⟩) (by exact .prim rfl) ?_
            refine d_do rfl (o_fbin (by conv => lhs; whnf) (by conv => lhs; whnf) (fb_mul hst.1) ⟨rfl, rfl⟩) (by exact .prim rfl) ?_
            refine d_do rfl (o_fbin (by conv => lhs; whnf) (by conv => lhs; whnf) (fb_add hst.2.1) ⟨rfl, rfl⟩) (by exact .prim rfl) ?_
            refine d_do rfl (o_assign (by conv => lhs; whnf) ⟨rfl, rfl⟩) (by exact .prim rfl) ?_
            refine d_end ?_
            refine awp_region rfl ?_
            refine a_do rfl (o_move (by conv => lhs; whnf) ?_)
            refine a_do rfl (o_add (by conv => lhs; whnf) (by conv => lhs; whnf) (by omega) (by omega) ?_)
            refine a_do rfl (o_assign (by conv => lhs; whnf) ?_)
            refine a_end ?_
            refine ⟨s + 1, ⟨Slots.mk ⟨?_, ?_, ?_, ?_, ?_, ?_, trivial⟩, ?_, ?_⟩, ?_⟩
            all_goals first | rfl | omega | exact congrArg i64 (by omega) | exact congrArg fl hsk
          ·
            have hsk : cSum x y (rowC q i xs) s = cSum x y (rowC q i xs) (s + 1) := cSum_skip c11
            refine a_end ?_
            refine awp_condF (by conv => lhs; whnf) ?_
            refine awp_skip ?_
            refine awp_region rfl ?_
            refine a_do rfl (o_move (by conv => lhs; whnf) ?_)
            refine a_do rfl (o_add (by conv => lhs; whnf) (by conv => lhs; whnf) (by omega) (by omega) ?_)
            refine a_do rfl (o_assign (by conv => lhs; whnf) ?_)
            refine a_end ?_
            refine ⟨s + 1, ⟨Slots.mk ⟨?_, ?_, ?_, ?_, ?_, ?_, trivial⟩, ?_, ?_⟩, ?_⟩
            all_goals first | rfl | omega | exact congrArg i64 (by omega) | exact congrArg fl hsk
    ·
      refine a_end ?_
      refine awp_condF (by conv => lhs; whnf) ?_
      refine awp_exit ?_
      refine awp_seq ?_
      refine awp_region rfl ?_
      refine a_do rfl (o_move (by conv => lhs; whnf) ?_)
      refine a_do rfl (o_assign (by conv => lhs; whnf) ?_)
      refine a_end ?_
      refine awp_ret ?_
      refine ⟨.inl rfl, [_], ⟨ares_tmp (by conv => lhs; whnf), trivial⟩, ?_⟩
      (obtain rfl : s = q.toNat := (by omega); exact ⟨rfl, (by first | ((repeat (first | with_reducible exact Grown.refl _ | with_reducible apply Grown.push)); done) | repeat (first | exact Grown.refl _ | refine Grown.push ?_ _))⟩)

set_option maxRecDepth 10000 in
theorem sameFloat_ret (x : Nat) (h : AHeap) (hx : (Ieee.double.read x).isNaN = false) : Ret Try.prog 54 [fd x, fd x] h (.bool true) h := by
  refine ret_of (.prim rfl) ?_
  have hself : FloatKind.f64.format.order x x = some .eq := d_order_self hx
  refine tri_of_body Try.func54 rfl (by kernel_rfl) (by show 2 ≤ 37; decide) ?_
  refine awp_seq ?_
  refine awp_region rfl ?_
  refine a_do rfl (o_assign (by conv => lhs; whnf) ?_)
  refine a_end ?_
  refine awp_seq ?_
  refine awp_seq ?_
  refine awp_region rfl ?_
  refine a_do rfl (o_move (by conv => lhs; whnf) ?_)
  refine a_do rfl (o_move (by conv => lhs; whnf) ?_)
  refine a_do rfl (o_fcmp (by conv => lhs; whnf) (by conv => lhs; whnf) rfl (fun c1 => ?_) (fun c1 => ?_))
  ·
    rw [hself] at c1; exact absurd c1 (by decide)
  ·
    refine a_do rfl (o_move (by conv => lhs; whnf) ?_)
    refine a_do rfl (o_move (by conv => lhs; whnf) ?_)
    refine a_do rfl (o_move (by conv => lhs; whnf) ?_)
    refine a_do rfl (o_fcmp (by conv => lhs; whnf) (by conv => lhs; whnf) rfl (fun c2 => ?_) (fun c2 => ?_))
    ·
      rw [hself] at c2; exact absurd c2 (by decide)
    ·
      refine a_do rfl (o_pickF (by conv => lhs; whnf) (by conv => lhs; whnf) ?_)
      refine a_end ?_
      refine awp_condF (by conv => lhs; whnf) ?_
      refine awp_skip ?_
      refine awp_seq ?_
      refine awp_seq ?_
      refine awp_region rfl ?_
      refine a_do rfl (o_move (by conv => lhs; whnf) ?_)
      refine a_do rfl (o_fcmp (by conv => lhs; whnf) (by conv => lhs; whnf) rfl (fun c3 => ?_) (fun c3 => ?_))
      ·
        have hz0 := c3
        obtain ⟨r9, hr9⟩ := d_one_zero (x := x) (beq_iff_eq.1 hz0)
        refine a_do rfl (o_move (by conv => lhs; whnf) ?_)
        refine a_do rfl (o_move (by conv => lhs; whnf) ?_)
        refine a_do rfl (o_fcmp (by conv => lhs; whnf) (by conv => lhs; whnf) rfl (fun c4 => ?_) (fun c4 => ?_))
        ·
          refine a_do rfl (o_pickT (by conv => lhs; whnf) (by conv => lhs; whnf) ?_)
          refine a_end ?_
          refine awp_condT (by conv => lhs; whnf) ?_
          refine awp_seq ?_
          refine awp_region rfl ?_
          refine a_do rfl (o_move (by conv => lhs; whnf) ?_)
          refine a_do rfl (o_fbin (by conv => lhs; whnf) (by conv => lhs; whnf) hr9 ?_)
          refine a_do rfl (o_fcmp (by conv => lhs; whnf) (by conv => lhs; whnf) rfl (fun c5 => ?_) (fun c5 => ?_))
          ·
            have hg1 := c5
            refine a_do rfl (o_move (by conv => lhs; whnf) ?_)
            refine a_do rfl (o_fbin (by conv => lhs; whnf) (by conv => lhs; whnf) hr9 ?_)
            refine a_do rfl (o_fcmp (by conv => lhs; whnf) (by conv => lhs; whnf) rfl (fun c6 => ?_) (fun c6 => ?_))
            ·
              have hg2 := c6
              refine a_do rfl (o_boolEqL (b := true) Try.underlying4 (by conv => lhs; whnf) (by conv => lhs; whnf) (by rfl) ?_)
              refine a_do rfl (o_assign (by conv => lhs; whnf) ?_)
              refine a_end ?_
              refine awp_ret ?_
              refine ⟨.inl rfl, [_], ⟨ares_tmp (by conv => lhs; whnf), trivial⟩, ?_⟩
              first | exact ⟨rfl, (by first | ((repeat (first | with_reducible exact Grown.refl _ | with_reducible apply Grown.push)); done) | repeat (first | exact Grown.refl _ | refine Grown.push ?_ _))⟩ | (exfalso; have := hg1.symm.trans hg2; cases this)
            ·
              have hg2 := c6
              refine a_do rfl (o_boolEqL (b := false) Try.underlying4 (by conv => lhs; whnf) (by conv => lhs; whnf) (by rfl) ?_)
              refine a_do rfl (o_assign (by conv => lhs; whnf) ?_)
              refine a_end ?_
              refine awp_ret ?_
              refine ⟨.inl rfl, [_], ⟨ares_tmp (by conv => lhs; whnf), trivial⟩, ?_⟩
              first | exact ⟨rfl, (by first | ((repeat (first | with_reducible exact Grown.refl _ | with_reducible apply Grown.push)); done) | repeat (first | exact Grown.refl _ | refine Grown.push ?_ _))⟩ | (exfalso; have := hg1.symm.trans hg2; cases this)
          ·
            have hg1 := c5
            refine a_do rfl (o_move (by conv => lhs; whnf) ?_)
            refine a_do rfl (o_fbin (by conv => lhs; whnf) (by conv => lhs; whnf) hr9 ?_)
            refine a_do rfl (o_fcmp (by conv => lhs; whnf) (by conv => lhs; whnf) rfl (fun c7 => ?_) (fun c7 => ?_))
            ·
              have hg2 := c7
              refine a_do rfl (o_boolEqL (b := false) Try.underlying4 (by conv => lhs; whnf) (by conv => lhs; whnf) (by rfl) ?_)
              refine a_do rfl (o_assign (by conv => lhs; whnf) ?_)
              refine a_end ?_
              refine awp_ret ?_
              refine ⟨.inl rfl, [_], ⟨ares_tmp (by conv => lhs; whnf), trivial⟩, ?_⟩
              first | exact ⟨rfl, (by first | ((repeat (first | with_reducible exact Grown.refl _ | with_reducible apply Grown.push)); done) | repeat (first | exact Grown.refl _ | refine Grown.push ?_ _))⟩ | (exfalso; have := hg1.symm.trans hg2; cases this)
            ·
              have hg2 := c7
              refine a_do rfl (o_boolEqL (b := true) Try.underlying4 (by conv => lhs; whnf) (by conv => lhs; whnf) (by rfl) ?_)
              refine a_do rfl (o_assign (by conv => lhs; whnf) ?_)
              refine a_end ?_
              refine awp_ret ?_
              refine ⟨.inl rfl, [_], ⟨ares_tmp (by conv => lhs; whnf), trivial⟩, ?_⟩
              first | exact ⟨rfl, (by first | ((repeat (first | with_reducible exact Grown.refl _ | with_reducible apply Grown.push)); done) | repeat (first | exact Grown.refl _ | refine Grown.push ?_ _))⟩ | (exfalso; have := hg1.symm.trans hg2; cases this)
        ·
          refine a_do rfl (o_pickT (by conv => lhs; whnf) (by conv => lhs; whnf) ?_)
          refine a_end ?_
          refine awp_condF (by conv => lhs; whnf) ?_
          refine awp_skip ?_
          refine awp_seq ?_
          refine awp_region rfl ?_
          refine a_do rfl (o_move (by conv => lhs; whnf) ?_)
          refine a_do rfl (o_move (by conv => lhs; whnf) ?_)
          refine a_do rfl (o_fcmp (by conv => lhs; whnf) (by conv => lhs; whnf) rfl (fun c8 => ?_) (fun c8 => ?_))
          ·
            refine a_do rfl (o_assign (by conv => lhs; whnf) ?_)
            refine a_end ?_
            refine awp_ret ?_
            refine ⟨.inl rfl, [_], ⟨ares_tmp (by conv => lhs; whnf), trivial⟩, ?_⟩
            first | exact ⟨rfl, (by first | ((repeat (first | with_reducible exact Grown.refl _ | with_reducible apply Grown.push)); done) | repeat (first | exact Grown.refl _ | refine Grown.push ?_ _))⟩ | (exfalso; have := hg1.symm.trans hg2; cases this)
          ·
            rw [hself] at c8; exact absurd c8 (by decide)
      ·
        refine a_do rfl (o_move (by conv => lhs; whnf) ?_)
        refine a_no rfl ?_
        refine a_no rfl ?_
        refine a_do rfl (o_pickF (by conv => lhs; whnf) (by conv => lhs; whnf) ?_)
        refine a_end ?_
        refine awp_condF (by conv => lhs; whnf) ?_
        refine awp_skip ?_
        refine awp_seq ?_
        refine awp_region rfl ?_
        refine a_do rfl (o_move (by conv => lhs; whnf) ?_)
        refine a_do rfl (o_move (by conv => lhs; whnf) ?_)
        refine a_do rfl (o_fcmp (by conv => lhs; whnf) (by conv => lhs; whnf) rfl (fun c9 => ?_) (fun c9 => ?_))
        ·
          refine a_do rfl (o_assign (by conv => lhs; whnf) ?_)
          refine a_end ?_
          refine awp_ret ?_
          refine ⟨.inl rfl, [_], ⟨ares_tmp (by conv => lhs; whnf), trivial⟩, ?_⟩
          first | exact ⟨rfl, (by first | ((repeat (first | with_reducible exact Grown.refl _ | with_reducible apply Grown.push)); done) | repeat (first | exact Grown.refl _ | refine Grown.push ?_ _))⟩ | (exfalso; have := hg1.symm.trans hg2; cases this)
        ·
          rw [hself] at c9; exact absurd c9 (by decide)

set_option maxRecDepth 10000 in
theorem isFinite_ret (x : Nat) (h : AHeap) : Ret Try.prog 69 [fl x] h (.bool (finB x)) h := by
  refine ret_of (.prim rfl) ?_
  refine tri_of_body Try.func69 rfl (by kernel_rfl) (by show 1 ≤ 7; decide) ?_
  refine awp_seq ?_
  refine awp_region rfl ?_
  refine a_do rfl (o_assign (by conv => lhs; whnf) ?_)
  refine a_end ?_
  refine awp_seq ?_
  refine awp_region rfl ?_
  refine a_do rfl (o_move (by conv => lhs; whnf) ?_)
  refine a_do rfl (o_move (by conv => lhs; whnf) ?_)
  refine a_do rfl (o_fself (by conv => lhs; whnf) (by conv => lhs; whnf) (fun r9 hr9 => ?_))
  refine a_do rfl (o_fcmp (by conv => lhs; whnf) (by conv => lhs; whnf) rfl (fun c1 => ?_) (fun c1 => ?_))
  ·
    have hc9 := c1
    refine a_do rfl (o_assign (by conv => lhs; whnf) ?_)
    refine a_end ?_
    refine awp_ret ?_
    refine ⟨.inl rfl, [_], ⟨ares_tmp (by conv => lhs; whnf), trivial⟩, ?_⟩
    exact ⟨congrArg Value.bool (by rw [← hr9]; exact hc9.symm), (by first | ((repeat (first | with_reducible exact Grown.refl _ | with_reducible apply Grown.push)); done) | repeat (first | exact Grown.refl _ | refine Grown.push ?_ _))⟩
  ·
    have hc9 := c1
    refine a_do rfl (o_assign (by conv => lhs; whnf) ?_)
    refine a_end ?_
    refine awp_ret ?_
    refine ⟨.inl rfl, [_], ⟨ares_tmp (by conv => lhs; whnf), trivial⟩, ?_⟩
    exact ⟨congrArg Value.bool (by rw [← hr9]; exact hc9.symm), (by first | ((repeat (first | with_reducible exact Grown.refl _ | with_reducible apply Grown.push)); done) | repeat (first | exact Grown.refl _ | refine Grown.push ?_ _))⟩

set_option maxRecDepth 10000 in
theorem implCakeMark_ret (p q i : Int) (x w : Nat) (xs : List Int) (v : Value) (h : AHeap) (hv : Ints h v xs) (hl : xs.length ≤ 1073741824) : Ret Try.prog 32 [.agg #[i64 p, i64 q, v], i64 i, fl x, fl w] h (cmT p q i xs x w) h := by
  refine ret_of (within_tup2 (.prim rfl) (.prim rfl)) ?_
  refine tri_of_body Try.func32 rfl (by kernel_rfl) (by show 4 ≤ 82; decide) ?_
  refine awp_seq ?_
  refine awp_region rfl ?_
  refine a_do rfl (o_boxN (n := 3) (by conv => lhs; whnf) (by exact (rfl : _ = [_, _, _])) (by rfl) (fun k2 hk2 => ?_))
  try simp at hk2
  refine a_do rfl (o_assign (by conv => lhs; whnf) ?_)
  refine a_do rfl (o_assign (by conv => lhs; whnf) ?_)
  refine a_end ?_
  refine awp_seq ?_
  refine awp_seq ?_
  refine awp_region rfl ?_
  refine a_do rfl (o_loadAgg Try.underlying29 rfl ty29 (by conv => lhs; whnf) (by with_reducible repeat (first | assumption | (apply lk_last; (try simp only [ll1, ll2, ll3, ll4, lls_len, lls2_len, markL_len]); first | done | omega) | apply lk_prev)) (by rfl) (by exact (rfl : _ = [_, _, _])) (by rfl) ?_)
  refine a_do rfl (o_move (by conv => lhs; whnf) ?_)
  refine a_do rfl (o_callF (lmap_cons (by conv => lhs; whnf) (lmap_cons (by conv => lhs; whnf) lmap_nil)) (Ret.toB (cakeHas_ret _ _ _ _ _ _ (by first | ((with_reducible repeat (first | assumption | apply Ints.app)); done) | repeat (first | with_reducible assumption | exact ints_nil | exact Ints.own (by with_reducible repeat (first | assumption | (apply lk_last; (try simp only [ll1, ll2, ll3, ll4, lls_len, lls2_len, markL_len]); first | done | omega) | apply lk_prev)) (by first | rfl | exact upto_len | assumption | exact map_len | exact List.length_set | (rw [List.length_set]; assumption)) | exact Ints.tail (by with_reducible repeat (first | assumption | (apply lk_last; (try simp only [ll1, ll2, ll3, ll4, lls_len, lls2_len, markL_len]); first | done | omega) | apply lk_prev)) (by first | rfl | exact upto_len | assumption | exact map_len | exact List.length_set | (rw [List.length_set]; assumption)) | with_reducible apply Ints.app | (refine Ints.sub (by with_reducible repeat (first | assumption | apply Ints.app)) (by omega) (by omega) (by omega)))) (by omega)) (fun c3 => ?_) (fun c3 => ?_)))
  ·
    have hok1 := c3
    have hbd := (validC_get (hasC_get hok1).1).2.1
    refine a_do rfl (o_notT (by conv => lhs; whnf) ?_)
    refine a_do rfl (o_move (by conv => lhs; whnf) ?_)
    refine a_do rfl (o_loadAgg Try.underlying29 rfl ty29 (by conv => lhs; whnf) (by with_reducible repeat (first | assumption | (apply lk_last; (try simp only [ll1, ll2, ll3, ll4, lls_len, lls2_len, markL_len]); first | done | omega) | apply lk_prev)) (by rfl) (by exact (rfl : _ = [_, _, _])) (by rfl) ?_)
    refine a_do rfl (o_move (by conv => lhs; whnf) ?_)
    refine a_do rfl (o_callF (lmap_cons (by conv => lhs; whnf) (lmap_cons (by conv => lhs; whnf) lmap_nil)) (Ret.toB (cakePlace_ret _ _ _ _ _ _ (by first | ((with_reducible repeat (first | assumption | apply Ints.app)); done) | repeat (first | with_reducible assumption | exact ints_nil | exact Ints.own (by with_reducible repeat (first | assumption | (apply lk_last; (try simp only [ll1, ll2, ll3, ll4, lls_len, lls2_len, markL_len]); first | done | omega) | apply lk_prev)) (by first | rfl | exact upto_len | assumption | exact map_len | exact List.length_set | (rw [List.length_set]; assumption)) | exact Ints.tail (by with_reducible repeat (first | assumption | (apply lk_last; (try simp only [ll1, ll2, ll3, ll4, lls_len, lls2_len, markL_len]); first | done | omega) | apply lk_prev)) (by first | rfl | exact upto_len | assumption | exact map_len | exact List.length_set | (rw [List.length_set]; assumption)) | with_reducible apply Ints.app | (refine Ints.sub (by with_reducible repeat (first | assumption | apply Ints.app)) (by omega) (by omega) (by omega))))) (fun c4 => ?_) (fun c4 => ?_)))
    ·
      have hok2 := c4
      refine a_do rfl (o_notT (by conv => lhs; whnf) ?_)
      refine a_do rfl (o_pickF (by conv => lhs; whnf) (by conv => lhs; whnf) ?_)
      refine a_do rfl (o_move (by conv => lhs; whnf) ?_)
      refine a_do rfl (o_move (by conv => lhs; whnf) ?_)
      refine a_do rfl (o_fcmp (by conv => lhs; whnf) (by conv => lhs; whnf) rfl (fun c5 => ?_) (fun c5 => ?_))
      ·
        have hok3 : geB w 0 = true := c5
        refine a_do rfl (o_notT (by conv => lhs; whnf) ?_)
        refine a_do rfl (o_pickF (by conv => lhs; whnf) (by conv => lhs; whnf) ?_)
        refine a_do rfl (o_move (by conv => lhs; whnf) ?_)
        refine a_do rfl (o_move (by conv => lhs; whnf) ?_)
        refine a_do rfl (o_callF (lmap_cons (by conv => lhs; whnf) lmap_nil) (Ret.toB (isFinite_ret _ _) (fun c6 => ?_) (fun c6 => ?_)))
        ·
          have hok4 := c6
          have hcw := cmK_yes hok1 hok2 hok3 hok4
          have hH := hasC_get hok1
          obtain ⟨hp, hq, hxq, -⟩ := validC_get hH.1
          have hrc := rowC_ok hH.1 hH.2
          have hX := pl_of (p := q) (by omega) hok2
          have hNW := fin_nn hok4
          have hW := hrc.2.2.2.1
          have hrl := hrc.2.2.1
          have hIr : Ints h (subv v (i * q).toNat ((i + 1) * q).toNat) (rowC q i xs) := Ints.sub hv hrc.2.2.2.2.2 (by omega) (by omega)
          generalize hu9 : subv v (i * q).toNat ((i + 1) * q).toNat = u9 at hIr
          refine a_do rfl (o_notT (by conv => lhs; whnf) ?_)
          refine a_do rfl (o_pickF (by conv => lhs; whnf) (by conv => lhs; whnf) ?_)
          refine a_end ?_
          refine awp_condF (by conv => lhs; whnf) ?_
          refine awp_skip ?_
          refine awp_seq ?_
          refine awp_region rfl ?_
          refine a_do rfl (o_move (by conv => lhs; whnf) ?_)
          refine a_do rfl (o_assign (by conv => lhs; whnf) ?_)
          refine a_end ?_
          refine awp_seq ?_
          refine awp_seq ?_
          refine awp_region rfl ?_
          refine a_do rfl (o_loadAgg Try.underlying29 rfl ty29 (by conv => lhs; whnf) (by with_reducible repeat (first | assumption | (apply lk_last; (try simp only [ll1, ll2, ll3, ll4, lls_len, lls2_len, markL_len]); first | done | omega) | apply lk_prev)) (by rfl) (by exact (rfl : _ = [_, _, _])) (by rfl) ?_)
          refine a_do rfl (o_move (by conv => lhs; whnf) ?_)
          refine a_do rfl (o_callF (lmap_cons (by conv => lhs; whnf) (lmap_cons (by conv => lhs; whnf) lmap_nil)) (Ret.to (cakeRowU_ret i p q xs v _ u9 hu9 (by first | ((with_reducible repeat (first | assumption | apply Ints.app)); done) | repeat (first | with_reducible assumption | exact ints_nil | exact Ints.own (by with_reducible repeat (first | assumption | (apply lk_last; (try simp only [ll1, ll2, ll3, ll4, lls_len, lls2_len, markL_len]); first | done | omega) | apply lk_prev)) (by first | rfl | exact upto_len | assumption | exact map_len | exact List.length_set | (rw [List.length_set]; assumption)) | exact Ints.tail (by with_reducible repeat (first | assumption | (apply lk_last; (try simp only [ll1, ll2, ll3, ll4, lls_len, lls2_len, markL_len]); first | done | omega) | apply lk_prev)) (by first | rfl | exact upto_len | assumption | exact map_len | exact List.length_set | (rw [List.length_set]; assumption)) | with_reducible apply Ints.app | (refine Ints.sub (by with_reducible repeat (first | assumption | apply Ints.app)) (by omega) (by omega) (by omega)))) (by omega) hrc.2.2.2.2.2 (by omega) hrc.1.1 hrc.1.2.1 hrc.1.2.2) ?_))
          refine a_do rfl (o_lenI Try.underlying22 (by conv => lhs; whnf) (by first | ((with_reducible repeat (first | assumption | apply Ints.app)); done) | repeat (first | with_reducible assumption | exact ints_nil | exact Ints.own (by with_reducible repeat (first | assumption | (apply lk_last; (try simp only [ll1, ll2, ll3, ll4, lls_len, lls2_len, markL_len]); first | done | omega) | apply lk_prev)) (by first | rfl | exact upto_len | assumption | exact map_len | exact List.length_set | (rw [List.length_set]; assumption)) | exact Ints.tail (by with_reducible repeat (first | assumption | (apply lk_last; (try simp only [ll1, ll2, ll3, ll4, lls_len, lls2_len, markL_len]); first | done | omega) | apply lk_prev)) (by first | rfl | exact upto_len | assumption | exact map_len | exact List.length_set | (rw [List.length_set]; assumption)) | with_reducible apply Ints.app | (refine Ints.sub (by with_reducible repeat (first | assumption | apply Ints.app)) (by omega) (by omega) (by omega)))) ?_)
          refine a_do rfl (o_move (by conv => lhs; whnf) ?_)
          refine a_end ?_
          refine awp_block ?_
          refine awp_loop (σ := Nat) (fun s env1 h1 => Slots env1 [(2, fl x), (4, .pointer (some ⟨k2, 0, some 3⟩)), (10, fl (mLeft x w (rowC q i xs) s)), (39, u9), (40, i64 (rowC q i xs).length), (41, i64 s)] ∧ h1 = h ++ [⟨[i64 p, i64 q, v], true, 1⟩] ∧ s ≤ (rowC q i xs).length ∧ idxTo (mHitI x w (rowC q i xs)) (cntL q.toNat) s = -1) (fun s => (rowC q i xs).length - s) 0 ?_ ?_
          · refine ⟨Slots.mk ⟨?_, ?_, ?_, ?_, ?_, ?_, trivial⟩, ?_, ?_⟩
            all_goals first | rfl | omega | exact ⟨by omega, rfl⟩ | (simp; done)
          · intro s env1 h1 hI1
            obtain ⟨⟨e1, rfl⟩, rfl, ⟨hs, ha⟩⟩ := hI1
            refine awp_seq ?_
            refine awp_region rfl ?_
            refine a_do rfl (o_lss (by conv => lhs; whnf) (by conv => lhs; whnf) (fun c7 => ?_) (fun c7 => ?_))
            ·
              refine a_end ?_
              refine awp_seq ?_
              refine awp_condT (by conv => lhs; whnf) ?_
              refine awp_skip ?_
              refine awp_seq ?_
              refine awp_block ?_
              refine awp_seq ?_
              refine awp_region rfl ?_
              refine a_do rfl (o_move (by conv => lhs; whnf) ?_)
              first | refine a_do rfl (o_indexI Try.underlying22 ty2 (by conv => lhs; whnf) (by first | ((with_reducible repeat (first | assumption | apply Ints.app)); done) | repeat (first | with_reducible assumption | exact ints_nil | exact Ints.own (by with_reducible repeat (first | assumption | (apply lk_last; (try simp only [ll1, ll2, ll3, ll4, lls_len, lls2_len, markL_len]); first | done | omega) | apply lk_prev)) (by first | rfl | exact upto_len | assumption | exact map_len | exact List.length_set | (rw [List.length_set]; assumption)) | exact Ints.tail (by with_reducible repeat (first | assumption | (apply lk_last; (try simp only [ll1, ll2, ll3, ll4, lls_len, lls2_len, markL_len]); first | done | omega) | apply lk_prev)) (by first | rfl | exact upto_len | assumption | exact map_len | exact List.length_set | (rw [List.length_set]; assumption)) | with_reducible apply Ints.app | (refine Ints.sub (by with_reducible repeat (first | assumption | apply Ints.app)) (by omega) (by omega) (by omega)))) (by conv => lhs; whnf) (by omega) (fun p8 hp8 => ?_)) | refine a_do rfl (o_indexZ Try.underlying22 ty2 (by conv => lhs; whnf) (by first | ((with_reducible repeat (first | assumption | apply Ints.app)); done) | repeat (first | with_reducible assumption | exact ints_nil | exact Ints.own (by with_reducible repeat (first | assumption | (apply lk_last; (try simp only [ll1, ll2, ll3, ll4, lls_len, lls2_len, markL_len]); first | done | omega) | apply lk_prev)) (by first | rfl | exact upto_len | assumption | exact map_len | exact List.length_set | (rw [List.length_set]; assumption)) | exact Ints.tail (by with_reducible repeat (first | assumption | (apply lk_last; (try simp only [ll1, ll2, ll3, ll4, lls_len, lls2_len, markL_len]); first | done | omega) | apply lk_prev)) (by first | rfl | exact upto_len | assumption | exact map_len | exact List.length_set | (rw [List.length_set]; assumption)) | with_reducible apply Ints.app | (refine Ints.sub (by with_reducible repeat (first | assumption | apply Ints.app)) (by omega) (by omega) (by omega)))) (by conv => lhs; whnf) (by omega) (by omega) (fun p8 hp8 => ?_))
              refine a_do rfl (o_loadI Try.underlying2 rfl (by conv => lhs; whnf) hp8 (by first | ((with_reducible repeat (first | assumption | apply Ints.app)); done) | repeat (first | with_reducible assumption | exact ints_nil | exact Ints.own (by with_reducible repeat (first | assumption | (apply lk_last; (try simp only [ll1, ll2, ll3, ll4, lls_len, lls2_len, markL_len]); first | done | omega) | apply lk_prev)) (by first | rfl | exact upto_len | assumption | exact map_len | exact List.length_set | (rw [List.length_set]; assumption)) | exact Ints.tail (by with_reducible repeat (first | assumption | (apply lk_last; (try simp only [ll1, ll2, ll3, ll4, lls_len, lls2_len, markL_len]); first | done | omega) | apply lk_prev)) (by first | rfl | exact upto_len | assumption | exact map_len | exact List.length_set | (rw [List.length_set]; assumption)) | with_reducible apply Ints.app | (refine Ints.sub (by with_reducible repeat (first | assumption | apply Ints.app)) (by omega) (by omega) (by omega)))) (by omega) ?_)
              refine a_do rfl (o_assign (by conv => lhs; whnf) ?_)
              refine a_do rfl (o_assign (by conv => lhs; whnf) ?_)
              refine a_end ?_
              refine awp_seq ?_
              refine awp_region rfl ?_
              refine a_do rfl (o_move (by conv => lhs; whnf) ?_)
              refine a_do rfl (o_add (by conv => lhs; whnf) (by conv => lhs; whnf) (by omega) (by omega) ?_)
              refine a_do rfl (o_convI32 Try.underlying3 Try.underlying47 (by conv => lhs; whnf) ?_)
              refine a_do rfl (o_assign (by conv => lhs; whnf) ?_)
              refine a_end ?_
              refine awp_seq ?_
              refine awp_seq ?_
              refine awp_region rfl ?_
              refine a_do rfl (o_move (by conv => lhs; whnf) ?_)
              refine a_do rfl (o_move (by conv => lhs; whnf) ?_)
              refine a_do rfl (o_fcmp (by conv => lhs; whnf) (by conv => lhs; whnf) rfl (fun c9 => ?_) (fun c9 => ?_))
              ·
                have hgt : gtB (fI ((s : Int) + 1)) x = true := c9
                have hon := mLeft_on hX hW hNW (by omega) hgt
                refine a_do rfl (o_notT (by conv => lhs; whnf) ?_)
                refine a_end ?_
                refine awp_condF (by conv => lhs; whnf) ?_
                refine awp_skip ?_
                refine awp_seq ?_
                refine awp_region rfl ?_
                obtain ⟨a9, ha9, hra⟩ := max_cA hX (k := s) (by omega)
                have hmp := mP_ok hX hW (k := s) (by omega)
                refine a_do rfl (o_move (by conv => lhs; whnf) ?_)
                refine a_do rfl (o_move (by conv => lhs; whnf) ?_)
                refine a_do rfl (o_convI32 Try.underlying3 Try.underlying47 (by conv => lhs; whnf) ?_)
                refine a_do rfl (o_fmax (by conv => lhs; whnf) (by conv => lhs; whnf) ha9 ?_)
                refine a_do rfl (o_assign (by conv => lhs; whnf) ?_)
                refine a_end ?_
                refine awp_seq ?_
                refine awp_region rfl ?_
                refine a_do rfl (o_move (by conv => lhs; whnf) ?_)
                refine a_do rfl (o_convI32 Try.underlying2 Try.underlying47 (by conv => lhs; whnf) ?_)
                refine a_do rfl (o_move (by conv => lhs; whnf) ?_)
                refine a_do rfl (o_move (by conv => lhs; whnf) ?_)
                refine a_do rfl (o_fbin (by conv => lhs; whnf) (by conv => lhs; whnf) (fb_sub ((sub_read rfl hra).trans hmp.1)) ?_)
                refine a_do rfl (o_fbin (by conv => lhs; whnf) (by conv => lhs; whnf) (fb_mul hmp.2.1) ?_)
                refine a_do rfl (o_assign (by conv => lhs; whnf) ?_)
                refine a_end ?_
                refine awp_seq ?_
                refine awp_seq ?_
                refine awp_region rfl ?_
                refine a_do rfl (o_move (by conv => lhs; whnf) ?_)
                refine a_do rfl (o_move (by conv => lhs; whnf) ?_)
                refine a_do rfl (o_fcmp (by conv => lhs; whnf) (by conv => lhs; whnf) rfl (fun c10 => ?_) (fun c10 => ?_))
                ·
                  have hge : geB (mP x (rowC q i xs) s) (mLeft x w (rowC q i xs) s) = true := c10
                  refine a_do rfl (o_move (by conv => lhs; whnf) ?_)
                  refine a_do rfl (o_move (by conv => lhs; whnf) ?_)
                  refine a_do rfl (o_gtr (by conv => lhs; whnf) (by conv => lhs; whnf) (fun c11 => ?_) (fun c11 => ?_))
                  ·
                    have hpos := c11
                    have hh9 : mHit x w (rowC q i xs) s = true := hit_yes hgt hge hpos
                    have hmr := mRes_ok hX hW hNW (by omega) hpos
                    refine a_do rfl (o_pickT (by conv => lhs; whnf) (by conv => lhs; whnf) ?_)
                    refine a_end ?_
                    refine awp_condT (by conv => lhs; whnf) ?_
                    refine awp_seq ?_
                    refine awp_region rfl ?_
                    refine a_do rfl (o_move (by conv => lhs; whnf) ?_)
                    refine a_do rfl (o_move (by conv => lhs; whnf) ?_)
                    refine a_do rfl (o_move (by conv => lhs; whnf) ?_)
                    refine a_do rfl (o_convI32 Try.underlying2 Try.underlying47 (by conv => lhs; whnf) ?_)
                    refine a_do rfl (o_fbin (by conv => lhs; whnf) (by conv => lhs; whnf) (fb_div hmr.1) ?_)
                    refine a_do rfl (o_fbin (by conv => lhs; whnf) (by conv => lhs; whnf) (fb_add ((add_read hra).trans hmr.2.1)) ?_)
                    refine a_do rfl (o_assign (by conv => lhs; whnf) ?_)
                    refine a_do rfl (o_assign (by conv => lhs; whnf) ?_)
                    refine a_end ?_
                    refine awp_ret ?_
                    refine ⟨.inl rfl, [_, _], ⟨ares_tmp (by conv => lhs; whnf), ares_tmp (by conv => lhs; whnf), trivial⟩, ?_⟩
                    first | exact ⟨cm_no hcw, (by first | ((repeat (first | with_reducible exact Grown.refl _ | with_reducible apply Grown.push)); done) | repeat (first | exact Grown.refl _ | refine Grown.push ?_ _))⟩ | exact ⟨by rw [← cm_yes hcw, mAll_hit (by omega) ha hh9]; rfl, (by first | ((repeat (first | with_reducible exact Grown.refl _ | with_reducible apply Grown.push)); done) | repeat (first | exact Grown.refl _ | refine Grown.push ?_ _))⟩ | (obtain rfl : s = q.toNat := (by omega); exact ⟨by rw [← cm_yes hcw, mAll_none ha]; rfl, (by first | ((repeat (first | with_reducible exact Grown.refl _ | with_reducible apply Grown.push)); done) | repeat (first | exact Grown.refl _ | refine Grown.push ?_ _))⟩)
                  ·
                    have hh9 : mHit x w (rowC q i xs) s = false := hit_3 c11
                    have hia := idxTo_none ha (hit_at (n := q.toNat) (by omega) hh9)
                    refine a_do rfl (o_pickT (by conv => lhs; whnf) (by conv => lhs; whnf) ?_)
                    refine a_end ?_
                    refine awp_condF (by conv => lhs; whnf) ?_
                    refine awp_skip ?_
                    refine awp_region rfl ?_
                    refine a_do rfl (o_move (by conv => lhs; whnf) ?_)
                    refine a_do rfl (o_move (by conv => lhs; whnf) ?_)
                    refine a_do rfl (o_fbin (by conv => lhs; whnf) (by conv => lhs; whnf) (fb_sub hon) ?_)
                    refine a_do rfl (o_assign (by conv => lhs; whnf) ?_)
                    refine a_end ?_
                    refine awp_region rfl ?_
                    refine a_do rfl (o_add (by conv => lhs; whnf) (by conv => lhs; whnf) (by omega) (by omega) ?_)
                    refine a_do rfl (o_move (by conv => lhs; whnf) ?_)
                    refine a_end ?_
                    refine ⟨s + 1, ⟨Slots.mk ⟨?_, ?_, ?_, ?_, ?_, ?_, trivial⟩, ?_, ?_⟩, ?_⟩
                    all_goals first | rfl | omega | exact congrArg i64 (by omega) | exact congrArg fl hsk | exact ⟨by omega, hia⟩
                ·
                  have hge : geB (mP x (rowC q i xs) s) (mLeft x w (rowC q i xs) s) = false := c10
                  have hh9 : mHit x w (rowC q i xs) s = false := hit_2 hge
                  have hia := idxTo_none ha (hit_at (n := q.toNat) (by omega) hh9)
                  refine a_do rfl (o_move (by conv => lhs; whnf) ?_)
                  refine a_no rfl ?_
                  refine a_no rfl ?_
                  refine a_do rfl (o_pickF (by conv => lhs; whnf) (by conv => lhs; whnf) ?_)
                  refine a_end ?_
                  refine awp_condF (by conv => lhs; whnf) ?_
                  refine awp_skip ?_
                  refine awp_region rfl ?_
                  refine a_do rfl (o_move (by conv => lhs; whnf) ?_)
                  refine a_do rfl (o_move (by conv => lhs; whnf) ?_)
                  refine a_do rfl (o_fbin (by conv => lhs; whnf) (by conv => lhs; whnf) (fb_sub hon) ?_)
                  refine a_do rfl (o_assign (by conv => lhs; whnf) ?_)
                  refine a_end ?_
                  refine awp_region rfl ?_
                  refine a_do rfl (o_add (by conv => lhs; whnf) (by conv => lhs; whnf) (by omega) (by omega) ?_)
                  refine a_do rfl (o_move (by conv => lhs; whnf) ?_)
                  refine a_end ?_
                  refine ⟨s + 1, ⟨Slots.mk ⟨?_, ?_, ?_, ?_, ?_, ?_, trivial⟩, ?_, ?_⟩, ?_⟩
                  all_goals first | rfl | omega | exact congrArg i64 (by omega) | exact congrArg fl hsk | exact ⟨by omega, hia⟩
              ·
                have hgt : gtB (fI ((s : Int) + 1)) x = false := c9
                have hh9 : mHit x w (rowC q i xs) s = false := hit_1 hgt
                have hsk : (mLeft x w (rowC q i xs) s) = (mLeft x w (rowC q i xs) (s + 1)) := mLeft_skip hgt
                have hia := idxTo_none ha (hit_at (n := q.toNat) (by omega) hh9)
                refine a_do rfl (o_notF (by conv => lhs; whnf) ?_)
                refine a_end ?_
                refine awp_condT (by conv => lhs; whnf) ?_
                refine awp_exit ?_
                refine awp_region rfl ?_
                refine a_do rfl (o_add (by conv => lhs; whnf) (by conv => lhs; whnf) (by omega) (by omega) ?_)
                refine a_do rfl (o_move (by conv => lhs; whnf) ?_)
                refine a_end ?_
                refine ⟨s + 1, ⟨Slots.mk ⟨?_, ?_, ?_, ?_, ?_, ?_, trivial⟩, ?_, ?_⟩, ?_⟩
                all_goals first | rfl | omega | exact congrArg i64 (by omega) | exact congrArg fl hsk | exact ⟨by omega, hia⟩
            ·
              refine a_end ?_
              refine awp_seq ?_
              refine awp_condF (by conv => lhs; whnf) ?_
              refine awp_exit ?_
              refine awp_seq ?_
              refine awp_region rfl ?_
              refine a_do rfl (o_loadAgg Try.underlying29 rfl ty29 (by conv => lhs; whnf) (by with_reducible repeat (first | assumption | (apply lk_last; (try simp only [ll1, ll2, ll3, ll4, lls_len, lls2_len, markL_len]); first | done | omega) | apply lk_prev)) (by rfl) (by exact (rfl : _ = [_, _, _])) (by rfl) ?_)
              refine a_do rfl (o_callF (lmap_cons (by conv => lhs; whnf) lmap_nil) (Ret.to (cakeEnd_ret _ _ _ _ _ (by first | ((with_reducible repeat (first | assumption | apply Ints.app)); done) | repeat (first | with_reducible assumption | exact ints_nil | exact Ints.own (by with_reducible repeat (first | assumption | (apply lk_last; (try simp only [ll1, ll2, ll3, ll4, lls_len, lls2_len, markL_len]); first | done | omega) | apply lk_prev)) (by first | rfl | exact upto_len | assumption | exact map_len | exact List.length_set | (rw [List.length_set]; assumption)) | exact Ints.tail (by with_reducible repeat (first | assumption | (apply lk_last; (try simp only [ll1, ll2, ll3, ll4, lls_len, lls2_len, markL_len]); first | done | omega) | apply lk_prev)) (by first | rfl | exact upto_len | assumption | exact map_len | exact List.length_set | (rw [List.length_set]; assumption)) | with_reducible apply Ints.app | (refine Ints.sub (by with_reducible repeat (first | assumption | apply Ints.app)) (by omega) (by omega) (by omega))))) ?_))
              refine a_do rfl (o_assign (by conv => lhs; whnf) ?_)
              refine a_do rfl (o_assign (by conv => lhs; whnf) ?_)
              refine a_end ?_
              refine awp_ret ?_
              refine ⟨.inl rfl, [_, _], ⟨ares_tmp (by conv => lhs; whnf), ares_tmp (by conv => lhs; whnf), trivial⟩, ?_⟩
              first | exact ⟨cm_no hcw, (by first | ((repeat (first | with_reducible exact Grown.refl _ | with_reducible apply Grown.push)); done) | repeat (first | exact Grown.refl _ | refine Grown.push ?_ _))⟩ | exact ⟨by rw [← cm_yes hcw, mAll_hit (by omega) ha hh9]; rfl, (by first | ((repeat (first | with_reducible exact Grown.refl _ | with_reducible apply Grown.push)); done) | repeat (first | exact Grown.refl _ | refine Grown.push ?_ _))⟩ | (obtain rfl : s = q.toNat := (by omega); exact ⟨by rw [← cm_yes hcw, mAll_none ha]; rfl, (by first | ((repeat (first | with_reducible exact Grown.refl _ | with_reducible apply Grown.push)); done) | repeat (first | exact Grown.refl _ | refine Grown.push ?_ _))⟩)
        ·
          have hcw : cmK p q i xs x w = false := cmK_4 c6
          refine a_do rfl (o_notF (by conv => lhs; whnf) ?_)
          refine a_do rfl (o_pickF (by conv => lhs; whnf) (by conv => lhs; whnf) ?_)
          refine a_end ?_
          refine awp_condT (by conv => lhs; whnf) ?_
          refine awp_seq ?_
          refine awp_region rfl ?_
          refine a_do rfl (o_assign (by conv => lhs; whnf) ?_)
          refine a_do rfl (o_assign (by conv => lhs; whnf) ?_)
          refine a_end ?_
          refine awp_ret ?_
          refine ⟨.inl rfl, [_, _], ⟨ares_tmp (by conv => lhs; whnf), ares_tmp (by conv => lhs; whnf), trivial⟩, ?_⟩
          first | exact ⟨cm_no hcw, (by first | ((repeat (first | with_reducible exact Grown.refl _ | with_reducible apply Grown.push)); done) | repeat (first | exact Grown.refl _ | refine Grown.push ?_ _))⟩ | exact ⟨by rw [← cm_yes hcw, mAll_hit (by omega) ha hh9]; rfl, (by first | ((repeat (first | with_reducible exact Grown.refl _ | with_reducible apply Grown.push)); done) | repeat (first | exact Grown.refl _ | refine Grown.push ?_ _))⟩ | (obtain rfl : s = q.toNat := (by omega); exact ⟨by rw [← cm_yes hcw, mAll_none ha]; rfl, (by first | ((repeat (first | with_reducible exact Grown.refl _ | with_reducible apply Grown.push)); done) | repeat (first | exact Grown.refl _ | refine Grown.push ?_ _))⟩)
      ·
        have hcw : cmK p q i xs x w = false := cmK_3 c5
        refine a_do rfl (o_notF (by conv => lhs; whnf) ?_)
        refine a_do rfl (o_pickF (by conv => lhs; whnf) (by conv => lhs; whnf) ?_)
        refine a_do rfl (o_move (by conv => lhs; whnf) ?_)
        refine a_no rfl ?_
        refine a_no rfl ?_
        refine a_no rfl ?_
        refine a_do rfl (o_pickT (by conv => lhs; whnf) (by conv => lhs; whnf) ?_)
        refine a_end ?_
        refine awp_condT (by conv => lhs; whnf) ?_
        refine awp_seq ?_
        refine awp_region rfl ?_
        refine a_do rfl (o_assign (by conv => lhs; whnf) ?_)
        refine a_do rfl (o_assign (by conv => lhs; whnf) ?_)
        refine a_end ?_
        refine awp_ret ?_
        refine ⟨.inl rfl, [_, _], ⟨ares_tmp (by conv => lhs; whnf), ares_tmp (by conv => lhs; whnf), trivial⟩, ?_⟩
        first | exact ⟨cm_no hcw, (by first | ((repeat (first | with_reducible exact Grown.refl _ | with_reducible apply Grown.push)); done) | repeat (first | exact Grown.refl _ | refine Grown.push ?_ _))⟩ | exact ⟨by rw [← cm_yes hcw, mAll_hit (by omega) ha hh9]; rfl, (by first | ((repeat (first | with_reducible exact Grown.refl _ | with_reducible apply Grown.push)); done) | repeat (first | exact Grown.refl _ | refine Grown.push ?_ _))⟩ | (obtain rfl : s = q.toNat := (by omega); exact ⟨by rw [← cm_yes hcw, mAll_none ha]; rfl, (by first | ((repeat (first | with_reducible exact Grown.refl _ | with_reducible apply Grown.push)); done) | repeat (first | exact Grown.refl _ | refine Grown.push ?_ _))⟩)
    ·
      have hcw : cmK p q i xs x w = false := cmK_2 c4
      refine a_do rfl (o_notF (by conv => lhs; whnf) ?_)
      refine a_do rfl (o_pickF (by conv => lhs; whnf) (by conv => lhs; whnf) ?_)
      refine a_do rfl (o_move (by conv => lhs; whnf) ?_)
      refine a_no rfl ?_
      refine a_no rfl ?_
      refine a_no rfl ?_
      refine a_do rfl (o_pickT (by conv => lhs; whnf) (by conv => lhs; whnf) ?_)
      refine a_do rfl (o_move (by conv => lhs; whnf) ?_)
      refine a_no rfl ?_
      refine a_no rfl ?_
      refine a_no rfl ?_
      refine a_do rfl (o_pickT (by conv => lhs; whnf) (by conv => lhs; whnf) ?_)
      refine a_end ?_
      refine awp_condT (by conv => lhs; whnf) ?_
      refine awp_seq ?_
      refine awp_region rfl ?_
      refine a_do rfl (o_assign (by conv => lhs; whnf) ?_)
      refine a_do rfl (o_assign (by conv => lhs; whnf) ?_)
      refine a_end ?_
      refine awp_ret ?_
      refine ⟨.inl rfl, [_, _], ⟨ares_tmp (by conv => lhs; whnf), ares_tmp (by conv => lhs; whnf), trivial⟩, ?_⟩
      first | exact ⟨cm_no hcw, (by first | ((repeat (first | with_reducible exact Grown.refl _ | with_reducible apply Grown.push)); done) | repeat (first | exact Grown.refl _ | refine Grown.push ?_ _))⟩ | exact ⟨by rw [← cm_yes hcw, mAll_hit (by omega) ha hh9]; rfl, (by first | ((repeat (first | with_reducible exact Grown.refl _ | with_reducible apply Grown.push)); done) | repeat (first | exact Grown.refl _ | refine Grown.push ?_ _))⟩ | (obtain rfl : s = q.toNat := (by omega); exact ⟨by rw [← cm_yes hcw, mAll_none ha]; rfl, (by first | ((repeat (first | with_reducible exact Grown.refl _ | with_reducible apply Grown.push)); done) | repeat (first | exact Grown.refl _ | refine Grown.push ?_ _))⟩)
  ·
    have hcw : cmK p q i xs x w = false := cmK_1 c3
    refine a_do rfl (o_notF (by conv => lhs; whnf) ?_)
    refine a_do rfl (o_move (by conv => lhs; whnf) ?_)
    refine a_no rfl ?_
    refine a_no rfl ?_
    refine a_no rfl ?_
    refine a_no rfl ?_
    refine a_do rfl (o_pickT (by conv => lhs; whnf) (by conv => lhs; whnf) ?_)
    refine a_do rfl (o_move (by conv => lhs; whnf) ?_)
    refine a_no rfl ?_
    refine a_no rfl ?_
    refine a_no rfl ?_
    refine a_do rfl (o_pickT (by conv => lhs; whnf) (by conv => lhs; whnf) ?_)
    refine a_do rfl (o_move (by conv => lhs; whnf) ?_)
    refine a_no rfl ?_
    refine a_no rfl ?_
    refine a_no rfl ?_
    refine a_do rfl (o_pickT (by conv => lhs; whnf) (by conv => lhs; whnf) ?_)
    refine a_end ?_
    refine awp_condT (by conv => lhs; whnf) ?_
    refine awp_seq ?_
    refine awp_region rfl ?_
    refine a_do rfl (o_assign (by conv => lhs; whnf) ?_)
    refine a_do rfl (o_assign (by conv => lhs; whnf) ?_)
    refine a_end ?_
    refine awp_ret ?_
    refine ⟨.inl rfl, [_, _], ⟨ares_tmp (by conv => lhs; whnf), ares_tmp (by conv => lhs; whnf), trivial⟩, ?_⟩
    first | exact ⟨cm_no hcw, (by first | ((repeat (first | with_reducible exact Grown.refl _ | with_reducible apply Grown.push)); done) | repeat (first | exact Grown.refl _ | refine Grown.push ?_ _))⟩ | exact ⟨by rw [← cm_yes hcw, mAll_hit (by omega) ha hh9]; rfl, (by first | ((repeat (first | with_reducible exact Grown.refl _ | with_reducible apply Grown.push)); done) | repeat (first | exact Grown.refl _ | refine Grown.push ?_ _))⟩ | (obtain rfl : s = q.toNat := (by omega); exact ⟨by rw [← cm_yes hcw, mAll_none ha]; rfl, (by first | ((repeat (first | with_reducible exact Grown.refl _ | with_reducible apply Grown.push)); done) | repeat (first | exact Grown.refl _ | refine Grown.push ?_ _))⟩)

set_option maxRecDepth 10000 in
theorem l04Mark_ret (k : Nat) (p q i : Int) (x w : Nat) (xs : List Int) (v : Value) (h : AHeap) (hv : Ints h v xs) (hl : xs.length ≤ 1073741824) (ho : h[k]? = some ⟨[i64 p, i64 q, v], true, 1⟩) (hok1 : (validC p q xs && decide (0 ≤ i ∧ i ≤ p - 1)) = true) (hok2 : plF q x = true) (hok4 : finB w = true) : Ret Try.prog 56 [.pointer (some ⟨k, 0, some 3⟩), i64 i, fl x, fl w] h (fl (mAll q x w (rowC q i xs))) h := by
  refine ret_of (.prim rfl) ?_
  obtain ⟨hp, hq, -⟩ := validC_get (hasC_get hok1).1
  have hH := hasC_get hok1
  obtain ⟨hp, hq, hxq, -⟩ := validC_get hH.1
  have hrc := rowC_ok hH.1 hH.2
  have hX := pl_of (p := q) (by omega) hok2
  have hNW := fin_nn hok4
  have hW := hrc.2.2.2.1
  have hrl := hrc.2.2.1
  have hIr : Ints h (subv v (i * q).toNat ((i + 1) * q).toNat) (rowC q i xs) := Ints.sub hv hrc.2.2.2.2.2 (by omega) (by omega)
  generalize hu9 : subv v (i * q).toNat ((i + 1) * q).toNat = u9 at hIr
  refine tri_of_body Try.func56 rfl (by kernel_rfl) (by show 4 ≤ 76; decide) ?_
  refine awp_seq ?_
  refine awp_region rfl ?_
  refine a_do rfl (o_assign (by conv => lhs; whnf) ?_)
  refine a_end ?_
  refine awp_seq ?_
  refine awp_region rfl ?_
  refine a_do rfl (o_move (by conv => lhs; whnf) ?_)
  refine a_do rfl (o_assign (by conv => lhs; whnf) ?_)
  refine a_end ?_
  refine awp_seq ?_
  refine awp_seq ?_
  refine awp_region rfl ?_
  refine a_do rfl (o_assign (by conv => lhs; whnf) ?_)
  refine a_end ?_
  refine awp_block ?_
  refine awp_loop (σ := Nat) (fun s env1 h1 => Slots env1 [(0, .pointer (some ⟨k, 0, some 3⟩)), (1, i64 i), (2, fl x), (9, fl (mLeft x w (rowC q i xs) s)), (10, i64 s)] ∧ h1 = h ∧ s ≤ q.toNat ∧ idxTo (mHitI x w (rowC q i xs)) (cntL q.toNat) s = -1) (fun s => q.toNat - s) 0 ?_ ?_
  · refine ⟨Slots.mk ⟨?_, ?_, ?_, ?_, ?_, trivial⟩, ?_, ?_⟩
    all_goals first | rfl | omega | exact ⟨by omega, rfl⟩ | (simp; done)
  · intro s env1 h1 hI1
    obtain ⟨⟨e1, rfl⟩, rfl, ⟨hs, ha⟩⟩ := hI1
    refine awp_seq ?_
    refine awp_seq ?_
    refine awp_region rfl ?_
    refine a_do rfl (o_move (by conv => lhs; whnf) ?_)
    refine a_do rfl (o_move (by conv => lhs; whnf) ?_)
    refine a_do rfl (o_nilCheck (by conv => lhs; whnf) ?_)
    refine a_do rfl (o_fieldAddr Try.underlying29 rfl ty2 (by conv => lhs; whnf) (by with_reducible repeat (first | assumption | (apply lk_last; (try simp only [ll1, ll2, ll3, ll4, lls_len, lls2_len, markL_len]); first | done | omega) | apply lk_prev)) (by rfl) ?_)
    refine a_do rfl (o_load Try.underlying2 rfl (by conv => lhs; whnf) (by with_reducible repeat (first | assumption | (apply lk_last; (try simp only [ll1, ll2, ll3, ll4, lls_len, lls2_len, markL_len]); first | done | omega) | apply lk_prev)) (by rfl) (by rfl) ?_)
    refine a_do rfl (o_lss (by conv => lhs; whnf) (by conv => lhs; whnf) (fun c1 => ?_) (fun c1 => ?_))
    ·
      refine a_end ?_
      refine awp_condT (by conv => lhs; whnf) ?_
      refine awp_skip ?_
      refine awp_seq ?_
      refine awp_block ?_
      refine awp_seq ?_
      refine awp_region rfl ?_
      refine a_do rfl (o_move (by conv => lhs; whnf) ?_)
      refine a_do rfl (o_add (by conv => lhs; whnf) (by conv => lhs; whnf) (by omega) (by omega) ?_)
      refine a_do rfl (o_convI32 Try.underlying2 Try.underlying47 (by conv => lhs; whnf) ?_)
      refine a_do rfl (o_assign (by conv => lhs; whnf) ?_)
      refine a_end ?_
      refine awp_seq ?_
      refine awp_seq ?_
      refine awp_region rfl ?_
      refine a_do rfl (o_move (by conv => lhs; whnf) ?_)
      refine a_do rfl (o_move (by conv => lhs; whnf) ?_)
      refine a_do rfl (o_fcmp (by conv => lhs; whnf) (by conv => lhs; whnf) rfl (fun c2 => ?_) (fun c2 => ?_))
      ·
        have hgtl : (!gtB (fI ((s : Int) + 1)) x) = leB (fI ((s : Int) + 1)) x := not_gt (fI_sm (n := (s : Int) + 1) (by omega) (by omega)).nn hX.nn
        have hgt : gtB (fI ((s : Int) + 1)) x = false := (by have h9 : leB (fI ((s : Int) + 1)) x = true := c2; rw [← hgtl] at h9; simpa using h9)
        have hh9 : mHit x w (rowC q i xs) s = false := hit_1 hgt
        have hsk : (mLeft x w (rowC q i xs) s) = (mLeft x w (rowC q i xs) (s + 1)) := mLeft_skip hgt
        have hia := idxTo_none ha (hit_at (n := q.toNat) (by omega) hh9)
        refine a_end ?_
        refine awp_condT (by conv => lhs; whnf) ?_
        refine awp_exit ?_
        refine awp_region rfl ?_
        refine a_do rfl (o_move (by conv => lhs; whnf) ?_)
        refine a_do rfl (o_add (by conv => lhs; whnf) (by conv => lhs; whnf) (by omega) (by omega) ?_)
        refine a_do rfl (o_assign (by conv => lhs; whnf) ?_)
        refine a_end ?_
        refine ⟨s + 1, ⟨Slots.mk ⟨?_, ?_, ?_, ?_, ?_, trivial⟩, ?_, ?_⟩, ?_⟩
        all_goals first | rfl | omega | exact congrArg i64 (by omega) | exact congrArg fl hsk | exact ⟨by omega, hia⟩
      ·
        have hgtl : (!gtB (fI ((s : Int) + 1)) x) = leB (fI ((s : Int) + 1)) x := not_gt (fI_sm (n := (s : Int) + 1) (by omega) (by omega)).nn hX.nn
        have hgt : gtB (fI ((s : Int) + 1)) x = true := (by have h9 : leB (fI ((s : Int) + 1)) x = false := c2; rw [← hgtl] at h9; simpa using h9)
        have hon := mLeft_on hX hW hNW (by omega) hgt
        have hmp := mP_ok hX hW (k := s) (by omega)
        refine a_end ?_
        refine awp_condF (by conv => lhs; whnf) ?_
        refine awp_skip ?_
        refine awp_seq ?_
        refine awp_region rfl ?_
        refine a_do rfl (o_move (by conv => lhs; whnf) ?_)
        refine a_do rfl (o_convI32 Try.underlying2 Try.underlying47 (by conv => lhs; whnf) ?_)
        refine a_do rfl (o_assign (by conv => lhs; whnf) ?_)
        refine a_end ?_
        refine awp_seq ?_
        refine awp_seq ?_
        refine awp_region rfl ?_
        refine a_do rfl (o_move (by conv => lhs; whnf) ?_)
        refine a_do rfl (o_move (by conv => lhs; whnf) ?_)
        refine a_do rfl (o_fcmp (by conv => lhs; whnf) (by conv => lhs; whnf) rfl (fun c3 => ?_) (fun c3 => ?_))
        ·
          have hca := cA_yes c3
          refine a_end ?_
          refine awp_condT (by conv => lhs; whnf) ?_
          refine awp_region rfl ?_
          refine a_do rfl (o_move (by conv => lhs; whnf) ?_)
          refine a_do rfl (o_assign (by conv => lhs; whnf) ?_)
          refine a_end ?_
          refine awp_seq ?_
          refine awp_draw Try_mixed (by kernel_rfl) rfl ?_
          refine d_do rfl (o_move (by conv => lhs; whnf) ⟨rfl, rfl⟩) (by first | exact .prim rfl | (apply within_ptr; (with_reducible repeat (first | assumption | (apply lk_last; (try simp only [ll1, ll2, ll3, ll4, lls_len, lls2_len, markL_len]); first | done | omega) | apply lk_prev)); done)) ?_
          refine d_do rfl (o_nilCheck (by conv => lhs; whnf) ⟨rfl, rfl⟩) (by first | (apply within_ptr; (with_reducible repeat (first | assumption | (apply lk_last; (try simp only [ll1, ll2, ll3, ll4, lls_len, lls2_len, markL_len]); first | done | omega) | apply lk_prev)); done) | exact .prim rfl) ?_
          refine d_do rfl (o_fieldAddr Try.underlying29 rfl ty22 (by conv => lhs; whnf) (by with_reducible repeat (first | assumption | (apply lk_last; (try simp only [ll1, ll2, ll3, ll4, lls_len, lls2_len, markL_len]); first | done | omega) | apply lk_prev)) (by rfl) ⟨rfl, rfl⟩) (by first | (apply within_ptr; (with_reducible repeat (first | assumption | (apply lk_last; (try simp only [ll1, ll2, ll3, ll4, lls_len, lls2_len, markL_len]); first | done | omega) | apply lk_prev)); done) | exact .prim rfl) ?_
          refine d_do rfl (o_load Try.underlying22 rfl (by conv => lhs; whnf) (by with_reducible repeat (first | assumption | (apply lk_last; (try simp only [ll1, ll2, ll3, ll4, lls_len, lls2_len, markL_len]); first | done | omega) | apply lk_prev)) (by rfl) (by rfl) ⟨rfl, rfl⟩) (by first | exact .prim rfl | exact within_func0 | (apply within_ptr; (with_reducible repeat (first | assumption | (apply lk_last; (try simp only [ll1, ll2, ll3, ll4, lls_len, lls2_len, markL_len]); first | done | omega) | apply lk_prev)); done) | (apply within_sl; (with_reducible repeat (first | assumption | (apply lk_last; (try simp only [ll1, ll2, ll3, ll4, lls_len, lls2_len, markL_len]); first | done | omega) | apply lk_prev)); done) | ((try apply within_sub); apply Ints.within; (with_reducible repeat (first | assumption | apply Ints.app)); done) | (apply Lists.within; (with_reducible repeat (first | assumption | apply Lists.app)); done) | (apply Flts.within; (with_reducible repeat (first | assumption | apply Flts.app)); done) | (apply Byts.within; (with_reducible repeat (first | assumption | apply Byts.app)); done) | exact within_nilw | exact within_nilb | (apply within_tup2 <;> first | exact .prim rfl | (apply within_sl; (with_reducible repeat (first | assumption | (apply lk_last; (try simp only [ll1, ll2, ll3, ll4, lls_len, lls2_len, markL_len]); first | done | omega) | apply lk_prev)); done) | (apply Within.agg2 <;> (first | exact .prim rfl | (apply within_ptr; (with_reducible repeat (first | assumption | (apply lk_last; (try simp only [ll1, ll2, ll3, ll4, lls_len, lls2_len, markL_len]); first | done | omega) | apply lk_prev)); done) | (apply within_sl; (with_reducible repeat (first | assumption | (apply lk_last; (try simp only [ll1, ll2, ll3, ll4, lls_len, lls2_len, markL_len]); first | done | omega) | apply lk_prev)); done) | ((try apply within_sub); apply Ints.within; (with_reducible repeat (first | assumption | apply Ints.app)); done) | (apply Lists.within; (with_reducible repeat (first | assumption | apply Lists.app)); done) | (apply within_sl; (with_reducible repeat (first | assumption | (apply lk_last; (try simp only [ll1, ll2, ll3, ll4, lls_len, lls2_len, markL_len]); first | done | omega) | apply lk_prev)); done)))) | exact Within.mono ‹Within _ (Value.func _ _ _)› (by (try simp only [ll1, ll2, ll3, ll4, lls_len, lls2_len, markL_len]); first | done | omega) | (apply Within.agg4 <;> (first | exact .prim rfl | (apply within_ptr; (with_reducible repeat (first | assumption | (apply lk_last; (try simp only [ll1, ll2, ll3, ll4, lls_len, lls2_len, markL_len]); first | done | omega) | apply lk_prev)); done) | (apply within_sl; (with_reducible repeat (first | assumption | (apply lk_last; (try simp only [ll1, ll2, ll3, ll4, lls_len, lls2_len, markL_len]); first | done | omega) | apply lk_prev)); done) | ((try apply within_sub); apply Ints.within; (with_reducible repeat (first | assumption | apply Ints.app)); done) | (apply Lists.within; (with_reducible repeat (first | assumption | apply Lists.app)); done) | (apply within_sl; (with_reducible repeat (first | assumption | (apply lk_last; (try simp only [ll1, ll2, ll3, ll4, lls_len, lls2_len, markL_len]); first | done | omega) | apply lk_prev)); done))) | (apply Within.agg3 <;> (first | exact .prim rfl | (apply within_ptr; (with_reducible repeat (first | assumption | (apply lk_last; (try simp only [ll1, ll2, ll3, ll4, lls_len, lls2_len, markL_len]); first | done | omega) | apply lk_prev)); done) | (apply within_sl; (with_reducible repeat (first | assumption | (apply lk_last; (try simp only [ll1, ll2, ll3, ll4, lls_len, lls2_len, markL_len]); first | done | omega) | apply lk_prev)); done) | ((try apply within_sub); apply Ints.within; (with_reducible repeat (first | assumption | apply Ints.app)); done) | (apply Lists.within; (with_reducible repeat (first | assumption | apply Lists.app)); done) | (apply within_sl; (with_reducible repeat (first | assumption | (apply lk_last; (try simp only [ll1, ll2, ll3, ll4, lls_len, lls2_len, markL_len]); first | done | omega) | apply lk_prev)); done))) | (apply Within.agg2 <;> (first | exact .prim rfl | (apply within_ptr; (with_reducible repeat (first | assumption | (apply lk_last; (try simp only [ll1, ll2, ll3, ll4, lls_len, lls2_len, markL_len]); first | done | omega) | apply lk_prev)); done) | (apply within_sl; (with_reducible repeat (first | assumption | (apply lk_last; (try simp only [ll1, ll2, ll3, ll4, lls_len, lls2_len, markL_len]); first | done | omega) | apply lk_prev)); done) | ((try apply within_sub); apply Ints.within; (with_reducible repeat (first | assumption | apply Ints.app)); done) | (apply Lists.within; (with_reducible repeat (first | assumption | apply Lists.app)); done) | (apply within_sl; (with_reducible repeat (first | assumption | (apply lk_last; (try simp only [ll1, ll2, ll3, ll4, lls_len, lls2_len, markL_len]); first | done | omega) | apply lk_prev)); done)))) ?_
          refine d_do rfl (o_move (by conv => lhs; whnf) ⟨rfl, rfl⟩) (by exact .prim rfl) ?_
          refine d_do rfl (o_move (by conv => lhs; whnf) ⟨rfl, rfl⟩) (by first | exact .prim rfl | (apply within_ptr; (with_reducible repeat (first | assumption | (apply lk_last; (try simp only [ll1, ll2, ll3, ll4, lls_len, lls2_len, markL_len]); first | done | omega) | apply lk_prev)); done)) ?_
          refine d_do rfl (o_nilCheck (by conv => lhs; whnf) ⟨rfl, rfl⟩) (by first | (apply within_ptr; (with_reducible repeat (first | assumption | (apply lk_last; (try simp only [ll1, ll2, ll3, ll4, lls_len, lls2_len, markL_len]); first | done | omega) | apply lk_prev)); done) | exact .prim rfl) ?_
          refine d_do rfl (o_fieldAddr Try.underlying29 rfl ty2 (by conv => lhs; whnf) (by with_reducible repeat (first | assumption | (apply lk_last; (try simp only [ll1, ll2, ll3, ll4, lls_len, lls2_len, markL_len]); first | done | omega) | apply lk_prev)) (by rfl) ⟨rfl, rfl⟩) (by first | (apply within_ptr; (with_reducible repeat (first | assumption | (apply lk_last; (try simp only [ll1, ll2, ll3, ll4, lls_len, lls2_len, markL_len]); first | done | omega) | apply lk_prev)); done) | exact .prim rfl) ?_
          refine d_do rfl (o_load Try.underlying2 rfl (by conv => lhs; whnf) (by with_reducible repeat (first | assumption | (apply lk_last; (try simp only [ll1, ll2, ll3, ll4, lls_len, lls2_len, markL_len]); first | done | omega) | apply lk_prev)) (by rfl) (by rfl) ⟨rfl, rfl⟩) (by exact .prim rfl) ?_
          refine d_do rfl (o_mul (by conv => lhs; whnf) (by conv => lhs; whnf) (by omega) (by omega) ⟨rfl, rfl⟩) (by exact .prim rfl) ?_
          refine d_do rfl (o_move (by conv => lhs; whnf) ⟨rfl, rfl⟩) (by exact .prim rfl) ?_
          refine d_do rfl (o_add (by conv => lhs; whnf) (by conv => lhs; whnf) (by omega) (by omega) ⟨rfl, rfl⟩) (by exact .prim rfl) ?_
          first | refine d_indexI rfl Try.underlying22 ty2 (by conv => lhs; whnf) (by first | ((with_reducible repeat (first | assumption | apply Ints.app)); done) | repeat (first | with_reducible assumption | exact ints_nil | exact Ints.own (by with_reducible repeat (first | assumption | (apply lk_last; (try simp only [ll1, ll2, ll3, ll4, lls_len, lls2_len, markL_len]); first | done | omega) | apply lk_prev)) (by first | rfl | exact upto_len | assumption | exact map_len | exact List.length_set | (rw [List.length_set]; assumption)) | exact Ints.tail (by with_reducible repeat (first | assumption | (apply lk_last; (try simp only [ll1, ll2, ll3, ll4, lls_len, lls2_len, markL_len]); first | done | omega) | apply lk_prev)) (by first | rfl | exact upto_len | assumption | exact map_len | exact List.length_set | (rw [List.length_set]; assumption)) | with_reducible apply Ints.app | (refine Ints.sub (by with_reducible repeat (first | assumption | apply Ints.app)) (by omega) (by omega) (by omega)))) (by conv => lhs; whnf) (by omega) (fun p4 hp4 => ?_) | refine d_indexZ rfl Try.underlying22 ty2 (by conv => lhs; whnf) (by first | ((with_reducible repeat (first | assumption | apply Ints.app)); done) | repeat (first | with_reducible assumption | exact ints_nil | exact Ints.own (by with_reducible repeat (first | assumption | (apply lk_last; (try simp only [ll1, ll2, ll3, ll4, lls_len, lls2_len, markL_len]); first | done | omega) | apply lk_prev)) (by first | rfl | exact upto_len | assumption | exact map_len | exact List.length_set | (rw [List.length_set]; assumption)) | exact Ints.tail (by with_reducible repeat (first | assumption | (apply lk_last; (try simp only [ll1, ll2, ll3, ll4, lls_len, lls2_len, markL_len]); first | done | omega) | apply lk_prev)) (by first | rfl | exact upto_len | assumption | exact map_len | exact List.length_set | (rw [List.length_set]; assumption)) | with_reducible apply Ints.app | (refine Ints.sub (by with_reducible repeat (first | assumption | apply Ints.app)) (by omega) (by omega) (by omega)))) (by conv => lhs; whnf) (by omega) (by omega) (fun p4 hp4 => ?_)
          refine d_do rfl (o_loadI Try.underlying2 rfl (by conv => lhs; whnf) hp4 (by first | ((with_reducible repeat (first | assumption | apply Ints.app)); done) | repeat (first | with_reducible assumption | exact ints_nil | exact Ints.own (by with_reducible repeat (first | assumption | (apply lk_last; (try simp only [ll1, ll2, ll3, ll4, lls_len, lls2_len, markL_len]); first | done | omega) | apply lk_prev)) (by first | rfl | exact upto_len | assumption | exact map_len | exact List.length_set | (rw [List.length_set]; assumption)) | exact Ints.tail (by with_reducible repeat (first | assumption | (apply lk_last; (try simp only [ll1, ll2, ll3, ll4, lls_len, lls2_len, markL_len]); first | done | omega) | apply lk_prev)) (by first | rfl | exact upto_len | assumption | exact map_len | exact List.length_set | (rw [List.length_set]; assumption)) | with_reducible apply Ints.app | (refine Ints.sub (by with_reducible repeat (first | assumption | apply Ints.app)) (by omega) (by omega) (by omega)))) (by omega) ⟨rfl, rfl⟩) (by exact .prim rfl) ?_
          rw [rowC_get hH.1 hH.2 (by omega)]
          refine d_do rfl (o_convI32 Try.underlying2 Try.underlying47 (by conv => lhs; whnf) ⟨rfl, rfl⟩) (by exact .prim rfl) ?_
          refine d_do rfl (o_assign (by conv => lhs; whnf) ⟨rfl, rfl⟩) (by exact .prim rfl) ?_
          refine d_end ?_
          refine awp_seq ?_
          refine awp_region rfl ?_
          refine a_do rfl (o_move (by conv => lhs; whnf) ?_)
          refine a_do rfl (o_move (by conv => lhs; whnf) ?_)
          refine a_do rfl (o_move (by conv => lhs; whnf) ?_)
          refine a_do rfl (o_fbin (by conv => lhs; whnf) (by conv => lhs; whnf) (fsub_use hmp.1 hca) ?_)
          refine a_do rfl (o_fbin (by conv => lhs; whnf) (by conv => lhs; whnf) (fb_mul hmp.2.1) ?_)
          refine a_do rfl (o_assign (by conv => lhs; whnf) ?_)
          refine a_end ?_
          refine awp_seq ?_
          refine awp_seq ?_
          refine awp_region rfl ?_
          refine a_do rfl (o_move (by conv => lhs; whnf) ?_)
          refine a_do rfl (o_move (by conv => lhs; whnf) ?_)
          refine a_do rfl (o_fcmp (by conv => lhs; whnf) (by conv => lhs; whnf) rfl (fun c5 => ?_) (fun c5 => ?_))
          ·
            have hge : geB (mP x (rowC q i xs) s) (mLeft x w (rowC q i xs) s) = true := c5
            refine a_do rfl (o_move (by conv => lhs; whnf) ?_)
            refine a_do rfl (o_move (by conv => lhs; whnf) ?_)
            refine a_do rfl (o_fcmp (by conv => lhs; whnf) (by conv => lhs; whnf) rfl (fun c6 => ?_) (fun c6 => ?_))
            ·
              have hfp := fI_pos (hW.2 s (by omega)).1 (hW.2 s (by omega)).2
              have hpos : 0 < (rowC q i xs).getD s 0 := of_decide_eq_true (hfp.symm.trans c6)
              have hh9 : mHit x w (rowC q i xs) s = true := hit_yes hgt hge hpos
              have hmr := mRes_ok hX hW hNW (by omega) hpos
              refine a_do rfl (o_pickT (by conv => lhs; whnf) (by conv => lhs; whnf) ?_)
              refine a_end ?_
              refine awp_condT (by conv => lhs; whnf) ?_
              refine awp_seq ?_
              refine awp_region rfl ?_
              refine a_do rfl (o_move (by conv => lhs; whnf) ?_)
              refine a_do rfl (o_move (by conv => lhs; whnf) ?_)
              refine a_do rfl (o_move (by conv => lhs; whnf) ?_)
              refine a_do rfl (o_fbin (by conv => lhs; whnf) (by conv => lhs; whnf) (fb_div hmr.1) ?_)
              refine a_do rfl (o_fbin (by conv => lhs; whnf) (by conv => lhs; whnf) (fadd_use hmr.2.1 hca) ?_)
              refine a_do rfl (o_assign (by conv => lhs; whnf) ?_)
              refine a_end ?_
              refine awp_ret ?_
              refine ⟨.inl rfl, [_], ⟨ares_tmp (by conv => lhs; whnf), trivial⟩, ?_⟩
              first | exact ⟨by rw [mAll_hit (by omega) ha hh9]; rfl, (by first | ((repeat (first | with_reducible exact Grown.refl _ | with_reducible apply Grown.push)); done) | repeat (first | exact Grown.refl _ | refine Grown.push ?_ _))⟩ | (obtain rfl : s = q.toNat := (by omega); exact ⟨by rw [mAll_none ha]; rfl, (by first | ((repeat (first | with_reducible exact Grown.refl _ | with_reducible apply Grown.push)); done) | repeat (first | exact Grown.refl _ | refine Grown.push ?_ _))⟩)
            ·
              have hfp := fI_pos (hW.2 s (by omega)).1 (hW.2 s (by omega)).2
              have hpos : ¬ 0 < (rowC q i xs).getD s 0 := of_decide_eq_false (hfp.symm.trans c6)
              have hh9 : mHit x w (rowC q i xs) s = false := hit_3 hpos
              have hia := idxTo_none ha (hit_at (n := q.toNat) (by omega) hh9)
              refine a_do rfl (o_pickT (by conv => lhs; whnf) (by conv => lhs; whnf) ?_)
              refine a_end ?_
              refine awp_condF (by conv => lhs; whnf) ?_
              refine awp_skip ?_
              refine awp_region rfl ?_
              refine a_do rfl (o_move (by conv => lhs; whnf) ?_)
              refine a_do rfl (o_move (by conv => lhs; whnf) ?_)
              refine a_do rfl (o_fbin (by conv => lhs; whnf) (by conv => lhs; whnf) (fb_sub hon) ?_)
              refine a_do rfl (o_assign (by conv => lhs; whnf) ?_)
              refine a_end ?_
              refine awp_region rfl ?_
              refine a_do rfl (o_move (by conv => lhs; whnf) ?_)
              refine a_do rfl (o_add (by conv => lhs; whnf) (by conv => lhs; whnf) (by omega) (by omega) ?_)
              refine a_do rfl (o_assign (by conv => lhs; whnf) ?_)
              refine a_end ?_
              refine ⟨s + 1, ⟨Slots.mk ⟨?_, ?_, ?_, ?_, ?_, trivial⟩, ?_, ?_⟩, ?_⟩
              all_goals first | rfl | omega | exact congrArg i64 (by omega) | exact congrArg fl hsk | exact ⟨by omega, hia⟩
          ·
            have hge : geB (mP x (rowC q i xs) s) (mLeft x w (rowC q i xs) s) = false := c5
            have hh9 : mHit x w (rowC q i xs) s = false := hit_2 hge
            have hia := idxTo_none ha (hit_at (n := q.toNat) (by omega) hh9)
            refine a_do rfl (o_move (by conv => lhs; whnf) ?_)
            refine a_no rfl ?_
            refine a_no rfl ?_
            refine a_do rfl (o_pickF (by conv => lhs; whnf) (by conv => lhs; whnf) ?_)
            refine a_end ?_
            refine awp_condF (by conv => lhs; whnf) ?_
            refine awp_skip ?_
            refine awp_region rfl ?_
            refine a_do rfl (o_move (by conv => lhs; whnf) ?_)
            refine a_do rfl (o_move (by conv => lhs; whnf) ?_)
            refine a_do rfl (o_fbin (by conv => lhs; whnf) (by conv => lhs; whnf) (fb_sub hon) ?_)
            refine a_do rfl (o_assign (by conv => lhs; whnf) ?_)
            refine a_end ?_
            refine awp_region rfl ?_
            refine a_do rfl (o_move (by conv => lhs; whnf) ?_)
            refine a_do rfl (o_add (by conv => lhs; whnf) (by conv => lhs; whnf) (by omega) (by omega) ?_)
            refine a_do rfl (o_assign (by conv => lhs; whnf) ?_)
            refine a_end ?_
            refine ⟨s + 1, ⟨Slots.mk ⟨?_, ?_, ?_, ?_, ?_, trivial⟩, ?_, ?_⟩, ?_⟩
            all_goals first | rfl | omega | exact congrArg i64 (by omega) | exact congrArg fl hsk | exact ⟨by omega, hia⟩
        ·
          have hca := cA_no c3
          refine a_end ?_
          refine awp_condF (by conv => lhs; whnf) ?_
          refine awp_skip ?_
          refine awp_seq ?_
          refine awp_draw Try_mixed (by kernel_rfl) rfl ?_
          refine d_do rfl (o_move (by conv => lhs; whnf) ⟨rfl, rfl⟩) (by first | exact .prim rfl | (apply within_ptr; (with_reducible repeat (first | assumption | (apply lk_last; (try simp only [ll1, ll2, ll3, ll4, lls_len, lls2_len, markL_len]); first | done | omega) | apply lk_prev)); done)) ?_
          refine d_do rfl (o_nilCheck (by conv => lhs; whnf) ⟨rfl, rfl⟩) (by first | (apply within_ptr; (with_reducible repeat (first | assumption | (apply lk_last; (try simp only [ll1, ll2, ll3, ll4, lls_len, lls2_len, markL_len]); first | done | omega) | apply lk_prev)); done) | exact .prim rfl) ?_
          refine d_do rfl (o_fieldAddr Try.underlying29 rfl ty22 (by conv => lhs; whnf) (by with_reducible repeat (first | assumption | (apply lk_last; (try simp only [ll1, ll2, ll3, ll4, lls_len, lls2_len, markL_len]); first | done | omega) | apply lk_prev)) (by rfl) ⟨rfl, rfl⟩) (by first | (apply within_ptr; (with_reducible repeat (first | assumption | (apply lk_last; (try simp only [ll1, ll2, ll3, ll4, lls_len, lls2_len, markL_len]); first | done | omega) | apply lk_prev)); done) | exact .prim rfl) ?_
          refine d_do rfl (o_load Try.underlying22 rfl (by conv => lhs; whnf) (by with_reducible repeat (first | assumption | (apply lk_last; (try simp only [ll1, ll2, ll3, ll4, lls_len, lls2_len, markL_len]); first | done | omega) | apply lk_prev)) (by rfl) (by rfl) ⟨rfl, rfl⟩) (by first | exact .prim rfl | exact within_func0 | (apply within_ptr; (with_reducible repeat (first | assumption | (apply lk_last; (try simp only [ll1, ll2, ll3, ll4, lls_len, lls2_len, markL_len]); first | done | omega) | apply lk_prev)); done) | (apply within_sl; (with_reducible repeat (first | assumption | (apply lk_last; (try simp only [ll1, ll2, ll3, ll4, lls_len, lls2_len, markL_len]); first | done | omega) | apply lk_prev)); done) | ((try apply within_sub); apply Ints.within; (with_reducible repeat (first | assumption | apply Ints.app)); done) | (apply Lists.within; (with_reducible repeat (first | assumption | apply Lists.app)); done) | (apply Flts.within; (with_reducible repeat (first | assumption | apply Flts.app)); done) | (apply Byts.within; (with_reducible repeat (first | assumption | apply Byts.app)); done) | exact within_nilw | exact within_nilb | (apply within_tup2 <;> first | exact .prim rfl | (apply within_sl; (with_reducible repeat (first | assumption | (apply lk_last; (try simp only [ll1, ll2, ll3, ll4, lls_len, lls2_len, markL_len]); first | done | omega) | apply lk_prev)); done) | (apply Within.agg2 <;> (first | exact .prim rfl | (apply within_ptr; (with_reducible repeat (first | assumption | (apply lk_last; (try simp only [ll1, ll2, ll3, ll4, lls_len, lls2_len, markL_len]); first | done | omega) | apply lk_prev)); done) | (apply within_sl; (with_reducible repeat (first | assumption | (apply lk_last; (try simp only [ll1, ll2, ll3, ll4, lls_len, lls2_len, markL_len]); first | done | omega) | apply lk_prev)); done) | ((try apply within_sub); apply Ints.within; (with_reducible repeat (first | assumption | apply Ints.app)); done) | (apply Lists.within; (with_reducible repeat (first | assumption | apply Lists.app)); done) | (apply within_sl; (with_reducible repeat (first | assumption | (apply lk_last; (try simp only [ll1, ll2, ll3, ll4, lls_len, lls2_len, markL_len]); first | done | omega) | apply lk_prev)); done)))) | exact Within.mono ‹Within _ (Value.func _ _ _)› (by (try simp only [ll1, ll2, ll3, ll4, lls_len, lls2_len, markL_len]); first | done | omega) | (apply Within.agg4 <;> (first | exact .prim rfl | (apply within_ptr; (with_reducible repeat (first | assumption | (apply lk_last; (try simp only [ll1, ll2, ll3, ll4, lls_len, lls2_len, markL_len]); first | done | omega) | apply lk_prev)); done) | (apply within_sl; (with_reducible repeat (first | assumption | (apply lk_last; (try simp only [ll1, ll2, ll3, ll4, lls_len, lls2_len, markL_len]); first | done | omega) | apply lk_prev)); done) | ((try apply within_sub); apply Ints.within; (with_reducible repeat (first | assumption | apply Ints.app)); done) | (apply Lists.within; (with_reducible repeat (first | assumption | apply Lists.app)); done) | (apply within_sl; (with_reducible repeat (first | assumption | (apply lk_last; (try simp only [ll1, ll2, ll3, ll4, lls_len, lls2_len, markL_len]); first | done | omega) | apply lk_prev)); done))) | (apply Within.agg3 <;> (first | exact .prim rfl | (apply within_ptr; (with_reducible repeat (first | assumption | (apply lk_last; (try simp only [ll1, ll2, ll3, ll4, lls_len, lls2_len, markL_len]); first | done | omega) | apply lk_prev)); done) | (apply within_sl; (with_reducible repeat (first | assumption | (apply lk_last; (try simp only [ll1, ll2, ll3, ll4, lls_len, lls2_len, markL_len]); first | done | omega) | apply lk_prev)); done) | ((try apply within_sub); apply Ints.within; (with_reducible repeat (first | assumption | apply Ints.app)); done) | (apply Lists.within; (with_reducible repeat (first | assumption | apply Lists.app)); done) | (apply within_sl; (with_reducible repeat (first | assumption | (apply lk_last; (try simp only [ll1, ll2, ll3, ll4, lls_len, lls2_len, markL_len]); first | done | omega) | apply lk_prev)); done))) | (apply Within.agg2 <;> (first | exact .prim rfl | (apply within_ptr; (with_reducible repeat (first | assumption | (apply lk_last; (try simp only [ll1, ll2, ll3, ll4, lls_len, lls2_len, markL_len]); first | done | omega) | apply lk_prev)); done) | (apply within_sl; (with_reducible repeat (first | assumption | (apply lk_last; (try simp only [ll1, ll2, ll3, ll4, lls_len, lls2_len, markL_len]); first | done | omega) | apply lk_prev)); done) | ((try apply within_sub); apply Ints.within; (with_reducible repeat (first | assumption | apply Ints.app)); done) | (apply Lists.within; (with_reducible repeat (first | assumption | apply Lists.app)); done) | (apply within_sl; (with_reducible repeat (first | assumption | (apply lk_last; (try simp only [ll1, ll2, ll3, ll4, lls_len, lls2_len, markL_len]); first | done | omega) | apply lk_prev)); done)))) ?_
          refine d_do rfl (o_move (by conv => lhs; whnf) ⟨rfl, rfl⟩) (by exact .prim rfl) ?_
          refine d_do rfl (o_move (by conv => lhs; whnf) ⟨rfl, rfl⟩) (by first | exact .prim rfl | (apply within_ptr; (with_reducible repeat (first | assumption | (apply lk_last; (try simp only [ll1, ll2, ll3, ll4, lls_len, lls2_len, markL_len]); first | done | omega) | apply lk_prev)); done)) ?_
          refine d_do rfl (o_nilCheck (by conv => lhs; whnf) ⟨rfl, rfl⟩) (by first | (apply within_ptr; (with_reducible repeat (first | assumption | (apply lk_last; (try simp only [ll1, ll2, ll3, ll4, lls_len, lls2_len, markL_len]); first | done | omega) | apply lk_prev)); done) | exact .prim rfl) ?_
          refine d_do rfl (o_fieldAddr Try.underlying29 rfl ty2 (by conv => lhs; whnf) (by with_reducible repeat (first | assumption | (apply lk_last; (try simp only [ll1, ll2, ll3, ll4, lls_len, lls2_len, markL_len]); first | done | omega) | apply lk_prev)) (by rfl) ⟨rfl, rfl⟩) (by first | (apply within_ptr; (with_reducible repeat (first | assumption | (apply lk_last; (try simp only [ll1, ll2, ll3, ll4, lls_len, lls2_len, markL_len]); first | done | omega) | apply lk_prev)); done) | exact .prim rfl) ?_
          refine d_do rfl (o_load Try.underlying2 rfl (by conv => lhs; whnf) (by with_reducible repeat (first | assumption | (apply lk_last; (try simp only [ll1, ll2, ll3, ll4, lls_len, lls2_len, markL_len]); first | done | omega) | apply lk_prev)) (by rfl) (by rfl) ⟨rfl, rfl⟩) (by exact .prim rfl) ?_
          refine d_do rfl (o_mul (by conv => lhs; whnf) (by conv => lhs; whnf) (by omega) (by omega) ⟨rfl, rfl⟩) (by exact .prim rfl) ?_
          refine d_do rfl (o_move (by conv => lhs; whnf) ⟨rfl, rfl⟩) (by exact .prim rfl) ?_
          refine d_do rfl (o_add (by conv => lhs; whnf) (by conv => lhs; whnf) (by omega) (by omega) ⟨rfl, rfl⟩) (by exact .prim rfl) ?_
          first | refine d_indexI rfl Try.underlying22 ty2 (by conv => lhs; whnf) (by first | ((with_reducible repeat (first | assumption | apply Ints.app)); done) | repeat (first | with_reducible assumption | exact ints_nil | exact Ints.own (by with_reducible repeat (first | assumption | (apply lk_last; (try simp only [ll1, ll2, ll3, ll4, lls_len, lls2_len, markL_len]); first | done | omega) | apply lk_prev)) (by first | rfl | exact upto_len | assumption | exact map_len | exact List.length_set | (rw [List.length_set]; assumption)) | exact Ints.tail (by with_reducible repeat (first | assumption | (apply lk_last; (try simp only [ll1, ll2, ll3, ll4, lls_len, lls2_len, markL_len]); first | done | omega) | apply lk_prev)) (by first | rfl | exact upto_len | assumption | exact map_len | exact List.length_set | (rw [List.length_set]; assumption)) | with_reducible apply Ints.app | (refine Ints.sub (by with_reducible repeat (first | assumption | apply Ints.app)) (by omega) (by omega) (by omega)))) (by conv => lhs; whnf) (by omega) (fun p7 hp7 => ?_) | refine d_indexZ rfl Try.underlying22 ty2 (by conv => lhs; whnf) (by first | ((with_reducible repeat (first | assumption | apply Ints.app)); done) | repeat (first | with_reducible assumption | exact ints_nil | exact Ints.own (by with_reducible repeat (first | assumption | (apply lk_last; (try simp only [ll1, ll2, ll3, ll4, lls_len, lls2_len, markL_len]); first | done | omega) | apply lk_prev)) (by first | rfl | exact upto_len | assumption | exact map_len | exact List.length_set | (rw [List.length_set]; assumption)) | exact Ints.tail (by with_reducible repeat (first | assumption | (apply lk_last; (try simp only [ll1, ll2, ll3, ll4, lls_len, lls2_len, markL_len]); first | done | omega) | apply lk_prev)) (by first | rfl | exact upto_len | assumption | exact map_len | exact List.length_set | (rw [List.length_set]; assumption)) | with_reducible apply Ints.app | (refine Ints.sub (by with_reducible repeat (first | assumption | apply Ints.app)) (by omega) (by omega) (by omega)))) (by conv => lhs; whnf) (by omega) (by omega) (fun p7 hp7 => ?_)
          refine d_do rfl (o_loadI Try.underlying2 rfl (by conv => lhs; whnf) hp7 (by first | ((with_reducible repeat (first | assumption | apply Ints.app)); done) | repeat (first | with_reducible assumption | exact ints_nil | exact Ints.own (by with_reducible repeat (first | assumption | (apply lk_last; (try simp only [ll1, ll2, ll3, ll4, lls_len, lls2_len, markL_len]); first | done | omega) | apply lk_prev)) (by first | rfl | exact upto_len | assumption | exact map_len | exact List.length_set | (rw [List.length_set]; assumption)) | exact Ints.tail (by with_reducible repeat (first | assumption | (apply lk_last; (try simp only [ll1, ll2, ll3, ll4, lls_len, lls2_len, markL_len]); first | done | omega) | apply lk_prev)) (by first | rfl | exact upto_len | assumption | exact map_len | exact List.length_set | (rw [List.length_set]; assumption)) | with_reducible apply Ints.app | (refine Ints.sub (by with_reducible repeat (first | assumption | apply Ints.app)) (by omega) (by omega) (by omega)))) (by omega) ⟨rfl, rfl⟩) (by exact .prim rfl) ?_
          rw [rowC_get hH.1 hH.2 (by omega)]
          refine d_do rfl (o_convI32 Try.underlying2 Try.underlying47 (by conv => lhs; whnf) ⟨rfl, rfl⟩) (by exact .prim rfl) ?_
          refine d_do rfl (o_assign (by conv => lhs; whnf) ⟨rfl, rfl⟩) (by exact .prim rfl) ?_
          refine d_end ?_
          refine awp_seq ?_
          refine awp_region rfl ?_
          refine a_do rfl (o_move (by conv => lhs; whnf) ?_)
          refine a_do rfl (o_move (by conv => lhs; whnf) ?_)
          refine a_do rfl (o_move (by conv => lhs; whnf) ?_)
          refine a_do rfl (o_fbin (by conv => lhs; whnf) (by conv => lhs; whnf) (fsub_use hmp.1 hca) ?_)
          refine a_do rfl (o_fbin (by conv => lhs; whnf) (by conv => lhs; whnf) (fb_mul hmp.2.1) ?_)
          refine a_do rfl (o_assign (by conv => lhs; whnf) ?_)
          refine a_end ?_
          refine awp_seq ?_
          refine awp_seq ?_
          refine awp_region rfl ?_
          refine a_do rfl (o_move (by conv => lhs; whnf) ?_)
          refine a_do rfl (o_move (by conv => lhs; whnf) ?_)
          refine a_do rfl (o_fcmp (by conv => lhs; whnf) (by conv => lhs; whnf) rfl (fun c8 => ?_) (fun c8 => ?_))
          ·
            have hge : geB (mP x (rowC q i xs) s) (mLeft x w (rowC q i xs) s) = true := c8
            refine a_do rfl (o_move (by conv => lhs; whnf) ?_)
            refine a_do rfl (o_move (by conv => lhs; whnf) ?_)
            refine a_do rfl (o_fcmp (by conv => lhs; whnf) (by conv => lhs; whnf) rfl (fun c9 => ?_) (fun c9 => ?_))
            ·
              have hfp := fI_pos (hW.2 s (by omega)).1 (hW.2 s (by omega)).2
              have hpos : 0 < (rowC q i xs).getD s 0 := of_decide_eq_true (hfp.symm.trans c9)
              have hh9 : mHit x w (rowC q i xs) s = true := hit_yes hgt hge hpos
              have hmr := mRes_ok hX hW hNW (by omega) hpos
              refine a_do rfl (o_pickT (by conv => lhs; whnf) (by conv => lhs; whnf) ?_)
              refine a_end ?_
              refine awp_condT (by conv => lhs; whnf) ?_
              refine awp_seq ?_
              refine awp_region rfl ?_
              refine a_do rfl (o_move (by conv => lhs; whnf) ?_)
              refine a_do rfl (o_move (by conv => lhs; whnf) ?_)
              refine a_do rfl (o_move (by conv => lhs; whnf) ?_)
              refine a_do rfl (o_fbin (by conv => lhs; whnf) (by conv => lhs; whnf) (fb_div hmr.1) ?_)
              refine a_do rfl (o_fbin (by conv => lhs; whnf) (by conv => lhs; whnf) (fadd_use hmr.2.1 hca) ?_)
              refine a_do rfl (o_assign (by conv => lhs; whnf) ?_)
              refine a_end ?_
              refine awp_ret ?_
              refine ⟨.inl rfl, [_], ⟨ares_tmp (by conv => lhs; whnf), trivial⟩, ?_⟩
              first | exact ⟨by rw [mAll_hit (by omega) ha hh9]; rfl, (by first | ((repeat (first | with_reducible exact Grown.refl _ | with_reducible apply Grown.push)); done) | repeat (first | exact Grown.refl _ | refine Grown.push ?_ _))⟩ | (obtain rfl : s = q.toNat := (by omega); exact ⟨by rw [mAll_none ha]; rfl, (by first | ((repeat (first | with_reducible exact Grown.refl _ | with_reducible apply Grown.push)); done) | repeat (first | exact Grown.refl _ | refine Grown.push ?_ _))⟩)
            ·
              have hfp := fI_pos (hW.2 s (by omega)).1 (hW.2 s (by omega)).2
              have hpos : ¬ 0 < (rowC q i xs).getD s 0 := of_decide_eq_false (hfp.symm.trans c9)
              have hh9 : mHit x w (rowC q i xs) s = false := hit_3 hpos
              have hia := idxTo_none ha (hit_at (n := q.toNat) (by omega) hh9)
              refine a_do rfl (o_pickT (by conv => lhs; whnf) (by conv => lhs; whnf) ?_)
              refine a_end ?_
              refine awp_condF (by conv => lhs; whnf) ?_
              refine awp_skip ?_
              refine awp_region rfl ?_
              refine a_do rfl (o_move (by conv => lhs; whnf) ?_)
              refine a_do rfl (o_move (by conv => lhs; whnf) ?_)
              refine a_do rfl (o_fbin (by conv => lhs; whnf) (by conv => lhs; whnf) (fb_sub hon) ?_)
              refine a_do rfl (o_assign (by conv => lhs; whnf) ?_)
              refine a_end ?_
              refine awp_region rfl ?_
              refine a_do rfl (o_move (by conv => lhs; whnf) ?_)
              refine a_do rfl (o_add (by conv => lhs; whnf) (by conv => lhs; whnf) (by omega) (by omega) ?_)
              refine a_do rfl (o_assign (by conv => lhs; whnf) ?_)
              refine a_end ?_
              refine ⟨s + 1, ⟨Slots.mk ⟨?_, ?_, ?_, ?_, ?_, trivial⟩, ?_, ?_⟩, ?_⟩
              all_goals first | rfl | omega | exact congrArg i64 (by omega) | exact congrArg fl hsk | exact ⟨by omega, hia⟩
          ·
            have hge : geB (mP x (rowC q i xs) s) (mLeft x w (rowC q i xs) s) = false := c8
            have hh9 : mHit x w (rowC q i xs) s = false := hit_2 hge
            have hia := idxTo_none ha (hit_at (n := q.toNat) (by omega) hh9)
            refine a_do rfl (o_move (by conv => lhs; whnf) ?_)
            refine a_no rfl ?_
            refine a_no rfl ?_
            refine a_do rfl (o_pickF (by conv => lhs; whnf) (by conv => lhs; whnf) ?_)
            refine a_end ?_
            refine awp_condF (by conv => lhs; whnf) ?_
            refine awp_skip ?_
            refine awp_region rfl ?_
            refine a_do rfl (o_move (by conv => lhs; whnf) ?_)
            refine a_do rfl (o_move (by conv => lhs; whnf) ?_)
            refine a_do rfl (o_fbin (by conv => lhs; whnf) (by conv => lhs; whnf) (fb_sub hon) ?_)
            refine a_do rfl (o_assign (by conv => lhs; whnf) ?_)
            refine a_end ?_
            refine awp_region rfl ?_
            refine a_do rfl (o_move (by conv => lhs; whnf) ?_)
            refine a_do rfl (o_add (by conv => lhs; whnf) (by conv => lhs; whnf) (by omega) (by omega) ?_)
            refine a_do rfl (o_assign (by conv => lhs; whnf) ?_)
            refine a_end ?_
            refine ⟨s + 1, ⟨Slots.mk ⟨?_, ?_, ?_, ?_, ?_, trivial⟩, ?_, ?_⟩, ?_⟩
            all_goals first | rfl | omega | exact congrArg i64 (by omega) | exact congrArg fl hsk | exact ⟨by omega, hia⟩
    ·
      refine a_end ?_
      refine awp_condF (by conv => lhs; whnf) ?_
      refine awp_exit ?_
      refine awp_seq ?_
      refine awp_region rfl ?_
      refine a_do rfl (o_move (by conv => lhs; whnf) ?_)
      refine a_do rfl (o_nilCheck (by conv => lhs; whnf) ?_)
      refine a_do rfl (o_fieldAddr Try.underlying29 rfl ty2 (by conv => lhs; whnf) (by with_reducible repeat (first | assumption | (apply lk_last; (try simp only [ll1, ll2, ll3, ll4, lls_len, lls2_len, markL_len]); first | done | omega) | apply lk_prev)) (by rfl) ?_)
      refine a_do rfl (o_load Try.underlying2 rfl (by conv => lhs; whnf) (by with_reducible repeat (first | assumption | (apply lk_last; (try simp only [ll1, ll2, ll3, ll4, lls_len, lls2_len, markL_len]); first | done | omega) | apply lk_prev)) (by rfl) (by rfl) ?_)
      refine a_do rfl (o_convI32 Try.underlying2 Try.underlying47 (by conv => lhs; whnf) ?_)
      refine a_do rfl (o_assign (by conv => lhs; whnf) ?_)
      refine a_end ?_
      refine awp_ret ?_
      refine ⟨.inl rfl, [_], ⟨ares_tmp (by conv => lhs; whnf), trivial⟩, ?_⟩
      first | exact ⟨by rw [mAll_hit (by omega) ha hh9]; rfl, (by first | ((repeat (first | with_reducible exact Grown.refl _ | with_reducible apply Grown.push)); done) | repeat (first | exact Grown.refl _ | refine Grown.push ?_ _))⟩ | (obtain rfl : s = q.toNat := (by omega); exact ⟨by rw [mAll_none ha]; rfl, (by first | ((repeat (first | with_reducible exact Grown.refl _ | with_reducible apply Grown.push)); done) | repeat (first | exact Grown.refl _ | refine Grown.push ?_ _))⟩)

theorem implCakeWorthY_ret (p q i : Int) (x y : Nat) (xs : List Int) (v : Value) (h : AHeap) (hv : Ints h v xs) (hl : xs.length ≤ 1073741824) (hk : cwK p q i xs x y = true) : Ret Try.prog 28 [.agg #[i64 p, i64 q, v], i64 i, fl x, fl y] h (.tuple #[fl (cSum x y (rowC q i xs) q.toNat), .bool true]) h := by
  rw [cw_yes hk]
  exact implCakeWorth_ret p q i x y xs v h hv hl

theorem implCakeMarkY_ret (p q i : Int) (x w : Nat) (xs : List Int) (v : Value) (h : AHeap) (hv : Ints h v xs) (hl : xs.length ≤ 1073741824) (hk : cmK p q i xs x w = true) : Ret Try.prog 32 [.agg #[i64 p, i64 q, v], i64 i, fl x, fl w] h (.tuple #[fl (mAll q x w (rowC q i xs)), .bool true]) h := by
  rw [cm_yes hk]
  exact implCakeMark_ret p q i x w xs v h hv hl

set_option maxRecDepth 10000 in
theorem sameFloatN_ret (h : AHeap) : Ret Try.prog 54 [anyV 0, anyV 0] h (.bool true) h := by
  refine ret_of (.prim rfl) ?_
  refine tri_of_body Try.func54 rfl (by kernel_rfl) (by show 2 ≤ 37; decide) ?_
  refine awp_seq ?_
  refine awp_region rfl ?_
  refine a_do rfl (o_assign (by conv => lhs; whnf) ?_)
  refine a_end ?_
  refine awp_seq ?_
  refine awp_seq ?_
  refine awp_region rfl ?_
  refine a_do rfl (o_move (by conv => lhs; whnf) ?_)
  refine a_do rfl (o_move (by conv => lhs; whnf) ?_)
  refine a_do rfl (o_fneN (by conv => lhs; whnf) (by conv => lhs; whnf) ?_)
  refine a_do rfl (o_move (by conv => lhs; whnf) ?_)
  refine a_no rfl ?_
  refine a_no rfl ?_
  refine a_no rfl ?_
  refine a_do rfl (o_pickT (by conv => lhs; whnf) (by conv => lhs; whnf) ?_)
  refine a_end ?_
  refine awp_condT (by conv => lhs; whnf) ?_
  refine awp_seq ?_
  refine awp_region rfl ?_
  refine a_do rfl (o_move (by conv => lhs; whnf) ?_)
  refine a_do rfl (o_move (by conv => lhs; whnf) ?_)
  refine a_do rfl (o_fneN (by conv => lhs; whnf) (by conv => lhs; whnf) ?_)
  refine a_do rfl (o_move (by conv => lhs; whnf) ?_)
  refine a_do rfl (o_move (by conv => lhs; whnf) ?_)
  refine a_do rfl (o_move (by conv => lhs; whnf) ?_)
  refine a_do rfl (o_fneN (by conv => lhs; whnf) (by conv => lhs; whnf) ?_)
  refine a_do rfl (o_pickT (by conv => lhs; whnf) (by conv => lhs; whnf) ?_)
  refine a_do rfl (o_assign (by conv => lhs; whnf) ?_)
  refine a_end ?_
  refine awp_ret ?_
  refine ⟨.inl rfl, [_], ⟨ares_tmp (by conv => lhs; whnf), trivial⟩, ?_⟩
  exact ⟨rfl, (by first | ((repeat (first | with_reducible exact Grown.refl _ | with_reducible apply Grown.push)); done) | repeat (first | exact Grown.refl _ | refine Grown.push ?_ _))⟩

theorem sameFloatW_ret (x : Nat) (u1 u2 : Value) (h : AHeap) (h1 : u1 = widV x) (h2 : u2 = widV x) : Ret Try.prog 54 [u1, u2] h (.bool true) h := by
  subst h1 h2
  cases hn : (Ieee.single.read x).isNaN with
  | true => rw [widV_nan hn]; exact sameFloatN_ret h
  | false => rw [widV_nn hn]; exact sameFloat_ret _ h (wid_ok hn).2

set_option maxRecDepth 10000 in
theorem eqFloat32S_ret (xs : List Nat) (v w : Value) (h : AHeap) (hv : Flts h v xs) (hw : Flts h w xs) (hl : xs.length ≤ 1073741824) : Ret Try.prog 14 [v, w] h (.bool true) h := by
  refine ret_of (.prim rfl) ?_
  refine tri_of_body Try.func14 rfl (by kernel_rfl) (by show 2 ≤ 29; decide) ?_
  refine awp_seq ?_
  refine awp_region rfl ?_
  refine a_do rfl (o_assign (by conv => lhs; whnf) ?_)
  refine a_end ?_
  refine awp_seq ?_
  refine awp_seq ?_
  refine awp_region rfl ?_
  refine a_do rfl (o_move (by conv => lhs; whnf) ?_)
  refine a_do rfl (o_lenF Try.underlying25 (by conv => lhs; whnf) (by first | ((with_reducible repeat (first | assumption | apply Flts.app)); done) | with_reducible exact flts_nil | exact Flts.own (by with_reducible repeat (first | assumption | (apply lk_last; (try simp only [ll1, ll2, ll3, ll4, lls_len, lls2_len, markL_len]); first | done | omega) | apply lk_prev)) (by first | rfl | exact upto_len | assumption | exact map_len | exact List.length_set | (rw [List.length_set]; assumption)) | exact flts_nil) ?_)
  refine a_do rfl (o_move (by conv => lhs; whnf) ?_)
  refine a_do rfl (o_lenF Try.underlying25 (by conv => lhs; whnf) (by first | ((with_reducible repeat (first | assumption | apply Flts.app)); done) | with_reducible exact flts_nil | exact Flts.own (by with_reducible repeat (first | assumption | (apply lk_last; (try simp only [ll1, ll2, ll3, ll4, lls_len, lls2_len, markL_len]); first | done | omega) | apply lk_prev)) (by first | rfl | exact upto_len | assumption | exact map_len | exact List.length_set | (rw [List.length_set]; assumption)) | exact flts_nil) ?_)
  refine a_do rfl (o_neq (by conv => lhs; whnf) (by conv => lhs; whnf) (fun c1 => ?_) (fun c1 => ?_))
  ·
    exact absurd rfl c1
  ·
    refine a_end ?_
    refine awp_condF (by conv => lhs; whnf) ?_
    refine awp_skip ?_
    refine awp_seq ?_
    refine awp_seq ?_
    refine awp_region rfl ?_
    refine a_do rfl (o_assign (by conv => lhs; whnf) ?_)
    refine a_end ?_
    refine awp_block ?_
    refine awp_loop (σ := Nat) (fun s env1 h1 => Slots env1 [(0, v), (1, w), (5, i64 s)] ∧ h1 = h ∧ s ≤ xs.length) (fun s => xs.length - s) 0 ?_ ?_
    · refine ⟨Slots.mk ⟨?_, ?_, ?_, trivial⟩, ?_, ?_⟩
      all_goals first | rfl | omega | (simp; done)
    · intro s env1 h1 hI1
      obtain ⟨⟨e1, rfl⟩, hkeep, hs⟩ := hI1
      obtain rfl := hkeep.symm
      refine awp_seq ?_
      refine awp_seq ?_
      refine awp_region rfl ?_
      refine a_do rfl (o_move (by conv => lhs; whnf) ?_)
      refine a_do rfl (o_move (by conv => lhs; whnf) ?_)
      refine a_do rfl (o_lenF Try.underlying25 (by conv => lhs; whnf) (by first | ((with_reducible repeat (first | assumption | apply Flts.app)); done) | with_reducible exact flts_nil | exact Flts.own (by with_reducible repeat (first | assumption | (apply lk_last; (try simp only [ll1, ll2, ll3, ll4, lls_len, lls2_len, markL_len]); first | done | omega) | apply lk_prev)) (by first | rfl | exact upto_len | assumption | exact map_len | exact List.length_set | (rw [List.length_set]; assumption)) | exact flts_nil) ?_)
      refine a_do rfl (o_lss (by conv => lhs; whnf) (by conv => lhs; whnf) (fun c2 => ?_) (fun c2 => ?_))
      ·
        refine a_end ?_
        refine awp_condT (by conv => lhs; whnf) ?_
        refine awp_skip ?_
        refine awp_seq ?_
        refine awp_block ?_
        refine awp_seq ?_
        refine awp_draw Try_mixed (by kernel_rfl) rfl ?_
        refine d_do rfl (o_move (by conv => lhs; whnf) ⟨rfl, rfl⟩) (by first | exact .prim rfl | (apply within_sl; (with_reducible repeat (first | assumption | (apply lk_last; (try simp only [ll1, ll2, ll3, ll4, lls_len, lls2_len, markL_len]); first | done | omega) | apply lk_prev)); done) | ((try apply within_sub); apply Ints.within; (with_reducible repeat (first | assumption | apply Ints.app)); done) | (apply Lists.within; (with_reducible repeat (first | assumption | apply Lists.app)); done) | (apply Flts.within; (with_reducible repeat (first | assumption | apply Flts.app)); done) | (apply Byts.within; (with_reducible repeat (first | assumption | apply Byts.app)); done)) ?_
        refine d_do rfl (o_move (by conv => lhs; whnf) ⟨rfl, rfl⟩) (by exact .prim rfl) ?_
        first | refine d_indexF rfl Try.underlying25 ty47 (by conv => lhs; whnf) (by first | ((with_reducible repeat (first | assumption | apply Flts.app)); done) | with_reducible exact flts_nil | exact Flts.own (by with_reducible repeat (first | assumption | (apply lk_last; (try simp only [ll1, ll2, ll3, ll4, lls_len, lls2_len, markL_len]); first | done | omega) | apply lk_prev)) (by first | rfl | exact upto_len | assumption | exact map_len | exact List.length_set | (rw [List.length_set]; assumption)) | exact flts_nil) (by conv => lhs; whnf) (by omega) (fun p3 hp3 => ?_) | refine d_indexFZ rfl Try.underlying25 ty47 (by conv => lhs; whnf) (by first | ((with_reducible repeat (first | assumption | apply Flts.app)); done) | with_reducible exact flts_nil | exact Flts.own (by with_reducible repeat (first | assumption | (apply lk_last; (try simp only [ll1, ll2, ll3, ll4, lls_len, lls2_len, markL_len]); first | done | omega) | apply lk_prev)) (by first | rfl | exact upto_len | assumption | exact map_len | exact List.length_set | (rw [List.length_set]; assumption)) | exact flts_nil) (by conv => lhs; whnf) (by omega) (by omega) (fun p3 hp3 => ?_)
        refine d_do rfl (o_loadF Try.underlying47 rfl (by conv => lhs; whnf) hp3 (by first | ((with_reducible repeat (first | assumption | apply Flts.app)); done) | with_reducible exact flts_nil | exact Flts.own (by with_reducible repeat (first | assumption | (apply lk_last; (try simp only [ll1, ll2, ll3, ll4, lls_len, lls2_len, markL_len]); first | done | omega) | apply lk_prev)) (by first | rfl | exact upto_len | assumption | exact map_len | exact List.length_set | (rw [List.length_set]; assumption)) | exact flts_nil) (by omega) ⟨rfl, rfl⟩) (by exact .prim rfl) ?_
        refine d_convW2 rfl Try.underlying47 Try.underlying52 (by conv => lhs; whnf) (fun uk4 huk4 => ?_)
        try simp at hk4
        refine d_do rfl (o_move (by conv => lhs; whnf) ⟨rfl, rfl⟩) (by first | exact .prim rfl | (apply within_sl; (with_reducible repeat (first | assumption | (apply lk_last; (try simp only [ll1, ll2, ll3, ll4, lls_len, lls2_len, markL_len]); first | done | omega) | apply lk_prev)); done) | ((try apply within_sub); apply Ints.within; (with_reducible repeat (first | assumption | apply Ints.app)); done) | (apply Lists.within; (with_reducible repeat (first | assumption | apply Lists.app)); done) | (apply Flts.within; (with_reducible repeat (first | assumption | apply Flts.app)); done) | (apply Byts.within; (with_reducible repeat (first | assumption | apply Byts.app)); done)) ?_
        refine d_do rfl (o_move (by conv => lhs; whnf) ⟨rfl, rfl⟩) (by exact .prim rfl) ?_
        first | refine d_indexF rfl Try.underlying25 ty47 (by conv => lhs; whnf) (by first | ((with_reducible repeat (first | assumption | apply Flts.app)); done) | with_reducible exact flts_nil | exact Flts.own (by with_reducible repeat (first | assumption | (apply lk_last; (try simp only [ll1, ll2, ll3, ll4, lls_len, lls2_len, markL_len]); first | done | omega) | apply lk_prev)) (by first | rfl | exact upto_len | assumption | exact map_len | exact List.length_set | (rw [List.length_set]; assumption)) | exact flts_nil) (by conv => lhs; whnf) (by omega) (fun p5 hp5 => ?_) | refine d_indexFZ rfl Try.underlying25 ty47 (by conv => lhs; whnf) (by first | ((with_reducible repeat (first | assumption | apply Flts.app)); done) | with_reducible exact flts_nil | exact Flts.own (by with_reducible repeat (first | assumption | (apply lk_last; (try simp only [ll1, ll2, ll3, ll4, lls_len, lls2_len, markL_len]); first | done | omega) | apply lk_prev)) (by first | rfl | exact upto_len | assumption | exact map_len | exact List.length_set | (rw [List.length_set]; assumption)) | exact flts_nil) (by conv => lhs; whnf) (by omega) (by omega) (fun p5 hp5 => ?_)
        refine d_do rfl (o_loadF Try.underlying47 rfl (by conv => lhs; whnf) hp5 (by first | ((with_reducible repeat (first | assumption | apply Flts.app)); done) | with_reducible exact flts_nil | exact Flts.own (by with_reducible repeat (first | assumption | (apply lk_last; (try simp only [ll1, ll2, ll3, ll4, lls_len, lls2_len, markL_len]); first | done | omega) | apply lk_prev)) (by first | rfl | exact upto_len | assumption | exact map_len | exact List.length_set | (rw [List.length_set]; assumption)) | exact flts_nil) (by omega) ⟨rfl, rfl⟩) (by exact .prim rfl) ?_
        refine d_convW2 rfl Try.underlying47 Try.underlying52 (by conv => lhs; whnf) (fun uk6 huk6 => ?_)
        try simp at hk6
        refine d_callB rfl (lmap_cons (by conv => lhs; whnf) (lmap_cons (by conv => lhs; whnf) lmap_nil)) (sameFloatW_ret _ _ _ _ (by assumption) (by assumption)) (fun c7 => ?_) (fun c7 => ?_)
        ·
          refine d_do rfl (o_notT (by conv => lhs; whnf) ⟨rfl, rfl⟩) (by exact .prim rfl) ?_
          refine d_end ?_
          refine awp_condF (by conv => lhs; whnf) ?_
          refine awp_skip ?_
          refine awp_region rfl ?_
          refine a_do rfl (o_move (by conv => lhs; whnf) ?_)
          refine a_do rfl (o_add (by conv => lhs; whnf) (by conv => lhs; whnf) (by omega) (by omega) ?_)
          refine a_do rfl (o_assign (by conv => lhs; whnf) ?_)
          refine a_end ?_
          refine ⟨s + 1, ⟨Slots.mk ⟨?_, ?_, ?_, trivial⟩, ?_, ?_⟩, ?_⟩
          all_goals first | rfl | omega | exact congrArg i64 (by omega)
        ·
          cases c7
      ·
        refine a_end ?_
        refine awp_condF (by conv => lhs; whnf) ?_
        refine awp_exit ?_
        refine awp_seq ?_
        refine awp_region rfl ?_
        refine a_do rfl (o_assign (by conv => lhs; whnf) ?_)
        refine a_end ?_
        refine awp_ret ?_
        refine ⟨.inl rfl, [_], ⟨ares_tmp (by conv => lhs; whnf), trivial⟩, ?_⟩
        exact ⟨rfl, (by first | ((repeat (first | with_reducible exact Grown.refl _ | with_reducible apply Grown.push)); done) | repeat (first | exact Grown.refl _ | refine Grown.push ?_ _))⟩

set_option maxRecDepth 10000 in
theorem markFloat32S_ret (c : Int) (k n : Nat) (xs : List Nat) (h : AHeap) (ho : h[k]? = some (lstF xs)) (hn : xs.length = n) (hl : xs.length ≤ 1073741824) (hc : 0 ≤ c ∧ c ≤ 1073741824) : Ret Try.prog 19 [sl k n, i64 c] h (i64 (c + n)) (h.set k (lstF (uptoF c n))) := by
  subst hn
  have hk := (List.getElem?_eq_some_iff.1 ho).1
  refine retm_of (by simp) (.prim rfl) (fun cl => cl.set lstF_prim) ?_
  refine tri_of_body Try.func19 rfl (by kernel_rfl) (by show 2 ≤ 20; decide) ?_
  refine awp_seq ?_
  refine awp_region rfl ?_
  refine a_do rfl (o_assign (by conv => lhs; whnf) ?_)
  refine a_end ?_
  refine awp_seq ?_
  refine awp_seq ?_
  refine awp_region rfl ?_
  refine a_do rfl (o_assign (by conv => lhs; whnf) ?_)
  refine a_end ?_
  refine awp_block ?_
  refine awp_loop (σ := Nat) (fun s env1 h1 => Slots env1 [(0, sl k xs.length), (1, i64 (c + s)), (5, i64 s)] ∧ h1 = h.set k (lstF (uptoF c s ++ xs.drop s)) ∧ s ≤ xs.length) (fun s => xs.length - s) 0 ?_ ?_
  · refine ⟨Slots.mk ⟨?_, ?_, ?_, trivial⟩, ?_, ?_⟩
    all_goals first | rfl | exact congrArg i64 (show c = c + ((0 : Nat) : Int) by simp) | (rw [uptoF_zero, List.nil_append, List.drop_zero, set_same ho]; done) | (simp; done)
  · intro s env1 h1 hI1
    obtain ⟨⟨e1, rfl⟩, rfl, hs⟩ := hI1
    have hlk := lk_set (o := lstF (uptoF c s ++ xs.drop s)) hk
    have hll : (uptoF c s ++ xs.drop s).length = xs.length := by simp [uptoF_len]; omega
    have hI : Flts (h.set k (lstF (uptoF c s ++ xs.drop s))) (sl k xs.length) (uptoF c s ++ xs.drop s) := Flts.own hlk hll
    refine awp_seq ?_
    refine awp_seq ?_
    refine awp_region rfl ?_
    refine a_do rfl (o_move (by conv => lhs; whnf) ?_)
    refine a_do rfl (o_move (by conv => lhs; whnf) ?_)
    refine a_do rfl (o_lenF Try.underlying25 (by conv => lhs; whnf) (by first | ((with_reducible repeat (first | assumption | apply Flts.app)); done) | with_reducible exact flts_nil | exact Flts.own (by with_reducible repeat (first | assumption | (apply lk_last; (try simp only [ll1, ll2, ll3, ll4, lls_len, lls2_len, markL_len]); first | done | omega) | apply lk_prev)) (by first | rfl | exact upto_len | assumption | exact map_len | exact List.length_set | (rw [List.length_set]; assumption)) | exact flts_nil) ?_)
    refine a_do rfl (o_lss (by conv => lhs; whnf) (by conv => lhs; whnf) (fun c1 => ?_) (fun c1 => ?_))
    ·
      refine a_end ?_
      refine awp_condT (by conv => lhs; whnf) ?_
      refine awp_skip ?_
      refine awp_seq ?_
      refine awp_block ?_
      refine awp_seq ?_
      refine awp_region rfl ?_
      refine a_do rfl (o_move (by conv => lhs; whnf) ?_)
      refine a_do rfl (o_move (by conv => lhs; whnf) ?_)
      refine a_do rfl (o_move (by conv => lhs; whnf) ?_)
      refine a_do rfl (o_convI32 Try.underlying3 Try.underlying47 (by conv => lhs; whnf) ?_)
      first | refine a_do rfl (o_indexF Try.underlying25 ty47 (by conv => lhs; whnf) (by first | ((with_reducible repeat (first | assumption | apply Flts.app)); done) | with_reducible exact flts_nil | exact Flts.own (by with_reducible repeat (first | assumption | (apply lk_last; (try simp only [ll1, ll2, ll3, ll4, lls_len, lls2_len, markL_len]); first | done | omega) | apply lk_prev)) (by first | rfl | exact upto_len | assumption | exact map_len | exact List.length_set | (rw [List.length_set]; assumption)) | exact flts_nil) (by conv => lhs; whnf) (by omega) (fun p2 hp2 => ?_)) | refine a_do rfl (o_indexFZ Try.underlying25 ty47 (by conv => lhs; whnf) (by first | ((with_reducible repeat (first | assumption | apply Flts.app)); done) | with_reducible exact flts_nil | exact Flts.own (by with_reducible repeat (first | assumption | (apply lk_last; (try simp only [ll1, ll2, ll3, ll4, lls_len, lls2_len, markL_len]); first | done | omega) | apply lk_prev)) (by first | rfl | exact upto_len | assumption | exact map_len | exact List.length_set | (rw [List.length_set]; assumption)) | exact flts_nil) (by conv => lhs; whnf) (by omega) (by omega) (fun p2 hp2 => ?_))
      refine a_do rfl (o_storeF ty47 (by conv => lhs; whnf) hp2 (by with_reducible repeat (first | assumption | (apply lk_last; (try simp only [ll1, ll2, ll3, ll4, lls_len, lls2_len, markL_len]); first | done | omega) | apply lk_prev)) (by first | rfl | omega | (simp; done) | (simp; omega)) (by omega) (by conv => lhs; whnf) (by with_reducible repeat (first | (apply set_last; (try simp only [ll1, ll2, ll3, ll4, lls_len, lls2_len, markL_len]); first | done | omega) | (apply set_step; (try simp only [ll1, ll2, ll3, ll4, lls_len, lls2_len, markL_len]); first | done | omega) | exact rfl)) ?_)
      refine a_end ?_
      refine awp_region rfl ?_
      refine a_do rfl (o_move (by conv => lhs; whnf) ?_)
      refine a_do rfl (o_add (by conv => lhs; whnf) (by conv => lhs; whnf) (by omega) (by omega) ?_)
      refine a_do rfl (o_assign (by conv => lhs; whnf) ?_)
      refine a_end ?_
      refine awp_region rfl ?_
      refine a_do rfl (o_move (by conv => lhs; whnf) ?_)
      refine a_do rfl (o_add (by conv => lhs; whnf) (by conv => lhs; whnf) (by omega) (by omega) ?_)
      refine a_do rfl (o_assign (by conv => lhs; whnf) ?_)
      refine a_end ?_
      refine ⟨s + 1, ⟨Slots.mk ⟨?_, ?_, ?_, trivial⟩, ?_, ?_⟩, ?_⟩
      all_goals first | rfl | omega | exact congrArg i64 (by omega) | (rw [set_set, uptoF_step (by omega)])
    ·
      refine a_end ?_
      refine awp_condF (by conv => lhs; whnf) ?_
      refine awp_exit ?_
      refine awp_seq ?_
      refine awp_region rfl ?_
      refine a_do rfl (o_move (by conv => lhs; whnf) ?_)
      refine a_do rfl (o_assign (by conv => lhs; whnf) ?_)
      refine a_end ?_
      refine awp_ret ?_
      refine ⟨.inl rfl, [_], ⟨ares_tmp (by conv => lhs; whnf), trivial⟩, ?_⟩
      exact ⟨congrArg i64 (by omega), by rw [uptoF_done (by omega)]; exact Grown.refl _⟩

set_option maxRecDepth 10000 in
theorem markNilF_ret (c : Int) (h : AHeap) (hc : 0 ≤ c ∧ c ≤ 1073741824) : Ret Try.prog 19 [.slice none 0 0, i64 c] h (i64 c) h := by
  refine ret_of (.prim rfl) ?_
  refine tri_of_body Try.func19 rfl (by kernel_rfl) (by show 2 ≤ 20; decide) ?_
  refine awp_seq ?_
  refine awp_region rfl ?_
  refine a_do rfl (o_assign (by conv => lhs; whnf) ?_)
  refine a_end ?_
  refine awp_seq ?_
  refine awp_seq ?_
  refine awp_region rfl ?_
  refine a_do rfl (o_assign (by conv => lhs; whnf) ?_)
  refine a_end ?_
  refine awp_block ?_
  refine awp_loop (σ := Unit) (fun _ env1 h1 => Slots env1 [(0, .slice none 0 0), (1, i64 c), (5, i64 0)] ∧ h1 = h ∧ True) (fun _ => 0) () ?_ ?_
  · refine ⟨Slots.mk ⟨?_, ?_, ?_, trivial⟩, ?_, ?_⟩
    all_goals first | rfl | trivial | (simp; done)
  · intro _ env1 h1 hI1
    obtain ⟨⟨e1, rfl⟩, rfl, -⟩ := hI1
    refine awp_seq ?_
    refine awp_seq ?_
    refine awp_region rfl ?_
    refine a_do rfl (o_move (by conv => lhs; whnf) ?_)
    refine a_do rfl (o_move (by conv => lhs; whnf) ?_)
    refine a_do rfl (o_lenF Try.underlying25 (by conv => lhs; whnf) (by first | ((with_reducible repeat (first | assumption | apply Flts.app)); done) | with_reducible exact flts_nil | exact Flts.own (by with_reducible repeat (first | assumption | (apply lk_last; (try simp only [ll1, ll2, ll3, ll4, lls_len, lls2_len, markL_len]); first | done | omega) | apply lk_prev)) (by first | rfl | exact upto_len | assumption | exact map_len | exact List.length_set | (rw [List.length_set]; assumption)) | exact flts_nil) ?_)
    refine a_do rfl (o_lss (by conv => lhs; whnf) (by conv => lhs; whnf) (fun c1 => ?_) (fun c1 => ?_))
    ·
      exact absurd c1 (by simp)
    ·
      refine a_end ?_
      refine awp_condF (by conv => lhs; whnf) ?_
      refine awp_exit ?_
      refine awp_seq ?_
      refine awp_region rfl ?_
      refine a_do rfl (o_move (by conv => lhs; whnf) ?_)
      refine a_do rfl (o_assign (by conv => lhs; whnf) ?_)
      refine a_end ?_
      refine awp_ret ?_
      refine ⟨.inl rfl, [_], ⟨ares_tmp (by conv => lhs; whnf), trivial⟩, ?_⟩
      exact ⟨rfl, (by first | ((repeat (first | with_reducible exact Grown.refl _ | with_reducible apply Grown.push)); done) | repeat (first | exact Grown.refl _ | refine Grown.push ?_ _))⟩

set_option maxRecDepth 10000 in
theorem heldFloat32S_ret (c : Int) (n : Nat) (v : Value) (h : AHeap) (hv : Flts h v (uptoF c n)) (hc : 0 ≤ c) (hn : c + n ≤ 1000) : Ret Try.prog 20 [v, i64 c] h (i64 (c + n)) h := by
  refine ret_of (.prim rfl) ?_
  have hul : (uptoF c n).length = n := uptoF_len
  refine tri_of_body Try.func20 rfl (by kernel_rfl) (by show 2 ≤ 22; decide) ?_
  refine awp_seq ?_
  refine awp_region rfl ?_
  refine a_do rfl (o_assign (by conv => lhs; whnf) ?_)
  refine a_end ?_
  refine awp_seq ?_
  refine awp_seq ?_
  refine awp_region rfl ?_
  refine a_do rfl (o_assign (by conv => lhs; whnf) ?_)
  refine a_end ?_
  refine awp_block ?_
  refine awp_loop (σ := Nat) (fun s env1 h1 => Slots env1 [(0, v), (1, i64 (c + s)), (5, i64 s)] ∧ h1 = h ∧ s ≤ n) (fun s => n - s) 0 ?_ ?_
  · refine ⟨Slots.mk ⟨?_, ?_, ?_, trivial⟩, ?_, ?_⟩
    all_goals first | rfl | exact congrArg i64 (show c = c + ((0 : Nat) : Int) by simp) | omega | (simp; done)
  · intro s env1 h1 hI1
    obtain ⟨⟨e1, rfl⟩, hkeep, hs⟩ := hI1
    obtain rfl := hkeep.symm
    refine awp_seq ?_
    refine awp_seq ?_
    refine awp_region rfl ?_
    refine a_do rfl (o_move (by conv => lhs; whnf) ?_)
    refine a_do rfl (o_move (by conv => lhs; whnf) ?_)
    refine a_do rfl (o_lenF Try.underlying25 (by conv => lhs; whnf) (by first | ((with_reducible repeat (first | assumption | apply Flts.app)); done) | with_reducible exact flts_nil | exact Flts.own (by with_reducible repeat (first | assumption | (apply lk_last; (try simp only [ll1, ll2, ll3, ll4, lls_len, lls2_len, markL_len]); first | done | omega) | apply lk_prev)) (by first | rfl | exact upto_len | assumption | exact map_len | exact List.length_set | (rw [List.length_set]; assumption)) | exact flts_nil) ?_)
    refine a_do rfl (o_lss (by conv => lhs; whnf) (by conv => lhs; whnf) (fun c1 => ?_) (fun c1 => ?_))
    ·
      refine a_end ?_
      refine awp_condT (by conv => lhs; whnf) ?_
      refine awp_skip ?_
      refine awp_seq ?_
      refine awp_block ?_
      refine awp_seq ?_
      refine awp_seq ?_
      refine awp_region rfl ?_
      have hsn : s < n := (by omega)
      refine a_do rfl (o_move (by conv => lhs; whnf) ?_)
      refine a_do rfl (o_move (by conv => lhs; whnf) ?_)
      first | refine a_do rfl (o_indexF Try.underlying25 ty47 (by conv => lhs; whnf) (by first | ((with_reducible repeat (first | assumption | apply Flts.app)); done) | with_reducible exact flts_nil | exact Flts.own (by with_reducible repeat (first | assumption | (apply lk_last; (try simp only [ll1, ll2, ll3, ll4, lls_len, lls2_len, markL_len]); first | done | omega) | apply lk_prev)) (by first | rfl | exact upto_len | assumption | exact map_len | exact List.length_set | (rw [List.length_set]; assumption)) | exact flts_nil) (by conv => lhs; whnf) (by omega) (fun p2 hp2 => ?_)) | refine a_do rfl (o_indexFZ Try.underlying25 ty47 (by conv => lhs; whnf) (by first | ((with_reducible repeat (first | assumption | apply Flts.app)); done) | with_reducible exact flts_nil | exact Flts.own (by with_reducible repeat (first | assumption | (apply lk_last; (try simp only [ll1, ll2, ll3, ll4, lls_len, lls2_len, markL_len]); first | done | omega) | apply lk_prev)) (by first | rfl | exact upto_len | assumption | exact map_len | exact List.length_set | (rw [List.length_set]; assumption)) | exact flts_nil) (by conv => lhs; whnf) (by omega) (by omega) (fun p2 hp2 => ?_))
      refine a_do rfl (o_loadF Try.underlying47 rfl (by conv => lhs; whnf) hp2 (by first | ((with_reducible repeat (first | assumption | apply Flts.app)); done) | with_reducible exact flts_nil | exact Flts.own (by with_reducible repeat (first | assumption | (apply lk_last; (try simp only [ll1, ll2, ll3, ll4, lls_len, lls2_len, markL_len]); first | done | omega) | apply lk_prev)) (by first | rfl | exact upto_len | assumption | exact map_len | exact List.length_set | (rw [List.length_set]; assumption)) | exact flts_nil) (by omega) ?_)
      refine a_do rfl (o_move (by conv => lhs; whnf) ?_)
      refine a_do rfl (o_convI32 Try.underlying3 Try.underlying47 (by conv => lhs; whnf) ?_)
      refine a_do rfl (o_fcmp (by conv => lhs; whnf) (by conv => lhs; whnf) rfl (fun c3 => ?_) (fun c3 => ?_))
      ·
        rw [uptoF_at hsn] at c3; rw [fI_selfK (n := c + (s : Int)) (by omega) (by omega)] at c3; cases c3
      ·
        refine a_end ?_
        refine awp_condF (by conv => lhs; whnf) ?_
        refine awp_skip ?_
        refine awp_region rfl ?_
        refine a_do rfl (o_move (by conv => lhs; whnf) ?_)
        refine a_do rfl (o_add (by conv => lhs; whnf) (by conv => lhs; whnf) (by omega) (by omega) ?_)
        refine a_do rfl (o_assign (by conv => lhs; whnf) ?_)
        refine a_end ?_
        refine awp_region rfl ?_
        refine a_do rfl (o_move (by conv => lhs; whnf) ?_)
        refine a_do rfl (o_add (by conv => lhs; whnf) (by conv => lhs; whnf) (by omega) (by omega) ?_)
        refine a_do rfl (o_assign (by conv => lhs; whnf) ?_)
        refine a_end ?_
        refine ⟨s + 1, ⟨Slots.mk ⟨?_, ?_, ?_, trivial⟩, ?_, ?_⟩, ?_⟩
        all_goals first | rfl | omega | exact congrArg i64 (by omega)
    ·
      refine a_end ?_
      refine awp_condF (by conv => lhs; whnf) ?_
      refine awp_exit ?_
      refine awp_seq ?_
      refine awp_region rfl ?_
      refine a_do rfl (o_move (by conv => lhs; whnf) ?_)
      refine a_do rfl (o_assign (by conv => lhs; whnf) ?_)
      refine a_end ?_
      refine awp_ret ?_
      refine ⟨.inl rfl, [_], ⟨ares_tmp (by conv => lhs; whnf), trivial⟩, ?_⟩
      exact ⟨congrArg i64 (by omega), (by first | ((repeat (first | with_reducible exact Grown.refl _ | with_reducible apply Grown.push)); done) | repeat (first | exact Grown.refl _ | refine Grown.push ?_ _))⟩

theorem heldNilF_ret (c : Int) (h : AHeap) (hc : 0 ≤ c ∧ c ≤ 1000) : Ret Try.prog 20 [.slice none 0 0, i64 c] h (i64 c) h := by
  have hr := heldFloat32S_ret c 0 (.slice none 0 0) h (.inl ⟨rfl, rfl⟩) hc.1 (by omega)
  simpa using hr

set_option maxRecDepth 10000 in
theorem markCake_ret (c p q : Int) (k n : Nat) (xs : List Int) (h : AHeap) (ho : h[k]? = some (lst xs)) (hn : xs.length = n) (hl : xs.length ≤ 1073741824) (hc : 0 ≤ c ∧ c ≤ 1073741824) : Ret Try.prog 17 [.agg #[i64 p, i64 q, sl k n], i64 c] h (i64 (c + n)) (h.set k (lst (upto c n))) := by
  have hk := (List.getElem?_eq_some_iff.1 ho).1
  refine retm_of (by simp) (.prim rfl) (fun cl => cl.set lst_prim) ?_
  refine tri_of_body Try.func17 rfl (by kernel_rfl) (by show 2 ≤ 10; decide) ?_
  refine awp_seq ?_
  refine awp_region rfl ?_
  refine a_do rfl (o_boxN (n := 3) (by conv => lhs; whnf) (by exact (rfl : _ = [_, _, _])) (by rfl) (fun k2 hk2 => ?_))
  try simp at hk2
  refine a_do rfl (o_assign (by conv => lhs; whnf) ?_)
  refine a_end ?_
  refine awp_seq ?_
  refine awp_region rfl ?_
  refine a_do rfl (o_fieldAddr Try.underlying29 rfl ty22 (by conv => lhs; whnf) (by with_reducible repeat (first | assumption | (apply lk_last; (try simp only [ll1, ll2, ll3, ll4, lls_len, lls2_len, markL_len]); first | done | omega) | apply lk_prev)) (by rfl) ?_)
  refine a_do rfl (o_load Try.underlying22 rfl (by conv => lhs; whnf) (by with_reducible repeat (first | assumption | (apply lk_last; (try simp only [ll1, ll2, ll3, ll4, lls_len, lls2_len, markL_len]); first | done | omega) | apply lk_prev)) (by rfl) (by rfl) ?_)
  refine a_do rfl (o_move (by conv => lhs; whnf) ?_)
  refine a_do rfl (o_callF (lmap_cons (by conv => lhs; whnf) (lmap_cons (by conv => lhs; whnf) lmap_nil)) (Ret.to (Ret.heap (markInt64S_ret _ _ _ _ _ (by first | ((with_reducible repeat (first | assumption | (apply lk_last; (try simp only [ll1, ll2, ll3, ll4, lls_len, lls2_len, markL_len]); first | done | omega) | apply lk_prev)); done) | repeat (first | assumption | exact lk_last (by (try simp only [ll1, ll2, ll3, ll4, lls_len, lls2_len, markL_len]); first | done | omega) | apply lk_prev)) (by first | rfl | exact upto_len | assumption | exact map_len | exact List.length_set | (rw [List.length_set]; assumption)) (by omega) (by omega)) (by with_reducible repeat (first | (apply set_last; (try simp only [ll1, ll2, ll3, ll4, lls_len, lls2_len, markL_len]); first | done | omega) | (apply set_step; (try simp only [ll1, ll2, ll3, ll4, lls_len, lls2_len, markL_len]); first | done | omega) | exact rfl))) ?_))
  refine a_do rfl (o_assign (by conv => lhs; whnf) ?_)
  refine a_end ?_
  refine awp_seq ?_
  refine awp_region rfl ?_
  refine a_do rfl (o_move (by conv => lhs; whnf) ?_)
  refine a_do rfl (o_assign (by conv => lhs; whnf) ?_)
  refine a_end ?_
  refine awp_ret ?_
  refine ⟨.inl rfl, [_], ⟨ares_tmp (by conv => lhs; whnf), trivial⟩, ?_⟩
  exact ⟨rfl, (by first | ((repeat (first | with_reducible exact Grown.refl _ | with_reducible apply Grown.push)); done) | repeat (first | exact Grown.refl _ | refine Grown.push ?_ _))⟩

set_option maxRecDepth 10000 in
theorem l02Left_ret (b : Nat) (xs : List Int) (v w : Value) (h : AHeap) (hv : Ints h v xs) (hw : Ints h w [(b : Int)]) (hb : b < xs.length) (hl : xs.length ≤ 1000) : RetN Try.prog 57 [v, w] h (fun k => sl k (xs.eraseIdx b).length) (lst (xs.eraseIdx b)) := by
  refine ret1_of (o := lst (xs.eraseIdx b)) (V := fun k => sl k (xs.eraseIdx b).length) (fun _ _ => .slice) (.slice (by omega)) lst_prim ?_
  have hbl1 : [(b : Int)].length ≤ 1073741824 := (by simp)
  have hel9 : (xs.eraseIdx b).length ≤ 1000 := (by rw [List.length_eraseIdx]; split <;> omega)
  refine tri_of_body Try.func57 rfl (by kernel_rfl) (by show 2 ≤ 26; decide) ?_
  refine awp_seq ?_
  refine awp_region rfl ?_
  refine a_do rfl (o_assign (by conv => lhs; whnf) ?_)
  refine a_end ?_
  refine awp_seq ?_
  refine awp_region rfl ?_
  refine a_do rfl (o_buildI0 Try.underlying22 ty2 (fun k1 hk1 => ?_))
  try simp at hk1
  refine a_do rfl (o_assign (by conv => lhs; whnf) ?_)
  refine a_end ?_
  refine awp_seq ?_
  refine awp_seq ?_
  refine awp_region rfl ?_
  refine a_do rfl (o_assign (by conv => lhs; whnf) ?_)
  refine a_end ?_
  refine awp_block ?_
  refine awp_loop (σ := Nat) (fun s env1 h1 => Slots env1 [(0, v), (1, w), (5, sl k1 (erT xs b s).length), (6, i64 s)] ∧ Grown (h ++ [lst (erT xs b s)]) h1 ∧ s ≤ xs.length) (fun s => xs.length - s) 0 ?_ ?_
  · refine ⟨Slots.mk ⟨?_, ?_, ?_, ?_, trivial⟩, ?_, ?_⟩
    all_goals first | rfl | exact Grown.refl _ | omega | (simp; done)
  · intro s env1 h1 hI1
    obtain ⟨⟨e1, rfl⟩, ⟨gs, rfl⟩, hs⟩ := hI1
    have hml := erT_len (xs := xs) (b := b) (i := s)
    refine awp_seq ?_
    refine awp_seq ?_
    refine awp_region rfl ?_
    refine a_do rfl (o_move (by conv => lhs; whnf) ?_)
    refine a_do rfl (o_move (by conv => lhs; whnf) ?_)
    refine a_do rfl (o_lenI Try.underlying22 (by conv => lhs; whnf) (by first | ((with_reducible repeat (first | assumption | apply Ints.app)); done) | repeat (first | with_reducible assumption | exact ints_nil | exact Ints.own (by with_reducible repeat (first | assumption | (apply lk_last; (try simp only [ll1, ll2, ll3, ll4, lls_len, lls2_len, markL_len]); first | done | omega) | apply lk_prev)) (by first | rfl | exact upto_len | assumption | exact map_len | exact List.length_set | (rw [List.length_set]; assumption)) | exact Ints.tail (by with_reducible repeat (first | assumption | (apply lk_last; (try simp only [ll1, ll2, ll3, ll4, lls_len, lls2_len, markL_len]); first | done | omega) | apply lk_prev)) (by first | rfl | exact upto_len | assumption | exact map_len | exact List.length_set | (rw [List.length_set]; assumption)) | with_reducible apply Ints.app | (refine Ints.sub (by with_reducible repeat (first | assumption | apply Ints.app)) (by omega) (by omega) (by omega)))) ?_)
    refine a_do rfl (o_lss (by conv => lhs; whnf) (by conv => lhs; whnf) (fun c2 => ?_) (fun c2 => ?_))
    ·
      refine a_end ?_
      refine awp_condT (by conv => lhs; whnf) ?_
      refine awp_skip ?_
      refine awp_seq ?_
      refine awp_block ?_
      refine awp_seq ?_
      refine awp_region rfl ?_
      refine a_do rfl (o_move (by conv => lhs; whnf) ?_)
      refine a_do rfl (o_move (by conv => lhs; whnf) ?_)
      refine a_do rfl (o_callF (lmap_cons (by conv => lhs; whnf) (lmap_cons (by conv => lhs; whnf) lmap_nil)) (Ret.toB (l02Has_ret _ _ _ _ (by first | ((with_reducible repeat (first | assumption | apply Ints.app)); done) | repeat (first | with_reducible assumption | exact ints_nil | exact Ints.own (by with_reducible repeat (first | assumption | (apply lk_last; (try simp only [ll1, ll2, ll3, ll4, lls_len, lls2_len, markL_len]); first | done | omega) | apply lk_prev)) (by first | rfl | exact upto_len | assumption | exact map_len | exact List.length_set | (rw [List.length_set]; assumption)) | exact Ints.tail (by with_reducible repeat (first | assumption | (apply lk_last; (try simp only [ll1, ll2, ll3, ll4, lls_len, lls2_len, markL_len]); first | done | omega) | apply lk_prev)) (by first | rfl | exact upto_len | assumption | exact map_len | exact List.length_set | (rw [List.length_set]; assumption)) | with_reducible apply Ints.app | (refine Ints.sub (by with_reducible repeat (first | assumption | apply Ints.app)) (by omega) (by omega) (by omega)))) (by first | omega | (rw [part_len] <;> omega))) (fun c3 => ?_) (fun c3 => ?_)))
      ·
        have hsb : s = b := (by have h9 := c3; simp at h9; omega)
        have ho9 := erT_out hsb hb
        refine a_do rfl (o_notT (by conv => lhs; whnf) ?_)
        refine a_end ?_
        refine awp_condF (by conv => lhs; whnf) ?_
        refine awp_skip ?_
        refine awp_region rfl ?_
        refine a_do rfl (o_move (by conv => lhs; whnf) ?_)
        refine a_do rfl (o_add (by conv => lhs; whnf) (by conv => lhs; whnf) (by omega) (by omega) ?_)
        refine a_do rfl (o_assign (by conv => lhs; whnf) ?_)
        refine a_end ?_
        refine ⟨s + 1, ⟨Slots.mk ⟨?_, ?_, ?_, ?_, trivial⟩, ?_, ?_⟩, ?_⟩
        all_goals first | rfl | omega | exact congrArg i64 (by omega) | (rw [ho9]; rfl) | (rw [ho9, List.length_append]; rfl) | (first | ((repeat (first | with_reducible exact Grown.refl _ | (rw [ho9]; exact Grown.refl _) | with_reducible apply Grown.push)); done) | repeat (first | exact Grown.refl _ | (rw [ho9]; exact Grown.refl _) | refine Grown.push ?_ _))
      ·
        have hsb : s ≠ b := (by have h9 := c3; simp at h9; omega)
        have ho9 := erT_in hsb (show s < xs.length by omega)
        refine a_do rfl (o_notF (by conv => lhs; whnf) ?_)
        refine a_end ?_
        refine awp_condT (by conv => lhs; whnf) ?_
        refine awp_region rfl ?_
        refine a_do rfl (o_move (by conv => lhs; whnf) ?_)
        refine a_do rfl (o_move (by conv => lhs; whnf) ?_)
        refine a_do rfl (o_move (by conv => lhs; whnf) ?_)
        first | refine a_do rfl (o_indexI Try.underlying22 ty2 (by conv => lhs; whnf) (by first | ((with_reducible repeat (first | assumption | apply Ints.app)); done) | repeat (first | with_reducible assumption | exact ints_nil | exact Ints.own (by with_reducible repeat (first | assumption | (apply lk_last; (try simp only [ll1, ll2, ll3, ll4, lls_len, lls2_len, markL_len]); first | done | omega) | apply lk_prev)) (by first | rfl | exact upto_len | assumption | exact map_len | exact List.length_set | (rw [List.length_set]; assumption)) | exact Ints.tail (by with_reducible repeat (first | assumption | (apply lk_last; (try simp only [ll1, ll2, ll3, ll4, lls_len, lls2_len, markL_len]); first | done | omega) | apply lk_prev)) (by first | rfl | exact upto_len | assumption | exact map_len | exact List.length_set | (rw [List.length_set]; assumption)) | with_reducible apply Ints.app | (refine Ints.sub (by with_reducible repeat (first | assumption | apply Ints.app)) (by omega) (by omega) (by omega)))) (by conv => lhs; whnf) (by omega) (fun p4 hp4 => ?_)) | refine a_do rfl (o_indexZ Try.underlying22 ty2 (by conv => lhs; whnf) (by first | ((with_reducible repeat (first | assumption | apply Ints.app)); done) | repeat (first | with_reducible assumption | exact ints_nil | exact Ints.own (by with_reducible repeat (first | assumption | (apply lk_last; (try simp only [ll1, ll2, ll3, ll4, lls_len, lls2_len, markL_len]); first | done | omega) | apply lk_prev)) (by first | rfl | exact upto_len | assumption | exact map_len | exact List.length_set | (rw [List.length_set]; assumption)) | exact Ints.tail (by with_reducible repeat (first | assumption | (apply lk_last; (try simp only [ll1, ll2, ll3, ll4, lls_len, lls2_len, markL_len]); first | done | omega) | apply lk_prev)) (by first | rfl | exact upto_len | assumption | exact map_len | exact List.length_set | (rw [List.length_set]; assumption)) | with_reducible apply Ints.app | (refine Ints.sub (by with_reducible repeat (first | assumption | apply Ints.app)) (by omega) (by omega) (by omega)))) (by conv => lhs; whnf) (by omega) (by omega) (fun p4 hp4 => ?_))
        refine a_do rfl (o_loadI Try.underlying2 rfl (by conv => lhs; whnf) hp4 (by first | ((with_reducible repeat (first | assumption | apply Ints.app)); done) | repeat (first | with_reducible assumption | exact ints_nil | exact Ints.own (by with_reducible repeat (first | assumption | (apply lk_last; (try simp only [ll1, ll2, ll3, ll4, lls_len, lls2_len, markL_len]); first | done | omega) | apply lk_prev)) (by first | rfl | exact upto_len | assumption | exact map_len | exact List.length_set | (rw [List.length_set]; assumption)) | exact Ints.tail (by with_reducible repeat (first | assumption | (apply lk_last; (try simp only [ll1, ll2, ll3, ll4, lls_len, lls2_len, markL_len]); first | done | omega) | apply lk_prev)) (by first | rfl | exact upto_len | assumption | exact map_len | exact List.length_set | (rw [List.length_set]; assumption)) | with_reducible apply Ints.app | (refine Ints.sub (by with_reducible repeat (first | assumption | apply Ints.app)) (by omega) (by omega) (by omega)))) (by omega) ?_)
        refine a_do rfl (o_buildI1 Try.underlying22 ty2 (by conv => lhs; whnf) (fun k5 hk5 => ?_))
        try simp at hk5
        refine a_do rfl (o_appendI Try.underlying22 ty2 (by conv => lhs; whnf) (by with_reducible repeat (first | assumption | (apply lk_last; (try simp only [ll1, ll2, ll3, ll4, lls_len, lls2_len, markL_len]); first | done | omega) | apply lk_prev)) (by first | rfl | omega | (simp; done) | (simp; omega)) (by conv => lhs; whnf) (by first | ((with_reducible repeat (first | assumption | apply Ints.app)); done) | exact Ints.own (by with_reducible repeat (first | assumption | (apply lk_last; (try simp only [ll1, ll2, ll3, ll4, lls_len, lls2_len, markL_len]); first | done | omega) | apply lk_prev)) (by first | rfl | exact upto_len | assumption | exact map_len | exact List.length_set | (rw [List.length_set]; assumption))) (by first | omega | (simp; done) | (simp; omega)) (by with_reducible repeat (first | (apply set_last; (try simp only [ll1, ll2, ll3, ll4, lls_len, lls2_len, markL_len]); first | done | omega) | (apply set_step; (try simp only [ll1, ll2, ll3, ll4, lls_len, lls2_len, markL_len]); first | done | omega) | exact rfl)) ?_)
        refine a_do rfl (o_assign (by conv => lhs; whnf) ?_)
        refine a_end ?_
        refine awp_region rfl ?_
        refine a_do rfl (o_move (by conv => lhs; whnf) ?_)
        refine a_do rfl (o_add (by conv => lhs; whnf) (by conv => lhs; whnf) (by omega) (by omega) ?_)
        refine a_do rfl (o_assign (by conv => lhs; whnf) ?_)
        refine a_end ?_
        refine ⟨s + 1, ⟨Slots.mk ⟨?_, ?_, ?_, ?_, trivial⟩, ?_, ?_⟩, ?_⟩
        all_goals first | rfl | omega | exact congrArg i64 (by omega) | (rw [ho9]; rfl) | (rw [ho9, List.length_append]; rfl) | (first | ((repeat (first | with_reducible exact Grown.refl _ | (rw [ho9]; exact Grown.refl _) | with_reducible apply Grown.push)); done) | repeat (first | exact Grown.refl _ | (rw [ho9]; exact Grown.refl _) | refine Grown.push ?_ _))
    ·
      refine a_end ?_
      refine awp_condF (by conv => lhs; whnf) ?_
      refine awp_exit ?_
      refine awp_seq ?_
      refine awp_region rfl ?_
      obtain rfl : s = xs.length := (by omega)
      rw [erT_all]
      refine a_do rfl (o_move (by conv => lhs; whnf) ?_)
      refine a_do rfl (o_assign (by conv => lhs; whnf) ?_)
      refine a_end ?_
      refine awp_ret ?_
      refine ⟨.inl rfl, [_], ⟨ares_tmp (by conv => lhs; whnf), trivial⟩, ?_⟩
      exact ⟨k1, rfl, (by first | ((repeat (first | with_reducible exact Grown.refl _ | with_reducible apply Grown.push)); done) | repeat (first | exact Grown.refl _ | refine Grown.push ?_ _)), (by first | ((with_reducible repeat (first | assumption | (apply lk_last; (try simp only [ll1, ll2, ll3, ll4, lls_len, lls2_len, markL_len]); first | done | omega) | apply lk_prev)); done) | repeat (first | assumption | exact lk_last (by (try simp only [ll1, ll2, ll3, ll4, lls_len, lls2_len, markL_len]); first | done | omega) | apply lk_prev)), by omega⟩

set_option maxRecDepth 10000 in
theorem delete1_ret (k n m i L : Nat) (z1 z2 : Int) (zs : List Int) (h : AHeap) (hS : h[k]? = some (lst (zs ++ List.replicate m 0))) (hn : zs.length = n) (hL : n + m = L) (hi : i < n) (hn2 : L ≤ 100) (hz1 : z1 = (i : Int)) (hz2 : z2 = (i : Int) + 1) : Ret Try.prog 59 [slP k n L, i64 z1, i64 z2] h (slP k (n - 1) L) (h.set k (lst (zs.eraseIdx i ++ List.replicate (m + 1) 0))) := by
  have hkS := (List.getElem?_eq_some_iff.1 hS).1
  refine retm_of (by simp) (.slice hkS) (fun cl => cl.set lst_prim) ?_
  have hlen9 : (zs ++ List.replicate m 0).length = L := (by rw [List.length_append, List.length_replicate]; omega)
  have hdl9 : (delB zs i m).length = L := (by rw [delB_len (by omega)]; omega)
  have hI1 : Ints h (slP k n L) zs := Ints.pre hS hn hlen9
  have hel9 : (zs.eraseIdx i).length = n - 1 := (by rw [List.length_eraseIdx, if_pos (by omega)]; omega)
  have hI2 : Ints (h.set k (lst (delB zs i m))) (slP k (n - 1) L) (zs.eraseIdx i) := Ints.pre (lk_set hkS) hel9 hdl9
  refine tri_of_body Try.func59 rfl (by kernel_rfl) (by show 3 ≤ 33; decide) ?_
  refine awp_seq ?_
  refine awp_region rfl ?_
  refine a_do rfl (o_assign (by conv => lhs; whnf) ?_)
  refine a_end ?_
  refine awp_seq ?_
  refine awp_region rfl ?_
  refine a_do rfl (o_move (by conv => lhs; whnf) ?_)
  refine a_do rfl (o_move (by conv => lhs; whnf) ?_)
  refine a_do rfl (o_move (by conv => lhs; whnf) ?_)
  refine a_do rfl (o_move (by conv => lhs; whnf) ?_)
  refine a_do rfl (o_lenI Try.underlying22 (by conv => lhs; whnf) (by first | ((with_reducible repeat (first | assumption | apply Ints.app)); done) | repeat (first | with_reducible assumption | exact ints_nil | exact Ints.own (by with_reducible repeat (first | assumption | (apply lk_last; (try simp only [ll1, ll2, ll3, ll4, lls_len, lls2_len, markL_len]); first | done | omega) | apply lk_prev)) (by first | rfl | exact upto_len | assumption | exact map_len | exact List.length_set | (rw [List.length_set]; assumption)) | exact Ints.tail (by with_reducible repeat (first | assumption | (apply lk_last; (try simp only [ll1, ll2, ll3, ll4, lls_len, lls2_len, markL_len]); first | done | omega) | apply lk_prev)) (by first | rfl | exact upto_len | assumption | exact map_len | exact List.length_set | (rw [List.length_set]; assumption)) | with_reducible apply Ints.app | (refine Ints.sub (by with_reducible repeat (first | assumption | apply Ints.app)) (by omega) (by omega) (by omega)))) ?_)
  refine a_do rfl (o_slice3 (l := i) (r := i + 1) Try.underlying22 ty2 (by conv => lhs; whnf) (by first | ((with_reducible repeat (first | assumption | (apply lk_last; (try simp only [ll1, ll2, ll3, ll4, lls_len, lls2_len, markL_len]); first | done | omega) | apply lk_prev)); done) | repeat (first | assumption | exact lk_last (by (try simp only [ll1, ll2, ll3, ll4, lls_len, lls2_len, markL_len]); first | done | omega) | apply lk_prev)) hlen9 (by conv => lhs; whnf) (by conv => lhs; whnf) (by conv => lhs; whnf) (by omega) (by omega) (by omega) (by omega) (by omega) (by omega) (by omega) ?_)
  refine a_end ?_
  refine awp_seq ?_
  refine awp_seq ?_
  refine awp_region rfl ?_
  refine a_do rfl (o_move (by conv => lhs; whnf) ?_)
  refine a_do rfl (o_move (by conv => lhs; whnf) ?_)
  refine a_do rfl (o_eql (by conv => lhs; whnf) (by conv => lhs; whnf) (fun c1 => ?_) (fun c1 => ?_))
  ·
    exact absurd c1 (by omega)
  ·
    refine a_end ?_
    refine awp_condF (by conv => lhs; whnf) ?_
    refine awp_skip ?_
    refine awp_seq ?_
    refine awp_region rfl ?_
    refine a_do rfl (o_move (by conv => lhs; whnf) ?_)
    refine a_do rfl (o_lenI Try.underlying22 (by conv => lhs; whnf) (by first | ((with_reducible repeat (first | assumption | apply Ints.app)); done) | repeat (first | with_reducible assumption | exact ints_nil | exact Ints.own (by with_reducible repeat (first | assumption | (apply lk_last; (try simp only [ll1, ll2, ll3, ll4, lls_len, lls2_len, markL_len]); first | done | omega) | apply lk_prev)) (by first | rfl | exact upto_len | assumption | exact map_len | exact List.length_set | (rw [List.length_set]; assumption)) | exact Ints.tail (by with_reducible repeat (first | assumption | (apply lk_last; (try simp only [ll1, ll2, ll3, ll4, lls_len, lls2_len, markL_len]); first | done | omega) | apply lk_prev)) (by first | rfl | exact upto_len | assumption | exact map_len | exact List.length_set | (rw [List.length_set]; assumption)) | with_reducible apply Ints.app | (refine Ints.sub (by with_reducible repeat (first | assumption | apply Ints.app)) (by omega) (by omega) (by omega)))) ?_)
    refine a_do rfl (o_assign (by conv => lhs; whnf) ?_)
    refine a_end ?_
    refine awp_seq ?_
    refine awp_drawE 6 1 rfl rfl Try_mixed (by kernel_rfl) (by kernel_rfl) (by kernel_rfl) (by kernel_rfl) rfl rfl rfl rfl (by kernel_rfl) (by kernel_rfl) (by kernel_rfl) (by kernel_rfl) (by kernel_rfl) ?_
    refine d_do rfl (o_move (by conv => lhs; whnf) ⟨rfl, rfl⟩) (by first | exact .prim rfl | (apply within_sl; (with_reducible repeat (first | assumption | (apply lk_last; (try simp only [ll1, ll2, ll3, ll4, lls_len, lls2_len, markL_len]); first | done | omega) | apply lk_prev)); done) | ((try apply within_sub); apply Ints.within; (with_reducible repeat (first | assumption | apply Ints.app)); done) | (apply Lists.within; (with_reducible repeat (first | assumption | apply Lists.app)); done) | (apply Flts.within; (with_reducible repeat (first | assumption | apply Flts.app)); done) | (apply Byts.within; (with_reducible repeat (first | assumption | apply Byts.app)); done)) ?_
    refine d_do rfl (o_move (by conv => lhs; whnf) ⟨rfl, rfl⟩) (by exact .prim rfl) ?_
    refine d_do rfl (o_sliceCut (r := i) Try.underlying22 ty2 (by conv => lhs; whnf) (by first | ((with_reducible repeat (first | assumption | (apply lk_last; (try simp only [ll1, ll2, ll3, ll4, lls_len, lls2_len, markL_len]); first | done | omega) | apply lk_prev)); done) | repeat (first | assumption | exact lk_last (by (try simp only [ll1, ll2, ll3, ll4, lls_len, lls2_len, markL_len]); first | done | omega) | apply lk_prev)) hlen9 (by conv => lhs; whnf) (by omega) (by omega) ⟨rfl, rfl⟩) (by first | exact .prim rfl | exact within_func0 | (apply within_ptr; (with_reducible repeat (first | assumption | (apply lk_last; (try simp only [ll1, ll2, ll3, ll4, lls_len, lls2_len, markL_len]); first | done | omega) | apply lk_prev)); done) | (apply within_sl; (with_reducible repeat (first | assumption | (apply lk_last; (try simp only [ll1, ll2, ll3, ll4, lls_len, lls2_len, markL_len]); first | done | omega) | apply lk_prev)); done) | ((try apply within_sub); apply Ints.within; (with_reducible repeat (first | assumption | apply Ints.app)); done) | (apply Lists.within; (with_reducible repeat (first | assumption | apply Lists.app)); done) | (apply Flts.within; (with_reducible repeat (first | assumption | apply Flts.app)); done) | (apply Byts.within; (with_reducible repeat (first | assumption | apply Byts.app)); done) | exact within_nilw | exact within_nilb | (apply within_tup2 <;> first | exact .prim rfl | (apply within_sl; (with_reducible repeat (first | assumption | (apply lk_last; (try simp only [ll1, ll2, ll3, ll4, lls_len, lls2_len, markL_len]); first | done | omega) | apply lk_prev)); done) | (apply Within.agg2 <;> (first | exact .prim rfl | (apply within_ptr; (with_reducible repeat (first | assumption | (apply lk_last; (try simp only [ll1, ll2, ll3, ll4, lls_len, lls2_len, markL_len]); first | done | omega) | apply lk_prev)); done) | (apply within_sl; (with_reducible repeat (first | assumption | (apply lk_last; (try simp only [ll1, ll2, ll3, ll4, lls_len, lls2_len, markL_len]); first | done | omega) | apply lk_prev)); done) | ((try apply within_sub); apply Ints.within; (with_reducible repeat (first | assumption | apply Ints.app)); done) | (apply Lists.within; (with_reducible repeat (first | assumption | apply Lists.app)); done) | (apply within_sl; (with_reducible repeat (first | assumption | (apply lk_last; (try simp only [ll1, ll2, ll3, ll4, lls_len, lls2_len, markL_len]); first | done | omega) | apply lk_prev)); done)))) | exact Within.mono ‹Within _ (Value.func _ _ _)› (by (try simp only [ll1, ll2, ll3, ll4, lls_len, lls2_len, markL_len]); first | done | omega) | (apply Within.agg4 <;> (first | exact .prim rfl | (apply within_ptr; (with_reducible repeat (first | assumption | (apply lk_last; (try simp only [ll1, ll2, ll3, ll4, lls_len, lls2_len, markL_len]); first | done | omega) | apply lk_prev)); done) | (apply within_sl; (with_reducible repeat (first | assumption | (apply lk_last; (try simp only [ll1, ll2, ll3, ll4, lls_len, lls2_len, markL_len]); first | done | omega) | apply lk_prev)); done) | ((try apply within_sub); apply Ints.within; (with_reducible repeat (first | assumption | apply Ints.app)); done) | (apply Lists.within; (with_reducible repeat (first | assumption | apply Lists.app)); done) | (apply within_sl; (with_reducible repeat (first | assumption | (apply lk_last; (try simp only [ll1, ll2, ll3, ll4, lls_len, lls2_len, markL_len]); first | done | omega) | apply lk_prev)); done))) | (apply Within.agg3 <;> (first | exact .prim rfl | (apply within_ptr; (with_reducible repeat (first | assumption | (apply lk_last; (try simp only [ll1, ll2, ll3, ll4, lls_len, lls2_len, markL_len]); first | done | omega) | apply lk_prev)); done) | (apply within_sl; (with_reducible repeat (first | assumption | (apply lk_last; (try simp only [ll1, ll2, ll3, ll4, lls_len, lls2_len, markL_len]); first | done | omega) | apply lk_prev)); done) | ((try apply within_sub); apply Ints.within; (with_reducible repeat (first | assumption | apply Ints.app)); done) | (apply Lists.within; (with_reducible repeat (first | assumption | apply Lists.app)); done) | (apply within_sl; (with_reducible repeat (first | assumption | (apply lk_last; (try simp only [ll1, ll2, ll3, ll4, lls_len, lls2_len, markL_len]); first | done | omega) | apply lk_prev)); done))) | (apply Within.agg2 <;> (first | exact .prim rfl | (apply within_ptr; (with_reducible repeat (first | assumption | (apply lk_last; (try simp only [ll1, ll2, ll3, ll4, lls_len, lls2_len, markL_len]); first | done | omega) | apply lk_prev)); done) | (apply within_sl; (with_reducible repeat (first | assumption | (apply lk_last; (try simp only [ll1, ll2, ll3, ll4, lls_len, lls2_len, markL_len]); first | done | omega) | apply lk_prev)); done) | ((try apply within_sub); apply Ints.within; (with_reducible repeat (first | assumption | apply Ints.app)); done) | (apply Lists.within; (with_reducible repeat (first | assumption | apply Lists.app)); done) | (apply within_sl; (with_reducible repeat (first | assumption | (apply lk_last; (try simp only [ll1, ll2, ll3, ll4, lls_len, lls2_len, markL_len]); first | done | omega) | apply lk_prev)); done)))) ?_
    refine d_do rfl (o_move (by conv => lhs; whnf) ⟨rfl, rfl⟩) (by first | exact .prim rfl | (apply within_sl; (with_reducible repeat (first | assumption | (apply lk_last; (try simp only [ll1, ll2, ll3, ll4, lls_len, lls2_len, markL_len]); first | done | omega) | apply lk_prev)); done) | ((try apply within_sub); apply Ints.within; (with_reducible repeat (first | assumption | apply Ints.app)); done) | (apply Lists.within; (with_reducible repeat (first | assumption | apply Lists.app)); done) | (apply Flts.within; (with_reducible repeat (first | assumption | apply Flts.app)); done) | (apply Byts.within; (with_reducible repeat (first | assumption | apply Byts.app)); done)) ?_
    refine d_do rfl (o_move (by conv => lhs; whnf) ⟨rfl, rfl⟩) (by exact .prim rfl) ?_
    refine d_do rfl (o_sliceFrom (l := i + 1) Try.underlying22 ty2 (by conv => lhs; whnf) (by first | ((with_reducible repeat (first | assumption | (apply lk_last; (try simp only [ll1, ll2, ll3, ll4, lls_len, lls2_len, markL_len]); first | done | omega) | apply lk_prev)); done) | repeat (first | assumption | exact lk_last (by (try simp only [ll1, ll2, ll3, ll4, lls_len, lls2_len, markL_len]); first | done | omega) | apply lk_prev)) hlen9 (by conv => lhs; whnf) (by omega) (by omega) (by omega) ⟨rfl, rfl⟩) (by first | exact .prim rfl | exact within_func0 | (apply within_ptr; (with_reducible repeat (first | assumption | (apply lk_last; (try simp only [ll1, ll2, ll3, ll4, lls_len, lls2_len, markL_len]); first | done | omega) | apply lk_prev)); done) | (apply within_sl; (with_reducible repeat (first | assumption | (apply lk_last; (try simp only [ll1, ll2, ll3, ll4, lls_len, lls2_len, markL_len]); first | done | omega) | apply lk_prev)); done) | ((try apply within_sub); apply Ints.within; (with_reducible repeat (first | assumption | apply Ints.app)); done) | (apply Lists.within; (with_reducible repeat (first | assumption | apply Lists.app)); done) | (apply Flts.within; (with_reducible repeat (first | assumption | apply Flts.app)); done) | (apply Byts.within; (with_reducible repeat (first | assumption | apply Byts.app)); done) | exact within_nilw | exact within_nilb | (apply within_tup2 <;> first | exact .prim rfl | (apply within_sl; (with_reducible repeat (first | assumption | (apply lk_last; (try simp only [ll1, ll2, ll3, ll4, lls_len, lls2_len, markL_len]); first | done | omega) | apply lk_prev)); done) | (apply Within.agg2 <;> (first | exact .prim rfl | (apply within_ptr; (with_reducible repeat (first | assumption | (apply lk_last; (try simp only [ll1, ll2, ll3, ll4, lls_len, lls2_len, markL_len]); first | done | omega) | apply lk_prev)); done) | (apply within_sl; (with_reducible repeat (first | assumption | (apply lk_last; (try simp only [ll1, ll2, ll3, ll4, lls_len, lls2_len, markL_len]); first | done | omega) | apply lk_prev)); done) | ((try apply within_sub); apply Ints.within; (with_reducible repeat (first | assumption | apply Ints.app)); done) | (apply Lists.within; (with_reducible repeat (first | assumption | apply Lists.app)); done) | (apply within_sl; (with_reducible repeat (first | assumption | (apply lk_last; (try simp only [ll1, ll2, ll3, ll4, lls_len, lls2_len, markL_len]); first | done | omega) | apply lk_prev)); done)))) | exact Within.mono ‹Within _ (Value.func _ _ _)› (by (try simp only [ll1, ll2, ll3, ll4, lls_len, lls2_len, markL_len]); first | done | omega) | (apply Within.agg4 <;> (first | exact .prim rfl | (apply within_ptr; (with_reducible repeat (first | assumption | (apply lk_last; (try simp only [ll1, ll2, ll3, ll4, lls_len, lls2_len, markL_len]); first | done | omega) | apply lk_prev)); done) | (apply within_sl; (with_reducible repeat (first | assumption | (apply lk_last; (try simp only [ll1, ll2, ll3, ll4, lls_len, lls2_len, markL_len]); first | done | omega) | apply lk_prev)); done) | ((try apply within_sub); apply Ints.within; (with_reducible repeat (first | assumption | apply Ints.app)); done) | (apply Lists.within; (with_reducible repeat (first | assumption | apply Lists.app)); done) | (apply within_sl; (with_reducible repeat (first | assumption | (apply lk_last; (try simp only [ll1, ll2, ll3, ll4, lls_len, lls2_len, markL_len]); first | done | omega) | apply lk_prev)); done))) | (apply Within.agg3 <;> (first | exact .prim rfl | (apply within_ptr; (with_reducible repeat (first | assumption | (apply lk_last; (try simp only [ll1, ll2, ll3, ll4, lls_len, lls2_len, markL_len]); first | done | omega) | apply lk_prev)); done) | (apply within_sl; (with_reducible repeat (first | assumption | (apply lk_last; (try simp only [ll1, ll2, ll3, ll4, lls_len, lls2_len, markL_len]); first | done | omega) | apply lk_prev)); done) | ((try apply within_sub); apply Ints.within; (with_reducible repeat (first | assumption | apply Ints.app)); done) | (apply Lists.within; (with_reducible repeat (first | assumption | apply Lists.app)); done) | (apply within_sl; (with_reducible repeat (first | assumption | (apply lk_last; (try simp only [ll1, ll2, ll3, ll4, lls_len, lls2_len, markL_len]); first | done | omega) | apply lk_prev)); done))) | (apply Within.agg2 <;> (first | exact .prim rfl | (apply within_ptr; (with_reducible repeat (first | assumption | (apply lk_last; (try simp only [ll1, ll2, ll3, ll4, lls_len, lls2_len, markL_len]); first | done | omega) | apply lk_prev)); done) | (apply within_sl; (with_reducible repeat (first | assumption | (apply lk_last; (try simp only [ll1, ll2, ll3, ll4, lls_len, lls2_len, markL_len]); first | done | omega) | apply lk_prev)); done) | ((try apply within_sub); apply Ints.within; (with_reducible repeat (first | assumption | apply Ints.app)); done) | (apply Lists.within; (with_reducible repeat (first | assumption | apply Lists.app)); done) | (apply within_sl; (with_reducible repeat (first | assumption | (apply lk_last; (try simp only [ll1, ll2, ll3, ll4, lls_len, lls2_len, markL_len]); first | done | omega) | apply lk_prev)); done)))) ?_
    refine d_end ?_
    refine o_del Try.underlying22 ty2 (by conv => lhs; whnf) hS hn hL hi (by conv => lhs; whnf) rfl ?_
    refine ⟨o_move rfl ⟨rfl, rfl⟩, ?_⟩
    refine a_do rfl (o_assign (by conv => lhs; whnf) ?_)
    refine a_end ?_
    refine awp_seq ?_
    refine awp_region rfl ?_
    refine a_do rfl (o_move (by conv => lhs; whnf) ?_)
    refine a_do rfl (o_move (by conv => lhs; whnf) ?_)
    refine a_do rfl (o_lenI Try.underlying22 (by conv => lhs; whnf) (by first | ((with_reducible repeat (first | assumption | apply Ints.app)); done) | repeat (first | with_reducible assumption | exact ints_nil | exact Ints.own (by with_reducible repeat (first | assumption | (apply lk_last; (try simp only [ll1, ll2, ll3, ll4, lls_len, lls2_len, markL_len]); first | done | omega) | apply lk_prev)) (by first | rfl | exact upto_len | assumption | exact map_len | exact List.length_set | (rw [List.length_set]; assumption)) | exact Ints.tail (by with_reducible repeat (first | assumption | (apply lk_last; (try simp only [ll1, ll2, ll3, ll4, lls_len, lls2_len, markL_len]); first | done | omega) | apply lk_prev)) (by first | rfl | exact upto_len | assumption | exact map_len | exact List.length_set | (rw [List.length_set]; assumption)) | with_reducible apply Ints.app | (refine Ints.sub (by with_reducible repeat (first | assumption | apply Ints.app)) (by omega) (by omega) (by omega)))) ?_)
    refine a_do rfl (o_move (by conv => lhs; whnf) ?_)
    refine a_do rfl (o_sliceAt (l := n - 1) (r := n) Try.underlying22 ty2 (by conv => lhs; whnf) (lk_set hkS) hdl9 (by conv => lhs; whnf) (by conv => lhs; whnf) (by omega) (by omega) (by omega) (by omega) ?_)
    refine a_do rfl (o_clear Try.underlying22 ty2 (by conv => lhs; whnf) (lk_set hkS) hdl9 (by omega) (by omega) rfl ?_)
    refine a_end ?_
    refine awp_seq ?_
    refine awp_region rfl ?_
    rw [set_set, show n - (n - 1) = 1 by omega, delB_fin hn hi]
    refine a_do rfl (o_move (by conv => lhs; whnf) ?_)
    refine a_do rfl (o_assign (by conv => lhs; whnf) ?_)
    refine a_end ?_
    refine awp_ret ?_
    refine ⟨.inl rfl, [_], ⟨ares_tmp (by conv => lhs; whnf), trivial⟩, ?_⟩
    exact ⟨rfl, Grown.refl _⟩

end Go.Am
