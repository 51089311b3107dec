/-
  More of what the functions that the law FnExactAreRooms calls answer.
-/
import Derived.Test.YtnfefjofojmokaaFnExactAreRoomsBk2
namespace Go.Am
open Go.Proofs
set_option linter.unusedSimpArgs false
set_option linter.unusedVariables false

set_option maxRecDepth 10000 in
theorem specAreRooms_ret (xss : List (List Int)) (os : List Int) (v w : Value) (h : AHeap) (hv : Lists h v xss) (hw : Ints h w os) (hb : LB xss) (hl : os.length ≤ 1073741824) : Ret Try.prog 21 [v, w] h (.tuple #[.bool (rmV xss os && keepB xss os), .bool (rmV xss os)]) h := by
  refine ret_of (within_tup2 (.prim rfl) (.prim rfl)) ?_
  have hbl := hb.len
  refine tri_of_body Try.func21 rfl (by kernel_rfl) (by show 2 ≤ 45; decide) ?_
  refine awp_seq ?_
  refine awp_region rfl ?_
  refine a_do rfl (o_assign (by conv => lhs; whnf) ?_)
  refine a_do rfl (o_assign (by conv => lhs; whnf) ?_)
  refine a_end ?_
  refine awp_seq ?_
  refine awp_region rfl ?_
  refine a_do rfl (o_move (by conv => lhs; whnf) ?_)
  refine a_do rfl (o_lenL Try.underlying22 (by conv => lhs; whnf) (by first | ((with_reducible repeat (first | assumption | apply Lists.app)); done) | exact lists_nil | repeat (first | with_reducible assumption | exact lls_lists (by omega) rfl | with_reducible apply Lists.app)) ?_)
  refine a_do rfl (o_assign (by conv => lhs; whnf) ?_)
  refine a_end ?_
  refine awp_seq ?_
  refine awp_seq ?_
  refine awp_region rfl ?_
  refine a_do rfl (o_move (by conv => lhs; whnf) ?_)
  refine a_do rfl (o_callF (lmap_cons (by conv => lhs; whnf) lmap_nil) (Ret.toB (l05Friends_ret _ _ _ (by first | ((with_reducible repeat (first | assumption | apply Lists.app)); done) | exact lists_nil | repeat (first | with_reducible assumption | exact lls_lists (by omega) rfl | with_reducible apply Lists.app)) (by assumption)) (fun c1 => ?_) (fun c1 => ?_)))
  ·
    have hF := c1
    refine a_do rfl (o_notT (by conv => lhs; whnf) ?_)
    refine a_do rfl (o_move (by conv => lhs; whnf) ?_)
    refine a_do rfl (o_move (by conv => lhs; whnf) ?_)
    refine a_do rfl (o_move (by conv => lhs; whnf) ?_)
    refine a_do rfl (o_callF (lmap_cons (by conv => lhs; whnf) (lmap_cons (by conv => lhs; whnf) lmap_nil)) (Ret.toB (l05Order_ret _ _ _ _ (by first | ((with_reducible repeat (first | assumption | apply Ints.app)); done) | repeat (first | with_reducible assumption | exact ints_nil | exact Ints.own (by with_reducible repeat (first | assumption | (apply lk_last; (try simp only [ll1, ll2, ll3, ll4, lls_len, lls2_len]); omega) | apply lk_prev)) (by first | rfl | exact upto_len | assumption | exact map_len | exact List.length_set) | exact Ints.tail (by with_reducible repeat (first | assumption | (apply lk_last; (try simp only [ll1, ll2, ll3, ll4, lls_len, lls2_len]); omega) | apply lk_prev)) (by first | rfl | exact upto_len | assumption | exact map_len | exact List.length_set) | with_reducible apply Ints.app | (refine Ints.sub (by with_reducible repeat (first | assumption | apply Ints.app)) (by omega) (by omega) (by omega)))) (by omega) (by omega)) (fun c2 => ?_) (fun c2 => ?_)))
    ·
      have hoo := Bool.and_eq_true_iff.1 c2
      have hwo := hoo.1
      have hlo : (os.length : Int) = xss.length := of_decide_eq_true hoo.2
      refine a_do rfl (o_notT (by conv => lhs; whnf) ?_)
      refine a_do rfl (o_pickF (by conv => lhs; whnf) (by conv => lhs; whnf) ?_)
      refine a_end ?_
      refine awp_condF (by conv => lhs; whnf) ?_
      refine awp_skip ?_
      refine awp_seq ?_
      refine awp_seq ?_
      refine awp_region rfl ?_
      refine a_do rfl (o_move (by conv => lhs; whnf) ?_)
      refine a_do rfl (o_lenI Try.underlying32 (by conv => lhs; whnf) (by first | ((with_reducible repeat (first | assumption | apply Ints.app)); done) | repeat (first | with_reducible assumption | exact ints_nil | exact Ints.own (by with_reducible repeat (first | assumption | (apply lk_last; (try simp only [ll1, ll2, ll3, ll4, lls_len, lls2_len]); omega) | apply lk_prev)) (by first | rfl | exact upto_len | assumption | exact map_len | exact List.length_set) | exact Ints.tail (by with_reducible repeat (first | assumption | (apply lk_last; (try simp only [ll1, ll2, ll3, ll4, lls_len, lls2_len]); omega) | apply lk_prev)) (by first | rfl | exact upto_len | assumption | exact map_len | exact List.length_set) | with_reducible apply Ints.app | (refine Ints.sub (by with_reducible repeat (first | assumption | apply Ints.app)) (by omega) (by omega) (by omega)))) ?_)
      refine a_do rfl (o_move (by conv => lhs; whnf) ?_)
      refine a_end ?_
      refine awp_block ?_
      refine awp_loop (σ := Nat) (fun s env1 h1 => Slots env1 [(0, v), (1, w), (6, i64 xss.length), (20, i64 os.length), (21, i64 s)] ∧ h1 = h ∧ s ≤ os.length ∧ (List.range s).all (pairB os) = true) (fun s => os.length - s) 0 ?_ ?_
      · refine ⟨Slots.mk ⟨?_, ?_, ?_, ?_, ?_, trivial⟩, ?_, ?_⟩
        all_goals first | rfl | omega | exact ⟨by omega, rfl⟩ | (simp; done)
      · intro s env1 h1 hI1
        obtain ⟨⟨e1, rfl⟩, hkeep, ⟨hs, ha⟩⟩ := hI1
        obtain rfl := hkeep.symm
        refine awp_seq ?_
        refine awp_region rfl ?_
        refine a_do rfl (o_lss (by conv => lhs; whnf) (by conv => lhs; whnf) (fun c3 => ?_) (fun c3 => ?_))
        ·
          refine a_end ?_
          refine awp_seq ?_
          refine awp_condT (by conv => lhs; whnf) ?_
          refine awp_skip ?_
          refine awp_seq ?_
          refine awp_block ?_
          refine awp_seq ?_
          refine awp_region rfl ?_
          refine a_do rfl (o_move (by conv => lhs; whnf) ?_)
          refine a_do rfl (o_assign (by conv => lhs; whnf) ?_)
          refine a_end ?_
          refine awp_seq ?_
          refine awp_region rfl ?_
          have hob := (dist_of hwo).1 s (by omega)
          refine a_do rfl (o_move (by conv => lhs; whnf) ?_)
          refine a_do rfl (o_move (by conv => lhs; whnf) ?_)
          first | refine a_do rfl (o_indexI Try.underlying32 ty2 (by conv => lhs; whnf) (by first | ((with_reducible repeat (first | assumption | apply Ints.app)); done) | repeat (first | with_reducible assumption | exact ints_nil | exact Ints.own (by with_reducible repeat (first | assumption | (apply lk_last; (try simp only [ll1, ll2, ll3, ll4, lls_len, lls2_len]); omega) | apply lk_prev)) (by first | rfl | exact upto_len | assumption | exact map_len | exact List.length_set) | exact Ints.tail (by with_reducible repeat (first | assumption | (apply lk_last; (try simp only [ll1, ll2, ll3, ll4, lls_len, lls2_len]); omega) | apply lk_prev)) (by first | rfl | exact upto_len | assumption | exact map_len | exact List.length_set) | with_reducible apply Ints.app | (refine Ints.sub (by with_reducible repeat (first | assumption | apply Ints.app)) (by omega) (by omega) (by omega)))) (by conv => lhs; whnf) (by omega) (fun p4 hp4 => ?_)) | refine a_do rfl (o_indexZ Try.underlying32 ty2 (by conv => lhs; whnf) (by first | ((with_reducible repeat (first | assumption | apply Ints.app)); done) | repeat (first | with_reducible assumption | exact ints_nil | exact Ints.own (by with_reducible repeat (first | assumption | (apply lk_last; (try simp only [ll1, ll2, ll3, ll4, lls_len, lls2_len]); omega) | apply lk_prev)) (by first | rfl | exact upto_len | assumption | exact map_len | exact List.length_set) | exact Ints.tail (by with_reducible repeat (first | assumption | (apply lk_last; (try simp only [ll1, ll2, ll3, ll4, lls_len, lls2_len]); omega) | apply lk_prev)) (by first | rfl | exact upto_len | assumption | exact map_len | exact List.length_set) | with_reducible apply Ints.app | (refine Ints.sub (by with_reducible repeat (first | assumption | apply Ints.app)) (by omega) (by omega) (by omega)))) (by conv => lhs; whnf) (by omega) (by omega) (fun p4 hp4 => ?_))
          refine a_do rfl (o_loadI Try.underlying2 rfl (by conv => lhs; whnf) hp4 (by first | ((with_reducible repeat (first | assumption | apply Ints.app)); done) | repeat (first | with_reducible assumption | exact ints_nil | exact Ints.own (by with_reducible repeat (first | assumption | (apply lk_last; (try simp only [ll1, ll2, ll3, ll4, lls_len, lls2_len]); omega) | apply lk_prev)) (by first | rfl | exact upto_len | assumption | exact map_len | exact List.length_set) | exact Ints.tail (by with_reducible repeat (first | assumption | (apply lk_last; (try simp only [ll1, ll2, ll3, ll4, lls_len, lls2_len]); omega) | apply lk_prev)) (by first | rfl | exact upto_len | assumption | exact map_len | exact List.length_set) | with_reducible apply Ints.app | (refine Ints.sub (by with_reducible repeat (first | assumption | apply Ints.app)) (by omega) (by omega) (by omega)))) (by omega) ?_)
          refine a_do rfl (o_move (by conv => lhs; whnf) ?_)
          refine a_do rfl (o_eql (by conv => lhs; whnf) (by conv => lhs; whnf) (fun c5 => ?_) (fun c5 => ?_))
          ·
            have hR : rmV xss os = false := rmV_noP (s := s) (by omega) (pair_1 c5)
            refine a_do rfl (o_move (by conv => lhs; whnf) ?_)
            refine a_no rfl ?_
            refine a_no rfl ?_
            refine a_no rfl ?_
            refine a_no rfl ?_
            refine a_no rfl ?_
            refine a_no rfl ?_
            refine a_no rfl ?_
            refine a_no rfl ?_
            refine a_no rfl ?_
            refine a_do rfl (o_pickT (by conv => lhs; whnf) (by conv => lhs; whnf) ?_)
            refine a_end ?_
            refine awp_condT (by conv => lhs; whnf) ?_
            refine awp_seq ?_
            refine awp_region rfl ?_
            refine a_do rfl (o_assign (by conv => lhs; whnf) ?_)
            refine a_do rfl (o_assign (by conv => lhs; whnf) ?_)
            refine a_end ?_
            refine awp_ret ?_
            refine ⟨.inl rfl, [_, _], ⟨ares_tmp (by conv => lhs; whnf), ares_tmp (by conv => lhs; whnf), trivial⟩, ?_⟩
            exact ⟨by first | exact tup2 (by rw [hR, hk9]; rfl) hR.symm | exact tup2 (by rw [hR]; rfl) hR.symm, (by first | ((repeat (first | with_reducible exact Grown.refl _ | with_reducible apply Grown.push)); done) | repeat (first | exact Grown.refl _ | refine Grown.push ?_ _))⟩
          ·
            have hn9 := c5
            refine a_do rfl (o_move (by conv => lhs; whnf) ?_)
            refine a_do rfl (o_move (by conv => lhs; whnf) ?_)
            refine a_do rfl (o_move (by conv => lhs; whnf) ?_)
            refine a_do rfl (o_move (by conv => lhs; whnf) ?_)
            first | refine a_do rfl (o_indexI Try.underlying32 ty2 (by conv => lhs; whnf) (by first | ((with_reducible repeat (first | assumption | apply Ints.app)); done) | repeat (first | with_reducible assumption | exact ints_nil | exact Ints.own (by with_reducible repeat (first | assumption | (apply lk_last; (try simp only [ll1, ll2, ll3, ll4, lls_len, lls2_len]); omega) | apply lk_prev)) (by first | rfl | exact upto_len | assumption | exact map_len | exact List.length_set) | exact Ints.tail (by with_reducible repeat (first | assumption | (apply lk_last; (try simp only [ll1, ll2, ll3, ll4, lls_len, lls2_len]); omega) | apply lk_prev)) (by first | rfl | exact upto_len | assumption | exact map_len | exact List.length_set) | with_reducible apply Ints.app | (refine Ints.sub (by with_reducible repeat (first | assumption | apply Ints.app)) (by omega) (by omega) (by omega)))) (by conv => lhs; whnf) (by omega) (fun p6 hp6 => ?_)) | refine a_do rfl (o_indexZ Try.underlying32 ty2 (by conv => lhs; whnf) (by first | ((with_reducible repeat (first | assumption | apply Ints.app)); done) | repeat (first | with_reducible assumption | exact ints_nil | exact Ints.own (by with_reducible repeat (first | assumption | (apply lk_last; (try simp only [ll1, ll2, ll3, ll4, lls_len, lls2_len]); omega) | apply lk_prev)) (by first | rfl | exact upto_len | assumption | exact map_len | exact List.length_set) | exact Ints.tail (by with_reducible repeat (first | assumption | (apply lk_last; (try simp only [ll1, ll2, ll3, ll4, lls_len, lls2_len]); omega) | apply lk_prev)) (by first | rfl | exact upto_len | assumption | exact map_len | exact List.length_set) | with_reducible apply Ints.app | (refine Ints.sub (by with_reducible repeat (first | assumption | apply Ints.app)) (by omega) (by omega) (by omega)))) (by conv => lhs; whnf) (by omega) (by omega) (fun p6 hp6 => ?_))
            refine a_do rfl (o_loadI Try.underlying2 rfl (by conv => lhs; whnf) hp6 (by first | ((with_reducible repeat (first | assumption | apply Ints.app)); done) | repeat (first | with_reducible assumption | exact ints_nil | exact Ints.own (by with_reducible repeat (first | assumption | (apply lk_last; (try simp only [ll1, ll2, ll3, ll4, lls_len, lls2_len]); omega) | apply lk_prev)) (by first | rfl | exact upto_len | assumption | exact map_len | exact List.length_set) | exact Ints.tail (by with_reducible repeat (first | assumption | (apply lk_last; (try simp only [ll1, ll2, ll3, ll4, lls_len, lls2_len]); omega) | apply lk_prev)) (by first | rfl | exact upto_len | assumption | exact map_len | exact List.length_set) | with_reducible apply Ints.app | (refine Ints.sub (by with_reducible repeat (first | assumption | apply Ints.app)) (by omega) (by omega) (by omega)))) (by omega) ?_)
            first | refine a_do rfl (o_indexI Try.underlying32 ty2 (by conv => lhs; whnf) (by first | ((with_reducible repeat (first | assumption | apply Ints.app)); done) | repeat (first | with_reducible assumption | exact ints_nil | exact Ints.own (by with_reducible repeat (first | assumption | (apply lk_last; (try simp only [ll1, ll2, ll3, ll4, lls_len, lls2_len]); omega) | apply lk_prev)) (by first | rfl | exact upto_len | assumption | exact map_len | exact List.length_set) | exact Ints.tail (by with_reducible repeat (first | assumption | (apply lk_last; (try simp only [ll1, ll2, ll3, ll4, lls_len, lls2_len]); omega) | apply lk_prev)) (by first | rfl | exact upto_len | assumption | exact map_len | exact List.length_set) | with_reducible apply Ints.app | (refine Ints.sub (by with_reducible repeat (first | assumption | apply Ints.app)) (by omega) (by omega) (by omega)))) (by conv => lhs; whnf) (by omega) (fun p7 hp7 => ?_)) | refine a_do rfl (o_indexZ Try.underlying32 ty2 (by conv => lhs; whnf) (by first | ((with_reducible repeat (first | assumption | apply Ints.app)); done) | repeat (first | with_reducible assumption | exact ints_nil | exact Ints.own (by with_reducible repeat (first | assumption | (apply lk_last; (try simp only [ll1, ll2, ll3, ll4, lls_len, lls2_len]); omega) | apply lk_prev)) (by first | rfl | exact upto_len | assumption | exact map_len | exact List.length_set) | exact Ints.tail (by with_reducible repeat (first | assumption | (apply lk_last; (try simp only [ll1, ll2, ll3, ll4, lls_len, lls2_len]); omega) | apply lk_prev)) (by first | rfl | exact upto_len | assumption | exact map_len | exact List.length_set) | with_reducible apply Ints.app | (refine Ints.sub (by with_reducible repeat (first | assumption | apply Ints.app)) (by omega) (by omega) (by omega)))) (by conv => lhs; whnf) (by omega) (by omega) (fun p7 hp7 => ?_))
            refine a_do rfl (o_loadI Try.underlying2 rfl (by conv => lhs; whnf) hp7 (by first | ((with_reducible repeat (first | assumption | apply Ints.app)); done) | repeat (first | with_reducible assumption | exact ints_nil | exact Ints.own (by with_reducible repeat (first | assumption | (apply lk_last; (try simp only [ll1, ll2, ll3, ll4, lls_len, lls2_len]); omega) | apply lk_prev)) (by first | rfl | exact upto_len | assumption | exact map_len | exact List.length_set) | exact Ints.tail (by with_reducible repeat (first | assumption | (apply lk_last; (try simp only [ll1, ll2, ll3, ll4, lls_len, lls2_len]); omega) | apply lk_prev)) (by first | rfl | exact upto_len | assumption | exact map_len | exact List.length_set) | with_reducible apply Ints.app | (refine Ints.sub (by with_reducible repeat (first | assumption | apply Ints.app)) (by omega) (by omega) (by omega)))) (by omega) ?_)
            refine a_do rfl (o_move (by conv => lhs; whnf) ?_)
            refine a_do rfl (o_neq (by conv => lhs; whnf) (by conv => lhs; whnf) (fun c8 => ?_) (fun c8 => ?_))
            ·
              have hR : rmV xss os = false := rmV_noP (s := s) (by omega) (pair_2 c8)
              refine a_do rfl (o_pickF (by conv => lhs; whnf) (by conv => lhs; whnf) ?_)
              refine a_end ?_
              refine awp_condT (by conv => lhs; whnf) ?_
              refine awp_seq ?_
              refine awp_region rfl ?_
              refine a_do rfl (o_assign (by conv => lhs; whnf) ?_)
              refine a_do rfl (o_assign (by conv => lhs; whnf) ?_)
              refine a_end ?_
              refine awp_ret ?_
              refine ⟨.inl rfl, [_, _], ⟨ares_tmp (by conv => lhs; whnf), ares_tmp (by conv => lhs; whnf), trivial⟩, ?_⟩
              exact ⟨by first | exact tup2 (by rw [hR, hk9]; rfl) hR.symm | exact tup2 (by rw [hR]; rfl) hR.symm, (by first | ((repeat (first | with_reducible exact Grown.refl _ | with_reducible apply Grown.push)); done) | repeat (first | exact Grown.refl _ | refine Grown.push ?_ _))⟩
            ·
              have hp9 := pair_yes hn9 c8
              refine a_do rfl (o_pickF (by conv => lhs; whnf) (by conv => lhs; whnf) ?_)
              refine a_end ?_
              refine awp_condF (by conv => lhs; whnf) ?_
              refine awp_skip ?_
              refine awp_region rfl ?_
              refine a_do rfl (o_add (by conv => lhs; whnf) (by conv => lhs; whnf) (by omega) (by omega) ?_)
              refine a_do rfl (o_move (by conv => lhs; whnf) ?_)
              refine a_end ?_
              refine ⟨s + 1, ⟨Slots.mk ⟨?_, ?_, ?_, ?_, ?_, trivial⟩, ?_, ?_⟩, ?_⟩
              all_goals first | rfl | omega | exact congrArg i64 (by omega) | exact ⟨by omega, rng_step ha hp9⟩
        ·
          refine a_end ?_
          refine awp_seq ?_
          refine awp_condF (by conv => lhs; whnf) ?_
          refine awp_exit ?_
          refine awp_seq ?_
          refine awp_region rfl ?_
          have hR : rmV xss os = true := rmV_yes hF hlo hwo (show s = os.length by omega) ha
          refine a_do rfl (o_move (by conv => lhs; whnf) ?_)
          refine a_do rfl (o_move (by conv => lhs; whnf) ?_)
          refine a_do rfl (o_callF (lmap_cons (by conv => lhs; whnf) (lmap_cons (by conv => lhs; whnf) lmap_nil)) (Ret.toB (l05Quiet_ret _ _ _ _ _ (by first | ((with_reducible repeat (first | assumption | apply Lists.app)); done) | exact lists_nil | repeat (first | with_reducible assumption | exact lls_lists (by omega) rfl | with_reducible apply Lists.app)) (by first | ((with_reducible repeat (first | assumption | apply Ints.app)); done) | repeat (first | with_reducible assumption | exact ints_nil | exact Ints.own (by with_reducible repeat (first | assumption | (apply lk_last; (try simp only [ll1, ll2, ll3, ll4, lls_len, lls2_len]); omega) | apply lk_prev)) (by first | rfl | exact upto_len | assumption | exact map_len | exact List.length_set) | exact Ints.tail (by with_reducible repeat (first | assumption | (apply lk_last; (try simp only [ll1, ll2, ll3, ll4, lls_len, lls2_len]); omega) | apply lk_prev)) (by first | rfl | exact upto_len | assumption | exact map_len | exact List.length_set) | with_reducible apply Ints.app | (refine Ints.sub (by with_reducible repeat (first | assumption | apply Ints.app)) (by omega) (by omega) (by omega)))) (by assumption) (by omega) hF hlo hwo) (fun c9 => ?_) (fun c9 => ?_)))
          ·
            have hk9 := c9
            rw [← keep_quiet hF hlo] at hk9
            refine a_do rfl (o_assign (by conv => lhs; whnf) ?_)
            refine a_do rfl (o_assign (by conv => lhs; whnf) ?_)
            refine a_end ?_
            refine awp_ret ?_
            refine ⟨.inl rfl, [_, _], ⟨ares_tmp (by conv => lhs; whnf), ares_tmp (by conv => lhs; whnf), trivial⟩, ?_⟩
            exact ⟨by first | exact tup2 (by rw [hR, hk9]; rfl) hR.symm | exact tup2 (by rw [hR]; rfl) hR.symm, (by first | ((repeat (first | with_reducible exact Grown.refl _ | with_reducible apply Grown.push)); done) | repeat (first | exact Grown.refl _ | refine Grown.push ?_ _))⟩
          ·
            have hk9 := c9
            rw [← keep_quiet hF hlo] at hk9
            refine a_do rfl (o_assign (by conv => lhs; whnf) ?_)
            refine a_do rfl (o_assign (by conv => lhs; whnf) ?_)
            refine a_end ?_
            refine awp_ret ?_
            refine ⟨.inl rfl, [_, _], ⟨ares_tmp (by conv => lhs; whnf), ares_tmp (by conv => lhs; whnf), trivial⟩, ?_⟩
            exact ⟨by first | exact tup2 (by rw [hR, hk9]; rfl) hR.symm | exact tup2 (by rw [hR]; rfl) hR.symm, (by first | ((repeat (first | with_reducible exact Grown.refl _ | with_reducible apply Grown.push)); done) | repeat (first | exact Grown.refl _ | refine Grown.push ?_ _))⟩
    ·
      have hR : rmV xss os = false := rmV_noW c2
      refine a_do rfl (o_notF (by conv => lhs; whnf) ?_)
      refine a_do rfl (o_pickF (by conv => lhs; whnf) (by conv => lhs; whnf) ?_)
      refine a_end ?_
      refine awp_condT (by conv => lhs; whnf) ?_
      refine awp_seq ?_
      refine awp_region rfl ?_
      refine a_do rfl (o_assign (by conv => lhs; whnf) ?_)
      refine a_do rfl (o_assign (by conv => lhs; whnf) ?_)
      refine a_end ?_
      refine awp_ret ?_
      refine ⟨.inl rfl, [_, _], ⟨ares_tmp (by conv => lhs; whnf), ares_tmp (by conv => lhs; whnf), trivial⟩, ?_⟩
      exact ⟨by first | exact tup2 (by rw [hR, hk9]; rfl) hR.symm | exact tup2 (by rw [hR]; rfl) hR.symm, (by first | ((repeat (first | with_reducible exact Grown.refl _ | with_reducible apply Grown.push)); done) | repeat (first | exact Grown.refl _ | refine Grown.push ?_ _))⟩
  ·
    have hR : rmV xss os = false := rmV_noF c1
    refine a_do rfl (o_notF (by conv => lhs; whnf) ?_)
    refine a_do rfl (o_move (by conv => lhs; whnf) ?_)
    refine a_no rfl ?_
    refine a_no rfl ?_
    refine a_no rfl ?_
    refine a_no rfl ?_
    refine a_do rfl (o_pickT (by conv => lhs; whnf) (by conv => lhs; whnf) ?_)
    refine a_end ?_
    refine awp_condT (by conv => lhs; whnf) ?_
    refine awp_seq ?_
    refine awp_region rfl ?_
    refine a_do rfl (o_assign (by conv => lhs; whnf) ?_)
    refine a_do rfl (o_assign (by conv => lhs; whnf) ?_)
    refine a_end ?_
    refine awp_ret ?_
    refine ⟨.inl rfl, [_, _], ⟨ares_tmp (by conv => lhs; whnf), ares_tmp (by conv => lhs; whnf), trivial⟩, ?_⟩
    exact ⟨by first | exact tup2 (by rw [hR, hk9]; rfl) hR.symm | exact tup2 (by rw [hR]; rfl) hR.symm, (by first | ((repeat (first | with_reducible exact Grown.refl _ | with_reducible apply Grown.push)); done) | repeat (first | exact Grown.refl _ | refine Grown.push ?_ _))⟩

end Go.Am
