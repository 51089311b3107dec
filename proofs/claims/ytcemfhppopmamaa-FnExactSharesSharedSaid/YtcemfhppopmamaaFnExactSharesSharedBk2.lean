/-
  More of what the functions that the law FnExactSharesShared calls answer.
-/
import Derived.Test.YtcemfhppopmamaaFnExactSharesSharedBk1
namespace Go.Am
open Go.Proofs
set_option linter.unusedSimpArgs false
set_option linter.unusedVariables false

set_option maxRecDepth 10000 in
theorem markWorthsS_ret (c : Int) (k n : Nat) (rs : List Rec) (h g : AHeap) (hk : k = h.length) (hn : rs.length = n) (hb : LB (rws rs)) (hc : 0 ≤ c ∧ c ≤ 10000000) (ht : totR rs ≤ 10000000) : Ret Try.prog 40 [sl2 k n, i64 c] (h ++ rls k rs ++ g) (i64 (c + totR rs)) (h ++ rls k (markR c rs) ++ g) := by
  have hbl := hb.len
  have hrl9 := rws_len (rs := rs)
  subst hn
  refine tri_of_body Try.func40 rfl (by kernel_rfl) (by show 2 ≤ 27; decide) ?_
  refine awp_seq ?_
  refine awp_region rfl ?_
  refine a_do rfl (o_assign (by conv => lhs; whnf) ?_)
  refine a_end ?_
  refine awp_seq ?_
  refine awp_seq ?_
  refine awp_region rfl ?_
  refine a_do rfl (o_assign (by conv => lhs; whnf) ?_)
  refine a_end ?_
  refine awp_block ?_
  refine awp_loop (σ := Nat) (fun s env1 h1 => Slots env1 [(0, sl2 k rs.length), (1, i64 (c + totR (rs.take s))), (5, i64 s)] ∧ h1 = h ++ rls k (markRT c rs s) ++ g ∧ s ≤ rs.length) (fun s => rs.length - s) 0 ?_ ?_
  · refine ⟨Slots.mk ⟨?_, ?_, ?_, trivial⟩, ?_, ?_⟩
    all_goals first | rfl | omega | exact congrArg i64 (by simp [totR]) | (rw [markRT_zero]) | (simp; done)
  · intro s env1 h1 hI1
    obtain ⟨⟨e1, rfl⟩, rfl, hs⟩ := hI1
    have hml := markRT_len (c := c) hs
    have hRc : Recs (h ++ rls k (markRT c rs s) ++ g) (sl2 k rs.length) (markRT c rs s) := (rls_recs hk hml).app g
    have hout := mid_out (h := h) (g := g) (k := k) (rs := markRT c rs s) hk
    have hol : (vrec (k + 1) (markRT c rs s)).length = rs.length * 2 := (by rw [vrec_len, hml])
    have htt := totR_le (rs := rs) (s := s)
    refine awp_seq ?_
    refine awp_seq ?_
    refine awp_region rfl ?_
    refine a_do rfl (o_move (by conv => lhs; whnf) ?_)
    refine a_do rfl (o_move (by conv => lhs; whnf) ?_)
    refine a_do rfl (o_lenRec Try.underlying61 (by conv => lhs; whnf) (by first | ((with_reducible repeat (first | assumption | apply Recs.app)); done) | exact recs_nil | repeat (first | with_reducible assumption | exact rls_recs (by (try simp only [ll1, ll2, ll3, ll4, lls_len, lls2_len, markL_len, rls_len, markR_len]); first | done | omega) (by first | rfl | exact markR_len) | with_reducible apply Recs.app)) ?_)
    refine a_do rfl (o_lss (by conv => lhs; whnf) (by conv => lhs; whnf) (fun c1 => ?_) (fun c1 => ?_))
    ·
      refine a_end ?_
      refine awp_condT (by conv => lhs; whnf) ?_
      refine awp_skip ?_
      refine awp_seq ?_
      refine awp_block ?_
      refine awp_seq ?_
      refine awp_region rfl ?_
      have hsl : s < rs.length := (by omega)
      have hrw := hb.row s
      rw [rws_at hsl] at hrw
      have hout2 := mid_out (h := h) (g := g) (k := k) (rs := midR c rs s) hk
      have hol2 : (vrec (k + 1) (midR c rs s)).length = rs.length * 2 := (by rw [vrec_len, midR_len hsl])
      have htk := totR_take hsl
      have htl := totR_le (rs := rs) (s := s + 1)
      refine a_do rfl (o_move (by conv => lhs; whnf) ?_)
      refine a_do rfl (o_move (by conv => lhs; whnf) ?_)
      refine a_do rfl (o_move (by conv => lhs; whnf) ?_)
      refine a_do rfl (o_indexRV (i := s) Try.underlying61 ty44 (by conv => lhs; whnf) hout hol rfl (by conv => lhs; whnf) (by omega) ?_)
      refine a_do rfl (o_fieldAddr Try.underlying44 rfl ty2 (by conv => lhs; whnf) hout hol ?_)
      refine a_do rfl (o_storeR0 (k := k) (n := rs.length) (i := s) ty2 rfl hout hol (by omega) (by conv => lhs; whnf) (mkR1 hk hsl) ?_)
      refine a_end ?_
      refine awp_seq ?_
      refine awp_region rfl ?_
      refine a_do rfl (o_move (by conv => lhs; whnf) ?_)
      refine a_do rfl (o_add (by conv => lhs; whnf) (by conv => lhs; whnf) (by omega) (by omega) ?_)
      refine a_do rfl (o_assign (by conv => lhs; whnf) ?_)
      refine a_end ?_
      refine awp_region rfl ?_
      refine a_do rfl (o_move (by conv => lhs; whnf) ?_)
      refine a_do rfl (o_move (by conv => lhs; whnf) ?_)
      refine a_do rfl (o_indexRV (i := s) Try.underlying61 ty44 (by conv => lhs; whnf) hout2 hol2 rfl (by conv => lhs; whnf) (by omega) ?_)
      refine a_do rfl (o_fieldAddr Try.underlying44 rfl ty22 (by conv => lhs; whnf) hout2 hol2 ?_)
      refine a_do rfl (o_load (k := k) (off := s * 2 + 1) (ver := rs.length * 2) Try.underlying22 rfl rfl hout2 hol2 (mid_cell hsl) ?_)
      refine a_do rfl (o_move (by conv => lhs; whnf) ?_)
      refine a_do rfl (o_callF (lmap_cons (by conv => lhs; whnf) (lmap_cons (by conv => lhs; whnf) lmap_nil)) (Ret.to (Ret.heap (markInt64S_ret _ _ _ (recAt rs s).2 _ (mid_row hk hsl) rfl (by omega) (by omega)) (mkR2 hk hsl)) ?_))
      refine a_do rfl (o_assign (by conv => lhs; whnf) ?_)
      refine a_end ?_
      refine awp_region rfl ?_
      refine a_do rfl (o_move (by conv => lhs; whnf) ?_)
      refine a_do rfl (o_add (by conv => lhs; whnf) (by conv => lhs; whnf) (by omega) (by omega) ?_)
      refine a_do rfl (o_assign (by conv => lhs; whnf) ?_)
      refine a_end ?_
      refine ⟨s + 1, ⟨Slots.mk ⟨?_, ?_, ?_, trivial⟩, ?_, ?_⟩, ?_⟩
      all_goals first | rfl | omega | exact congrArg i64 (by omega) | exact congrArg i64 (by rw [totR_take (by omega)]; omega)
    ·
      refine a_end ?_
      refine awp_condF (by conv => lhs; whnf) ?_
      refine awp_exit ?_
      refine awp_seq ?_
      refine awp_region rfl ?_
      refine a_do rfl (o_move (by conv => lhs; whnf) ?_)
      refine a_do rfl (o_assign (by conv => lhs; whnf) ?_)
      refine a_end ?_
      refine awp_ret ?_
      refine ⟨.inl rfl, [_], ⟨ares_tmp (by conv => lhs; whnf), trivial⟩, ?_⟩
      obtain rfl : s = rs.length := (by omega); exact ⟨congrArg i64 (by rw [List.take_length]), by rw [markRT_full rfl]⟩

set_option maxRecDepth 10000 in
theorem l03IsE_ret (p : Int) (xs : List Int) (p0 : Value) (h : AHeap) (hp : IsRec h p0 (p, xs)) (hl : xs.length ≤ 1073741824) : Ret Try.prog 73 [p0] h (.bool (isW 10000 p xs)) h := by
  obtain ⟨k, off, ver, o, v, rfl, ho, hver, hc0, hc1, hv⟩ := hp
  replace hc0 : o.cells[off]? = some (i64 p) := hc0
  replace hv : Ints h v xs := hv
  refine ret_of (.prim rfl) ?_
  refine tri_of_body Try.func73 rfl (by kernel_rfl) (by show 1 ≤ 50; decide) ?_
  refine awp_seq ?_
  refine awp_region rfl ?_
  refine a_do rfl (o_assign (by conv => lhs; whnf) ?_)
  refine a_end ?_
  refine awp_seq ?_
  refine awp_seq ?_
  refine awp_draw Try_mixed (by kernel_rfl) rfl ?_
  refine d_do rfl (o_move (by conv => lhs; whnf) ⟨rfl, rfl⟩) (by first | exact .prim rfl | (apply within_ptr; (with_reducible repeat (first | assumption | (apply lk_last; (try simp only [ll1, ll2, ll3, ll4, lls_len, lls2_len, markL_len, rls_len, markR_len]); first | done | omega) | apply lk_prev)); done)) ?_
  refine d_do rfl (o_nilCheck (by conv => lhs; whnf) ⟨rfl, rfl⟩) (by first | (apply within_ptr; (with_reducible repeat (first | assumption | (apply lk_last; (try simp only [ll1, ll2, ll3, ll4, lls_len, lls2_len, markL_len, rls_len, markR_len]); first | done | omega) | apply lk_prev)); done) | exact .prim rfl) ?_
  refine d_do rfl (o_fieldAddr Try.underlying44 rfl ty2 (by conv => lhs; whnf) (by with_reducible repeat (first | assumption | (apply lk_last; (try simp only [ll1, ll2, ll3, ll4, lls_len, lls2_len, markL_len, rls_len, markR_len]); first | done | omega) | apply lk_prev)) (by first | rfl | assumption) ⟨rfl, rfl⟩) (by first | (apply within_ptr; (with_reducible repeat (first | assumption | (apply lk_last; (try simp only [ll1, ll2, ll3, ll4, lls_len, lls2_len, markL_len, rls_len, markR_len]); first | done | omega) | apply lk_prev)); done) | exact .prim rfl) ?_
  refine d_do rfl (o_load Try.underlying2 rfl (by conv => lhs; whnf) (by with_reducible repeat (first | assumption | (apply lk_last; (try simp only [ll1, ll2, ll3, ll4, lls_len, lls2_len, markL_len, rls_len, markR_len]); first | done | omega) | apply lk_prev)) (by first | rfl | assumption) (by first | rfl | assumption) ⟨rfl, rfl⟩) (by exact .prim rfl) ?_
  refine d_callB rfl (lmap_cons (by conv => lhs; whnf) (lmap_cons (by conv => lhs; whnf) (lmap_cons (by conv => lhs; whnf) lmap_nil))) (l00In_ret _ _ _ _) (fun c1 => ?_) (fun c1 => ?_)
  ·
    have hp2 := pow_bound (of_decide_eq_true c1)
    have hp := of_decide_eq_true c1
    refine d_do rfl (o_notT (by conv => lhs; whnf) ⟨rfl, rfl⟩) (by exact .prim rfl) ?_
    refine d_do rfl (o_move (by conv => lhs; whnf) ⟨rfl, rfl⟩) (by exact .prim rfl) ?_
    refine d_do rfl (o_move (by conv => lhs; whnf) ⟨rfl, rfl⟩) (by first | exact .prim rfl | (apply within_ptr; (with_reducible repeat (first | assumption | (apply lk_last; (try simp only [ll1, ll2, ll3, ll4, lls_len, lls2_len, markL_len, rls_len, markR_len]); first | done | omega) | apply lk_prev)); done)) ?_
    refine d_do rfl (o_nilCheck (by conv => lhs; whnf) ⟨rfl, rfl⟩) (by first | (apply within_ptr; (with_reducible repeat (first | assumption | (apply lk_last; (try simp only [ll1, ll2, ll3, ll4, lls_len, lls2_len, markL_len, rls_len, markR_len]); first | done | omega) | apply lk_prev)); done) | exact .prim rfl) ?_
    refine d_do rfl (o_fieldAddr Try.underlying44 rfl ty22 (by conv => lhs; whnf) (by with_reducible repeat (first | assumption | (apply lk_last; (try simp only [ll1, ll2, ll3, ll4, lls_len, lls2_len, markL_len, rls_len, markR_len]); first | done | omega) | apply lk_prev)) (by first | rfl | assumption) ⟨rfl, rfl⟩) (by first | (apply within_ptr; (with_reducible repeat (first | assumption | (apply lk_last; (try simp only [ll1, ll2, ll3, ll4, lls_len, lls2_len, markL_len, rls_len, markR_len]); first | done | omega) | apply lk_prev)); done) | exact .prim rfl) ?_
    refine d_do rfl (o_load Try.underlying22 rfl (by conv => lhs; whnf) (by with_reducible repeat (first | assumption | (apply lk_last; (try simp only [ll1, ll2, ll3, ll4, lls_len, lls2_len, markL_len, rls_len, markR_len]); first | done | omega) | apply lk_prev)) (by first | rfl | assumption) (by first | rfl | assumption) ⟨rfl, rfl⟩) (by first | exact .prim rfl | exact within_func0 | (apply within_ptr; (with_reducible repeat (first | assumption | (apply lk_last; (try simp only [ll1, ll2, ll3, ll4, lls_len, lls2_len, markL_len, rls_len, markR_len]); first | done | omega) | apply lk_prev)); done) | (apply within_sl; (with_reducible repeat (first | assumption | (apply lk_last; (try simp only [ll1, ll2, ll3, ll4, lls_len, lls2_len, markL_len, rls_len, markR_len]); first | done | omega) | apply lk_prev)); done) | ((try apply within_sub); apply Ints.within; (with_reducible repeat (first | assumption | apply Ints.app)); done) | (apply Lists.within; (with_reducible repeat (first | assumption | apply Lists.app)); done) | (apply Recs.within; (with_reducible repeat (first | assumption | apply Recs.app)); done) | (apply IsRec.within; (with_reducible repeat (first | assumption | apply IsRec.app)); done) | (apply Flts.within; (with_reducible repeat (first | assumption | apply Flts.app)); done) | (apply Byts.within; (with_reducible repeat (first | assumption | apply Byts.app)); done) | exact within_nilw | exact within_nilb | (apply within_tup2 <;> first | exact .prim rfl | (apply within_sl; (with_reducible repeat (first | assumption | (apply lk_last; (try simp only [ll1, ll2, ll3, ll4, lls_len, lls2_len, markL_len, rls_len, markR_len]); first | done | omega) | apply lk_prev)); done) | (apply Within.agg2 <;> (first | exact .prim rfl | (apply within_ptr; (with_reducible repeat (first | assumption | (apply lk_last; (try simp only [ll1, ll2, ll3, ll4, lls_len, lls2_len, markL_len, rls_len, markR_len]); first | done | omega) | apply lk_prev)); done) | (apply within_sl; (with_reducible repeat (first | assumption | (apply lk_last; (try simp only [ll1, ll2, ll3, ll4, lls_len, lls2_len, markL_len, rls_len, markR_len]); first | done | omega) | apply lk_prev)); done) | ((try apply within_sub); apply Ints.within; (with_reducible repeat (first | assumption | apply Ints.app)); done) | (apply Lists.within; (with_reducible repeat (first | assumption | apply Lists.app)); done) | (apply Recs.within; (with_reducible repeat (first | assumption | apply Recs.app)); done) | (apply IsRec.within; (with_reducible repeat (first | assumption | apply IsRec.app)); done) | (apply within_sl; (with_reducible repeat (first | assumption | (apply lk_last; (try simp only [ll1, ll2, ll3, ll4, lls_len, lls2_len, markL_len, rls_len, markR_len]); first | done | omega) | apply lk_prev)); done)))) | exact Within.mono ‹Within _ (Value.func _ _ _)› (by (try simp only [ll1, ll2, ll3, ll4, lls_len, lls2_len, markL_len, rls_len, markR_len]); first | done | omega) | (apply Within.agg4 <;> (first | exact .prim rfl | (apply within_ptr; (with_reducible repeat (first | assumption | (apply lk_last; (try simp only [ll1, ll2, ll3, ll4, lls_len, lls2_len, markL_len, rls_len, markR_len]); first | done | omega) | apply lk_prev)); done) | (apply within_sl; (with_reducible repeat (first | assumption | (apply lk_last; (try simp only [ll1, ll2, ll3, ll4, lls_len, lls2_len, markL_len, rls_len, markR_len]); first | done | omega) | apply lk_prev)); done) | ((try apply within_sub); apply Ints.within; (with_reducible repeat (first | assumption | apply Ints.app)); done) | (apply Lists.within; (with_reducible repeat (first | assumption | apply Lists.app)); done) | (apply Recs.within; (with_reducible repeat (first | assumption | apply Recs.app)); done) | (apply IsRec.within; (with_reducible repeat (first | assumption | apply IsRec.app)); done) | (apply within_sl; (with_reducible repeat (first | assumption | (apply lk_last; (try simp only [ll1, ll2, ll3, ll4, lls_len, lls2_len, markL_len, rls_len, markR_len]); first | done | omega) | apply lk_prev)); done))) | (apply Within.agg3 <;> (first | exact .prim rfl | (apply within_ptr; (with_reducible repeat (first | assumption | (apply lk_last; (try simp only [ll1, ll2, ll3, ll4, lls_len, lls2_len, markL_len, rls_len, markR_len]); first | done | omega) | apply lk_prev)); done) | (apply within_sl; (with_reducible repeat (first | assumption | (apply lk_last; (try simp only [ll1, ll2, ll3, ll4, lls_len, lls2_len, markL_len, rls_len, markR_len]); first | done | omega) | apply lk_prev)); done) | ((try apply within_sub); apply Ints.within; (with_reducible repeat (first | assumption | apply Ints.app)); done) | (apply Lists.within; (with_reducible repeat (first | assumption | apply Lists.app)); done) | (apply Recs.within; (with_reducible repeat (first | assumption | apply Recs.app)); done) | (apply IsRec.within; (with_reducible repeat (first | assumption | apply IsRec.app)); done) | (apply within_sl; (with_reducible repeat (first | assumption | (apply lk_last; (try simp only [ll1, ll2, ll3, ll4, lls_len, lls2_len, markL_len, rls_len, markR_len]); first | done | omega) | apply lk_prev)); done))) | (apply Within.agg2 <;> (first | exact .prim rfl | (apply within_ptr; (with_reducible repeat (first | assumption | (apply lk_last; (try simp only [ll1, ll2, ll3, ll4, lls_len, lls2_len, markL_len, rls_len, markR_len]); first | done | omega) | apply lk_prev)); done) | (apply within_sl; (with_reducible repeat (first | assumption | (apply lk_last; (try simp only [ll1, ll2, ll3, ll4, lls_len, lls2_len, markL_len, rls_len, markR_len]); first | done | omega) | apply lk_prev)); done) | ((try apply within_sub); apply Ints.within; (with_reducible repeat (first | assumption | apply Ints.app)); done) | (apply Lists.within; (with_reducible repeat (first | assumption | apply Lists.app)); done) | (apply Recs.within; (with_reducible repeat (first | assumption | apply Recs.app)); done) | (apply IsRec.within; (with_reducible repeat (first | assumption | apply IsRec.app)); done) | (apply within_sl; (with_reducible repeat (first | assumption | (apply lk_last; (try simp only [ll1, ll2, ll3, ll4, lls_len, lls2_len, markL_len, rls_len, markR_len]); first | done | omega) | apply lk_prev)); done)))) ?_
    refine d_do rfl (o_lenI Try.underlying22 (by conv => lhs; whnf) (by first | ((with_reducible repeat (first | assumption | apply Ints.app)); done) | repeat (first | with_reducible assumption | exact ints_nil | exact Ints.own (by with_reducible repeat (first | assumption | (apply lk_last; (try simp only [ll1, ll2, ll3, ll4, lls_len, lls2_len, markL_len, rls_len, markR_len]); first | done | omega) | apply lk_prev)) (by first | rfl | exact upto_len | assumption | exact map_len | exact List.length_set | (rw [List.length_set]; assumption)) | exact Ints.tail (by with_reducible repeat (first | assumption | (apply lk_last; (try simp only [ll1, ll2, ll3, ll4, lls_len, lls2_len, markL_len, rls_len, markR_len]); first | done | omega) | apply lk_prev)) (by first | rfl | exact upto_len | assumption | exact map_len | exact List.length_set | (rw [List.length_set]; assumption)) | with_reducible apply Ints.app | (refine Ints.sub (by with_reducible repeat (first | assumption | apply Ints.app)) (by omega) (by omega) (by omega)))) ⟨rfl, rfl⟩) (.prim rfl) ?_
    refine d_do rfl (o_move (by conv => lhs; whnf) ⟨rfl, rfl⟩) (by first | exact .prim rfl | (apply within_ptr; (with_reducible repeat (first | assumption | (apply lk_last; (try simp only [ll1, ll2, ll3, ll4, lls_len, lls2_len, markL_len, rls_len, markR_len]); first | done | omega) | apply lk_prev)); done)) ?_
    refine d_do rfl (o_nilCheck (by conv => lhs; whnf) ⟨rfl, rfl⟩) (by first | (apply within_ptr; (with_reducible repeat (first | assumption | (apply lk_last; (try simp only [ll1, ll2, ll3, ll4, lls_len, lls2_len, markL_len, rls_len, markR_len]); first | done | omega) | apply lk_prev)); done) | exact .prim rfl) ?_
    refine d_do rfl (o_fieldAddr Try.underlying44 rfl ty2 (by conv => lhs; whnf) (by with_reducible repeat (first | assumption | (apply lk_last; (try simp only [ll1, ll2, ll3, ll4, lls_len, lls2_len, markL_len, rls_len, markR_len]); first | done | omega) | apply lk_prev)) (by first | rfl | assumption) ⟨rfl, rfl⟩) (by first | (apply within_ptr; (with_reducible repeat (first | assumption | (apply lk_last; (try simp only [ll1, ll2, ll3, ll4, lls_len, lls2_len, markL_len, rls_len, markR_len]); first | done | omega) | apply lk_prev)); done) | exact .prim rfl) ?_
    refine d_do rfl (o_load Try.underlying2 rfl (by conv => lhs; whnf) (by with_reducible repeat (first | assumption | (apply lk_last; (try simp only [ll1, ll2, ll3, ll4, lls_len, lls2_len, markL_len, rls_len, markR_len]); first | done | omega) | apply lk_prev)) (by first | rfl | assumption) (by first | rfl | assumption) ⟨rfl, rfl⟩) (by exact .prim rfl) ?_
    refine d_do rfl (o_shl (by conv => lhs; whnf) (by conv => lhs; whnf) (by omega) (by omega) (by omega) (by omega) ⟨rfl, rfl⟩) (by exact .prim rfl) ?_
    refine d_neq rfl (by conv => lhs; whnf) (by conv => lhs; whnf) (fun c2 => ?_) (fun c2 => ?_)
    ·
      refine d_do rfl (o_pickF (by conv => lhs; whnf) (by conv => lhs; whnf) ⟨rfl, rfl⟩) (by exact .prim rfl) ?_
      refine d_do rfl (o_move (by conv => lhs; whnf) ⟨rfl, rfl⟩) (by exact .prim rfl) ?_
      refine d_no rfl ?_
      refine d_no rfl ?_
      refine d_no rfl ?_
      refine d_no rfl ?_
      refine d_no rfl ?_
      refine d_no rfl ?_
      refine d_no rfl ?_
      refine d_do rfl (o_pickT (by conv => lhs; whnf) (by conv => lhs; whnf) ⟨rfl, rfl⟩) (by exact .prim rfl) ?_
      refine d_end ?_
      refine awp_condT (by conv => lhs; whnf) ?_
      refine awp_seq ?_
      refine awp_region rfl ?_
      refine a_do rfl (o_assign (by conv => lhs; whnf) ?_)
      refine a_end ?_
      refine awp_ret ?_
      refine ⟨.inl rfl, [_], ⟨ares_tmp (by conv => lhs; whnf), trivial⟩, ?_⟩
      exact ⟨congrArg Value.bool (by first | exact isW_yes ‹_› (by omega) (by assumption) (all_take_full (by omega) ha) | exact isW_no (k := s) (by omega) ‹_› | exact isW_no0 ‹_› | exact isW_noL (by omega) | exact isW_noZ (by assumption)), (by first | ((repeat (first | with_reducible exact Grown.refl _ | with_reducible apply Grown.push)); done) | repeat (first | exact Grown.refl _ | refine Grown.push ?_ _))⟩
    ·
      refine d_do rfl (o_pickF (by conv => lhs; whnf) (by conv => lhs; whnf) ⟨rfl, rfl⟩) (by exact .prim rfl) ?_
      refine d_do rfl (o_move (by conv => lhs; whnf) ⟨rfl, rfl⟩) (by exact .prim rfl) ?_
      refine d_do rfl (o_move (by conv => lhs; whnf) ⟨rfl, rfl⟩) (by first | exact .prim rfl | (apply within_ptr; (with_reducible repeat (first | assumption | (apply lk_last; (try simp only [ll1, ll2, ll3, ll4, lls_len, lls2_len, markL_len, rls_len, markR_len]); first | done | omega) | apply lk_prev)); done)) ?_
      refine d_do rfl (o_nilCheck (by conv => lhs; whnf) ⟨rfl, rfl⟩) (by first | (apply within_ptr; (with_reducible repeat (first | assumption | (apply lk_last; (try simp only [ll1, ll2, ll3, ll4, lls_len, lls2_len, markL_len, rls_len, markR_len]); first | done | omega) | apply lk_prev)); done) | exact .prim rfl) ?_
      refine d_do rfl (o_fieldAddr Try.underlying44 rfl ty22 (by conv => lhs; whnf) (by with_reducible repeat (first | assumption | (apply lk_last; (try simp only [ll1, ll2, ll3, ll4, lls_len, lls2_len, markL_len, rls_len, markR_len]); first | done | omega) | apply lk_prev)) (by first | rfl | assumption) ⟨rfl, rfl⟩) (by first | (apply within_ptr; (with_reducible repeat (first | assumption | (apply lk_last; (try simp only [ll1, ll2, ll3, ll4, lls_len, lls2_len, markL_len, rls_len, markR_len]); first | done | omega) | apply lk_prev)); done) | exact .prim rfl) ?_
      refine d_do rfl (o_load Try.underlying22 rfl (by conv => lhs; whnf) (by with_reducible repeat (first | assumption | (apply lk_last; (try simp only [ll1, ll2, ll3, ll4, lls_len, lls2_len, markL_len, rls_len, markR_len]); first | done | omega) | apply lk_prev)) (by first | rfl | assumption) (by first | rfl | assumption) ⟨rfl, rfl⟩) (by first | exact .prim rfl | exact within_func0 | (apply within_ptr; (with_reducible repeat (first | assumption | (apply lk_last; (try simp only [ll1, ll2, ll3, ll4, lls_len, lls2_len, markL_len, rls_len, markR_len]); first | done | omega) | apply lk_prev)); done) | (apply within_sl; (with_reducible repeat (first | assumption | (apply lk_last; (try simp only [ll1, ll2, ll3, ll4, lls_len, lls2_len, markL_len, rls_len, markR_len]); first | done | omega) | apply lk_prev)); done) | ((try apply within_sub); apply Ints.within; (with_reducible repeat (first | assumption | apply Ints.app)); done) | (apply Lists.within; (with_reducible repeat (first | assumption | apply Lists.app)); done) | (apply Recs.within; (with_reducible repeat (first | assumption | apply Recs.app)); done) | (apply IsRec.within; (with_reducible repeat (first | assumption | apply IsRec.app)); done) | (apply Flts.within; (with_reducible repeat (first | assumption | apply Flts.app)); done) | (apply Byts.within; (with_reducible repeat (first | assumption | apply Byts.app)); done) | exact within_nilw | exact within_nilb | (apply within_tup2 <;> first | exact .prim rfl | (apply within_sl; (with_reducible repeat (first | assumption | (apply lk_last; (try simp only [ll1, ll2, ll3, ll4, lls_len, lls2_len, markL_len, rls_len, markR_len]); first | done | omega) | apply lk_prev)); done) | (apply Within.agg2 <;> (first | exact .prim rfl | (apply within_ptr; (with_reducible repeat (first | assumption | (apply lk_last; (try simp only [ll1, ll2, ll3, ll4, lls_len, lls2_len, markL_len, rls_len, markR_len]); first | done | omega) | apply lk_prev)); done) | (apply within_sl; (with_reducible repeat (first | assumption | (apply lk_last; (try simp only [ll1, ll2, ll3, ll4, lls_len, lls2_len, markL_len, rls_len, markR_len]); first | done | omega) | apply lk_prev)); done) | ((try apply within_sub); apply Ints.within; (with_reducible repeat (first | assumption | apply Ints.app)); done) | (apply Lists.within; (with_reducible repeat (first | assumption | apply Lists.app)); done) | (apply Recs.within; (with_reducible repeat (first | assumption | apply Recs.app)); done) | (apply IsRec.within; (with_reducible repeat (first | assumption | apply IsRec.app)); done) | (apply within_sl; (with_reducible repeat (first | assumption | (apply lk_last; (try simp only [ll1, ll2, ll3, ll4, lls_len, lls2_len, markL_len, rls_len, markR_len]); first | done | omega) | apply lk_prev)); done)))) | exact Within.mono ‹Within _ (Value.func _ _ _)› (by (try simp only [ll1, ll2, ll3, ll4, lls_len, lls2_len, markL_len, rls_len, markR_len]); first | done | omega) | (apply Within.agg4 <;> (first | exact .prim rfl | (apply within_ptr; (with_reducible repeat (first | assumption | (apply lk_last; (try simp only [ll1, ll2, ll3, ll4, lls_len, lls2_len, markL_len, rls_len, markR_len]); first | done | omega) | apply lk_prev)); done) | (apply within_sl; (with_reducible repeat (first | assumption | (apply lk_last; (try simp only [ll1, ll2, ll3, ll4, lls_len, lls2_len, markL_len, rls_len, markR_len]); first | done | omega) | apply lk_prev)); done) | ((try apply within_sub); apply Ints.within; (with_reducible repeat (first | assumption | apply Ints.app)); done) | (apply Lists.within; (with_reducible repeat (first | assumption | apply Lists.app)); done) | (apply Recs.within; (with_reducible repeat (first | assumption | apply Recs.app)); done) | (apply IsRec.within; (with_reducible repeat (first | assumption | apply IsRec.app)); done) | (apply within_sl; (with_reducible repeat (first | assumption | (apply lk_last; (try simp only [ll1, ll2, ll3, ll4, lls_len, lls2_len, markL_len, rls_len, markR_len]); first | done | omega) | apply lk_prev)); done))) | (apply Within.agg3 <;> (first | exact .prim rfl | (apply within_ptr; (with_reducible repeat (first | assumption | (apply lk_last; (try simp only [ll1, ll2, ll3, ll4, lls_len, lls2_len, markL_len, rls_len, markR_len]); first | done | omega) | apply lk_prev)); done) | (apply within_sl; (with_reducible repeat (first | assumption | (apply lk_last; (try simp only [ll1, ll2, ll3, ll4, lls_len, lls2_len, markL_len, rls_len, markR_len]); first | done | omega) | apply lk_prev)); done) | ((try apply within_sub); apply Ints.within; (with_reducible repeat (first | assumption | apply Ints.app)); done) | (apply Lists.within; (with_reducible repeat (first | assumption | apply Lists.app)); done) | (apply Recs.within; (with_reducible repeat (first | assumption | apply Recs.app)); done) | (apply IsRec.within; (with_reducible repeat (first | assumption | apply IsRec.app)); done) | (apply within_sl; (with_reducible repeat (first | assumption | (apply lk_last; (try simp only [ll1, ll2, ll3, ll4, lls_len, lls2_len, markL_len, rls_len, markR_len]); first | done | omega) | apply lk_prev)); done))) | (apply Within.agg2 <;> (first | exact .prim rfl | (apply within_ptr; (with_reducible repeat (first | assumption | (apply lk_last; (try simp only [ll1, ll2, ll3, ll4, lls_len, lls2_len, markL_len, rls_len, markR_len]); first | done | omega) | apply lk_prev)); done) | (apply within_sl; (with_reducible repeat (first | assumption | (apply lk_last; (try simp only [ll1, ll2, ll3, ll4, lls_len, lls2_len, markL_len, rls_len, markR_len]); first | done | omega) | apply lk_prev)); done) | ((try apply within_sub); apply Ints.within; (with_reducible repeat (first | assumption | apply Ints.app)); done) | (apply Lists.within; (with_reducible repeat (first | assumption | apply Lists.app)); done) | (apply Recs.within; (with_reducible repeat (first | assumption | apply Recs.app)); done) | (apply IsRec.within; (with_reducible repeat (first | assumption | apply IsRec.app)); done) | (apply within_sl; (with_reducible repeat (first | assumption | (apply lk_last; (try simp only [ll1, ll2, ll3, ll4, lls_len, lls2_len, markL_len, rls_len, markR_len]); first | done | omega) | apply lk_prev)); done)))) ?_
      first | refine d_indexI rfl Try.underlying22 ty2 (by conv => lhs; whnf) (by first | ((with_reducible repeat (first | assumption | apply Ints.app)); done) | repeat (first | with_reducible assumption | exact ints_nil | exact Ints.own (by with_reducible repeat (first | assumption | (apply lk_last; (try simp only [ll1, ll2, ll3, ll4, lls_len, lls2_len, markL_len, rls_len, markR_len]); first | done | omega) | apply lk_prev)) (by first | rfl | exact upto_len | assumption | exact map_len | exact List.length_set | (rw [List.length_set]; assumption)) | exact Ints.tail (by with_reducible repeat (first | assumption | (apply lk_last; (try simp only [ll1, ll2, ll3, ll4, lls_len, lls2_len, markL_len, rls_len, markR_len]); first | done | omega) | apply lk_prev)) (by first | rfl | exact upto_len | assumption | exact map_len | exact List.length_set | (rw [List.length_set]; assumption)) | with_reducible apply Ints.app | (refine Ints.sub (by with_reducible repeat (first | assumption | apply Ints.app)) (by omega) (by omega) (by omega)))) (by conv => lhs; whnf) (by omega) (fun p3 hp3 => ?_) | refine d_indexZ rfl Try.underlying22 ty2 (by conv => lhs; whnf) (by first | ((with_reducible repeat (first | assumption | apply Ints.app)); done) | repeat (first | with_reducible assumption | exact ints_nil | exact Ints.own (by with_reducible repeat (first | assumption | (apply lk_last; (try simp only [ll1, ll2, ll3, ll4, lls_len, lls2_len, markL_len, rls_len, markR_len]); first | done | omega) | apply lk_prev)) (by first | rfl | exact upto_len | assumption | exact map_len | exact List.length_set | (rw [List.length_set]; assumption)) | exact Ints.tail (by with_reducible repeat (first | assumption | (apply lk_last; (try simp only [ll1, ll2, ll3, ll4, lls_len, lls2_len, markL_len, rls_len, markR_len]); first | done | omega) | apply lk_prev)) (by first | rfl | exact upto_len | assumption | exact map_len | exact List.length_set | (rw [List.length_set]; assumption)) | with_reducible apply Ints.app | (refine Ints.sub (by with_reducible repeat (first | assumption | apply Ints.app)) (by omega) (by omega) (by omega)))) (by conv => lhs; whnf) (by omega) (by omega) (fun p3 hp3 => ?_)
      refine d_do rfl (o_loadI Try.underlying2 rfl (by conv => lhs; whnf) hp3 (by first | ((with_reducible repeat (first | assumption | apply Ints.app)); done) | repeat (first | with_reducible assumption | exact ints_nil | exact Ints.own (by with_reducible repeat (first | assumption | (apply lk_last; (try simp only [ll1, ll2, ll3, ll4, lls_len, lls2_len, markL_len, rls_len, markR_len]); first | done | omega) | apply lk_prev)) (by first | rfl | exact upto_len | assumption | exact map_len | exact List.length_set | (rw [List.length_set]; assumption)) | exact Ints.tail (by with_reducible repeat (first | assumption | (apply lk_last; (try simp only [ll1, ll2, ll3, ll4, lls_len, lls2_len, markL_len, rls_len, markR_len]); first | done | omega) | apply lk_prev)) (by first | rfl | exact upto_len | assumption | exact map_len | exact List.length_set | (rw [List.length_set]; assumption)) | with_reducible apply Ints.app | (refine Ints.sub (by with_reducible repeat (first | assumption | apply Ints.app)) (by omega) (by omega) (by omega)))) (by omega) ⟨rfl, rfl⟩) (by exact .prim rfl) ?_
      refine d_neq rfl (by conv => lhs; whnf) (by conv => lhs; whnf) (fun c4 => ?_) (fun c4 => ?_)
      ·
        refine d_do rfl (o_pickF (by conv => lhs; whnf) (by conv => lhs; whnf) ⟨rfl, rfl⟩) (by exact .prim rfl) ?_
        refine d_end ?_
        refine awp_condT (by conv => lhs; whnf) ?_
        refine awp_seq ?_
        refine awp_region rfl ?_
        refine a_do rfl (o_assign (by conv => lhs; whnf) ?_)
        refine a_end ?_
        refine awp_ret ?_
        refine ⟨.inl rfl, [_], ⟨ares_tmp (by conv => lhs; whnf), trivial⟩, ?_⟩
        exact ⟨congrArg Value.bool (by first | exact isW_yes ‹_› (by omega) (by assumption) (all_take_full (by omega) ha) | exact isW_no (k := s) (by omega) ‹_› | exact isW_no0 ‹_› | exact isW_noL (by omega) | exact isW_noZ (by assumption)), (by first | ((repeat (first | with_reducible exact Grown.refl _ | with_reducible apply Grown.push)); done) | repeat (first | exact Grown.refl _ | refine Grown.push ?_ _))⟩
      ·
        refine d_do rfl (o_pickF (by conv => lhs; whnf) (by conv => lhs; whnf) ⟨rfl, rfl⟩) (by exact .prim rfl) ?_
        refine d_end ?_
        refine awp_condF (by conv => lhs; whnf) ?_
        refine awp_skip ?_
        refine awp_seq ?_
        refine awp_seq ?_
        refine awp_region rfl ?_
        refine a_do rfl (o_move (by conv => lhs; whnf) ?_)
        refine a_do rfl (o_nilCheck (by conv => lhs; whnf) ?_)
        refine a_do rfl (o_fieldAddr Try.underlying44 rfl ty22 (by conv => lhs; whnf) (by with_reducible repeat (first | assumption | (apply lk_last; (try simp only [ll1, ll2, ll3, ll4, lls_len, lls2_len, markL_len, rls_len, markR_len]); first | done | omega) | apply lk_prev)) (by first | rfl | assumption) ?_)
        refine a_do rfl (o_load Try.underlying22 rfl (by conv => lhs; whnf) (by with_reducible repeat (first | assumption | (apply lk_last; (try simp only [ll1, ll2, ll3, ll4, lls_len, lls2_len, markL_len, rls_len, markR_len]); first | done | omega) | apply lk_prev)) (by first | rfl | assumption) (by first | rfl | assumption) ?_)
        refine a_do rfl (o_lenI Try.underlying22 (by conv => lhs; whnf) (by first | ((with_reducible repeat (first | assumption | apply Ints.app)); done) | repeat (first | with_reducible assumption | exact ints_nil | exact Ints.own (by with_reducible repeat (first | assumption | (apply lk_last; (try simp only [ll1, ll2, ll3, ll4, lls_len, lls2_len, markL_len, rls_len, markR_len]); first | done | omega) | apply lk_prev)) (by first | rfl | exact upto_len | assumption | exact map_len | exact List.length_set | (rw [List.length_set]; assumption)) | exact Ints.tail (by with_reducible repeat (first | assumption | (apply lk_last; (try simp only [ll1, ll2, ll3, ll4, lls_len, lls2_len, markL_len, rls_len, markR_len]); first | done | omega) | apply lk_prev)) (by first | rfl | exact upto_len | assumption | exact map_len | exact List.length_set | (rw [List.length_set]; assumption)) | with_reducible apply Ints.app | (refine Ints.sub (by with_reducible repeat (first | assumption | apply Ints.app)) (by omega) (by omega) (by omega)))) ?_)
        refine a_do rfl (o_move (by conv => lhs; whnf) ?_)
        refine a_end ?_
        refine awp_block ?_
        refine awp_loop (σ := Nat) (fun s env1 h1 => Slots env1 [(0, .pointer (some ⟨k, off, some ver⟩)), (36, i64 xs.length), (37, i64 s)] ∧ h1 = h ∧ s ≤ xs.length ∧ (xs.take s).all (fun n => decide (-10000 ≤ n ∧ n ≤ 10000)) = true) (fun s => xs.length - s) 0 ?_ ?_
        · refine ⟨Slots.mk ⟨?_, ?_, ?_, trivial⟩, ?_, ?_⟩
          all_goals first | rfl | simp
        · intro s env1 h1 hI1
          obtain ⟨⟨e1, rfl⟩, rfl, ⟨hs, ha⟩⟩ := hI1
          refine awp_seq ?_
          refine awp_region rfl ?_
          refine a_do rfl (o_lss (by conv => lhs; whnf) (by conv => lhs; whnf) (fun c5 => ?_) (fun c5 => ?_))
          ·
            refine a_end ?_
            refine awp_seq ?_
            refine awp_condT (by conv => lhs; whnf) ?_
            refine awp_skip ?_
            refine awp_seq ?_
            refine awp_block ?_
            refine awp_seq ?_
            refine awp_region rfl ?_
            refine a_do rfl (o_move (by conv => lhs; whnf) ?_)
            refine a_do rfl (o_assign (by conv => lhs; whnf) ?_)
            refine a_end ?_
            refine awp_seq ?_
            refine awp_region rfl ?_
            refine a_do rfl (o_move (by conv => lhs; whnf) ?_)
            refine a_do rfl (o_nilCheck (by conv => lhs; whnf) ?_)
            refine a_do rfl (o_fieldAddr Try.underlying44 rfl ty22 (by conv => lhs; whnf) (by with_reducible repeat (first | assumption | (apply lk_last; (try simp only [ll1, ll2, ll3, ll4, lls_len, lls2_len, markL_len, rls_len, markR_len]); first | done | omega) | apply lk_prev)) (by first | rfl | assumption) ?_)
            refine a_do rfl (o_load Try.underlying22 rfl (by conv => lhs; whnf) (by with_reducible repeat (first | assumption | (apply lk_last; (try simp only [ll1, ll2, ll3, ll4, lls_len, lls2_len, markL_len, rls_len, markR_len]); first | done | omega) | apply lk_prev)) (by first | rfl | assumption) (by first | rfl | assumption) ?_)
            refine a_do rfl (o_move (by conv => lhs; whnf) ?_)
            first | refine a_do rfl (o_indexI Try.underlying22 ty2 (by conv => lhs; whnf) (by first | ((with_reducible repeat (first | assumption | apply Ints.app)); done) | repeat (first | with_reducible assumption | exact ints_nil | exact Ints.own (by with_reducible repeat (first | assumption | (apply lk_last; (try simp only [ll1, ll2, ll3, ll4, lls_len, lls2_len, markL_len, rls_len, markR_len]); first | done | omega) | apply lk_prev)) (by first | rfl | exact upto_len | assumption | exact map_len | exact List.length_set | (rw [List.length_set]; assumption)) | exact Ints.tail (by with_reducible repeat (first | assumption | (apply lk_last; (try simp only [ll1, ll2, ll3, ll4, lls_len, lls2_len, markL_len, rls_len, markR_len]); first | done | omega) | apply lk_prev)) (by first | rfl | exact upto_len | assumption | exact map_len | exact List.length_set | (rw [List.length_set]; assumption)) | with_reducible apply Ints.app | (refine Ints.sub (by with_reducible repeat (first | assumption | apply Ints.app)) (by omega) (by omega) (by omega)))) (by conv => lhs; whnf) (by omega) (fun p6 hp6 => ?_)) | refine a_do rfl (o_indexZ Try.underlying22 ty2 (by conv => lhs; whnf) (by first | ((with_reducible repeat (first | assumption | apply Ints.app)); done) | repeat (first | with_reducible assumption | exact ints_nil | exact Ints.own (by with_reducible repeat (first | assumption | (apply lk_last; (try simp only [ll1, ll2, ll3, ll4, lls_len, lls2_len, markL_len, rls_len, markR_len]); first | done | omega) | apply lk_prev)) (by first | rfl | exact upto_len | assumption | exact map_len | exact List.length_set | (rw [List.length_set]; assumption)) | exact Ints.tail (by with_reducible repeat (first | assumption | (apply lk_last; (try simp only [ll1, ll2, ll3, ll4, lls_len, lls2_len, markL_len, rls_len, markR_len]); first | done | omega) | apply lk_prev)) (by first | rfl | exact upto_len | assumption | exact map_len | exact List.length_set | (rw [List.length_set]; assumption)) | with_reducible apply Ints.app | (refine Ints.sub (by with_reducible repeat (first | assumption | apply Ints.app)) (by omega) (by omega) (by omega)))) (by conv => lhs; whnf) (by omega) (by omega) (fun p6 hp6 => ?_))
            refine a_do rfl (o_loadI Try.underlying2 rfl (by conv => lhs; whnf) hp6 (by first | ((with_reducible repeat (first | assumption | apply Ints.app)); done) | repeat (first | with_reducible assumption | exact ints_nil | exact Ints.own (by with_reducible repeat (first | assumption | (apply lk_last; (try simp only [ll1, ll2, ll3, ll4, lls_len, lls2_len, markL_len, rls_len, markR_len]); first | done | omega) | apply lk_prev)) (by first | rfl | exact upto_len | assumption | exact map_len | exact List.length_set | (rw [List.length_set]; assumption)) | exact Ints.tail (by with_reducible repeat (first | assumption | (apply lk_last; (try simp only [ll1, ll2, ll3, ll4, lls_len, lls2_len, markL_len, rls_len, markR_len]); first | done | omega) | apply lk_prev)) (by first | rfl | exact upto_len | assumption | exact map_len | exact List.length_set | (rw [List.length_set]; assumption)) | with_reducible apply Ints.app | (refine Ints.sub (by with_reducible repeat (first | assumption | apply Ints.app)) (by omega) (by omega) (by omega)))) (by omega) ?_)
            refine a_do rfl (o_callF (lmap_cons (by conv => lhs; whnf) (lmap_cons (by conv => lhs; whnf) (lmap_cons (by conv => lhs; whnf) lmap_nil))) (Ret.toB (l00In_ret _ _ _ _) (fun c7 => ?_) (fun c7 => ?_)))
            ·
              refine a_do rfl (o_notT (by conv => lhs; whnf) ?_)
              refine a_end ?_
              refine awp_condF (by conv => lhs; whnf) ?_
              refine awp_skip ?_
              refine awp_region rfl ?_
              refine a_do rfl (o_add (by conv => lhs; whnf) (by conv => lhs; whnf) (by omega) (by omega) ?_)
              refine a_do rfl (o_move (by conv => lhs; whnf) ?_)
              refine a_end ?_
              refine ⟨s + 1, ⟨Slots.mk ⟨?_, ?_, ?_, trivial⟩, ?_, ?_⟩, ?_⟩
              all_goals first | rfl | omega | exact congrArg i64 (by omega) | exact ⟨by omega, all_take_step (by omega) ha ‹_›⟩
            ·
              refine a_do rfl (o_notF (by conv => lhs; whnf) ?_)
              refine a_end ?_
              refine awp_condT (by conv => lhs; whnf) ?_
              refine awp_seq ?_
              refine awp_region rfl ?_
              refine a_do rfl (o_assign (by conv => lhs; whnf) ?_)
              refine a_end ?_
              refine awp_ret ?_
              refine ⟨.inl rfl, [_], ⟨ares_tmp (by conv => lhs; whnf), trivial⟩, ?_⟩
              exact ⟨congrArg Value.bool (by first | exact isW_yes ‹_› (by omega) (by assumption) (all_take_full (by omega) ha) | exact isW_no (k := s) (by omega) ‹_› | exact isW_no0 ‹_› | exact isW_noL (by omega) | exact isW_noZ (by assumption)), (by first | ((repeat (first | with_reducible exact Grown.refl _ | with_reducible apply Grown.push)); done) | repeat (first | exact Grown.refl _ | refine Grown.push ?_ _))⟩
          ·
            refine a_end ?_
            refine awp_seq ?_
            refine awp_condF (by conv => lhs; whnf) ?_
            refine awp_exit ?_
            refine awp_seq ?_
            refine awp_region rfl ?_
            refine a_do rfl (o_assign (by conv => lhs; whnf) ?_)
            refine a_end ?_
            refine awp_ret ?_
            refine ⟨.inl rfl, [_], ⟨ares_tmp (by conv => lhs; whnf), trivial⟩, ?_⟩
            exact ⟨congrArg Value.bool (by first | exact isW_yes ‹_› (by omega) (by assumption) (all_take_full (by omega) ha) | exact isW_no (k := s) (by omega) ‹_› | exact isW_no0 ‹_› | exact isW_noL (by omega) | exact isW_noZ (by assumption)), (by first | ((repeat (first | with_reducible exact Grown.refl _ | with_reducible apply Grown.push)); done) | repeat (first | exact Grown.refl _ | refine Grown.push ?_ _))⟩
  ·
    refine d_do rfl (o_notF (by conv => lhs; whnf) ⟨rfl, rfl⟩) (by exact .prim rfl) ?_
    refine d_do rfl (o_move (by conv => lhs; whnf) ⟨rfl, rfl⟩) (by exact .prim rfl) ?_
    refine d_no rfl ?_
    refine d_no rfl ?_
    refine d_no rfl ?_
    refine d_no rfl ?_
    refine d_no rfl ?_
    refine d_no rfl ?_
    refine d_no rfl ?_
    refine d_no rfl ?_
    refine d_no rfl ?_
    refine d_no rfl ?_
    refine d_no rfl ?_
    refine d_do rfl (o_pickT (by conv => lhs; whnf) (by conv => lhs; whnf) ⟨rfl, rfl⟩) (by exact .prim rfl) ?_
    refine d_do rfl (o_move (by conv => lhs; whnf) ⟨rfl, rfl⟩) (by exact .prim rfl) ?_
    refine d_no rfl ?_
    refine d_no rfl ?_
    refine d_no rfl ?_
    refine d_no rfl ?_
    refine d_no rfl ?_
    refine d_no rfl ?_
    refine d_no rfl ?_
    refine d_do rfl (o_pickT (by conv => lhs; whnf) (by conv => lhs; whnf) ⟨rfl, rfl⟩) (by exact .prim rfl) ?_
    refine d_end ?_
    refine awp_condT (by conv => lhs; whnf) ?_
    refine awp_seq ?_
    refine awp_region rfl ?_
    refine a_do rfl (o_assign (by conv => lhs; whnf) ?_)
    refine a_end ?_
    refine awp_ret ?_
    refine ⟨.inl rfl, [_], ⟨ares_tmp (by conv => lhs; whnf), trivial⟩, ?_⟩
    exact ⟨congrArg Value.bool (by first | exact isW_yes ‹_› (by omega) (by assumption) (all_take_full (by omega) ha) | exact isW_no (k := s) (by omega) ‹_› | exact isW_no0 ‹_› | exact isW_noL (by omega) | exact isW_noZ (by assumption)), (by first | ((repeat (first | with_reducible exact Grown.refl _ | with_reducible apply Grown.push)); done) | repeat (first | exact Grown.refl _ | refine Grown.push ?_ _))⟩

set_option maxRecDepth 10000 in
theorem l03SharesE_ret (p : Int) (xs : List Int) (p0 : Value) (h : AHeap) (hp : IsRec h p0 (p, xs)) (hl : xs.length ≤ 1073741824) (hW : isW 10000 p xs = true) : RetN Try.prog 74 [p0] h (fun j => sl j p.toNat) (lst (shL p xs)) := by
  obtain ⟨k, off, ver, o, v, rfl, ho, hver, hc0, hc1, hv⟩ := hp
  replace hc0 : o.cells[off]? = some (i64 p) := hc0
  replace hv : Ints h v xs := hv
  refine ret1_of (o := lst (shL p xs)) (V := fun j => sl j p.toNat) (fun _ _ => .slice) (.slice (by omega)) lst_prim ?_
  have hG := isW_get hW
  refine tri_of_body Try.func74 rfl (by kernel_rfl) (by show 1 ≤ 69; decide) ?_
  refine awp_seq ?_
  refine awp_region rfl ?_
  refine a_do rfl (o_assign (by conv => lhs; whnf) ?_)
  refine a_end ?_
  refine awp_seq ?_
  refine awp_region rfl ?_
  refine a_do rfl (o_buildI0 Try.underlying22 ty2 (fun k1 hk1 => ?_))
  try simp at hk1
  refine a_do rfl (o_assign (by conv => lhs; whnf) ?_)
  refine a_end ?_
  refine awp_seq ?_
  refine awp_seq ?_
  refine awp_region rfl ?_
  refine a_do rfl (o_assign (by conv => lhs; whnf) ?_)
  refine a_end ?_
  refine awp_block ?_
  refine awp_loop (σ := Nat) (fun s env1 h1 => Slots env1 [(0, .pointer (some ⟨k, off, some ver⟩)), (3, sl k1 s), (4, i64 s)] ∧ Grown (h ++ [lst ((List.range s).map (shF xs p))]) h1 ∧ (s : Int) ≤ p) (fun s => p.toNat - s) 0 ?_ ?_
  · refine ⟨Slots.mk ⟨?_, ?_, ?_, trivial⟩, ?_, ?_⟩
    all_goals first | rfl | (simp; done) | exact Grown.refl _ | omega
  · intro s env1 h1 hI1
    obtain ⟨⟨e1, rfl⟩, ⟨gs, rfl⟩, hs⟩ := hI1
    refine awp_seq ?_
    refine awp_seq ?_
    refine awp_region rfl ?_
    refine a_do rfl (o_move (by conv => lhs; whnf) ?_)
    refine a_do rfl (o_move (by conv => lhs; whnf) ?_)
    refine a_do rfl (o_nilCheck (by conv => lhs; whnf) ?_)
    refine a_do rfl (o_fieldAddr Try.underlying44 rfl ty2 (by conv => lhs; whnf) (by with_reducible repeat (first | assumption | (apply lk_last; (try simp only [ll1, ll2, ll3, ll4, lls_len, lls2_len, markL_len, rls_len, markR_len]); first | done | omega) | apply lk_prev)) (by first | rfl | assumption) ?_)
    refine a_do rfl (o_load Try.underlying2 rfl (by conv => lhs; whnf) (by with_reducible repeat (first | assumption | (apply lk_last; (try simp only [ll1, ll2, ll3, ll4, lls_len, lls2_len, markL_len, rls_len, markR_len]); first | done | omega) | apply lk_prev)) (by first | rfl | assumption) (by first | rfl | assumption) ?_)
    refine a_do rfl (o_lss (by conv => lhs; whnf) (by conv => lhs; whnf) (fun c2 => ?_) (fun c2 => ?_))
    ·
      refine a_end ?_
      refine awp_condT (by conv => lhs; whnf) ?_
      refine awp_skip ?_
      refine awp_seq ?_
      refine awp_block ?_
      refine awp_seq ?_
      refine awp_region rfl ?_
      refine a_do rfl (o_assign (by conv => lhs; whnf) ?_)
      refine a_end ?_
      refine awp_seq ?_
      refine awp_seq ?_
      refine awp_region rfl ?_
      refine a_do rfl (o_move (by conv => lhs; whnf) ?_)
      refine a_do rfl (o_nilCheck (by conv => lhs; whnf) ?_)
      refine a_do rfl (o_fieldAddr Try.underlying44 rfl ty22 (by conv => lhs; whnf) (by with_reducible repeat (first | assumption | (apply lk_last; (try simp only [ll1, ll2, ll3, ll4, lls_len, lls2_len, markL_len, rls_len, markR_len]); first | done | omega) | apply lk_prev)) (by first | rfl | assumption) ?_)
      refine a_do rfl (o_load Try.underlying22 rfl (by conv => lhs; whnf) (by with_reducible repeat (first | assumption | (apply lk_last; (try simp only [ll1, ll2, ll3, ll4, lls_len, lls2_len, markL_len, rls_len, markR_len]); first | done | omega) | apply lk_prev)) (by first | rfl | assumption) (by first | rfl | assumption) ?_)
      refine a_do rfl (o_lenI Try.underlying22 (by conv => lhs; whnf) (by first | ((with_reducible repeat (first | assumption | apply Ints.app)); done) | repeat (first | with_reducible assumption | exact ints_nil | exact Ints.own (by with_reducible repeat (first | assumption | (apply lk_last; (try simp only [ll1, ll2, ll3, ll4, lls_len, lls2_len, markL_len, rls_len, markR_len]); first | done | omega) | apply lk_prev)) (by first | rfl | exact upto_len | assumption | exact map_len | exact List.length_set | (rw [List.length_set]; assumption)) | exact Ints.tail (by with_reducible repeat (first | assumption | (apply lk_last; (try simp only [ll1, ll2, ll3, ll4, lls_len, lls2_len, markL_len, rls_len, markR_len]); first | done | omega) | apply lk_prev)) (by first | rfl | exact upto_len | assumption | exact map_len | exact List.length_set | (rw [List.length_set]; assumption)) | with_reducible apply Ints.app | (refine Ints.sub (by with_reducible repeat (first | assumption | apply Ints.app)) (by omega) (by omega) (by omega)))) ?_)
      refine a_do rfl (o_move (by conv => lhs; whnf) ?_)
      refine a_end ?_
      refine awp_block ?_
      refine awp_loop (σ := Nat) (fun s2 env1 h1 => Slots env1 [(0, .pointer (some ⟨k, off, some ver⟩)), (3, sl k1 s), (4, i64 s), (5, i64 (shS xs p s s2)), (21, i64 xs.length), (22, i64 s2)] ∧ h1 = h ++ [lst ((List.range s).map (shF xs p))] ++ gs ∧ s2 ≤ xs.length) (fun s2 => xs.length - s2) 0 ?_ ?_
      · refine ⟨Slots.mk ⟨?_, ?_, ?_, ?_, ?_, ?_, trivial⟩, ?_, ?_⟩
        all_goals first | rfl | (simp; done) | omega
      · intro s2 env1 h1 hI1
        obtain ⟨⟨e1, rfl⟩, rfl, hs2⟩ := hI1
        refine awp_seq ?_
        refine awp_region rfl ?_
        refine a_do rfl (o_lss (by conv => lhs; whnf) (by conv => lhs; whnf) (fun c3 => ?_) (fun c3 => ?_))
        ·
          refine a_end ?_
          refine awp_seq ?_
          refine awp_condT (by conv => lhs; whnf) ?_
          refine awp_skip ?_
          refine awp_seq ?_
          refine awp_block ?_
          refine awp_seq ?_
          refine awp_region rfl ?_
          refine a_do rfl (o_move (by conv => lhs; whnf) ?_)
          refine a_do rfl (o_assign (by conv => lhs; whnf) ?_)
          refine a_end ?_
          refine awp_seq ?_
          refine awp_seq ?_
          refine awp_region rfl ?_
          refine a_do rfl (o_move (by conv => lhs; whnf) ?_)
          refine a_do rfl (o_move (by conv => lhs; whnf) ?_)
          refine a_do rfl (o_callF (lmap_cons (by conv => lhs; whnf) (lmap_cons (by conv => lhs; whnf) lmap_nil)) (Ret.toB (l03In_ret _ _ _ (by omega) (by omega)) (fun c4 => ?_) (fun c4 => ?_)))
          ·
            refine a_end ?_
            refine awp_condT (by conv => lhs; whnf) ?_
            refine awp_exit ?_
            refine awp_region rfl ?_
            refine a_do rfl (o_add (by conv => lhs; whnf) (by conv => lhs; whnf) (by omega) (by omega) ?_)
            refine a_do rfl (o_move (by conv => lhs; whnf) ?_)
            refine a_end ?_
            refine ⟨s2 + 1, ⟨Slots.mk ⟨?_, ?_, ?_, ?_, ?_, ?_, trivial⟩, ?_, ?_⟩, ?_⟩
            all_goals first | rfl | omega | exact congrArg i64 (by omega) | exact congrArg i64 (shS_out ‹_›).symm | exact congrArg i64 (shS_in ‹_›).symm
          ·
            obtain ⟨hu1, hu2, hu3, hu4, hu5⟩ := bit_up (s := s2) (q := (s : Int)) hW (by omega) (by omega) c4
            have hb1 := isW_bnd hW s2
            have hb2 := isW_bnd hW (s2 + 2 ^ (s : Int).toNat)
            have hpb := pop_bnd (q := (s : Int)) hW (show s2 < xs.length by omega) (by omega) c4
            refine a_end ?_
            refine awp_condF (by conv => lhs; whnf) ?_
            refine awp_skip ?_
            refine awp_seq ?_
            refine awp_region rfl ?_
            refine a_do rfl (o_move (by conv => lhs; whnf) ?_)
            refine a_do rfl (o_callF (lmap_cons (by conv => lhs; whnf) lmap_nil) (Ret.to (l03Count_ret _ _ (by omega)) ?_))
            refine a_do rfl (o_assign (by conv => lhs; whnf) ?_)
            refine a_end ?_
            refine awp_draw Try_mixed (by kernel_rfl) rfl ?_
            refine d_do rfl (o_move (by conv => lhs; whnf) ⟨rfl, rfl⟩) (by exact .prim rfl) ?_
            refine d_do rfl (o_move (by conv => lhs; whnf) ⟨rfl, rfl⟩) (by exact .prim rfl) ?_
            refine d_do rfl (o_callF (lmap_cons (by conv => lhs; whnf) lmap_nil) (Ret.to (l03Orders_ret _ _ (by omega)) ⟨rfl, rfl⟩)) (by first | exact .prim rfl | exact within_func0 | (apply within_ptr; (with_reducible repeat (first | assumption | (apply lk_last; (try simp only [ll1, ll2, ll3, ll4, lls_len, lls2_len, markL_len, rls_len, markR_len]); first | done | omega) | apply lk_prev)); done) | (apply within_sl; (with_reducible repeat (first | assumption | (apply lk_last; (try simp only [ll1, ll2, ll3, ll4, lls_len, lls2_len, markL_len, rls_len, markR_len]); first | done | omega) | apply lk_prev)); done) | ((try apply within_sub); apply Ints.within; (with_reducible repeat (first | assumption | apply Ints.app)); done) | (apply Lists.within; (with_reducible repeat (first | assumption | apply Lists.app)); done) | (apply Recs.within; (with_reducible repeat (first | assumption | apply Recs.app)); done) | (apply IsRec.within; (with_reducible repeat (first | assumption | apply IsRec.app)); done) | (apply Flts.within; (with_reducible repeat (first | assumption | apply Flts.app)); done) | (apply Byts.within; (with_reducible repeat (first | assumption | apply Byts.app)); done) | exact within_nilw | exact within_nilb | (apply within_tup2 <;> first | exact .prim rfl | (apply within_sl; (with_reducible repeat (first | assumption | (apply lk_last; (try simp only [ll1, ll2, ll3, ll4, lls_len, lls2_len, markL_len, rls_len, markR_len]); first | done | omega) | apply lk_prev)); done) | (apply Within.agg2 <;> (first | exact .prim rfl | (apply within_ptr; (with_reducible repeat (first | assumption | (apply lk_last; (try simp only [ll1, ll2, ll3, ll4, lls_len, lls2_len, markL_len, rls_len, markR_len]); first | done | omega) | apply lk_prev)); done) | (apply within_sl; (with_reducible repeat (first | assumption | (apply lk_last; (try simp only [ll1, ll2, ll3, ll4, lls_len, lls2_len, markL_len, rls_len, markR_len]); first | done | omega) | apply lk_prev)); done) | ((try apply within_sub); apply Ints.within; (with_reducible repeat (first | assumption | apply Ints.app)); done) | (apply Lists.within; (with_reducible repeat (first | assumption | apply Lists.app)); done) | (apply Recs.within; (with_reducible repeat (first | assumption | apply Recs.app)); done) | (apply IsRec.within; (with_reducible repeat (first | assumption | apply IsRec.app)); done) | (apply within_sl; (with_reducible repeat (first | assumption | (apply lk_last; (try simp only [ll1, ll2, ll3, ll4, lls_len, lls2_len, markL_len, rls_len, markR_len]); first | done | omega) | apply lk_prev)); done)))) | exact Within.mono ‹Within _ (Value.func _ _ _)› (by (try simp only [ll1, ll2, ll3, ll4, lls_len, lls2_len, markL_len, rls_len, markR_len]); first | done | omega) | (apply Within.agg4 <;> (first | exact .prim rfl | (apply within_ptr; (with_reducible repeat (first | assumption | (apply lk_last; (try simp only [ll1, ll2, ll3, ll4, lls_len, lls2_len, markL_len, rls_len, markR_len]); first | done | omega) | apply lk_prev)); done) | (apply within_sl; (with_reducible repeat (first | assumption | (apply lk_last; (try simp only [ll1, ll2, ll3, ll4, lls_len, lls2_len, markL_len, rls_len, markR_len]); first | done | omega) | apply lk_prev)); done) | ((try apply within_sub); apply Ints.within; (with_reducible repeat (first | assumption | apply Ints.app)); done) | (apply Lists.within; (with_reducible repeat (first | assumption | apply Lists.app)); done) | (apply Recs.within; (with_reducible repeat (first | assumption | apply Recs.app)); done) | (apply IsRec.within; (with_reducible repeat (first | assumption | apply IsRec.app)); done) | (apply within_sl; (with_reducible repeat (first | assumption | (apply lk_last; (try simp only [ll1, ll2, ll3, ll4, lls_len, lls2_len, markL_len, rls_len, markR_len]); first | done | omega) | apply lk_prev)); done))) | (apply Within.agg3 <;> (first | exact .prim rfl | (apply within_ptr; (with_reducible repeat (first | assumption | (apply lk_last; (try simp only [ll1, ll2, ll3, ll4, lls_len, lls2_len, markL_len, rls_len, markR_len]); first | done | omega) | apply lk_prev)); done) | (apply within_sl; (with_reducible repeat (first | assumption | (apply lk_last; (try simp only [ll1, ll2, ll3, ll4, lls_len, lls2_len, markL_len, rls_len, markR_len]); first | done | omega) | apply lk_prev)); done) | ((try apply within_sub); apply Ints.within; (with_reducible repeat (first | assumption | apply Ints.app)); done) | (apply Lists.within; (with_reducible repeat (first | assumption | apply Lists.app)); done) | (apply Recs.within; (with_reducible repeat (first | assumption | apply Recs.app)); done) | (apply IsRec.within; (with_reducible repeat (first | assumption | apply IsRec.app)); done) | (apply within_sl; (with_reducible repeat (first | assumption | (apply lk_last; (try simp only [ll1, ll2, ll3, ll4, lls_len, lls2_len, markL_len, rls_len, markR_len]); first | done | omega) | apply lk_prev)); done))) | (apply Within.agg2 <;> (first | exact .prim rfl | (apply within_ptr; (with_reducible repeat (first | assumption | (apply lk_last; (try simp only [ll1, ll2, ll3, ll4, lls_len, lls2_len, markL_len, rls_len, markR_len]); first | done | omega) | apply lk_prev)); done) | (apply within_sl; (with_reducible repeat (first | assumption | (apply lk_last; (try simp only [ll1, ll2, ll3, ll4, lls_len, lls2_len, markL_len, rls_len, markR_len]); first | done | omega) | apply lk_prev)); done) | ((try apply within_sub); apply Ints.within; (with_reducible repeat (first | assumption | apply Ints.app)); done) | (apply Lists.within; (with_reducible repeat (first | assumption | apply Lists.app)); done) | (apply Recs.within; (with_reducible repeat (first | assumption | apply Recs.app)); done) | (apply IsRec.within; (with_reducible repeat (first | assumption | apply IsRec.app)); done) | (apply within_sl; (with_reducible repeat (first | assumption | (apply lk_last; (try simp only [ll1, ll2, ll3, ll4, lls_len, lls2_len, markL_len, rls_len, markR_len]); first | done | omega) | apply lk_prev)); done)))) ?_
            refine d_do rfl (o_move (by conv => lhs; whnf) ⟨rfl, rfl⟩) (by first | exact .prim rfl | (apply within_ptr; (with_reducible repeat (first | assumption | (apply lk_last; (try simp only [ll1, ll2, ll3, ll4, lls_len, lls2_len, markL_len, rls_len, markR_len]); first | done | omega) | apply lk_prev)); done)) ?_
            refine d_do rfl (o_nilCheck (by conv => lhs; whnf) ⟨rfl, rfl⟩) (by first | (apply within_ptr; (with_reducible repeat (first | assumption | (apply lk_last; (try simp only [ll1, ll2, ll3, ll4, lls_len, lls2_len, markL_len, rls_len, markR_len]); first | done | omega) | apply lk_prev)); done) | exact .prim rfl) ?_
            refine d_do rfl (o_fieldAddr Try.underlying44 rfl ty2 (by conv => lhs; whnf) (by with_reducible repeat (first | assumption | (apply lk_last; (try simp only [ll1, ll2, ll3, ll4, lls_len, lls2_len, markL_len, rls_len, markR_len]); first | done | omega) | apply lk_prev)) (by first | rfl | assumption) ⟨rfl, rfl⟩) (by first | (apply within_ptr; (with_reducible repeat (first | assumption | (apply lk_last; (try simp only [ll1, ll2, ll3, ll4, lls_len, lls2_len, markL_len, rls_len, markR_len]); first | done | omega) | apply lk_prev)); done) | exact .prim rfl) ?_
            refine d_do rfl (o_load Try.underlying2 rfl (by conv => lhs; whnf) (by with_reducible repeat (first | assumption | (apply lk_last; (try simp only [ll1, ll2, ll3, ll4, lls_len, lls2_len, markL_len, rls_len, markR_len]); first | done | omega) | apply lk_prev)) (by first | rfl | assumption) (by first | rfl | assumption) ⟨rfl, rfl⟩) (by exact .prim rfl) ?_
            refine d_do rfl (o_sub (by conv => lhs; whnf) (by conv => lhs; whnf) (by omega) (by omega) ⟨rfl, rfl⟩) (by exact .prim rfl) ?_
            refine d_do rfl (o_move (by conv => lhs; whnf) ⟨rfl, rfl⟩) (by exact .prim rfl) ?_
            refine d_do rfl (o_sub (by conv => lhs; whnf) (by conv => lhs; whnf) (by omega) (by omega) ⟨rfl, rfl⟩) (by exact .prim rfl) ?_
            refine d_do rfl (o_callF (lmap_cons (by conv => lhs; whnf) lmap_nil) (Ret.to (l03Orders_ret _ _ (by omega)) ⟨rfl, rfl⟩)) (by first | exact .prim rfl | exact within_func0 | (apply within_ptr; (with_reducible repeat (first | assumption | (apply lk_last; (try simp only [ll1, ll2, ll3, ll4, lls_len, lls2_len, markL_len, rls_len, markR_len]); first | done | omega) | apply lk_prev)); done) | (apply within_sl; (with_reducible repeat (first | assumption | (apply lk_last; (try simp only [ll1, ll2, ll3, ll4, lls_len, lls2_len, markL_len, rls_len, markR_len]); first | done | omega) | apply lk_prev)); done) | ((try apply within_sub); apply Ints.within; (with_reducible repeat (first | assumption | apply Ints.app)); done) | (apply Lists.within; (with_reducible repeat (first | assumption | apply Lists.app)); done) | (apply Recs.within; (with_reducible repeat (first | assumption | apply Recs.app)); done) | (apply IsRec.within; (with_reducible repeat (first | assumption | apply IsRec.app)); done) | (apply Flts.within; (with_reducible repeat (first | assumption | apply Flts.app)); done) | (apply Byts.within; (with_reducible repeat (first | assumption | apply Byts.app)); done) | exact within_nilw | exact within_nilb | (apply within_tup2 <;> first | exact .prim rfl | (apply within_sl; (with_reducible repeat (first | assumption | (apply lk_last; (try simp only [ll1, ll2, ll3, ll4, lls_len, lls2_len, markL_len, rls_len, markR_len]); first | done | omega) | apply lk_prev)); done) | (apply Within.agg2 <;> (first | exact .prim rfl | (apply within_ptr; (with_reducible repeat (first | assumption | (apply lk_last; (try simp only [ll1, ll2, ll3, ll4, lls_len, lls2_len, markL_len, rls_len, markR_len]); first | done | omega) | apply lk_prev)); done) | (apply within_sl; (with_reducible repeat (first | assumption | (apply lk_last; (try simp only [ll1, ll2, ll3, ll4, lls_len, lls2_len, markL_len, rls_len, markR_len]); first | done | omega) | apply lk_prev)); done) | ((try apply within_sub); apply Ints.within; (with_reducible repeat (first | assumption | apply Ints.app)); done) | (apply Lists.within; (with_reducible repeat (first | assumption | apply Lists.app)); done) | (apply Recs.within; (with_reducible repeat (first | assumption | apply Recs.app)); done) | (apply IsRec.within; (with_reducible repeat (first | assumption | apply IsRec.app)); done) | (apply within_sl; (with_reducible repeat (first | assumption | (apply lk_last; (try simp only [ll1, ll2, ll3, ll4, lls_len, lls2_len, markL_len, rls_len, markR_len]); first | done | omega) | apply lk_prev)); done)))) | exact Within.mono ‹Within _ (Value.func _ _ _)› (by (try simp only [ll1, ll2, ll3, ll4, lls_len, lls2_len, markL_len, rls_len, markR_len]); first | done | omega) | (apply Within.agg4 <;> (first | exact .prim rfl | (apply within_ptr; (with_reducible repeat (first | assumption | (apply lk_last; (try simp only [ll1, ll2, ll3, ll4, lls_len, lls2_len, markL_len, rls_len, markR_len]); first | done | omega) | apply lk_prev)); done) | (apply within_sl; (with_reducible repeat (first | assumption | (apply lk_last; (try simp only [ll1, ll2, ll3, ll4, lls_len, lls2_len, markL_len, rls_len, markR_len]); first | done | omega) | apply lk_prev)); done) | ((try apply within_sub); apply Ints.within; (with_reducible repeat (first | assumption | apply Ints.app)); done) | (apply Lists.within; (with_reducible repeat (first | assumption | apply Lists.app)); done) | (apply Recs.within; (with_reducible repeat (first | assumption | apply Recs.app)); done) | (apply IsRec.within; (with_reducible repeat (first | assumption | apply IsRec.app)); done) | (apply within_sl; (with_reducible repeat (first | assumption | (apply lk_last; (try simp only [ll1, ll2, ll3, ll4, lls_len, lls2_len, markL_len, rls_len, markR_len]); first | done | omega) | apply lk_prev)); done))) | (apply Within.agg3 <;> (first | exact .prim rfl | (apply within_ptr; (with_reducible repeat (first | assumption | (apply lk_last; (try simp only [ll1, ll2, ll3, ll4, lls_len, lls2_len, markL_len, rls_len, markR_len]); first | done | omega) | apply lk_prev)); done) | (apply within_sl; (with_reducible repeat (first | assumption | (apply lk_last; (try simp only [ll1, ll2, ll3, ll4, lls_len, lls2_len, markL_len, rls_len, markR_len]); first | done | omega) | apply lk_prev)); done) | ((try apply within_sub); apply Ints.within; (with_reducible repeat (first | assumption | apply Ints.app)); done) | (apply Lists.within; (with_reducible repeat (first | assumption | apply Lists.app)); done) | (apply Recs.within; (with_reducible repeat (first | assumption | apply Recs.app)); done) | (apply IsRec.within; (with_reducible repeat (first | assumption | apply IsRec.app)); done) | (apply within_sl; (with_reducible repeat (first | assumption | (apply lk_last; (try simp only [ll1, ll2, ll3, ll4, lls_len, lls2_len, markL_len, rls_len, markR_len]); first | done | omega) | apply lk_prev)); done))) | (apply Within.agg2 <;> (first | exact .prim rfl | (apply within_ptr; (with_reducible repeat (first | assumption | (apply lk_last; (try simp only [ll1, ll2, ll3, ll4, lls_len, lls2_len, markL_len, rls_len, markR_len]); first | done | omega) | apply lk_prev)); done) | (apply within_sl; (with_reducible repeat (first | assumption | (apply lk_last; (try simp only [ll1, ll2, ll3, ll4, lls_len, lls2_len, markL_len, rls_len, markR_len]); first | done | omega) | apply lk_prev)); done) | ((try apply within_sub); apply Ints.within; (with_reducible repeat (first | assumption | apply Ints.app)); done) | (apply Lists.within; (with_reducible repeat (first | assumption | apply Lists.app)); done) | (apply Recs.within; (with_reducible repeat (first | assumption | apply Recs.app)); done) | (apply IsRec.within; (with_reducible repeat (first | assumption | apply IsRec.app)); done) | (apply within_sl; (with_reducible repeat (first | assumption | (apply lk_last; (try simp only [ll1, ll2, ll3, ll4, lls_len, lls2_len, markL_len, rls_len, markR_len]); first | done | omega) | apply lk_prev)); done)))) ?_
            refine d_do rfl (o_bin (by conv => lhs; whnf) (by conv => lhs; whnf) rfl ⟨rfl, rfl⟩) (by exact .prim rfl) ?_
            refine d_do rfl (o_move (by conv => lhs; whnf) ⟨rfl, rfl⟩) (by first | exact .prim rfl | (apply within_ptr; (with_reducible repeat (first | assumption | (apply lk_last; (try simp only [ll1, ll2, ll3, ll4, lls_len, lls2_len, markL_len, rls_len, markR_len]); first | done | omega) | apply lk_prev)); done)) ?_
            refine d_do rfl (o_nilCheck (by conv => lhs; whnf) ⟨rfl, rfl⟩) (by first | (apply within_ptr; (with_reducible repeat (first | assumption | (apply lk_last; (try simp only [ll1, ll2, ll3, ll4, lls_len, lls2_len, markL_len, rls_len, markR_len]); first | done | omega) | apply lk_prev)); done) | exact .prim rfl) ?_
            refine d_do rfl (o_fieldAddr Try.underlying44 rfl ty22 (by conv => lhs; whnf) (by with_reducible repeat (first | assumption | (apply lk_last; (try simp only [ll1, ll2, ll3, ll4, lls_len, lls2_len, markL_len, rls_len, markR_len]); first | done | omega) | apply lk_prev)) (by first | rfl | assumption) ⟨rfl, rfl⟩) (by first | (apply within_ptr; (with_reducible repeat (first | assumption | (apply lk_last; (try simp only [ll1, ll2, ll3, ll4, lls_len, lls2_len, markL_len, rls_len, markR_len]); first | done | omega) | apply lk_prev)); done) | exact .prim rfl) ?_
            refine d_do rfl (o_load Try.underlying22 rfl (by conv => lhs; whnf) (by with_reducible repeat (first | assumption | (apply lk_last; (try simp only [ll1, ll2, ll3, ll4, lls_len, lls2_len, markL_len, rls_len, markR_len]); first | done | omega) | apply lk_prev)) (by first | rfl | assumption) (by first | rfl | assumption) ⟨rfl, rfl⟩) (by first | exact .prim rfl | exact within_func0 | (apply within_ptr; (with_reducible repeat (first | assumption | (apply lk_last; (try simp only [ll1, ll2, ll3, ll4, lls_len, lls2_len, markL_len, rls_len, markR_len]); first | done | omega) | apply lk_prev)); done) | (apply within_sl; (with_reducible repeat (first | assumption | (apply lk_last; (try simp only [ll1, ll2, ll3, ll4, lls_len, lls2_len, markL_len, rls_len, markR_len]); first | done | omega) | apply lk_prev)); done) | ((try apply within_sub); apply Ints.within; (with_reducible repeat (first | assumption | apply Ints.app)); done) | (apply Lists.within; (with_reducible repeat (first | assumption | apply Lists.app)); done) | (apply Recs.within; (with_reducible repeat (first | assumption | apply Recs.app)); done) | (apply IsRec.within; (with_reducible repeat (first | assumption | apply IsRec.app)); done) | (apply Flts.within; (with_reducible repeat (first | assumption | apply Flts.app)); done) | (apply Byts.within; (with_reducible repeat (first | assumption | apply Byts.app)); done) | exact within_nilw | exact within_nilb | (apply within_tup2 <;> first | exact .prim rfl | (apply within_sl; (with_reducible repeat (first | assumption | (apply lk_last; (try simp only [ll1, ll2, ll3, ll4, lls_len, lls2_len, markL_len, rls_len, markR_len]); first | done | omega) | apply lk_prev)); done) | (apply Within.agg2 <;> (first | exact .prim rfl | (apply within_ptr; (with_reducible repeat (first | assumption | (apply lk_last; (try simp only [ll1, ll2, ll3, ll4, lls_len, lls2_len, markL_len, rls_len, markR_len]); first | done | omega) | apply lk_prev)); done) | (apply within_sl; (with_reducible repeat (first | assumption | (apply lk_last; (try simp only [ll1, ll2, ll3, ll4, lls_len, lls2_len, markL_len, rls_len, markR_len]); first | done | omega) | apply lk_prev)); done) | ((try apply within_sub); apply Ints.within; (with_reducible repeat (first | assumption | apply Ints.app)); done) | (apply Lists.within; (with_reducible repeat (first | assumption | apply Lists.app)); done) | (apply Recs.within; (with_reducible repeat (first | assumption | apply Recs.app)); done) | (apply IsRec.within; (with_reducible repeat (first | assumption | apply IsRec.app)); done) | (apply within_sl; (with_reducible repeat (first | assumption | (apply lk_last; (try simp only [ll1, ll2, ll3, ll4, lls_len, lls2_len, markL_len, rls_len, markR_len]); first | done | omega) | apply lk_prev)); done)))) | exact Within.mono ‹Within _ (Value.func _ _ _)› (by (try simp only [ll1, ll2, ll3, ll4, lls_len, lls2_len, markL_len, rls_len, markR_len]); first | done | omega) | (apply Within.agg4 <;> (first | exact .prim rfl | (apply within_ptr; (with_reducible repeat (first | assumption | (apply lk_last; (try simp only [ll1, ll2, ll3, ll4, lls_len, lls2_len, markL_len, rls_len, markR_len]); first | done | omega) | apply lk_prev)); done) | (apply within_sl; (with_reducible repeat (first | assumption | (apply lk_last; (try simp only [ll1, ll2, ll3, ll4, lls_len, lls2_len, markL_len, rls_len, markR_len]); first | done | omega) | apply lk_prev)); done) | ((try apply within_sub); apply Ints.within; (with_reducible repeat (first | assumption | apply Ints.app)); done) | (apply Lists.within; (with_reducible repeat (first | assumption | apply Lists.app)); done) | (apply Recs.within; (with_reducible repeat (first | assumption | apply Recs.app)); done) | (apply IsRec.within; (with_reducible repeat (first | assumption | apply IsRec.app)); done) | (apply within_sl; (with_reducible repeat (first | assumption | (apply lk_last; (try simp only [ll1, ll2, ll3, ll4, lls_len, lls2_len, markL_len, rls_len, markR_len]); first | done | omega) | apply lk_prev)); done))) | (apply Within.agg3 <;> (first | exact .prim rfl | (apply within_ptr; (with_reducible repeat (first | assumption | (apply lk_last; (try simp only [ll1, ll2, ll3, ll4, lls_len, lls2_len, markL_len, rls_len, markR_len]); first | done | omega) | apply lk_prev)); done) | (apply within_sl; (with_reducible repeat (first | assumption | (apply lk_last; (try simp only [ll1, ll2, ll3, ll4, lls_len, lls2_len, markL_len, rls_len, markR_len]); first | done | omega) | apply lk_prev)); done) | ((try apply within_sub); apply Ints.within; (with_reducible repeat (first | assumption | apply Ints.app)); done) | (apply Lists.within; (with_reducible repeat (first | assumption | apply Lists.app)); done) | (apply Recs.within; (with_reducible repeat (first | assumption | apply Recs.app)); done) | (apply IsRec.within; (with_reducible repeat (first | assumption | apply IsRec.app)); done) | (apply within_sl; (with_reducible repeat (first | assumption | (apply lk_last; (try simp only [ll1, ll2, ll3, ll4, lls_len, lls2_len, markL_len, rls_len, markR_len]); first | done | omega) | apply lk_prev)); done))) | (apply Within.agg2 <;> (first | exact .prim rfl | (apply within_ptr; (with_reducible repeat (first | assumption | (apply lk_last; (try simp only [ll1, ll2, ll3, ll4, lls_len, lls2_len, markL_len, rls_len, markR_len]); first | done | omega) | apply lk_prev)); done) | (apply within_sl; (with_reducible repeat (first | assumption | (apply lk_last; (try simp only [ll1, ll2, ll3, ll4, lls_len, lls2_len, markL_len, rls_len, markR_len]); first | done | omega) | apply lk_prev)); done) | ((try apply within_sub); apply Ints.within; (with_reducible repeat (first | assumption | apply Ints.app)); done) | (apply Lists.within; (with_reducible repeat (first | assumption | apply Lists.app)); done) | (apply Recs.within; (with_reducible repeat (first | assumption | apply Recs.app)); done) | (apply IsRec.within; (with_reducible repeat (first | assumption | apply IsRec.app)); done) | (apply within_sl; (with_reducible repeat (first | assumption | (apply lk_last; (try simp only [ll1, ll2, ll3, ll4, lls_len, lls2_len, markL_len, rls_len, markR_len]); first | done | omega) | apply lk_prev)); done)))) ?_
            refine d_do rfl (o_move (by conv => lhs; whnf) ⟨rfl, rfl⟩) (by exact .prim rfl) ?_
            refine d_do rfl (o_move (by conv => lhs; whnf) ⟨rfl, rfl⟩) (by exact .prim rfl) ?_
            refine d_do rfl (o_convU Try.underlying2 Try.underlying89 (by conv => lhs; whnf) (by omega) (by omega) ⟨rfl, rfl⟩) (by exact .prim rfl) ?_
            refine d_do rfl (o_shl (by conv => lhs; whnf) (by conv => lhs; whnf) (by omega) (by omega) (by omega) (by omega) ⟨rfl, rfl⟩) (by exact .prim rfl) ?_
            refine d_do rfl (o_add (by conv => lhs; whnf) (by conv => lhs; whnf) (by omega) (by omega) ⟨rfl, rfl⟩) (by exact .prim rfl) ?_
            refine d_indexI (i := s2 + 2 ^ (s : Int).toNat) rfl Try.underlying22 ty2 (by conv => lhs; whnf) (by first | ((with_reducible repeat (first | assumption | apply Ints.app)); done) | repeat (first | with_reducible assumption | exact ints_nil | exact Ints.own (by with_reducible repeat (first | assumption | (apply lk_last; (try simp only [ll1, ll2, ll3, ll4, lls_len, lls2_len, markL_len, rls_len, markR_len]); first | done | omega) | apply lk_prev)) (by first | rfl | exact upto_len | assumption | exact map_len | exact List.length_set | (rw [List.length_set]; assumption)) | exact Ints.tail (by with_reducible repeat (first | assumption | (apply lk_last; (try simp only [ll1, ll2, ll3, ll4, lls_len, lls2_len, markL_len, rls_len, markR_len]); first | done | omega) | apply lk_prev)) (by first | rfl | exact upto_len | assumption | exact map_len | exact List.length_set | (rw [List.length_set]; assumption)) | with_reducible apply Ints.app | (refine Ints.sub (by with_reducible repeat (first | assumption | apply Ints.app)) (by omega) (by omega) (by omega)))) (by exact congrArg i64 hu5) (by omega) (fun p5 hp5 => ?_)
            refine d_do rfl (o_loadI Try.underlying2 rfl (by conv => lhs; whnf) hp5 (by first | ((with_reducible repeat (first | assumption | apply Ints.app)); done) | repeat (first | with_reducible assumption | exact ints_nil | exact Ints.own (by with_reducible repeat (first | assumption | (apply lk_last; (try simp only [ll1, ll2, ll3, ll4, lls_len, lls2_len, markL_len, rls_len, markR_len]); first | done | omega) | apply lk_prev)) (by first | rfl | exact upto_len | assumption | exact map_len | exact List.length_set | (rw [List.length_set]; assumption)) | exact Ints.tail (by with_reducible repeat (first | assumption | (apply lk_last; (try simp only [ll1, ll2, ll3, ll4, lls_len, lls2_len, markL_len, rls_len, markR_len]); first | done | omega) | apply lk_prev)) (by first | rfl | exact upto_len | assumption | exact map_len | exact List.length_set | (rw [List.length_set]; assumption)) | with_reducible apply Ints.app | (refine Ints.sub (by with_reducible repeat (first | assumption | apply Ints.app)) (by omega) (by omega) (by omega)))) (by omega) ⟨rfl, rfl⟩) (by exact .prim rfl) ?_
            refine d_do rfl (o_move (by conv => lhs; whnf) ⟨rfl, rfl⟩) (by first | exact .prim rfl | (apply within_ptr; (with_reducible repeat (first | assumption | (apply lk_last; (try simp only [ll1, ll2, ll3, ll4, lls_len, lls2_len, markL_len, rls_len, markR_len]); first | done | omega) | apply lk_prev)); done)) ?_
            refine d_do rfl (o_nilCheck (by conv => lhs; whnf) ⟨rfl, rfl⟩) (by first | (apply within_ptr; (with_reducible repeat (first | assumption | (apply lk_last; (try simp only [ll1, ll2, ll3, ll4, lls_len, lls2_len, markL_len, rls_len, markR_len]); first | done | omega) | apply lk_prev)); done) | exact .prim rfl) ?_
            refine d_do rfl (o_fieldAddr Try.underlying44 rfl ty22 (by conv => lhs; whnf) (by with_reducible repeat (first | assumption | (apply lk_last; (try simp only [ll1, ll2, ll3, ll4, lls_len, lls2_len, markL_len, rls_len, markR_len]); first | done | omega) | apply lk_prev)) (by first | rfl | assumption) ⟨rfl, rfl⟩) (by first | (apply within_ptr; (with_reducible repeat (first | assumption | (apply lk_last; (try simp only [ll1, ll2, ll3, ll4, lls_len, lls2_len, markL_len, rls_len, markR_len]); first | done | omega) | apply lk_prev)); done) | exact .prim rfl) ?_
            refine d_do rfl (o_load Try.underlying22 rfl (by conv => lhs; whnf) (by with_reducible repeat (first | assumption | (apply lk_last; (try simp only [ll1, ll2, ll3, ll4, lls_len, lls2_len, markL_len, rls_len, markR_len]); first | done | omega) | apply lk_prev)) (by first | rfl | assumption) (by first | rfl | assumption) ⟨rfl, rfl⟩) (by first | exact .prim rfl | exact within_func0 | (apply within_ptr; (with_reducible repeat (first | assumption | (apply lk_last; (try simp only [ll1, ll2, ll3, ll4, lls_len, lls2_len, markL_len, rls_len, markR_len]); first | done | omega) | apply lk_prev)); done) | (apply within_sl; (with_reducible repeat (first | assumption | (apply lk_last; (try simp only [ll1, ll2, ll3, ll4, lls_len, lls2_len, markL_len, rls_len, markR_len]); first | done | omega) | apply lk_prev)); done) | ((try apply within_sub); apply Ints.within; (with_reducible repeat (first | assumption | apply Ints.app)); done) | (apply Lists.within; (with_reducible repeat (first | assumption | apply Lists.app)); done) | (apply Recs.within; (with_reducible repeat (first | assumption | apply Recs.app)); done) | (apply IsRec.within; (with_reducible repeat (first | assumption | apply IsRec.app)); done) | (apply Flts.within; (with_reducible repeat (first | assumption | apply Flts.app)); done) | (apply Byts.within; (with_reducible repeat (first | assumption | apply Byts.app)); done) | exact within_nilw | exact within_nilb | (apply within_tup2 <;> first | exact .prim rfl | (apply within_sl; (with_reducible repeat (first | assumption | (apply lk_last; (try simp only [ll1, ll2, ll3, ll4, lls_len, lls2_len, markL_len, rls_len, markR_len]); first | done | omega) | apply lk_prev)); done) | (apply Within.agg2 <;> (first | exact .prim rfl | (apply within_ptr; (with_reducible repeat (first | assumption | (apply lk_last; (try simp only [ll1, ll2, ll3, ll4, lls_len, lls2_len, markL_len, rls_len, markR_len]); first | done | omega) | apply lk_prev)); done) | (apply within_sl; (with_reducible repeat (first | assumption | (apply lk_last; (try simp only [ll1, ll2, ll3, ll4, lls_len, lls2_len, markL_len, rls_len, markR_len]); first | done | omega) | apply lk_prev)); done) | ((try apply within_sub); apply Ints.within; (with_reducible repeat (first | assumption | apply Ints.app)); done) | (apply Lists.within; (with_reducible repeat (first | assumption | apply Lists.app)); done) | (apply Recs.within; (with_reducible repeat (first | assumption | apply Recs.app)); done) | (apply IsRec.within; (with_reducible repeat (first | assumption | apply IsRec.app)); done) | (apply within_sl; (with_reducible repeat (first | assumption | (apply lk_last; (try simp only [ll1, ll2, ll3, ll4, lls_len, lls2_len, markL_len, rls_len, markR_len]); first | done | omega) | apply lk_prev)); done)))) | exact Within.mono ‹Within _ (Value.func _ _ _)› (by (try simp only [ll1, ll2, ll3, ll4, lls_len, lls2_len, markL_len, rls_len, markR_len]); first | done | omega) | (apply Within.agg4 <;> (first | exact .prim rfl | (apply within_ptr; (with_reducible repeat (first | assumption | (apply lk_last; (try simp only [ll1, ll2, ll3, ll4, lls_len, lls2_len, markL_len, rls_len, markR_len]); first | done | omega) | apply lk_prev)); done) | (apply within_sl; (with_reducible repeat (first | assumption | (apply lk_last; (try simp only [ll1, ll2, ll3, ll4, lls_len, lls2_len, markL_len, rls_len, markR_len]); first | done | omega) | apply lk_prev)); done) | ((try apply within_sub); apply Ints.within; (with_reducible repeat (first | assumption | apply Ints.app)); done) | (apply Lists.within; (with_reducible repeat (first | assumption | apply Lists.app)); done) | (apply Recs.within; (with_reducible repeat (first | assumption | apply Recs.app)); done) | (apply IsRec.within; (with_reducible repeat (first | assumption | apply IsRec.app)); done) | (apply within_sl; (with_reducible repeat (first | assumption | (apply lk_last; (try simp only [ll1, ll2, ll3, ll4, lls_len, lls2_len, markL_len, rls_len, markR_len]); first | done | omega) | apply lk_prev)); done))) | (apply Within.agg3 <;> (first | exact .prim rfl | (apply within_ptr; (with_reducible repeat (first | assumption | (apply lk_last; (try simp only [ll1, ll2, ll3, ll4, lls_len, lls2_len, markL_len, rls_len, markR_len]); first | done | omega) | apply lk_prev)); done) | (apply within_sl; (with_reducible repeat (first | assumption | (apply lk_last; (try simp only [ll1, ll2, ll3, ll4, lls_len, lls2_len, markL_len, rls_len, markR_len]); first | done | omega) | apply lk_prev)); done) | ((try apply within_sub); apply Ints.within; (with_reducible repeat (first | assumption | apply Ints.app)); done) | (apply Lists.within; (with_reducible repeat (first | assumption | apply Lists.app)); done) | (apply Recs.within; (with_reducible repeat (first | assumption | apply Recs.app)); done) | (apply IsRec.within; (with_reducible repeat (first | assumption | apply IsRec.app)); done) | (apply within_sl; (with_reducible repeat (first | assumption | (apply lk_last; (try simp only [ll1, ll2, ll3, ll4, lls_len, lls2_len, markL_len, rls_len, markR_len]); first | done | omega) | apply lk_prev)); done))) | (apply Within.agg2 <;> (first | exact .prim rfl | (apply within_ptr; (with_reducible repeat (first | assumption | (apply lk_last; (try simp only [ll1, ll2, ll3, ll4, lls_len, lls2_len, markL_len, rls_len, markR_len]); first | done | omega) | apply lk_prev)); done) | (apply within_sl; (with_reducible repeat (first | assumption | (apply lk_last; (try simp only [ll1, ll2, ll3, ll4, lls_len, lls2_len, markL_len, rls_len, markR_len]); first | done | omega) | apply lk_prev)); done) | ((try apply within_sub); apply Ints.within; (with_reducible repeat (first | assumption | apply Ints.app)); done) | (apply Lists.within; (with_reducible repeat (first | assumption | apply Lists.app)); done) | (apply Recs.within; (with_reducible repeat (first | assumption | apply Recs.app)); done) | (apply IsRec.within; (with_reducible repeat (first | assumption | apply IsRec.app)); done) | (apply within_sl; (with_reducible repeat (first | assumption | (apply lk_last; (try simp only [ll1, ll2, ll3, ll4, lls_len, lls2_len, markL_len, rls_len, markR_len]); first | done | omega) | apply lk_prev)); done)))) ?_
            refine d_do rfl (o_move (by conv => lhs; whnf) ⟨rfl, rfl⟩) (by exact .prim rfl) ?_
            first | refine d_indexI rfl Try.underlying22 ty2 (by conv => lhs; whnf) (by first | ((with_reducible repeat (first | assumption | apply Ints.app)); done) | repeat (first | with_reducible assumption | exact ints_nil | exact Ints.own (by with_reducible repeat (first | assumption | (apply lk_last; (try simp only [ll1, ll2, ll3, ll4, lls_len, lls2_len, markL_len, rls_len, markR_len]); first | done | omega) | apply lk_prev)) (by first | rfl | exact upto_len | assumption | exact map_len | exact List.length_set | (rw [List.length_set]; assumption)) | exact Ints.tail (by with_reducible repeat (first | assumption | (apply lk_last; (try simp only [ll1, ll2, ll3, ll4, lls_len, lls2_len, markL_len, rls_len, markR_len]); first | done | omega) | apply lk_prev)) (by first | rfl | exact upto_len | assumption | exact map_len | exact List.length_set | (rw [List.length_set]; assumption)) | with_reducible apply Ints.app | (refine Ints.sub (by with_reducible repeat (first | assumption | apply Ints.app)) (by omega) (by omega) (by omega)))) (by conv => lhs; whnf) (by omega) (fun p6 hp6 => ?_) | refine d_indexZ rfl Try.underlying22 ty2 (by conv => lhs; whnf) (by first | ((with_reducible repeat (first | assumption | apply Ints.app)); done) | repeat (first | with_reducible assumption | exact ints_nil | exact Ints.own (by with_reducible repeat (first | assumption | (apply lk_last; (try simp only [ll1, ll2, ll3, ll4, lls_len, lls2_len, markL_len, rls_len, markR_len]); first | done | omega) | apply lk_prev)) (by first | rfl | exact upto_len | assumption | exact map_len | exact List.length_set | (rw [List.length_set]; assumption)) | exact Ints.tail (by with_reducible repeat (first | assumption | (apply lk_last; (try simp only [ll1, ll2, ll3, ll4, lls_len, lls2_len, markL_len, rls_len, markR_len]); first | done | omega) | apply lk_prev)) (by first | rfl | exact upto_len | assumption | exact map_len | exact List.length_set | (rw [List.length_set]; assumption)) | with_reducible apply Ints.app | (refine Ints.sub (by with_reducible repeat (first | assumption | apply Ints.app)) (by omega) (by omega) (by omega)))) (by conv => lhs; whnf) (by omega) (by omega) (fun p6 hp6 => ?_)
            refine d_do rfl (o_loadI Try.underlying2 rfl (by conv => lhs; whnf) hp6 (by first | ((with_reducible repeat (first | assumption | apply Ints.app)); done) | repeat (first | with_reducible assumption | exact ints_nil | exact Ints.own (by with_reducible repeat (first | assumption | (apply lk_last; (try simp only [ll1, ll2, ll3, ll4, lls_len, lls2_len, markL_len, rls_len, markR_len]); first | done | omega) | apply lk_prev)) (by first | rfl | exact upto_len | assumption | exact map_len | exact List.length_set | (rw [List.length_set]; assumption)) | exact Ints.tail (by with_reducible repeat (first | assumption | (apply lk_last; (try simp only [ll1, ll2, ll3, ll4, lls_len, lls2_len, markL_len, rls_len, markR_len]); first | done | omega) | apply lk_prev)) (by first | rfl | exact upto_len | assumption | exact map_len | exact List.length_set | (rw [List.length_set]; assumption)) | with_reducible apply Ints.app | (refine Ints.sub (by with_reducible repeat (first | assumption | apply Ints.app)) (by omega) (by omega) (by omega)))) (by omega) ⟨rfl, rfl⟩) (by exact .prim rfl) ?_
            refine d_do rfl (o_sub (by conv => lhs; whnf) (by conv => lhs; whnf) (by omega) (by omega) ⟨rfl, rfl⟩) (by exact .prim rfl) ?_
            refine d_do rfl (o_bin (by conv => lhs; whnf) (by conv => lhs; whnf) rfl ⟨rfl, rfl⟩) (by exact .prim rfl) ?_
            refine d_do rfl (o_bin (by conv => lhs; whnf) (by conv => lhs; whnf) rfl ⟨rfl, rfl⟩) (by exact .prim rfl) ?_
            refine d_do rfl (o_assign (by conv => lhs; whnf) ⟨rfl, rfl⟩) (by exact .prim rfl) ?_
            refine d_end ?_
            refine awp_region rfl ?_
            refine a_do rfl (o_add (by conv => lhs; whnf) (by conv => lhs; whnf) (by omega) (by omega) ?_)
            refine a_do rfl (o_move (by conv => lhs; whnf) ?_)
            refine a_end ?_
            refine ⟨s2 + 1, ⟨Slots.mk ⟨?_, ?_, ?_, ?_, ?_, ?_, trivial⟩, ?_, ?_⟩, ?_⟩
            all_goals first | rfl | omega | exact congrArg i64 (by omega) | exact congrArg i64 (shS_out ‹_›).symm | exact congrArg i64 (shS_in ‹_›).symm
        ·
          refine a_end ?_
          refine awp_seq ?_
          refine awp_condF (by conv => lhs; whnf) ?_
          refine awp_exit ?_
          refine awp_region rfl ?_
          refine a_do rfl (o_move (by conv => lhs; whnf) ?_)
          refine a_do rfl (o_move (by conv => lhs; whnf) ?_)
          refine a_do rfl (o_buildI1 Try.underlying22 ty2 (by conv => lhs; whnf) (fun k7 hk7 => ?_))
          try simp at hk7
          refine a_do rfl (o_appendI Try.underlying22 ty2 (by conv => lhs; whnf) (by with_reducible repeat (first | assumption | (apply lk_last; (try simp only [ll1, ll2, ll3, ll4, lls_len, lls2_len, markL_len, rls_len, markR_len]); first | done | omega) | apply lk_prev)) (by first | rfl | omega | (simp; done) | (simp; omega)) (by conv => lhs; whnf) (by first | ((with_reducible repeat (first | assumption | apply Ints.app)); done) | exact Ints.own (by with_reducible repeat (first | assumption | (apply lk_last; (try simp only [ll1, ll2, ll3, ll4, lls_len, lls2_len, markL_len, rls_len, markR_len]); first | done | omega) | apply lk_prev)) (by first | rfl | exact upto_len | assumption | exact map_len | exact List.length_set | (rw [List.length_set]; assumption))) (by first | omega | (simp; done) | (simp; omega)) (by with_reducible repeat (first | (apply set_last; (try simp only [ll1, ll2, ll3, ll4, lls_len, lls2_len, markL_len, rls_len, markR_len]); first | done | omega) | (apply set_step; (try simp only [ll1, ll2, ll3, ll4, lls_len, lls2_len, markL_len, rls_len, markR_len]); first | done | omega) | exact rfl)) ?_)
          refine a_do rfl (o_assign (by conv => lhs; whnf) ?_)
          refine a_end ?_
          refine awp_region rfl ?_
          refine a_do rfl (o_move (by conv => lhs; whnf) ?_)
          refine a_do rfl (o_add (by conv => lhs; whnf) (by conv => lhs; whnf) (by omega) (by omega) ?_)
          refine a_do rfl (o_assign (by conv => lhs; whnf) ?_)
          refine a_end ?_
          refine ⟨s + 1, ⟨Slots.mk ⟨?_, ?_, ?_, trivial⟩, ?_, ?_⟩, ?_⟩
          all_goals first | rfl | omega | exact congrArg i64 (by omega) | (first | ((repeat (first | with_reducible exact Grown.refl _ | (rw [sh_app (by omega)]; exact Grown.refl _) | with_reducible apply Grown.push)); done) | repeat (first | exact Grown.refl _ | (rw [sh_app (by omega)]; exact Grown.refl _) | refine Grown.push ?_ _))
    ·
      refine a_end ?_
      refine awp_condF (by conv => lhs; whnf) ?_
      refine awp_exit ?_
      refine awp_seq ?_
      refine awp_region rfl ?_
      refine a_do rfl (o_move (by conv => lhs; whnf) ?_)
      refine a_do rfl (o_assign (by conv => lhs; whnf) ?_)
      refine a_end ?_
      refine awp_ret ?_
      refine ⟨.inl rfl, [_], ⟨ares_tmp (by conv => lhs; whnf), trivial⟩, ?_⟩
      obtain rfl : s = p.toNat := (by omega); exact ⟨k1, rfl, (by first | ((repeat (first | with_reducible exact Grown.refl _ | with_reducible apply Grown.push)); done) | repeat (first | exact Grown.refl _ | refine Grown.push ?_ _)), (by first | ((with_reducible repeat (first | assumption | (apply lk_last; (try simp only [ll1, ll2, ll3, ll4, lls_len, lls2_len, markL_len, rls_len, markR_len]); first | done | omega) | apply lk_prev)); done) | repeat (first | assumption | exact lk_last (by (try simp only [ll1, ll2, ll3, ll4, lls_len, lls2_len, markL_len, rls_len, markR_len]); first | done | omega) | apply lk_prev)), by omega⟩

set_option maxRecDepth 10000 in
theorem specSharesShared_ret (w : Int) (rs : List Rec) (v : Value) (h : AHeap) (hv : Recs h v rs) (hb : LB (rws rs)) : RetOG Try.prog 35 [v, i64 w] h (srK rs w) (VL (srL rs).length) (lls · (srL rs)) NL := by
  refine retot_of ?_
  have hbl := hb.len
  have hrl9 := rws_len (rs := rs)
  have hsr9 := srL_len (rs := rs)
  refine tri_of_body Try.func35 rfl (by kernel_rfl) (by show 2 ≤ 36; decide) ?_
  refine awp_seq ?_
  refine awp_region rfl ?_
  refine a_do rfl (o_assign (by conv => lhs; whnf) ?_)
  refine a_do rfl (o_assign (by conv => lhs; whnf) ?_)
  refine a_end ?_
  refine awp_seq ?_
  refine awp_seq ?_
  refine awp_region rfl ?_
  refine a_do rfl (o_move (by conv => lhs; whnf) ?_)
  refine a_do rfl (o_lenRec Try.underlying61 (by conv => lhs; whnf) (by first | ((with_reducible repeat (first | assumption | apply Recs.app)); done) | exact recs_nil | repeat (first | with_reducible assumption | exact rls_recs (by (try simp only [ll1, ll2, ll3, ll4, lls_len, lls2_len, markL_len, rls_len, markR_len]); first | done | omega) (by first | rfl | exact markR_len) | with_reducible apply Recs.app)) ?_)
  refine a_do rfl (o_gtr (by conv => lhs; whnf) (by conv => lhs; whnf) (fun c1 => ?_) (fun c1 => ?_))
  ·
    have hR := srK_1 (rs := rs) (w := w) (by omega)
    refine a_do rfl (o_move (by conv => lhs; whnf) ?_)
    refine a_no rfl ?_
    refine a_no rfl ?_
    refine a_no rfl ?_
    refine a_do rfl (o_pickT (by conv => lhs; whnf) (by conv => lhs; whnf) ?_)
    refine a_end ?_
    refine awp_condT (by conv => lhs; whnf) ?_
    refine awp_seq ?_
    refine awp_region rfl ?_
    refine a_do rfl (o_assign (by conv => lhs; whnf) ?_)
    refine a_do rfl (o_assign (by conv => lhs; whnf) ?_)
    refine a_end ?_
    refine awp_ret ?_
    refine ⟨.inl rfl, [_, _], ⟨ares_tmp (by conv => lhs; whnf), ares_tmp (by conv => lhs; whnf), trivial⟩, ?_⟩
    first | exact .inr ⟨hR, rfl, (by first | ((repeat (first | with_reducible exact Grown.refl _ | with_reducible apply Grown.push)); done) | repeat (first | exact Grown.refl _ | refine Grown.push ?_ _))⟩ | (rw [hsr9]; obtain rfl : s = rs.length := (by omega); exact .inl ⟨srK_yes (by omega) hw9 rfl hA, kO, r, rfl, (by first | ((repeat (first | with_reducible exact Grown.refl _ | with_reducible apply Grown.push)); done) | repeat (first | exact Grown.refl _ | refine Grown.push ?_ _)), hO⟩)
  ·
    refine a_do rfl (o_move (by conv => lhs; whnf) ?_)
    refine a_do rfl (o_move (by conv => lhs; whnf) ?_)
    refine a_do rfl (o_callF (lmap_cons (by conv => lhs; whnf) (lmap_cons (by conv => lhs; whnf) (lmap_cons (by conv => lhs; whnf) lmap_nil))) (Ret.toB (l00In_ret _ _ _ _) (fun c2 => ?_) (fun c2 => ?_)))
    ·
      have hw9 := c2
      refine a_do rfl (o_notT (by conv => lhs; whnf) ?_)
      refine a_do rfl (o_pickF (by conv => lhs; whnf) (by conv => lhs; whnf) ?_)
      refine a_end ?_
      refine awp_condF (by conv => lhs; whnf) ?_
      refine awp_skip ?_
      refine awp_seq ?_
      refine awp_region rfl ?_
      refine a_do rfl (o_buildV0 Try.underlying58 ty22 (fun kO hkO => ?_))
      refine a_do rfl (o_assign (by conv => lhs; whnf) ?_)
      refine a_end ?_
      refine awp_seq ?_
      refine awp_seq ?_
      refine awp_region rfl ?_
      refine a_do rfl (o_move (by conv => lhs; whnf) ?_)
      refine a_do rfl (o_lenRec Try.underlying61 (by conv => lhs; whnf) (by first | ((with_reducible repeat (first | assumption | apply Recs.app)); done) | exact recs_nil | repeat (first | with_reducible assumption | exact rls_recs (by (try simp only [ll1, ll2, ll3, ll4, lls_len, lls2_len, markL_len, rls_len, markR_len]); first | done | omega) (by first | rfl | exact markR_len) | with_reducible apply Recs.app)) ?_)
      refine a_do rfl (o_move (by conv => lhs; whnf) ?_)
      refine a_end ?_
      refine awp_block ?_
      refine awp_loop (σ := Nat × (Nat → Nat)) (fun ⟨s, r⟩ env1 h1 => Slots env1 [(0, v), (6, sl kO s), (18, i64 rs.length), (19, i64 s)] ∧ Grown (h) h1 ∧ s ≤ rs.length ∧ OwnS h.length h1 kO (srL rs) s r ∧ (List.range s).all (srW rs) = true) (fun ⟨s, r⟩ => rs.length - s) (0, fun _ => 0) ?_ ?_
      · refine ⟨Slots.mk ⟨?_, ?_, ?_, ?_, trivial⟩, ?_, ?_⟩
        all_goals first | rfl | omega | exact ⟨by omega, owns_zero (by first | ((with_reducible repeat (first | assumption | (apply lk_last; (try simp only [ll1, ll2, ll3, ll4, lls_len, lls2_len, markL_len, rls_len, markR_len]); first | done | omega) | apply lk_prev)); done) | repeat (first | assumption | exact lk_last (by (try simp only [ll1, ll2, ll3, ll4, lls_len, lls2_len, markL_len, rls_len, markR_len]); first | done | omega) | apply lk_prev)) (by omega), rfl⟩ | (simp; done) | (first | ((repeat (first | with_reducible exact Grown.refl _ | (exact Grown.refl _) | with_reducible apply Grown.push)); done) | repeat (first | exact Grown.refl _ | (exact Grown.refl _) | refine Grown.push ?_ _))
      · intro ⟨s, r⟩ env1 h1 hI1
        obtain ⟨⟨e1, rfl⟩, ⟨gs, rfl⟩, ⟨hs, hO, hA⟩⟩ := hI1
        have hlow := hO.low
        have hro := rvals_len (r := r) (xss := srL rs) (s := s)
        refine awp_seq ?_
        refine awp_region rfl ?_
        refine a_do rfl (o_lss (by conv => lhs; whnf) (by conv => lhs; whnf) (fun c3 => ?_) (fun c3 => ?_))
        ·
          refine a_end ?_
          refine awp_seq ?_
          refine awp_condT (by conv => lhs; whnf) ?_
          refine awp_skip ?_
          refine awp_seq ?_
          refine awp_block ?_
          refine awp_seq ?_
          refine awp_region rfl ?_
          refine a_do rfl (o_move (by conv => lhs; whnf) ?_)
          refine a_do rfl (o_assign (by conv => lhs; whnf) ?_)
          refine a_end ?_
          refine awp_seq ?_
          refine awp_seq ?_
          refine awp_region rfl ?_
          have hsl : s < rs.length := (by omega)
          have hrw := hb.row s
          rw [rws_at hsl] at hrw
          have hrs9 := srL_at hsl
          refine a_do rfl (o_move (by conv => lhs; whnf) ?_)
          refine a_do rfl (o_move (by conv => lhs; whnf) ?_)
          refine a_do rfl (o_indexRecN Try.underlying61 ty44 (by conv => lhs; whnf) (by first | ((with_reducible repeat (first | assumption | apply Recs.app)); done) | exact recs_nil | repeat (first | with_reducible assumption | exact rls_recs (by (try simp only [ll1, ll2, ll3, ll4, lls_len, lls2_len, markL_len, rls_len, markR_len]); first | done | omega) (by first | rfl | exact markR_len) | with_reducible apply Recs.app)) (by conv => lhs; whnf) (by omega) (fun p4 hp4 => ?_))
          refine a_do rfl (o_callF (lmap_cons (by conv => lhs; whnf) lmap_nil) (Ret.toB (l03IsE_ret (recAt rs s).1 (recAt rs s).2 _ _ (by with_reducible repeat (first | assumption | apply IsRec.app)) (by omega)) (fun c5 => ?_) (fun c5 => ?_)))
          ·
            have hW9 : srW rs s = true := c5
            refine a_do rfl (o_notT (by conv => lhs; whnf) ?_)
            refine a_end ?_
            refine awp_condF (by conv => lhs; whnf) ?_
            refine awp_skip ?_
            refine awp_region rfl ?_
            have hOp := hO
            refine a_do rfl (o_move (by conv => lhs; whnf) ?_)
            refine a_do rfl (o_move (by conv => lhs; whnf) ?_)
            refine a_do rfl (o_move (by conv => lhs; whnf) ?_)
            refine a_do rfl (o_indexRecN Try.underlying61 ty44 (by conv => lhs; whnf) (by first | ((with_reducible repeat (first | assumption | apply Recs.app)); done) | exact recs_nil | repeat (first | with_reducible assumption | exact rls_recs (by (try simp only [ll1, ll2, ll3, ll4, lls_len, lls2_len, markL_len, rls_len, markR_len]); first | done | omega) (by first | rfl | exact markR_len) | with_reducible apply Recs.app)) (by conv => lhs; whnf) (by omega) (fun p6 hp6 => ?_))
            refine a_do rfl (o_callF (lmap_cons (by conv => lhs; whnf) lmap_nil) (RetN.toN (l03SharesE_ret (recAt rs s).1 (recAt rs s).2 _ _ (by with_reducible repeat (first | assumption | apply IsRec.app)) (by omega) hW9) (fun k7 hk7 hgk7 => ?_)))
            try simp at hk7
            have hln9 : (rowAt (srL rs) s).length = (recAt rs s).1.toNat := (by rw [hrs9, shL_len])
            rw [← hln9, ← hrs9]
            refine a_do rfl (o_buildV1 Try.underlying58 ty22 (by conv => lhs; whnf) (fun kT hkT => ?_))
            try simp only [ll1, ll2, ll3] at hkT
            refine a_do rfl (o_appendV1 (us := rvals r (srL rs) s) Try.underlying58 ty22 (by decide) (by conv => lhs; whnf) (lk_prev (lk_prev hOp.out)) hro (by conv => lhs; whnf) (by first | ((with_reducible repeat (first | assumption | (apply lk_last; (try simp only [ll1, ll2, ll3, ll4, lls_len, lls2_len, markL_len, rls_len, markR_len]); first | done | omega) | apply lk_prev)); done) | repeat (first | assumption | exact lk_last (by (try simp only [ll1, ll2, ll3, ll4, lls_len, lls2_len, markL_len, rls_len, markR_len]); first | done | omega) | apply lk_prev)) rfl (by omega) rfl ?_)
            refine a_do rfl (o_assign (by conv => lhs; whnf) ?_)
            refine a_end ?_
            refine awp_region rfl ?_
            refine a_do rfl (o_add (by conv => lhs; whnf) (by conv => lhs; whnf) (by omega) (by omega) ?_)
            refine a_do rfl (o_move (by conv => lhs; whnf) ?_)
            refine a_end ?_
            refine ⟨(s + 1, fun i => if i = s then k7 else r i), ⟨Slots.mk ⟨?_, ?_, ?_, ?_, trivial⟩, ?_, ?_⟩, ?_⟩
            all_goals first | rfl | omega | exact congrArg i64 (by omega) | (show rs.length - (s + 1) < rs.length - s; omega) | exact ⟨by omega, owns_step hOp (by simp) (by simp; omega), range_all_step hA hW9⟩ | exact grown_set (by first | ((repeat (first | with_reducible exact Grown.refl _ | with_reducible apply Grown.push)); done) | repeat (first | exact Grown.refl _ | refine Grown.push ?_ _)) (by omega)
          ·
            have hR := srK_3 (w := w) hsl c5
            refine a_do rfl (o_notF (by conv => lhs; whnf) ?_)
            refine a_end ?_
            refine awp_condT (by conv => lhs; whnf) ?_
            refine awp_seq ?_
            refine awp_region rfl ?_
            refine a_do rfl (o_assign (by conv => lhs; whnf) ?_)
            refine a_do rfl (o_assign (by conv => lhs; whnf) ?_)
            refine a_end ?_
            refine awp_ret ?_
            refine ⟨.inl rfl, [_, _], ⟨ares_tmp (by conv => lhs; whnf), ares_tmp (by conv => lhs; whnf), trivial⟩, ?_⟩
            first | exact .inr ⟨hR, rfl, (by first | ((repeat (first | with_reducible exact Grown.refl _ | with_reducible apply Grown.push)); done) | repeat (first | exact Grown.refl _ | refine Grown.push ?_ _))⟩ | (rw [hsr9]; obtain rfl : s = rs.length := (by omega); exact .inl ⟨srK_yes (by omega) hw9 rfl hA, kO, r, rfl, (by first | ((repeat (first | with_reducible exact Grown.refl _ | with_reducible apply Grown.push)); done) | repeat (first | exact Grown.refl _ | refine Grown.push ?_ _)), hO⟩)
        ·
          refine a_end ?_
          refine awp_seq ?_
          refine awp_condF (by conv => lhs; whnf) ?_
          refine awp_exit ?_
          refine awp_seq ?_
          refine awp_region rfl ?_
          refine a_do rfl (o_move (by conv => lhs; whnf) ?_)
          refine a_do rfl (o_assign (by conv => lhs; whnf) ?_)
          refine a_do rfl (o_assign (by conv => lhs; whnf) ?_)
          refine a_end ?_
          refine awp_ret ?_
          refine ⟨.inl rfl, [_, _], ⟨ares_tmp (by conv => lhs; whnf), ares_tmp (by conv => lhs; whnf), trivial⟩, ?_⟩
          first | exact .inr ⟨hR, rfl, (by first | ((repeat (first | with_reducible exact Grown.refl _ | with_reducible apply Grown.push)); done) | repeat (first | exact Grown.refl _ | refine Grown.push ?_ _))⟩ | (rw [hsr9]; obtain rfl : s = rs.length := (by omega); exact .inl ⟨srK_yes (by omega) hw9 rfl hA, kO, r, rfl, (by first | ((repeat (first | with_reducible exact Grown.refl _ | with_reducible apply Grown.push)); done) | repeat (first | exact Grown.refl _ | refine Grown.push ?_ _)), hO⟩)
    ·
      have hR := srK_2 (rs := rs) c2
      refine a_do rfl (o_notF (by conv => lhs; whnf) ?_)
      refine a_do rfl (o_pickF (by conv => lhs; whnf) (by conv => lhs; whnf) ?_)
      refine a_end ?_
      refine awp_condT (by conv => lhs; whnf) ?_
      refine awp_seq ?_
      refine awp_region rfl ?_
      refine a_do rfl (o_assign (by conv => lhs; whnf) ?_)
      refine a_do rfl (o_assign (by conv => lhs; whnf) ?_)
      refine a_end ?_
      refine awp_ret ?_
      refine ⟨.inl rfl, [_, _], ⟨ares_tmp (by conv => lhs; whnf), ares_tmp (by conv => lhs; whnf), trivial⟩, ?_⟩
      first | exact .inr ⟨hR, rfl, (by first | ((repeat (first | with_reducible exact Grown.refl _ | with_reducible apply Grown.push)); done) | repeat (first | exact Grown.refl _ | refine Grown.push ?_ _))⟩ | (rw [hsr9]; obtain rfl : s = rs.length := (by omega); exact .inl ⟨srK_yes (by omega) hw9 rfl hA, kO, r, rfl, (by first | ((repeat (first | with_reducible exact Grown.refl _ | with_reducible apply Grown.push)); done) | repeat (first | exact Grown.refl _ | refine Grown.push ?_ _)), hO⟩)

set_option maxRecDepth 10000 in
theorem implSharesShared_ret (w : Int) (rs : List Rec) (v : Value) (h : AHeap) (hv : Recs h v rs) (hb : LB (rws rs)) : RetOG Try.prog 37 [v, i64 w] h (srK rs w) (VL (srL rs).length) (lls · (srL rs)) NL := by
  refine retot_of ?_
  have hbl := hb.len
  have hrl9 := rws_len (rs := rs)
  have hsr9 := srL_len (rs := rs)
  refine tri_of_body Try.func37 rfl (by kernel_rfl) (by show 2 ≤ 41; decide) ?_
  refine awp_seq ?_
  refine awp_region rfl ?_
  refine a_do rfl (o_assign (by conv => lhs; whnf) ?_)
  refine a_do rfl (o_assign (by conv => lhs; whnf) ?_)
  refine a_end ?_
  refine awp_seq ?_
  refine awp_seq ?_
  refine awp_region rfl ?_
  refine a_do rfl (o_move (by conv => lhs; whnf) ?_)
  refine a_do rfl (o_lenRec Try.underlying61 (by conv => lhs; whnf) (by first | ((with_reducible repeat (first | assumption | apply Recs.app)); done) | exact recs_nil | repeat (first | with_reducible assumption | exact rls_recs (by (try simp only [ll1, ll2, ll3, ll4, lls_len, lls2_len, markL_len, rls_len, markR_len]); first | done | omega) (by first | rfl | exact markR_len) | with_reducible apply Recs.app)) ?_)
  refine a_do rfl (o_gtr (by conv => lhs; whnf) (by conv => lhs; whnf) (fun c1 => ?_) (fun c1 => ?_))
  ·
    have hR := srK_1 (rs := rs) (w := w) (by omega)
    refine a_do rfl (o_move (by conv => lhs; whnf) ?_)
    refine a_no rfl ?_
    refine a_no rfl ?_
    refine a_no rfl ?_
    refine a_do rfl (o_pickT (by conv => lhs; whnf) (by conv => lhs; whnf) ?_)
    refine a_end ?_
    refine awp_condT (by conv => lhs; whnf) ?_
    refine awp_seq ?_
    refine awp_region rfl ?_
    refine a_do rfl (o_assign (by conv => lhs; whnf) ?_)
    refine a_do rfl (o_assign (by conv => lhs; whnf) ?_)
    refine a_end ?_
    refine awp_ret ?_
    refine ⟨.inl rfl, [_, _], ⟨ares_tmp (by conv => lhs; whnf), ares_tmp (by conv => lhs; whnf), trivial⟩, ?_⟩
    first | exact .inr ⟨hR, rfl, (by first | ((repeat (first | with_reducible exact Grown.refl _ | with_reducible apply Grown.push)); done) | repeat (first | exact Grown.refl _ | refine Grown.push ?_ _))⟩ | (rw [hsr9]; obtain rfl : s = rs.length := (by omega); exact .inl ⟨srK_yes (by omega) hw9 rfl hA, kO, r, rfl, (by first | ((repeat (first | with_reducible exact Grown.refl _ | with_reducible apply Grown.push)); done) | repeat (first | exact Grown.refl _ | refine Grown.push ?_ _)), hO⟩)
  ·
    refine a_do rfl (o_move (by conv => lhs; whnf) ?_)
    refine a_do rfl (o_move (by conv => lhs; whnf) ?_)
    refine a_do rfl (o_callF (lmap_cons (by conv => lhs; whnf) lmap_nil) (Ret.toB (areWorkers_ret _ _) (fun c2 => ?_) (fun c2 => ?_)))
    ·
      have hw9 := c2
      refine a_do rfl (o_notT (by conv => lhs; whnf) ?_)
      refine a_do rfl (o_pickF (by conv => lhs; whnf) (by conv => lhs; whnf) ?_)
      refine a_end ?_
      refine awp_condF (by conv => lhs; whnf) ?_
      refine awp_skip ?_
      refine awp_seq ?_
      refine awp_region rfl ?_
      refine a_do rfl (o_buildV0 Try.underlying58 ty22 (fun kO hkO => ?_))
      refine a_do rfl (o_assign (by conv => lhs; whnf) ?_)
      refine a_end ?_
      refine awp_seq ?_
      refine awp_seq ?_
      refine awp_region rfl ?_
      refine a_do rfl (o_move (by conv => lhs; whnf) ?_)
      refine a_do rfl (o_lenRec Try.underlying61 (by conv => lhs; whnf) (by first | ((with_reducible repeat (first | assumption | apply Recs.app)); done) | exact recs_nil | repeat (first | with_reducible assumption | exact rls_recs (by (try simp only [ll1, ll2, ll3, ll4, lls_len, lls2_len, markL_len, rls_len, markR_len]); first | done | omega) (by first | rfl | exact markR_len) | with_reducible apply Recs.app)) ?_)
      refine a_do rfl (o_move (by conv => lhs; whnf) ?_)
      refine a_end ?_
      refine awp_block ?_
      refine awp_loop (σ := Nat × (Nat → Nat)) (fun ⟨s, r⟩ env1 h1 => Slots env1 [(6, sl kO s), (21, v), (22, i64 rs.length), (23, i64 s)] ∧ Grown (h) h1 ∧ s ≤ rs.length ∧ OwnS h.length h1 kO (srL rs) s r ∧ (List.range s).all (srW rs) = true) (fun ⟨s, r⟩ => rs.length - s) (0, fun _ => 0) ?_ ?_
      · refine ⟨Slots.mk ⟨?_, ?_, ?_, ?_, trivial⟩, ?_, ?_⟩
        all_goals first | rfl | omega | exact ⟨by omega, owns_zero (by first | ((with_reducible repeat (first | assumption | (apply lk_last; (try simp only [ll1, ll2, ll3, ll4, lls_len, lls2_len, markL_len, rls_len, markR_len]); first | done | omega) | apply lk_prev)); done) | repeat (first | assumption | exact lk_last (by (try simp only [ll1, ll2, ll3, ll4, lls_len, lls2_len, markL_len, rls_len, markR_len]); first | done | omega) | apply lk_prev)) (by omega), rfl⟩ | (simp; done) | (first | ((repeat (first | with_reducible exact Grown.refl _ | (exact Grown.refl _) | with_reducible apply Grown.push)); done) | repeat (first | exact Grown.refl _ | (exact Grown.refl _) | refine Grown.push ?_ _))
      · intro ⟨s, r⟩ env1 h1 hI1
        obtain ⟨⟨e1, rfl⟩, ⟨gs, rfl⟩, ⟨hs, hO, hA⟩⟩ := hI1
        have hlow := hO.low
        have hro := rvals_len (r := r) (xss := srL rs) (s := s)
        refine awp_seq ?_
        refine awp_region rfl ?_
        refine a_do rfl (o_lss (by conv => lhs; whnf) (by conv => lhs; whnf) (fun c3 => ?_) (fun c3 => ?_))
        ·
          refine a_end ?_
          refine awp_seq ?_
          refine awp_condT (by conv => lhs; whnf) ?_
          refine awp_skip ?_
          refine awp_seq ?_
          refine awp_block ?_
          refine awp_seq ?_
          refine awp_region rfl ?_
          have hsl : s < rs.length := (by omega)
          have hrw := hb.row s
          rw [rws_at hsl] at hrw
          have hrs9 := srL_at hsl
          refine a_do rfl (o_indexRecN Try.underlying61 ty44 (by conv => lhs; whnf) (by first | ((with_reducible repeat (first | assumption | apply Recs.app)); done) | exact recs_nil | repeat (first | with_reducible assumption | exact rls_recs (by (try simp only [ll1, ll2, ll3, ll4, lls_len, lls2_len, markL_len, rls_len, markR_len]); first | done | omega) (by first | rfl | exact markR_len) | with_reducible apply Recs.app)) (by conv => lhs; whnf) (by omega) (fun p4 hp4 => ?_))
          refine a_do rfl (o_loadRec Try.underlying44 rfl ty44 (by conv => lhs; whnf) hp4 (fun u5 hu5 => ?_))
          have ho9 := Ints.one hu5
          refine a_do rfl (o_allocN (n := 2) ty44 rfl (by exact (rfl : _ = [_, _])) (by rfl) (fun k6 hk6 => ?_))
          try simp at hk6
          refine a_do rfl (o_storeVAgg ty44 (by conv => lhs; whnf) (by with_reducible repeat (first | assumption | (apply lk_last; (try simp only [ll1, ll2, ll3, ll4, lls_len, lls2_len, markL_len, rls_len, markR_len]); first | done | omega) | apply lk_prev)) (by rfl) (by rfl) (by rfl) (by conv => lhs; whnf) (by rfl) (by rfl) (by first | rfl | exact one2 (by assumption)) (by first | exact (rfl : _ = [_]) | exact (rfl : _ = [_, _]) | exact (rfl : _ = [_, _, _]) | exact (rfl : _ = [_, _, _, _]) | rfl) (by with_reducible repeat (first | (apply set_last; (try simp only [ll1, ll2, ll3, ll4, lls_len, lls2_len, markL_len, rls_len, markR_len]); first | done | omega) | (apply set_step; (try simp only [ll1, ll2, ll3, ll4, lls_len, lls2_len, markL_len, rls_len, markR_len]); first | done | omega) | exact rfl)) ?_)
          refine a_end ?_
          refine awp_seq ?_
          refine awp_region rfl ?_
          refine a_do rfl (o_loadAgg Try.underlying44 rfl ty44 (by conv => lhs; whnf) (by with_reducible repeat (first | assumption | (apply lk_last; (try simp only [ll1, ll2, ll3, ll4, lls_len, lls2_len, markL_len, rls_len, markR_len]); first | done | omega) | apply lk_prev)) (by rfl) (by exact (rfl : _ = [_, _])) (by rfl) ?_)
          rcases Bool.eq_false_or_eq_true (isW 10000 (recAt rs s).1 (recAt rs s).2) with hok | hok
          ·
            refine a_do rfl (o_callF (lmap_cons (by conv => lhs; whnf) lmap_nil) (RetN.toN ((implSharesOf_ret _ _ _ _ (by first | ((with_reducible repeat (first | assumption | apply Ints.app)); done) | repeat (first | with_reducible assumption | exact ints_nil | exact Ints.own (by with_reducible repeat (first | assumption | (apply lk_last; (try simp only [ll1, ll2, ll3, ll4, lls_len, lls2_len, markL_len, rls_len, markR_len]); first | done | omega) | apply lk_prev)) (by first | rfl | exact upto_len | assumption | exact map_len | exact List.length_set | (rw [List.length_set]; assumption)) | exact Ints.tail (by with_reducible repeat (first | assumption | (apply lk_last; (try simp only [ll1, ll2, ll3, ll4, lls_len, lls2_len, markL_len, rls_len, markR_len]); first | done | omega) | apply lk_prev)) (by first | rfl | exact upto_len | assumption | exact map_len | exact List.length_set | (rw [List.length_set]; assumption)) | with_reducible apply Ints.app | (refine Ints.sub (by with_reducible repeat (first | assumption | apply Ints.app)) (by omega) (by omega) (by omega)))) (by omega)).1 hok) (fun k7 hk7 hgk7 => ?_)))
            try simp at hk7
            refine a_do rfl (o_move (by conv => lhs; whnf) ?_)
            refine a_do rfl (o_extract (by conv => lhs; whnf) rfl ?_)
            refine a_do rfl (o_extract (by conv => lhs; whnf) rfl ?_)
            refine a_do rfl (o_extract (by conv => lhs; whnf) rfl ?_)
            refine a_do rfl (o_assign (by conv => lhs; whnf) ?_)
            refine a_do rfl (o_assign (by conv => lhs; whnf) ?_)
            refine a_do rfl (o_assign (by conv => lhs; whnf) ?_)
            refine a_end ?_
            refine awp_seq ?_
            refine awp_seq ?_
            refine awp_region rfl ?_
            refine a_do rfl (o_move (by conv => lhs; whnf) ?_)
            refine a_do rfl (o_notT (by conv => lhs; whnf) ?_)
            refine a_end ?_
            refine awp_condF (by conv => lhs; whnf) ?_
            refine awp_skip ?_
            refine awp_region rfl ?_
            refine a_do rfl (o_move (by conv => lhs; whnf) ?_)
            refine a_do rfl (o_move (by conv => lhs; whnf) ?_)
            have hln9 : (rowAt (srL rs) s).length = (recAt rs s).1.toNat := (by rw [hrs9, shL_len])
            rw [← hln9, ← hrs9]
            have hW9 : srW rs s = true := hok
            have hOp := owns_push (g := [⟨[i64 (recAt rs s).1, u5], true, 1⟩]) hO
            refine a_do rfl (o_buildV1 Try.underlying58 ty22 (by conv => lhs; whnf) (fun kT hkT => ?_))
            try simp only [ll1, ll2, ll3] at hkT
            refine a_do rfl (o_appendV1 (us := rvals r (srL rs) s) Try.underlying58 ty22 (by decide) (by conv => lhs; whnf) (lk_prev (lk_prev hOp.out)) hro (by conv => lhs; whnf) (by first | ((with_reducible repeat (first | assumption | (apply lk_last; (try simp only [ll1, ll2, ll3, ll4, lls_len, lls2_len, markL_len, rls_len, markR_len]); first | done | omega) | apply lk_prev)); done) | repeat (first | assumption | exact lk_last (by (try simp only [ll1, ll2, ll3, ll4, lls_len, lls2_len, markL_len, rls_len, markR_len]); first | done | omega) | apply lk_prev)) rfl (by omega) rfl ?_)
            refine a_do rfl (o_assign (by conv => lhs; whnf) ?_)
            refine a_end ?_
            refine awp_region rfl ?_
            refine a_do rfl (o_add (by conv => lhs; whnf) (by conv => lhs; whnf) (by omega) (by omega) ?_)
            refine a_do rfl (o_move (by conv => lhs; whnf) ?_)
            refine a_end ?_
            refine ⟨(s + 1, fun i => if i = s then k7 else r i), ⟨Slots.mk ⟨?_, ?_, ?_, ?_, trivial⟩, ?_, ?_⟩, ?_⟩
            all_goals first | rfl | omega | exact congrArg i64 (by omega) | (show rs.length - (s + 1) < rs.length - s; omega) | exact ⟨by omega, owns_step hOp (by simp) (by simp; omega), range_all_step hA hW9⟩ | exact grown_set (by first | ((repeat (first | with_reducible exact Grown.refl _ | with_reducible apply Grown.push)); done) | repeat (first | exact Grown.refl _ | refine Grown.push ?_ _)) (by omega)
          ·
            refine a_do rfl (o_callF (lmap_cons (by conv => lhs; whnf) lmap_nil) (Ret.to ((implSharesOf_ret _ _ _ _ (by first | ((with_reducible repeat (first | assumption | apply Ints.app)); done) | repeat (first | with_reducible assumption | exact ints_nil | exact Ints.own (by with_reducible repeat (first | assumption | (apply lk_last; (try simp only [ll1, ll2, ll3, ll4, lls_len, lls2_len, markL_len, rls_len, markR_len]); first | done | omega) | apply lk_prev)) (by first | rfl | exact upto_len | assumption | exact map_len | exact List.length_set | (rw [List.length_set]; assumption)) | exact Ints.tail (by with_reducible repeat (first | assumption | (apply lk_last; (try simp only [ll1, ll2, ll3, ll4, lls_len, lls2_len, markL_len, rls_len, markR_len]); first | done | omega) | apply lk_prev)) (by first | rfl | exact upto_len | assumption | exact map_len | exact List.length_set | (rw [List.length_set]; assumption)) | with_reducible apply Ints.app | (refine Ints.sub (by with_reducible repeat (first | assumption | apply Ints.app)) (by omega) (by omega) (by omega)))) (by omega)).2 hok) ?_))
            refine a_do rfl (o_move (by conv => lhs; whnf) ?_)
            refine a_do rfl (o_extract (by conv => lhs; whnf) rfl ?_)
            refine a_do rfl (o_extract (by conv => lhs; whnf) rfl ?_)
            refine a_do rfl (o_extract (by conv => lhs; whnf) rfl ?_)
            refine a_do rfl (o_assign (by conv => lhs; whnf) ?_)
            refine a_do rfl (o_assign (by conv => lhs; whnf) ?_)
            refine a_do rfl (o_assign (by conv => lhs; whnf) ?_)
            refine a_end ?_
            refine awp_seq ?_
            refine awp_seq ?_
            refine awp_region rfl ?_
            refine a_do rfl (o_move (by conv => lhs; whnf) ?_)
            refine a_do rfl (o_notF (by conv => lhs; whnf) ?_)
            refine a_end ?_
            refine awp_condT (by conv => lhs; whnf) ?_
            refine awp_seq ?_
            refine awp_region rfl ?_
            have hR := srK_3 (w := w) hsl hok
            refine a_do rfl (o_assign (by conv => lhs; whnf) ?_)
            refine a_do rfl (o_assign (by conv => lhs; whnf) ?_)
            refine a_end ?_
            refine awp_ret ?_
            refine ⟨.inl rfl, [_, _], ⟨ares_tmp (by conv => lhs; whnf), ares_tmp (by conv => lhs; whnf), trivial⟩, ?_⟩
            first | exact .inr ⟨hR, rfl, (by first | ((repeat (first | with_reducible exact Grown.refl _ | with_reducible apply Grown.push)); done) | repeat (first | exact Grown.refl _ | refine Grown.push ?_ _))⟩ | (rw [hsr9]; obtain rfl : s = rs.length := (by omega); exact .inl ⟨srK_yes (by omega) hw9 rfl hA, kO, r, rfl, (by first | ((repeat (first | with_reducible exact Grown.refl _ | with_reducible apply Grown.push)); done) | repeat (first | exact Grown.refl _ | refine Grown.push ?_ _)), hO⟩)
        ·
          refine a_end ?_
          refine awp_seq ?_
          refine awp_condF (by conv => lhs; whnf) ?_
          refine awp_exit ?_
          refine awp_seq ?_
          refine awp_region rfl ?_
          refine a_do rfl (o_move (by conv => lhs; whnf) ?_)
          refine a_do rfl (o_assign (by conv => lhs; whnf) ?_)
          refine a_do rfl (o_assign (by conv => lhs; whnf) ?_)
          refine a_end ?_
          refine awp_ret ?_
          refine ⟨.inl rfl, [_, _], ⟨ares_tmp (by conv => lhs; whnf), ares_tmp (by conv => lhs; whnf), trivial⟩, ?_⟩
          first | exact .inr ⟨hR, rfl, (by first | ((repeat (first | with_reducible exact Grown.refl _ | with_reducible apply Grown.push)); done) | repeat (first | exact Grown.refl _ | refine Grown.push ?_ _))⟩ | (rw [hsr9]; obtain rfl : s = rs.length := (by omega); exact .inl ⟨srK_yes (by omega) hw9 rfl hA, kO, r, rfl, (by first | ((repeat (first | with_reducible exact Grown.refl _ | with_reducible apply Grown.push)); done) | repeat (first | exact Grown.refl _ | refine Grown.push ?_ _)), hO⟩)
    ·
      have hR := srK_2 (rs := rs) c2
      refine a_do rfl (o_notF (by conv => lhs; whnf) ?_)
      refine a_do rfl (o_pickF (by conv => lhs; whnf) (by conv => lhs; whnf) ?_)
      refine a_end ?_
      refine awp_condT (by conv => lhs; whnf) ?_
      refine awp_seq ?_
      refine awp_region rfl ?_
      refine a_do rfl (o_assign (by conv => lhs; whnf) ?_)
      refine a_do rfl (o_assign (by conv => lhs; whnf) ?_)
      refine a_end ?_
      refine awp_ret ?_
      refine ⟨.inl rfl, [_, _], ⟨ares_tmp (by conv => lhs; whnf), ares_tmp (by conv => lhs; whnf), trivial⟩, ?_⟩
      first | exact .inr ⟨hR, rfl, (by first | ((repeat (first | with_reducible exact Grown.refl _ | with_reducible apply Grown.push)); done) | repeat (first | exact Grown.refl _ | refine Grown.push ?_ _))⟩ | (rw [hsr9]; obtain rfl : s = rs.length := (by omega); exact .inl ⟨srK_yes (by omega) hw9 rfl hA, kO, r, rfl, (by first | ((repeat (first | with_reducible exact Grown.refl _ | with_reducible apply Grown.push)); done) | repeat (first | exact Grown.refl _ | refine Grown.push ?_ _)), hO⟩)

end Go.Am
