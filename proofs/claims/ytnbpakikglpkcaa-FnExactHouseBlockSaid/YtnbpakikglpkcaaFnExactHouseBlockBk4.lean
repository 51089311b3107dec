/-
  More of what the functions that the law FnExactHouseBlock calls answer.
-/
import Derived.Test.YtnbpakikglpkcaaFnExactHouseBlockBk3
namespace Go.Am
open Go.Proofs
set_option linter.unusedSimpArgs false
set_option linter.unusedVariables false

set_option maxRecDepth 10000 in
theorem implHouseBlock_ret (xss : List (List Int)) (os : List Int) (v w : Value) (h : AHeap) (hv : Lists h v xss) (hw : Ints h w os) (hb : LB xss) (hl : os.length ≤ 1073741824) : RetO Try.prog 26 [v, w] h (blkV xss os) (VL (blkL xss os).length) (lst (blkL xss os)) NL := by
  refine retL_of ?_
  have hbl := hb.len
  refine tri_of_body Try.func26 rfl (by kernel_rfl) (by show 2 ≤ 37; decide) ?_
  refine awp_seq ?_
  refine awp_region rfl ?_
  refine a_do rfl (o_boxN (n := 1) (by conv => lhs; whnf) (by first | exact (rfl : _ = [_]) | exact ints_cells (by assumption) | exact lists_cells (by assumption)) (by rfl) (fun k2 hk2 => ?_))
  try simp at hk2
  refine a_do rfl (o_boxN (n := 1) (by conv => lhs; whnf) (by first | exact (rfl : _ = [_]) | exact ints_cells (by assumption) | exact lists_cells (by assumption)) (by rfl) (fun k4 hk4 => ?_))
  try simp at hk4
  refine a_do rfl (o_assign (by conv => lhs; whnf) ?_)
  refine a_do rfl (o_assign (by conv => lhs; whnf) ?_)
  refine a_end ?_
  refine awp_seq ?_
  refine awp_seq ?_
  refine awp_region rfl ?_
  refine a_do rfl (o_load Try.underlying35 rfl (by conv => lhs; whnf) (by with_reducible repeat (first | assumption | (apply lk_last; (try simp only [ll1, ll2, ll3, ll4, lls_len, lls2_len, markL_len]); omega) | apply lk_prev)) (by rfl) (by rfl) ?_)
  refine a_do rfl (o_callF (lmap_cons (by conv => lhs; whnf) lmap_nil) (Ret.toB (areHouses_ret _ _ _ (by first | ((with_reducible repeat (first | assumption | apply Lists.app)); done) | exact lists_nil | repeat (first | with_reducible assumption | exact lls_lists (by (try simp only [ll1, ll2, ll3, ll4, lls_len, lls2_len, markL_len]); omega) rfl | exact lls2_left (by (try simp only [ll1, ll2, ll3, ll4, lls_len, lls2_len, markL_len]); omega) (by first | rfl | exact markL_len | simp) | exact lls2_right (by (try simp only [ll1, ll2, ll3, ll4, lls_len, lls2_len, markL_len]); omega) (by first | rfl | exact markL_len | simp) (by first | rfl | exact markL_len | simp) | with_reducible apply Lists.app)) (by assumption)) (fun c5 => ?_) (fun c5 => ?_)))
  ·
    have hF := c5
    have hfg := (okH_get hF).1
    have hp8 := pow8 hfg.2
    refine a_do rfl (o_notT (by conv => lhs; whnf) ?_)
    refine a_do rfl (o_move (by conv => lhs; whnf) ?_)
    refine a_do rfl (o_load Try.underlying22 rfl (by conv => lhs; whnf) (by with_reducible repeat (first | assumption | (apply lk_last; (try simp only [ll1, ll2, ll3, ll4, lls_len, lls2_len, markL_len]); omega) | apply lk_prev)) (by rfl) (by rfl) ?_)
    refine a_do rfl (o_lenI Try.underlying22 (by conv => lhs; whnf) (by first | ((with_reducible repeat (first | assumption | apply Ints.app)); done) | repeat (first | with_reducible assumption | exact ints_nil | exact Ints.own (by with_reducible repeat (first | assumption | (apply lk_last; (try simp only [ll1, ll2, ll3, ll4, lls_len, lls2_len, markL_len]); omega) | apply lk_prev)) (by first | rfl | exact upto_len | assumption | exact map_len | exact List.length_set | (rw [List.length_set]; assumption)) | exact Ints.tail (by with_reducible repeat (first | assumption | (apply lk_last; (try simp only [ll1, ll2, ll3, ll4, lls_len, lls2_len, markL_len]); omega) | apply lk_prev)) (by first | rfl | exact upto_len | assumption | exact map_len | exact List.length_set | (rw [List.length_set]; assumption)) | with_reducible apply Ints.app | (refine Ints.sub (by with_reducible repeat (first | assumption | apply Ints.app)) (by omega) (by omega) (by omega)))) ?_)
    refine a_do rfl (o_load Try.underlying35 rfl (by conv => lhs; whnf) (by with_reducible repeat (first | assumption | (apply lk_last; (try simp only [ll1, ll2, ll3, ll4, lls_len, lls2_len, markL_len]); omega) | apply lk_prev)) (by rfl) (by rfl) ?_)
    refine a_do rfl (o_lenL Try.underlying35 (by conv => lhs; whnf) (by first | ((with_reducible repeat (first | assumption | apply Lists.app)); done) | exact lists_nil | repeat (first | with_reducible assumption | exact lls_lists (by (try simp only [ll1, ll2, ll3, ll4, lls_len, lls2_len, markL_len]); omega) rfl | exact lls2_left (by (try simp only [ll1, ll2, ll3, ll4, lls_len, lls2_len, markL_len]); omega) (by first | rfl | exact markL_len | simp) | exact lls2_right (by (try simp only [ll1, ll2, ll3, ll4, lls_len, lls2_len, markL_len]); omega) (by first | rfl | exact markL_len | simp) (by first | rfl | exact markL_len | simp) | with_reducible apply Lists.app)) ?_)
    refine a_do rfl (o_neq (by conv => lhs; whnf) (by conv => lhs; whnf) (fun c6 => ?_) (fun c6 => ?_))
    ·
      have hR := blk_no1 (turnV_noL c6)
      refine a_do rfl (o_pickF (by conv => lhs; whnf) (by conv => lhs; whnf) ?_)
      refine a_do rfl (o_move (by conv => lhs; whnf) ?_)
      refine a_no rfl ?_
      refine a_no rfl ?_
      refine a_no rfl ?_
      refine a_do rfl (o_pickT (by conv => lhs; whnf) (by conv => lhs; whnf) ?_)
      refine a_end ?_
      refine awp_condT (by conv => lhs; whnf) ?_
      refine awp_seq ?_
      refine awp_region rfl ?_
      refine a_do rfl (o_assign (by conv => lhs; whnf) ?_)
      refine a_do rfl (o_assign (by conv => lhs; whnf) ?_)
      refine a_end ?_
      refine awp_ret ?_
      refine ⟨.inl rfl, [_, _], ⟨ares_tmp (by conv => lhs; whnf), ares_tmp (by conv => lhs; whnf), trivial⟩, ?_⟩
      first | exact .inr ⟨hR, rfl, (by first | ((repeat (first | with_reducible exact Grown.refl _ | with_reducible apply Grown.push)); done) | repeat (first | exact Grown.refl _ | refine Grown.push ?_ _))⟩ | (have hfs : firS xss os = (s : Int) := idxTo_some ha (good_at hsn hg9) _ (by omega); have hbL : blkL xss os = memL s xss.length := (by rw [blkL, hfs]; rfl); rw [hbL]; exact .inl ⟨blk_yes hV hfs, k0, rfl, (by first | ((repeat (first | with_reducible exact Grown.refl _ | with_reducible apply Grown.push)); done) | repeat (first | exact Grown.refl _ | refine Grown.push ?_ _)), (by first | ((with_reducible repeat (first | assumption | (apply lk_last; (try simp only [ll1, ll2, ll3, ll4, lls_len, lls2_len, markL_len]); omega) | apply lk_prev)); done) | repeat (first | assumption | exact lk_last (by (try simp only [ll1, ll2, ll3, ll4, lls_len, lls2_len, markL_len]); omega) | apply lk_prev)), by omega⟩) | (obtain rfl : s = (2 ^ xss.length) := (by omega); exact .inr ⟨blk_no2 ha, rfl, (by first | ((repeat (first | with_reducible exact Grown.refl _ | with_reducible apply Grown.push)); done) | repeat (first | exact Grown.refl _ | refine Grown.push ?_ _))⟩)
    ·
      have hlo : (os.length : Int) = xss.length := c6
      refine a_do rfl (o_pickF (by conv => lhs; whnf) (by conv => lhs; whnf) ?_)
      refine a_do rfl (o_move (by conv => lhs; whnf) ?_)
      refine a_do rfl (o_load Try.underlying22 rfl (by conv => lhs; whnf) (by with_reducible repeat (first | assumption | (apply lk_last; (try simp only [ll1, ll2, ll3, ll4, lls_len, lls2_len, markL_len]); omega) | apply lk_prev)) (by rfl) (by rfl) ?_)
      refine a_do rfl (o_callF (lmap_cons (by conv => lhs; whnf) lmap_nil) (Ret.toB (isAll_ret _ _ _ (by first | ((with_reducible repeat (first | assumption | apply Ints.app)); done) | repeat (first | with_reducible assumption | exact ints_nil | exact Ints.own (by with_reducible repeat (first | assumption | (apply lk_last; (try simp only [ll1, ll2, ll3, ll4, lls_len, lls2_len, markL_len]); omega) | apply lk_prev)) (by first | rfl | exact upto_len | assumption | exact map_len | exact List.length_set | (rw [List.length_set]; assumption)) | exact Ints.tail (by with_reducible repeat (first | assumption | (apply lk_last; (try simp only [ll1, ll2, ll3, ll4, lls_len, lls2_len, markL_len]); omega) | apply lk_prev)) (by first | rfl | exact upto_len | assumption | exact map_len | exact List.length_set | (rw [List.length_set]; assumption)) | with_reducible apply Ints.app | (refine Ints.sub (by with_reducible repeat (first | assumption | apply Ints.app)) (by omega) (by omega) (by omega)))) (by omega)) (fun c7 => ?_) (fun c7 => ?_)))
      ·
        have hwo : wishL xss.length os = true := by rw [← perm_wish hlo]; exact c7
        have hV := turnV_yes hF hlo hwo
        refine a_do rfl (o_notT (by conv => lhs; whnf) ?_)
        refine a_do rfl (o_pickF (by conv => lhs; whnf) (by conv => lhs; whnf) ?_)
        refine a_end ?_
        refine awp_condF (by conv => lhs; whnf) ?_
        refine awp_skip ?_
        refine awp_seq ?_
        refine awp_seq ?_
        refine awp_region rfl ?_
        refine a_do rfl (o_assign (by conv => lhs; whnf) ?_)
        refine a_end ?_
        refine awp_block ?_
        refine awp_loop (σ := Nat) (fun s env1 h1 => Slots env1 [(2, .pointer (some ⟨k2, 0, some 1⟩)), (3, .pointer (some ⟨k4, 0, some 1⟩)), (6, i64 s)] ∧ Grown (h ++ [⟨[v], true, 1⟩] ++ [⟨[w], true, 1⟩]) h1 ∧ 1 ≤ s ∧ s ≤ (2 ^ xss.length) ∧ idxTo (goodS xss os) (cntL (2 ^ xss.length)) s = -1) (fun s => (2 ^ xss.length) - s) 1 ?_ ?_
        · refine ⟨Slots.mk ⟨?_, ?_, ?_, trivial⟩, ?_, ?_⟩
          all_goals first | rfl | omega | exact ⟨Nat.le_refl _, hp8.1, fir_one⟩ | exact Grown.refl _ | (simp; done)
        · intro s env1 h1 hI1
          obtain ⟨⟨e1, rfl⟩, ⟨gs, rfl⟩, ⟨hs1, hs, ha⟩⟩ := hI1
          refine awp_seq ?_
          refine awp_seq ?_
          refine awp_region rfl ?_
          refine a_do rfl (o_move (by conv => lhs; whnf) ?_)
          refine a_do rfl (o_load Try.underlying35 rfl (by conv => lhs; whnf) (by with_reducible repeat (first | assumption | (apply lk_last; (try simp only [ll1, ll2, ll3, ll4, lls_len, lls2_len, markL_len]); omega) | apply lk_prev)) (by rfl) (by rfl) ?_)
          refine a_do rfl (o_lenL Try.underlying35 (by conv => lhs; whnf) (by first | ((with_reducible repeat (first | assumption | apply Lists.app)); done) | exact lists_nil | repeat (first | with_reducible assumption | exact lls_lists (by (try simp only [ll1, ll2, ll3, ll4, lls_len, lls2_len, markL_len]); omega) rfl | exact lls2_left (by (try simp only [ll1, ll2, ll3, ll4, lls_len, lls2_len, markL_len]); omega) (by first | rfl | exact markL_len | simp) | exact lls2_right (by (try simp only [ll1, ll2, ll3, ll4, lls_len, lls2_len, markL_len]); omega) (by first | rfl | exact markL_len | simp) (by first | rfl | exact markL_len | simp) | with_reducible apply Lists.app)) ?_)
          refine a_do rfl (o_shl (by conv => lhs; whnf) (by conv => lhs; whnf) (by omega) (by omega) (by rw [one_shl]; have h1 := hp8; have h2 := Int.ofNat_le.2 h1.2; have h3 := Int.ofNat_le.2 h1.1; simp only [Int.toNat_natCast]; omega) (by rw [one_shl]; have h1 := hp8; have h2 := Int.ofNat_le.2 h1.2; simp only [Int.toNat_natCast]; omega) ?_)
          refine a_do rfl (o_lss (by conv => lhs; whnf) (by conv => lhs; whnf) (fun c8 => ?_) (fun c8 => ?_))
          ·
            have hsn : s < (2 ^ xss.length) := (by have h9 := c8; simp only [one_shl] at h9; exact Int.ofNat_lt.1 h9)
            refine a_end ?_
            refine awp_condT (by conv => lhs; whnf) ?_
            refine awp_skip ?_
            refine awp_seq ?_
            refine awp_block ?_
            refine awp_seq ?_
            refine awp_region rfl ?_
            refine a_do rfl (o_move (by conv => lhs; whnf) ?_)
            refine a_do rfl (o_callF (lmap_cons (by conv => lhs; whnf) lmap_nil) (RetN.toN (members_ret _ xss.length _ (by omega) (by omega)) (fun k9 hk9 hgk9 => ?_)))
            try simp at hk9
            have hmnk9 := memL_len (s := s) (m := xss.length)
            have hlnk9 : (memL s xss.length).length = (memL s xss.length).length := rfl
            have hIk9 := Ints.own hgk9 hlnk9
            refine a_do rfl (o_allocN (n := 1) ty22 rfl (by first | exact (rfl : _ = [_]) | exact ints_cells (by assumption) | exact lists_cells (by assumption)) (by rfl) (fun k10 hk10 => ?_))
            try simp at hk10
            refine a_do rfl (o_storeV ty22 (by conv => lhs; whnf) (by with_reducible repeat (first | assumption | (apply lk_last; (try simp only [ll1, ll2, ll3, ll4, lls_len, lls2_len, markL_len]); omega) | apply lk_prev)) (by rfl) (by rfl) (by rfl) (by conv => lhs; whnf) (by rfl) (by rfl) (by first | exact (rfl : _ = [_]) | exact (rfl : _ = [_, _]) | exact (rfl : _ = [_, _, _]) | exact (rfl : _ = [_, _, _, _]) | rfl) (by with_reducible repeat (first | (apply set_last; (try simp only [ll1, ll2, ll3, ll4, lls_len, lls2_len, markL_len]); omega) | (apply set_step; (try simp only [ll1, ll2, ll3, ll4, lls_len, lls2_len, markL_len]); omega) | exact rfl)) ?_)
            refine a_end ?_
            refine awp_seq ?_
            refine awp_region rfl ?_
            refine a_do rfl (o_allocN (n := 1) ty79 rfl (by exact (rfl : _ = [_])) (by rfl) (fun k11 hk11 => ?_))
            try simp at hk11
            refine a_end ?_
            refine awp_seq ?_
            refine awp_region rfl ?_
            refine a_do rfl (o_makeFunc (amap0) (amap4 (by conv => lhs; whnf) (by conv => lhs; whnf) (by conv => lhs; whnf) (by conv => lhs; whnf)) ?_)
            refine a_do rfl (o_storeV ty79 (by conv => lhs; whnf) (by with_reducible repeat (first | assumption | (apply lk_last; (try simp only [ll1, ll2, ll3, ll4, lls_len, lls2_len, markL_len]); omega) | apply lk_prev)) (by rfl) (by rfl) (by rfl) (by conv => lhs; whnf) (by rfl) (by rfl) (by first | exact (rfl : _ = [_]) | exact (rfl : _ = [_, _]) | exact (rfl : _ = [_, _, _]) | exact (rfl : _ = [_, _, _, _]) | rfl) (by with_reducible repeat (first | (apply set_last; (try simp only [ll1, ll2, ll3, ll4, lls_len, lls2_len, markL_len]); omega) | (apply set_step; (try simp only [ll1, ll2, ll3, ll4, lls_len, lls2_len, markL_len]); omega) | exact rfl)) ?_)
            refine a_end ?_
            refine awp_seq ?_
            refine awp_region rfl ?_
            refine a_do rfl (o_load Try.underlying79 rfl (by conv => lhs; whnf) (by with_reducible repeat (first | assumption | (apply lk_last; (try simp only [ll1, ll2, ll3, ll4, lls_len, lls2_len, markL_len]); omega) | apply lk_prev)) (by rfl) (by rfl) ?_)
            refine a_do rfl (o_callV (by conv => lhs; whnf) (lmap_cons (by conv => lhs; whnf) (lmap_cons (by conv => lhs; whnf) (lmap_cons (by conv => lhs; whnf) lmap_nil))) (by rfl) (Ret.toB (houseBlock1_ret xss.length k10 k2 k4 k11 k9 (memL s xss.length).length ⟨xss, os, memL s xss.length⟩ v w _ (by first | ((with_reducible repeat (first | assumption | (apply lk_last; (try simp only [ll1, ll2, ll3, ll4, lls_len, lls2_len, markL_len]); omega) | apply lk_prev)); done) | repeat (first | assumption | exact lk_last (by (try simp only [ll1, ll2, ll3, ll4, lls_len, lls2_len, markL_len]); omega) | apply lk_prev)) (by first | ((with_reducible repeat (first | assumption | (apply lk_last; (try simp only [ll1, ll2, ll3, ll4, lls_len, lls2_len, markL_len]); omega) | apply lk_prev)); done) | repeat (first | assumption | exact lk_last (by (try simp only [ll1, ll2, ll3, ll4, lls_len, lls2_len, markL_len]); omega) | apply lk_prev)) (by first | ((with_reducible repeat (first | assumption | (apply lk_last; (try simp only [ll1, ll2, ll3, ll4, lls_len, lls2_len, markL_len]); omega) | apply lk_prev)); done) | repeat (first | assumption | exact lk_last (by (try simp only [ll1, ll2, ll3, ll4, lls_len, lls2_len, markL_len]); omega) | apply lk_prev)) (by first | ((with_reducible repeat (first | assumption | (apply lk_last; (try simp only [ll1, ll2, ll3, ll4, lls_len, lls2_len, markL_len]); omega) | apply lk_prev)); done) | repeat (first | assumption | exact lk_last (by (try simp only [ll1, ll2, ll3, ll4, lls_len, lls2_len, markL_len]); omega) | apply lk_prev)) (by first | ((with_reducible repeat (first | assumption | (apply lk_last; (try simp only [ll1, ll2, ll3, ll4, lls_len, lls2_len, markL_len]); omega) | apply lk_prev)); done) | repeat (first | assumption | exact lk_last (by (try simp only [ll1, ll2, ll3, ll4, lls_len, lls2_len, markL_len]); omega) | apply lk_prev)) rfl (by first | ((with_reducible repeat (first | assumption | apply Lists.app)); done) | exact lists_nil | repeat (first | with_reducible assumption | exact lls_lists (by (try simp only [ll1, ll2, ll3, ll4, lls_len, lls2_len, markL_len]); omega) rfl | exact lls2_left (by (try simp only [ll1, ll2, ll3, ll4, lls_len, lls2_len, markL_len]); omega) (by first | rfl | exact markL_len | simp) | exact lls2_right (by (try simp only [ll1, ll2, ll3, ll4, lls_len, lls2_len, markL_len]); omega) (by first | rfl | exact markL_len | simp) (by first | rfl | exact markL_len | simp) | with_reducible apply Lists.app)) (by first | ((with_reducible repeat (first | assumption | apply Ints.app)); done) | repeat (first | with_reducible assumption | exact ints_nil | exact Ints.own (by with_reducible repeat (first | assumption | (apply lk_last; (try simp only [ll1, ll2, ll3, ll4, lls_len, lls2_len, markL_len]); omega) | apply lk_prev)) (by first | rfl | exact upto_len | assumption | exact map_len | exact List.length_set | (rw [List.length_set]; assumption)) | exact Ints.tail (by with_reducible repeat (first | assumption | (apply lk_last; (try simp only [ll1, ll2, ll3, ll4, lls_len, lls2_len, markL_len]); omega) | apply lk_prev)) (by first | rfl | exact upto_len | assumption | exact map_len | exact List.length_set | (rw [List.length_set]; assumption)) | with_reducible apply Ints.app | (refine Ints.sub (by with_reducible repeat (first | assumption | apply Ints.app)) (by omega) (by omega) (by omega)))) hb (ok_blk hV) (by omega) (by omega) (memL s xss.length).length 0 0 false (by omega) (by omega) (by omega)) (fun c12 => ?_) (fun c12 => ?_)))
            ·
              have hg9 : goodS xss os (s : Int) = true := c12
              refine a_end ?_
              refine awp_condT (by conv => lhs; whnf) ?_
              refine awp_seq ?_
              refine awp_region rfl ?_
              refine a_do rfl (o_load Try.underlying22 rfl (by conv => lhs; whnf) (by with_reducible repeat (first | assumption | (apply lk_last; (try simp only [ll1, ll2, ll3, ll4, lls_len, lls2_len, markL_len]); omega) | apply lk_prev)) (by rfl) (by rfl) ?_)
              refine a_do rfl (o_assign (by conv => lhs; whnf) ?_)
              refine a_do rfl (o_assign (by conv => lhs; whnf) ?_)
              refine a_end ?_
              refine awp_ret ?_
              refine ⟨.inl rfl, [_, _], ⟨ares_tmp (by conv => lhs; whnf), ares_tmp (by conv => lhs; whnf), trivial⟩, ?_⟩
              first | exact .inr ⟨hR, rfl, (by first | ((repeat (first | with_reducible exact Grown.refl _ | with_reducible apply Grown.push)); done) | repeat (first | exact Grown.refl _ | refine Grown.push ?_ _))⟩ | (have hfs : firS xss os = (s : Int) := idxTo_some ha (good_at hsn hg9) _ (by omega); have hbL : blkL xss os = memL s xss.length := (by rw [blkL, hfs]; rfl); rw [hbL]; exact .inl ⟨blk_yes hV hfs, k9, rfl, (by first | ((repeat (first | with_reducible exact Grown.refl _ | with_reducible apply Grown.push)); done) | repeat (first | exact Grown.refl _ | refine Grown.push ?_ _)), (by first | ((with_reducible repeat (first | assumption | (apply lk_last; (try simp only [ll1, ll2, ll3, ll4, lls_len, lls2_len, markL_len]); omega) | apply lk_prev)); done) | repeat (first | assumption | exact lk_last (by (try simp only [ll1, ll2, ll3, ll4, lls_len, lls2_len, markL_len]); omega) | apply lk_prev)), by omega⟩) | (obtain rfl : s = (2 ^ xss.length) := (by omega); exact .inr ⟨blk_no2 ha, rfl, (by first | ((repeat (first | with_reducible exact Grown.refl _ | with_reducible apply Grown.push)); done) | repeat (first | exact Grown.refl _ | refine Grown.push ?_ _))⟩)
            ·
              have hg9 : goodS xss os (s : Int) = false := c12
              refine a_end ?_
              refine awp_condF (by conv => lhs; whnf) ?_
              refine awp_skip ?_
              refine awp_region rfl ?_
              refine a_do rfl (o_move (by conv => lhs; whnf) ?_)
              refine a_do rfl (o_add (by conv => lhs; whnf) (by conv => lhs; whnf) (by omega) (by omega) ?_)
              refine a_do rfl (o_assign (by conv => lhs; whnf) ?_)
              refine a_end ?_
              refine ⟨s + 1, ⟨Slots.mk ⟨?_, ?_, ?_, trivial⟩, ?_, ?_⟩, ?_⟩
              all_goals first | rfl | omega | exact congrArg i64 (by omega) | exact ⟨by omega, by omega, idxTo_none ha (good_at hsn hg9)⟩ | (first | ((repeat (first | with_reducible exact Grown.refl _ | exact Grown.refl _ | with_reducible apply Grown.push)); done) | repeat (first | exact Grown.refl _ | exact Grown.refl _ | refine Grown.push ?_ _))
          ·
            have hsn9 : ¬ s < (2 ^ xss.length) := (by intro hh; have h9 := c8; simp only [one_shl] at h9; exact h9 (Int.ofNat_lt.2 hh))
            refine a_end ?_
            refine awp_condF (by conv => lhs; whnf) ?_
            refine awp_exit ?_
            refine awp_seq ?_
            refine awp_region rfl ?_
            refine a_do rfl (o_assign (by conv => lhs; whnf) ?_)
            refine a_do rfl (o_assign (by conv => lhs; whnf) ?_)
            refine a_end ?_
            refine awp_ret ?_
            refine ⟨.inl rfl, [_, _], ⟨ares_tmp (by conv => lhs; whnf), ares_tmp (by conv => lhs; whnf), trivial⟩, ?_⟩
            first | exact .inr ⟨hR, rfl, (by first | ((repeat (first | with_reducible exact Grown.refl _ | with_reducible apply Grown.push)); done) | repeat (first | exact Grown.refl _ | refine Grown.push ?_ _))⟩ | (have hfs : firS xss os = (s : Int) := idxTo_some ha (good_at hsn hg9) _ (by omega); have hbL : blkL xss os = memL s xss.length := (by rw [blkL, hfs]; rfl); rw [hbL]; exact .inl ⟨blk_yes hV hfs, k0, rfl, (by first | ((repeat (first | with_reducible exact Grown.refl _ | with_reducible apply Grown.push)); done) | repeat (first | exact Grown.refl _ | refine Grown.push ?_ _)), (by first | ((with_reducible repeat (first | assumption | (apply lk_last; (try simp only [ll1, ll2, ll3, ll4, lls_len, lls2_len, markL_len]); omega) | apply lk_prev)); done) | repeat (first | assumption | exact lk_last (by (try simp only [ll1, ll2, ll3, ll4, lls_len, lls2_len, markL_len]); omega) | apply lk_prev)), by omega⟩) | (obtain rfl : s = (2 ^ xss.length) := (by omega); exact .inr ⟨blk_no2 ha, rfl, (by first | ((repeat (first | with_reducible exact Grown.refl _ | with_reducible apply Grown.push)); done) | repeat (first | exact Grown.refl _ | refine Grown.push ?_ _))⟩)
      ·
        have hR := blk_no1 (turnV_noO hlo c7)
        refine a_do rfl (o_notF (by conv => lhs; whnf) ?_)
        refine a_do rfl (o_pickF (by conv => lhs; whnf) (by conv => lhs; whnf) ?_)
        refine a_end ?_
        refine awp_condT (by conv => lhs; whnf) ?_
        refine awp_seq ?_
        refine awp_region rfl ?_
        refine a_do rfl (o_assign (by conv => lhs; whnf) ?_)
        refine a_do rfl (o_assign (by conv => lhs; whnf) ?_)
        refine a_end ?_
        refine awp_ret ?_
        refine ⟨.inl rfl, [_, _], ⟨ares_tmp (by conv => lhs; whnf), ares_tmp (by conv => lhs; whnf), trivial⟩, ?_⟩
        first | exact .inr ⟨hR, rfl, (by first | ((repeat (first | with_reducible exact Grown.refl _ | with_reducible apply Grown.push)); done) | repeat (first | exact Grown.refl _ | refine Grown.push ?_ _))⟩ | (have hfs : firS xss os = (s : Int) := idxTo_some ha (good_at hsn hg9) _ (by omega); have hbL : blkL xss os = memL s xss.length := (by rw [blkL, hfs]; rfl); rw [hbL]; exact .inl ⟨blk_yes hV hfs, k0, rfl, (by first | ((repeat (first | with_reducible exact Grown.refl _ | with_reducible apply Grown.push)); done) | repeat (first | exact Grown.refl _ | refine Grown.push ?_ _)), (by first | ((with_reducible repeat (first | assumption | (apply lk_last; (try simp only [ll1, ll2, ll3, ll4, lls_len, lls2_len, markL_len]); omega) | apply lk_prev)); done) | repeat (first | assumption | exact lk_last (by (try simp only [ll1, ll2, ll3, ll4, lls_len, lls2_len, markL_len]); omega) | apply lk_prev)), by omega⟩) | (obtain rfl : s = (2 ^ xss.length) := (by omega); exact .inr ⟨blk_no2 ha, rfl, (by first | ((repeat (first | with_reducible exact Grown.refl _ | with_reducible apply Grown.push)); done) | repeat (first | exact Grown.refl _ | refine Grown.push ?_ _))⟩)
  ·
    have hR := blk_no1 (turnV_noF (os := os) c5)
    refine a_do rfl (o_notF (by conv => lhs; whnf) ?_)
    refine a_do rfl (o_move (by conv => lhs; whnf) ?_)
    refine a_no rfl ?_
    refine a_no rfl ?_
    refine a_no rfl ?_
    refine a_no rfl ?_
    refine a_no rfl ?_
    refine a_do rfl (o_pickT (by conv => lhs; whnf) (by conv => lhs; whnf) ?_)
    refine a_do rfl (o_move (by conv => lhs; whnf) ?_)
    refine a_no rfl ?_
    refine a_no rfl ?_
    refine a_no rfl ?_
    refine a_do rfl (o_pickT (by conv => lhs; whnf) (by conv => lhs; whnf) ?_)
    refine a_end ?_
    refine awp_condT (by conv => lhs; whnf) ?_
    refine awp_seq ?_
    refine awp_region rfl ?_
    refine a_do rfl (o_assign (by conv => lhs; whnf) ?_)
    refine a_do rfl (o_assign (by conv => lhs; whnf) ?_)
    refine a_end ?_
    refine awp_ret ?_
    refine ⟨.inl rfl, [_, _], ⟨ares_tmp (by conv => lhs; whnf), ares_tmp (by conv => lhs; whnf), trivial⟩, ?_⟩
    first | exact .inr ⟨hR, rfl, (by first | ((repeat (first | with_reducible exact Grown.refl _ | with_reducible apply Grown.push)); done) | repeat (first | exact Grown.refl _ | refine Grown.push ?_ _))⟩ | (have hfs : firS xss os = (s : Int) := idxTo_some ha (good_at hsn hg9) _ (by omega); have hbL : blkL xss os = memL s xss.length := (by rw [blkL, hfs]; rfl); rw [hbL]; exact .inl ⟨blk_yes hV hfs, k0, rfl, (by first | ((repeat (first | with_reducible exact Grown.refl _ | with_reducible apply Grown.push)); done) | repeat (first | exact Grown.refl _ | refine Grown.push ?_ _)), (by first | ((with_reducible repeat (first | assumption | (apply lk_last; (try simp only [ll1, ll2, ll3, ll4, lls_len, lls2_len, markL_len]); omega) | apply lk_prev)); done) | repeat (first | assumption | exact lk_last (by (try simp only [ll1, ll2, ll3, ll4, lls_len, lls2_len, markL_len]); omega) | apply lk_prev)), by omega⟩) | (obtain rfl : s = (2 ^ xss.length) := (by omega); exact .inr ⟨blk_no2 ha, rfl, (by first | ((repeat (first | with_reducible exact Grown.refl _ | with_reducible apply Grown.push)); done) | repeat (first | exact Grown.refl _ | refine Grown.push ?_ _))⟩)

set_option maxRecDepth 10000 in
theorem l05BetterS_ret (k : Nat) (F : List Bool) (b : Bool) (n kS nS kF : Nat) (B : Blk) (w u : Value) (H1 g2 : AHeap) (hkF : kF = H1.length) (hS : H1[kS]? = some (lst B.ls)) (hSl : B.ls.length = nS) (hv : Lists H1 w B.xss) (hu : Ints H1 u B.ms) (hb : LB B.xss) (hB : OkB B n) (hn8 : n ≤ 8) (hnS : nS ≤ 8) (hk : k ≤ nS) (hFl : F.length = n) (ih : ∀ (F2 : List Bool) (b2 : Bool), k < nS → F2.length = n → Ret Try.prog 56 [w, u, sl kS nS, i64 ((k : Int) + 1), sl kF n, .bool b2] (H1 ++ [lstB F2] ++ g2) (.bool (betB B (nS - (k + 1)) F2 b2)) (H1 ++ [lstB F2] ++ g2)) : Ret Try.prog 56 [w, u, sl kS nS, i64 k, sl kF n, .bool b] (H1 ++ [lstB F] ++ g2) (.bool (betB B (nS - k) F b)) (H1 ++ [lstB F] ++ g2) := by
  refine ret_of (.prim rfl) ?_
  have hIS := Ints.own hS hSl
  refine tri_of_body Try.func56 rfl (by kernel_rfl) (by show 6 ≤ 73; decide) ?_
  refine awp_seq ?_
  refine awp_region rfl ?_
  refine a_do rfl (o_assign (by conv => lhs; whnf) ?_)
  refine a_end ?_
  refine awp_seq ?_
  refine awp_seq ?_
  refine awp_region rfl ?_
  refine a_do rfl (o_move (by conv => lhs; whnf) ?_)
  refine a_do rfl (o_move (by conv => lhs; whnf) ?_)
  refine a_do rfl (o_lenI Try.underlying22 (by conv => lhs; whnf) (by first | ((with_reducible repeat (first | assumption | apply Ints.app)); done) | repeat (first | with_reducible assumption | exact ints_nil | exact Ints.own (by with_reducible repeat (first | assumption | (apply lk_last; (try simp only [ll1, ll2, ll3, ll4, lls_len, lls2_len, markL_len]); omega) | apply lk_prev)) (by first | rfl | exact upto_len | assumption | exact map_len | exact List.length_set | (rw [List.length_set]; assumption)) | exact Ints.tail (by with_reducible repeat (first | assumption | (apply lk_last; (try simp only [ll1, ll2, ll3, ll4, lls_len, lls2_len, markL_len]); omega) | apply lk_prev)) (by first | rfl | exact upto_len | assumption | exact map_len | exact List.length_set | (rw [List.length_set]; assumption)) | with_reducible apply Ints.app | (refine Ints.sub (by with_reducible repeat (first | assumption | apply Ints.app)) (by omega) (by omega) (by omega)))) ?_)
  refine a_do rfl (o_eql (by conv => lhs; whnf) (by conv => lhs; whnf) (fun c1 => ?_) (fun c1 => ?_))
  ·
    refine a_end ?_
    refine awp_condT (by conv => lhs; whnf) ?_
    refine awp_seq ?_
    refine awp_region rfl ?_
    refine a_do rfl (o_move (by conv => lhs; whnf) ?_)
    refine a_do rfl (o_assign (by conv => lhs; whnf) ?_)
    refine a_end ?_
    refine awp_ret ?_
    refine ⟨.inl rfl, [_], ⟨ares_tmp (by conv => lhs; whnf), trivial⟩, ?_⟩
    first | exact ⟨congrArg Value.bool (by rw [hM1, betB_succ]; exact (rany_hit (by omega) hp9).symm), (by first | ((repeat (first | with_reducible exact Grown.refl _ | with_reducible apply Grown.push)); done) | repeat (first | exact Grown.refl _ | refine Grown.push ?_ _))⟩ | (obtain rfl : t = (B.own (nS - (k + 1))) + 1 := (by omega); exact ⟨congrArg Value.bool (by rw [hM1, betB_succ]; exact ha.symm), (by first | ((repeat (first | with_reducible exact Grown.refl _ | with_reducible apply Grown.push)); done) | repeat (first | exact Grown.refl _ | refine Grown.push ?_ _))⟩) | (obtain rfl : k = nS := (by omega); exact ⟨by rw [Nat.sub_self]; rfl, (by first | ((repeat (first | with_reducible exact Grown.refl _ | with_reducible apply Grown.push)); done) | repeat (first | exact Grown.refl _ | refine Grown.push ?_ _))⟩)
  ·
    have hk9 : k < nS := (by have := hk; omega)
    have hwho : B.who (nS - (k + 1)) = B.ls.getD k 0 := by rw [Blk.who, hSl]; congr 1; omega
    have hrow9 : B.row (nS - (k + 1)) = rowAt B.xss (B.ls.getD k 0).toNat := by rw [Blk.row, hwho]
    have hhas9 : B.has (nS - (k + 1)) = B.ms.getD (B.ls.getD k 0).toNat 0 := by rw [Blk.has, hwho]
    have hm9 : (nS - (k + 1)) < B.ls.length := (by omega)
    have hwb := hB.who_bnd hm9
    rw [hwho] at hwb
    have hro := hB.row_ok hm9
    have hhb := hB.has_bnd hm9
    have hM1 : nS - k = (nS - (k + 1)) + 1 := (by omega)
    have hxl := hB.hn
    have hml9 := hB.hml
    have hown := hB.own_bnd hm9
    have hrl9 := hro.2
    refine a_end ?_
    refine awp_condF (by conv => lhs; whnf) ?_
    refine awp_skip ?_
    refine awp_seq ?_
    refine awp_region rfl ?_
    refine a_do rfl (o_move (by conv => lhs; whnf) ?_)
    refine a_do rfl (o_move (by conv => lhs; whnf) ?_)
    refine a_do rfl (o_move (by conv => lhs; whnf) ?_)
    first | refine a_do rfl (o_indexI Try.underlying22 ty2 (by conv => lhs; whnf) (by first | ((with_reducible repeat (first | assumption | apply Ints.app)); done) | repeat (first | with_reducible assumption | exact ints_nil | exact Ints.own (by with_reducible repeat (first | assumption | (apply lk_last; (try simp only [ll1, ll2, ll3, ll4, lls_len, lls2_len, markL_len]); omega) | apply lk_prev)) (by first | rfl | exact upto_len | assumption | exact map_len | exact List.length_set | (rw [List.length_set]; assumption)) | exact Ints.tail (by with_reducible repeat (first | assumption | (apply lk_last; (try simp only [ll1, ll2, ll3, ll4, lls_len, lls2_len, markL_len]); omega) | apply lk_prev)) (by first | rfl | exact upto_len | assumption | exact map_len | exact List.length_set | (rw [List.length_set]; assumption)) | with_reducible apply Ints.app | (refine Ints.sub (by with_reducible repeat (first | assumption | apply Ints.app)) (by omega) (by omega) (by omega)))) (by conv => lhs; whnf) (by omega) (fun p2 hp2 => ?_)) | refine a_do rfl (o_indexZ Try.underlying22 ty2 (by conv => lhs; whnf) (by first | ((with_reducible repeat (first | assumption | apply Ints.app)); done) | repeat (first | with_reducible assumption | exact ints_nil | exact Ints.own (by with_reducible repeat (first | assumption | (apply lk_last; (try simp only [ll1, ll2, ll3, ll4, lls_len, lls2_len, markL_len]); omega) | apply lk_prev)) (by first | rfl | exact upto_len | assumption | exact map_len | exact List.length_set | (rw [List.length_set]; assumption)) | exact Ints.tail (by with_reducible repeat (first | assumption | (apply lk_last; (try simp only [ll1, ll2, ll3, ll4, lls_len, lls2_len, markL_len]); omega) | apply lk_prev)) (by first | rfl | exact upto_len | assumption | exact map_len | exact List.length_set | (rw [List.length_set]; assumption)) | with_reducible apply Ints.app | (refine Ints.sub (by with_reducible repeat (first | assumption | apply Ints.app)) (by omega) (by omega) (by omega)))) (by conv => lhs; whnf) (by omega) (by omega) (fun p2 hp2 => ?_))
    refine a_do rfl (o_loadI Try.underlying2 rfl (by conv => lhs; whnf) hp2 (by first | ((with_reducible repeat (first | assumption | apply Ints.app)); done) | repeat (first | with_reducible assumption | exact ints_nil | exact Ints.own (by with_reducible repeat (first | assumption | (apply lk_last; (try simp only [ll1, ll2, ll3, ll4, lls_len, lls2_len, markL_len]); omega) | apply lk_prev)) (by first | rfl | exact upto_len | assumption | exact map_len | exact List.length_set | (rw [List.length_set]; assumption)) | exact Ints.tail (by with_reducible repeat (first | assumption | (apply lk_last; (try simp only [ll1, ll2, ll3, ll4, lls_len, lls2_len, markL_len]); omega) | apply lk_prev)) (by first | rfl | exact upto_len | assumption | exact map_len | exact List.length_set | (rw [List.length_set]; assumption)) | with_reducible apply Ints.app | (refine Ints.sub (by with_reducible repeat (first | assumption | apply Ints.app)) (by omega) (by omega) (by omega)))) (by omega) ?_)
    first | refine a_do rfl (o_indexLN Try.underlying35 ty22 (by conv => lhs; whnf) (by first | ((with_reducible repeat (first | assumption | apply Lists.app)); done) | exact lists_nil | repeat (first | with_reducible assumption | exact lls_lists (by (try simp only [ll1, ll2, ll3, ll4, lls_len, lls2_len, markL_len]); omega) rfl | exact lls2_left (by (try simp only [ll1, ll2, ll3, ll4, lls_len, lls2_len, markL_len]); omega) (by first | rfl | exact markL_len | simp) | exact lls2_right (by (try simp only [ll1, ll2, ll3, ll4, lls_len, lls2_len, markL_len]); omega) (by first | rfl | exact markL_len | simp) (by first | rfl | exact markL_len | simp) | with_reducible apply Lists.app)) (by conv => lhs; whnf) (by omega) (fun p3 hp3 => ?_)) | refine a_do rfl (o_indexL Try.underlying35 ty22 (by conv => lhs; whnf) (by first | ((with_reducible repeat (first | assumption | apply Lists.app)); done) | exact lists_nil | repeat (first | with_reducible assumption | exact lls_lists (by (try simp only [ll1, ll2, ll3, ll4, lls_len, lls2_len, markL_len]); omega) rfl | exact lls2_left (by (try simp only [ll1, ll2, ll3, ll4, lls_len, lls2_len, markL_len]); omega) (by first | rfl | exact markL_len | simp) | exact lls2_right (by (try simp only [ll1, ll2, ll3, ll4, lls_len, lls2_len, markL_len]); omega) (by first | rfl | exact markL_len | simp) (by first | rfl | exact markL_len | simp) | with_reducible apply Lists.app)) (by conv => lhs; whnf) (by omega) (by omega) (fun p3 hp3 => ?_))
    refine a_do rfl (o_loadLG Try.underlying22 rfl (by conv => lhs; whnf) hp3 (by assumption) (by with_reducible repeat (first | exact Grown.refl _ | apply Grown.push)) (by omega) (fun u4 hu4 => ?_))
    rw [← hrow9] at hu4
    refine a_do rfl (o_assign (by conv => lhs; whnf) ?_)
    refine a_end ?_
    refine awp_seq ?_
    refine awp_region rfl ?_
    refine a_do rfl (o_move (by conv => lhs; whnf) ?_)
    refine a_do rfl (o_move (by conv => lhs; whnf) ?_)
    refine a_do rfl (o_move (by conv => lhs; whnf) ?_)
    refine a_do rfl (o_move (by conv => lhs; whnf) ?_)
    first | refine a_do rfl (o_indexI Try.underlying22 ty2 (by conv => lhs; whnf) (by first | ((with_reducible repeat (first | assumption | apply Ints.app)); done) | repeat (first | with_reducible assumption | exact ints_nil | exact Ints.own (by with_reducible repeat (first | assumption | (apply lk_last; (try simp only [ll1, ll2, ll3, ll4, lls_len, lls2_len, markL_len]); omega) | apply lk_prev)) (by first | rfl | exact upto_len | assumption | exact map_len | exact List.length_set | (rw [List.length_set]; assumption)) | exact Ints.tail (by with_reducible repeat (first | assumption | (apply lk_last; (try simp only [ll1, ll2, ll3, ll4, lls_len, lls2_len, markL_len]); omega) | apply lk_prev)) (by first | rfl | exact upto_len | assumption | exact map_len | exact List.length_set | (rw [List.length_set]; assumption)) | with_reducible apply Ints.app | (refine Ints.sub (by with_reducible repeat (first | assumption | apply Ints.app)) (by omega) (by omega) (by omega)))) (by conv => lhs; whnf) (by omega) (fun p5 hp5 => ?_)) | refine a_do rfl (o_indexZ Try.underlying22 ty2 (by conv => lhs; whnf) (by first | ((with_reducible repeat (first | assumption | apply Ints.app)); done) | repeat (first | with_reducible assumption | exact ints_nil | exact Ints.own (by with_reducible repeat (first | assumption | (apply lk_last; (try simp only [ll1, ll2, ll3, ll4, lls_len, lls2_len, markL_len]); omega) | apply lk_prev)) (by first | rfl | exact upto_len | assumption | exact map_len | exact List.length_set | (rw [List.length_set]; assumption)) | exact Ints.tail (by with_reducible repeat (first | assumption | (apply lk_last; (try simp only [ll1, ll2, ll3, ll4, lls_len, lls2_len, markL_len]); omega) | apply lk_prev)) (by first | rfl | exact upto_len | assumption | exact map_len | exact List.length_set | (rw [List.length_set]; assumption)) | with_reducible apply Ints.app | (refine Ints.sub (by with_reducible repeat (first | assumption | apply Ints.app)) (by omega) (by omega) (by omega)))) (by conv => lhs; whnf) (by omega) (by omega) (fun p5 hp5 => ?_))
    refine a_do rfl (o_loadI Try.underlying2 rfl (by conv => lhs; whnf) hp5 (by first | ((with_reducible repeat (first | assumption | apply Ints.app)); done) | repeat (first | with_reducible assumption | exact ints_nil | exact Ints.own (by with_reducible repeat (first | assumption | (apply lk_last; (try simp only [ll1, ll2, ll3, ll4, lls_len, lls2_len, markL_len]); omega) | apply lk_prev)) (by first | rfl | exact upto_len | assumption | exact map_len | exact List.length_set | (rw [List.length_set]; assumption)) | exact Ints.tail (by with_reducible repeat (first | assumption | (apply lk_last; (try simp only [ll1, ll2, ll3, ll4, lls_len, lls2_len, markL_len]); omega) | apply lk_prev)) (by first | rfl | exact upto_len | assumption | exact map_len | exact List.length_set | (rw [List.length_set]; assumption)) | with_reducible apply Ints.app | (refine Ints.sub (by with_reducible repeat (first | assumption | apply Ints.app)) (by omega) (by omega) (by omega)))) (by omega) ?_)
    first | refine a_do rfl (o_indexI Try.underlying22 ty2 (by conv => lhs; whnf) (by first | ((with_reducible repeat (first | assumption | apply Ints.app)); done) | repeat (first | with_reducible assumption | exact ints_nil | exact Ints.own (by with_reducible repeat (first | assumption | (apply lk_last; (try simp only [ll1, ll2, ll3, ll4, lls_len, lls2_len, markL_len]); omega) | apply lk_prev)) (by first | rfl | exact upto_len | assumption | exact map_len | exact List.length_set | (rw [List.length_set]; assumption)) | exact Ints.tail (by with_reducible repeat (first | assumption | (apply lk_last; (try simp only [ll1, ll2, ll3, ll4, lls_len, lls2_len, markL_len]); omega) | apply lk_prev)) (by first | rfl | exact upto_len | assumption | exact map_len | exact List.length_set | (rw [List.length_set]; assumption)) | with_reducible apply Ints.app | (refine Ints.sub (by with_reducible repeat (first | assumption | apply Ints.app)) (by omega) (by omega) (by omega)))) (by conv => lhs; whnf) (by omega) (fun p6 hp6 => ?_)) | refine a_do rfl (o_indexZ Try.underlying22 ty2 (by conv => lhs; whnf) (by first | ((with_reducible repeat (first | assumption | apply Ints.app)); done) | repeat (first | with_reducible assumption | exact ints_nil | exact Ints.own (by with_reducible repeat (first | assumption | (apply lk_last; (try simp only [ll1, ll2, ll3, ll4, lls_len, lls2_len, markL_len]); omega) | apply lk_prev)) (by first | rfl | exact upto_len | assumption | exact map_len | exact List.length_set | (rw [List.length_set]; assumption)) | exact Ints.tail (by with_reducible repeat (first | assumption | (apply lk_last; (try simp only [ll1, ll2, ll3, ll4, lls_len, lls2_len, markL_len]); omega) | apply lk_prev)) (by first | rfl | exact upto_len | assumption | exact map_len | exact List.length_set | (rw [List.length_set]; assumption)) | with_reducible apply Ints.app | (refine Ints.sub (by with_reducible repeat (first | assumption | apply Ints.app)) (by omega) (by omega) (by omega)))) (by conv => lhs; whnf) (by omega) (by omega) (fun p6 hp6 => ?_))
    refine a_do rfl (o_loadI Try.underlying2 rfl (by conv => lhs; whnf) hp6 (by first | ((with_reducible repeat (first | assumption | apply Ints.app)); done) | repeat (first | with_reducible assumption | exact ints_nil | exact Ints.own (by with_reducible repeat (first | assumption | (apply lk_last; (try simp only [ll1, ll2, ll3, ll4, lls_len, lls2_len, markL_len]); omega) | apply lk_prev)) (by first | rfl | exact upto_len | assumption | exact map_len | exact List.length_set | (rw [List.length_set]; assumption)) | exact Ints.tail (by with_reducible repeat (first | assumption | (apply lk_last; (try simp only [ll1, ll2, ll3, ll4, lls_len, lls2_len, markL_len]); omega) | apply lk_prev)) (by first | rfl | exact upto_len | assumption | exact map_len | exact List.length_set | (rw [List.length_set]; assumption)) | with_reducible apply Ints.app | (refine Ints.sub (by with_reducible repeat (first | assumption | apply Ints.app)) (by omega) (by omega) (by omega)))) (by omega) ?_)
    refine a_do rfl (o_callF (lmap_cons (by conv => lhs; whnf) (lmap_cons (by conv => lhs; whnf) lmap_nil)) (Ret.to (l05Place_ret (B.ms.getD (B.ls.getD k 0).toNat 0) (B.row (nS - (k + 1))) _ _ (by first | ((with_reducible repeat (first | assumption | apply Ints.app)); done) | repeat (first | with_reducible assumption | exact ints_nil | exact Ints.own (by with_reducible repeat (first | assumption | (apply lk_last; (try simp only [ll1, ll2, ll3, ll4, lls_len, lls2_len, markL_len]); omega) | apply lk_prev)) (by first | rfl | exact upto_len | assumption | exact map_len | exact List.length_set | (rw [List.length_set]; assumption)) | exact Ints.tail (by with_reducible repeat (first | assumption | (apply lk_last; (try simp only [ll1, ll2, ll3, ll4, lls_len, lls2_len, markL_len]); omega) | apply lk_prev)) (by first | rfl | exact upto_len | assumption | exact map_len | exact List.length_set | (rw [List.length_set]; assumption)) | with_reducible apply Ints.app | (refine Ints.sub (by with_reducible repeat (first | assumption | apply Ints.app)) (by omega) (by omega) (by omega)))) (by omega)) ?_))
    rw [← hhas9, hown.1]
    refine a_do rfl (o_assign (by conv => lhs; whnf) ?_)
    refine a_end ?_
    refine awp_seq ?_
    refine awp_seq ?_
    refine awp_region rfl ?_
    refine a_do rfl (o_assign (by conv => lhs; whnf) ?_)
    refine a_end ?_
    refine awp_block ?_
    refine awp_loop (σ := Nat) (fun t env1 h1 => Slots env1 [(0, w), (1, u), (2, sl kS nS), (3, i64 k), (4, sl kF n), (5, .bool b), (13, u4), (14, i64 (B.own (nS - (k + 1)))), (15, i64 t)] ∧ h1 = H1 ++ [lstB F] ++ g2 ∧ t ≤ (B.own (nS - (k + 1))) + 1 ∧ (List.range t).any (betH B (nS - (k + 1)) F b) = false) (fun t => (B.own (nS - (k + 1))) + 1 - t) 0 ?_ ?_
    · refine ⟨Slots.mk ⟨?_, ?_, ?_, ?_, ?_, ?_, ?_, ?_, ?_, trivial⟩, ?_, ?_⟩
      all_goals first | rfl | omega | exact ⟨by omega, rfl⟩ | exact congrArg i64 (by omega) | (simp; done)
    · intro t env1 h1 hI1
      obtain ⟨⟨e1, rfl⟩, rfl, ⟨ht, ha⟩⟩ := hI1
      refine awp_seq ?_
      refine awp_seq ?_
      refine awp_region rfl ?_
      refine a_do rfl (o_move (by conv => lhs; whnf) ?_)
      refine a_do rfl (o_move (by conv => lhs; whnf) ?_)
      refine a_do rfl (o_leq (by conv => lhs; whnf) (by conv => lhs; whnf) (fun c7 => ?_) (fun c7 => ?_))
      ·
        refine a_end ?_
        refine awp_condT (by conv => lhs; whnf) ?_
        refine awp_skip ?_
        refine awp_seq ?_
        refine awp_block ?_
        refine awp_seq ?_
        refine awp_region rfl ?_
        have htb := (dist_of hro.1).1 t (by omega)
        have hsl9 : (F.set ((B.row (nS - (k + 1))).getD t 0).toNat false).length = n := by rw [List.length_set]; exact hFl
        refine a_do rfl (o_move (by conv => lhs; whnf) ?_)
        refine a_do rfl (o_move (by conv => lhs; whnf) ?_)
        first | refine a_do rfl (o_indexI Try.underlying22 ty2 (by conv => lhs; whnf) (by first | ((with_reducible repeat (first | assumption | apply Ints.app)); done) | repeat (first | with_reducible assumption | exact ints_nil | exact Ints.own (by with_reducible repeat (first | assumption | (apply lk_last; (try simp only [ll1, ll2, ll3, ll4, lls_len, lls2_len, markL_len]); omega) | apply lk_prev)) (by first | rfl | exact upto_len | assumption | exact map_len | exact List.length_set | (rw [List.length_set]; assumption)) | exact Ints.tail (by with_reducible repeat (first | assumption | (apply lk_last; (try simp only [ll1, ll2, ll3, ll4, lls_len, lls2_len, markL_len]); omega) | apply lk_prev)) (by first | rfl | exact upto_len | assumption | exact map_len | exact List.length_set | (rw [List.length_set]; assumption)) | with_reducible apply Ints.app | (refine Ints.sub (by with_reducible repeat (first | assumption | apply Ints.app)) (by omega) (by omega) (by omega)))) (by conv => lhs; whnf) (by omega) (fun p8 hp8 => ?_)) | refine a_do rfl (o_indexZ Try.underlying22 ty2 (by conv => lhs; whnf) (by first | ((with_reducible repeat (first | assumption | apply Ints.app)); done) | repeat (first | with_reducible assumption | exact ints_nil | exact Ints.own (by with_reducible repeat (first | assumption | (apply lk_last; (try simp only [ll1, ll2, ll3, ll4, lls_len, lls2_len, markL_len]); omega) | apply lk_prev)) (by first | rfl | exact upto_len | assumption | exact map_len | exact List.length_set | (rw [List.length_set]; assumption)) | exact Ints.tail (by with_reducible repeat (first | assumption | (apply lk_last; (try simp only [ll1, ll2, ll3, ll4, lls_len, lls2_len, markL_len]); omega) | apply lk_prev)) (by first | rfl | exact upto_len | assumption | exact map_len | exact List.length_set | (rw [List.length_set]; assumption)) | with_reducible apply Ints.app | (refine Ints.sub (by with_reducible repeat (first | assumption | apply Ints.app)) (by omega) (by omega) (by omega)))) (by conv => lhs; whnf) (by omega) (by omega) (fun p8 hp8 => ?_))
        refine a_do rfl (o_loadI Try.underlying2 rfl (by conv => lhs; whnf) hp8 (by first | ((with_reducible repeat (first | assumption | apply Ints.app)); done) | repeat (first | with_reducible assumption | exact ints_nil | exact Ints.own (by with_reducible repeat (first | assumption | (apply lk_last; (try simp only [ll1, ll2, ll3, ll4, lls_len, lls2_len, markL_len]); omega) | apply lk_prev)) (by first | rfl | exact upto_len | assumption | exact map_len | exact List.length_set | (rw [List.length_set]; assumption)) | exact Ints.tail (by with_reducible repeat (first | assumption | (apply lk_last; (try simp only [ll1, ll2, ll3, ll4, lls_len, lls2_len, markL_len]); omega) | apply lk_prev)) (by first | rfl | exact upto_len | assumption | exact map_len | exact List.length_set | (rw [List.length_set]; assumption)) | with_reducible apply Ints.app | (refine Ints.sub (by with_reducible repeat (first | assumption | apply Ints.app)) (by omega) (by omega) (by omega)))) (by omega) ?_)
        refine a_do rfl (o_assign (by conv => lhs; whnf) ?_)
        refine a_end ?_
        refine awp_seq ?_
        refine awp_seq ?_
        refine awp_region rfl ?_
        refine a_do rfl (o_move (by conv => lhs; whnf) ?_)
        refine a_do rfl (o_move (by conv => lhs; whnf) ?_)
        refine a_do rfl (o_indexB Try.underlying70 ty4 (by conv => lhs; whnf) (by with_reducible repeat (first | assumption | (apply lk_last; (try simp only [ll1, ll2, ll3, ll4, lls_len, lls2_len, markL_len]); omega) | apply lk_prev)) (by first | exact seenB_len | exact bitsB_len | rfl | assumption | (simp; done)) (by conv => lhs; whnf) (by omega) (by omega) (fun p9 hp9 => ?_))
        refine a_do rfl (o_loadB Try.underlying4 rfl (by conv => lhs; whnf) hp9 (by with_reducible repeat (first | assumption | (apply lk_last; (try simp only [ll1, ll2, ll3, ll4, lls_len, lls2_len, markL_len]); omega) | apply lk_prev)) (by first | exact seenB_len | exact bitsB_len | rfl | assumption | (simp; done)) (by omega) (fun c10 => ?_) (fun c10 => ?_))
        ·
          have hfr9 := c10
          refine a_do rfl (o_notT (by conv => lhs; whnf) ?_)
          refine a_end ?_
          refine awp_condF (by conv => lhs; whnf) ?_
          refine awp_skip ?_
          refine awp_seq ?_
          refine awp_region rfl ?_
          refine a_do rfl (o_move (by conv => lhs; whnf) ?_)
          refine a_do rfl (o_move (by conv => lhs; whnf) ?_)
          refine a_do rfl (o_indexB Try.underlying70 ty4 (by conv => lhs; whnf) (by with_reducible repeat (first | assumption | (apply lk_last; (try simp only [ll1, ll2, ll3, ll4, lls_len, lls2_len, markL_len]); omega) | apply lk_prev)) (by first | exact seenB_len | exact bitsB_len | rfl | assumption | (simp; done)) (by conv => lhs; whnf) (by omega) (by omega) (fun p11 hp11 => ?_))
          refine a_do rfl (o_storeB ty4 (by conv => lhs; whnf) hp11 (by with_reducible repeat (first | assumption | (apply lk_last; (try simp only [ll1, ll2, ll3, ll4, lls_len, lls2_len, markL_len]); omega) | apply lk_prev)) (by first | exact seenB_len | exact bitsB_len | rfl | assumption | (simp; done)) (by omega) (by conv => lhs; whnf) (by with_reducible repeat (first | (apply set_last; (try simp only [ll1, ll2, ll3, ll4, lls_len, lls2_len, markL_len]); omega) | (apply set_step; (try simp only [ll1, ll2, ll3, ll4, lls_len, lls2_len, markL_len]); omega) | exact rfl)) ?_)
          refine a_end ?_
          refine awp_seq ?_
          refine awp_region rfl ?_
          refine a_do rfl (o_move (by conv => lhs; whnf) ?_)
          refine a_do rfl (o_move (by conv => lhs; whnf) ?_)
          refine a_do rfl (o_move (by conv => lhs; whnf) ?_)
          refine a_do rfl (o_move (by conv => lhs; whnf) ?_)
          refine a_do rfl (o_add (by conv => lhs; whnf) (by conv => lhs; whnf) (by omega) (by omega) ?_)
          refine a_do rfl (o_move (by conv => lhs; whnf) ?_)
          cases hb8 : b
          ·
            refine a_do rfl (o_move (by conv => lhs; whnf) ?_)
            refine a_do rfl (o_move (by conv => lhs; whnf) ?_)
            refine a_do rfl (o_move (by conv => lhs; whnf) ?_)
            refine a_do rfl (o_move (by conv => lhs; whnf) ?_)
            refine a_do rfl (o_lss (by conv => lhs; whnf) (by conv => lhs; whnf) (fun c12 => ?_) (fun c12 => ?_))
            ·
              have hx9 : decide (t < (B.own (nS - (k + 1)))) = true := decide_eq_true (by have h9 := c12; omega)
              refine a_do rfl (o_pickF (by conv => lhs; whnf) (by conv => lhs; whnf) ?_)
              refine a_do rfl (o_callF (lmap_cons (by conv => lhs; whnf) (lmap_cons (by conv => lhs; whnf) (lmap_cons (by conv => lhs; whnf) (lmap_cons (by conv => lhs; whnf) (lmap_cons (by conv => lhs; whnf) (lmap_cons (by conv => lhs; whnf) lmap_nil)))))) (Ret.toB (ih (F.set ((B.row (nS - (k + 1))).getD t 0).toNat false) _ hk9 hsl9) (fun c13 => ?_) (fun c13 => ?_)))
              ·
                have hp9 : betH B (nS - (k + 1)) F b t = true := by rw [hb8]; exact betH_3 hfr9 (by first | exact c13 | (rw [hx9]; exact c13))
                rw [hb8] at hp9 ha
                refine a_do rfl (o_assign (by conv => lhs; whnf) ?_)
                refine a_end ?_
                refine awp_seq ?_
                refine awp_region rfl ?_
                refine a_do rfl (o_move (by conv => lhs; whnf) ?_)
                refine a_do rfl (o_move (by conv => lhs; whnf) ?_)
                refine a_do rfl (o_indexB Try.underlying70 ty4 (by conv => lhs; whnf) (by with_reducible repeat (first | assumption | (apply lk_last; (try simp only [ll1, ll2, ll3, ll4, lls_len, lls2_len, markL_len]); omega) | apply lk_prev)) (by first | exact seenB_len | exact bitsB_len | rfl | assumption | (simp; done)) (by conv => lhs; whnf) (by omega) (by omega) (fun p14 hp14 => ?_))
                refine a_do rfl (o_storeB ty4 (by conv => lhs; whnf) hp14 (by with_reducible repeat (first | assumption | (apply lk_last; (try simp only [ll1, ll2, ll3, ll4, lls_len, lls2_len, markL_len]); omega) | apply lk_prev)) (by first | exact seenB_len | exact bitsB_len | rfl | assumption | (simp; done)) (by omega) (by conv => lhs; whnf) (by with_reducible repeat (first | (apply set_last; (try simp only [ll1, ll2, ll3, ll4, lls_len, lls2_len, markL_len]); omega) | (apply set_step; (try simp only [ll1, ll2, ll3, ll4, lls_len, lls2_len, markL_len]); omega) | exact rfl)) ?_)
                refine a_end ?_
                refine awp_seq ?_
                refine awp_region rfl ?_
                rw [set_back hfr9]
                refine a_do rfl (o_move (by conv => lhs; whnf) ?_)
                refine a_end ?_
                refine awp_condT (by conv => lhs; whnf) ?_
                refine awp_seq ?_
                refine awp_region rfl ?_
                refine a_do rfl (o_assign (by conv => lhs; whnf) ?_)
                refine a_end ?_
                refine awp_ret ?_
                refine ⟨.inl rfl, [_], ⟨ares_tmp (by conv => lhs; whnf), trivial⟩, ?_⟩
                first | exact ⟨congrArg Value.bool (by rw [hM1, betB_succ]; exact (rany_hit (by omega) hp9).symm), (by first | ((repeat (first | with_reducible exact Grown.refl _ | with_reducible apply Grown.push)); done) | repeat (first | exact Grown.refl _ | refine Grown.push ?_ _))⟩ | (obtain rfl : t = (B.own (nS - (k + 1))) + 1 := (by omega); exact ⟨congrArg Value.bool (by rw [hM1, betB_succ]; exact ha.symm), (by first | ((repeat (first | with_reducible exact Grown.refl _ | with_reducible apply Grown.push)); done) | repeat (first | exact Grown.refl _ | refine Grown.push ?_ _))⟩) | (obtain rfl : k = nS := (by omega); exact ⟨by rw [Nat.sub_self]; rfl, (by first | ((repeat (first | with_reducible exact Grown.refl _ | with_reducible apply Grown.push)); done) | repeat (first | exact Grown.refl _ | refine Grown.push ?_ _))⟩)
              ·
                have hp9 : betH B (nS - (k + 1)) F b t = false := by rw [hb8]; exact betH_3 hfr9 (by first | exact c13 | (rw [hx9]; exact c13))
                rw [hb8] at hp9 ha
                refine a_do rfl (o_assign (by conv => lhs; whnf) ?_)
                refine a_end ?_
                refine awp_seq ?_
                refine awp_region rfl ?_
                refine a_do rfl (o_move (by conv => lhs; whnf) ?_)
                refine a_do rfl (o_move (by conv => lhs; whnf) ?_)
                refine a_do rfl (o_indexB Try.underlying70 ty4 (by conv => lhs; whnf) (by with_reducible repeat (first | assumption | (apply lk_last; (try simp only [ll1, ll2, ll3, ll4, lls_len, lls2_len, markL_len]); omega) | apply lk_prev)) (by first | exact seenB_len | exact bitsB_len | rfl | assumption | (simp; done)) (by conv => lhs; whnf) (by omega) (by omega) (fun p15 hp15 => ?_))
                refine a_do rfl (o_storeB ty4 (by conv => lhs; whnf) hp15 (by with_reducible repeat (first | assumption | (apply lk_last; (try simp only [ll1, ll2, ll3, ll4, lls_len, lls2_len, markL_len]); omega) | apply lk_prev)) (by first | exact seenB_len | exact bitsB_len | rfl | assumption | (simp; done)) (by omega) (by conv => lhs; whnf) (by with_reducible repeat (first | (apply set_last; (try simp only [ll1, ll2, ll3, ll4, lls_len, lls2_len, markL_len]); omega) | (apply set_step; (try simp only [ll1, ll2, ll3, ll4, lls_len, lls2_len, markL_len]); omega) | exact rfl)) ?_)
                refine a_end ?_
                refine awp_seq ?_
                refine awp_region rfl ?_
                rw [set_back hfr9]
                refine a_do rfl (o_move (by conv => lhs; whnf) ?_)
                refine a_end ?_
                refine awp_condF (by conv => lhs; whnf) ?_
                refine awp_skip ?_
                refine awp_region rfl ?_
                refine a_do rfl (o_move (by conv => lhs; whnf) ?_)
                refine a_do rfl (o_add (by conv => lhs; whnf) (by conv => lhs; whnf) (by omega) (by omega) ?_)
                refine a_do rfl (o_assign (by conv => lhs; whnf) ?_)
                refine a_end ?_
                refine ⟨t + 1, ⟨Slots.mk ⟨?_, ?_, ?_, ?_, ?_, ?_, ?_, ?_, ?_, trivial⟩, ?_, ?_⟩, ?_⟩
                all_goals first | rfl | omega | exact congrArg i64 (by omega) | exact ⟨by omega, rany_step ha hp9⟩
            ·
              have hx9 : decide (t < (B.own (nS - (k + 1)))) = false := decide_eq_false (by have h9 := c12; omega)
              refine a_do rfl (o_pickF (by conv => lhs; whnf) (by conv => lhs; whnf) ?_)
              refine a_do rfl (o_callF (lmap_cons (by conv => lhs; whnf) (lmap_cons (by conv => lhs; whnf) (lmap_cons (by conv => lhs; whnf) (lmap_cons (by conv => lhs; whnf) (lmap_cons (by conv => lhs; whnf) (lmap_cons (by conv => lhs; whnf) lmap_nil)))))) (Ret.toB (ih (F.set ((B.row (nS - (k + 1))).getD t 0).toNat false) _ hk9 hsl9) (fun c16 => ?_) (fun c16 => ?_)))
              ·
                have hp9 : betH B (nS - (k + 1)) F b t = true := by rw [hb8]; exact betH_3 hfr9 (by first | exact c16 | (rw [hx9]; exact c16))
                rw [hb8] at hp9 ha
                refine a_do rfl (o_assign (by conv => lhs; whnf) ?_)
                refine a_end ?_
                refine awp_seq ?_
                refine awp_region rfl ?_
                refine a_do rfl (o_move (by conv => lhs; whnf) ?_)
                refine a_do rfl (o_move (by conv => lhs; whnf) ?_)
                refine a_do rfl (o_indexB Try.underlying70 ty4 (by conv => lhs; whnf) (by with_reducible repeat (first | assumption | (apply lk_last; (try simp only [ll1, ll2, ll3, ll4, lls_len, lls2_len, markL_len]); omega) | apply lk_prev)) (by first | exact seenB_len | exact bitsB_len | rfl | assumption | (simp; done)) (by conv => lhs; whnf) (by omega) (by omega) (fun p17 hp17 => ?_))
                refine a_do rfl (o_storeB ty4 (by conv => lhs; whnf) hp17 (by with_reducible repeat (first | assumption | (apply lk_last; (try simp only [ll1, ll2, ll3, ll4, lls_len, lls2_len, markL_len]); omega) | apply lk_prev)) (by first | exact seenB_len | exact bitsB_len | rfl | assumption | (simp; done)) (by omega) (by conv => lhs; whnf) (by with_reducible repeat (first | (apply set_last; (try simp only [ll1, ll2, ll3, ll4, lls_len, lls2_len, markL_len]); omega) | (apply set_step; (try simp only [ll1, ll2, ll3, ll4, lls_len, lls2_len, markL_len]); omega) | exact rfl)) ?_)
                refine a_end ?_
                refine awp_seq ?_
                refine awp_region rfl ?_
                rw [set_back hfr9]
                refine a_do rfl (o_move (by conv => lhs; whnf) ?_)
                refine a_end ?_
                refine awp_condT (by conv => lhs; whnf) ?_
                refine awp_seq ?_
                refine awp_region rfl ?_
                refine a_do rfl (o_assign (by conv => lhs; whnf) ?_)
                refine a_end ?_
                refine awp_ret ?_
                refine ⟨.inl rfl, [_], ⟨ares_tmp (by conv => lhs; whnf), trivial⟩, ?_⟩
                first | exact ⟨congrArg Value.bool (by rw [hM1, betB_succ]; exact (rany_hit (by omega) hp9).symm), (by first | ((repeat (first | with_reducible exact Grown.refl _ | with_reducible apply Grown.push)); done) | repeat (first | exact Grown.refl _ | refine Grown.push ?_ _))⟩ | (obtain rfl : t = (B.own (nS - (k + 1))) + 1 := (by omega); exact ⟨congrArg Value.bool (by rw [hM1, betB_succ]; exact ha.symm), (by first | ((repeat (first | with_reducible exact Grown.refl _ | with_reducible apply Grown.push)); done) | repeat (first | exact Grown.refl _ | refine Grown.push ?_ _))⟩) | (obtain rfl : k = nS := (by omega); exact ⟨by rw [Nat.sub_self]; rfl, (by first | ((repeat (first | with_reducible exact Grown.refl _ | with_reducible apply Grown.push)); done) | repeat (first | exact Grown.refl _ | refine Grown.push ?_ _))⟩)
              ·
                have hp9 : betH B (nS - (k + 1)) F b t = false := by rw [hb8]; exact betH_3 hfr9 (by first | exact c16 | (rw [hx9]; exact c16))
                rw [hb8] at hp9 ha
                refine a_do rfl (o_assign (by conv => lhs; whnf) ?_)
                refine a_end ?_
                refine awp_seq ?_
                refine awp_region rfl ?_
                refine a_do rfl (o_move (by conv => lhs; whnf) ?_)
                refine a_do rfl (o_move (by conv => lhs; whnf) ?_)
                refine a_do rfl (o_indexB Try.underlying70 ty4 (by conv => lhs; whnf) (by with_reducible repeat (first | assumption | (apply lk_last; (try simp only [ll1, ll2, ll3, ll4, lls_len, lls2_len, markL_len]); omega) | apply lk_prev)) (by first | exact seenB_len | exact bitsB_len | rfl | assumption | (simp; done)) (by conv => lhs; whnf) (by omega) (by omega) (fun p18 hp18 => ?_))
                refine a_do rfl (o_storeB ty4 (by conv => lhs; whnf) hp18 (by with_reducible repeat (first | assumption | (apply lk_last; (try simp only [ll1, ll2, ll3, ll4, lls_len, lls2_len, markL_len]); omega) | apply lk_prev)) (by first | exact seenB_len | exact bitsB_len | rfl | assumption | (simp; done)) (by omega) (by conv => lhs; whnf) (by with_reducible repeat (first | (apply set_last; (try simp only [ll1, ll2, ll3, ll4, lls_len, lls2_len, markL_len]); omega) | (apply set_step; (try simp only [ll1, ll2, ll3, ll4, lls_len, lls2_len, markL_len]); omega) | exact rfl)) ?_)
                refine a_end ?_
                refine awp_seq ?_
                refine awp_region rfl ?_
                rw [set_back hfr9]
                refine a_do rfl (o_move (by conv => lhs; whnf) ?_)
                refine a_end ?_
                refine awp_condF (by conv => lhs; whnf) ?_
                refine awp_skip ?_
                refine awp_region rfl ?_
                refine a_do rfl (o_move (by conv => lhs; whnf) ?_)
                refine a_do rfl (o_add (by conv => lhs; whnf) (by conv => lhs; whnf) (by omega) (by omega) ?_)
                refine a_do rfl (o_assign (by conv => lhs; whnf) ?_)
                refine a_end ?_
                refine ⟨t + 1, ⟨Slots.mk ⟨?_, ?_, ?_, ?_, ?_, ?_, ?_, ?_, ?_, trivial⟩, ?_, ?_⟩, ?_⟩
                all_goals first | rfl | omega | exact congrArg i64 (by omega) | exact ⟨by omega, rany_step ha hp9⟩
          ·
            refine a_do rfl (o_move (by conv => lhs; whnf) ?_)
            refine a_do rfl (o_move (by conv => lhs; whnf) ?_)
            refine a_no rfl ?_
            refine a_no rfl ?_
            refine a_no rfl ?_
            refine a_do rfl (o_pickT (by conv => lhs; whnf) (by conv => lhs; whnf) ?_)
            refine a_do rfl (o_callF (lmap_cons (by conv => lhs; whnf) (lmap_cons (by conv => lhs; whnf) (lmap_cons (by conv => lhs; whnf) (lmap_cons (by conv => lhs; whnf) (lmap_cons (by conv => lhs; whnf) (lmap_cons (by conv => lhs; whnf) lmap_nil)))))) (Ret.toB (ih (F.set ((B.row (nS - (k + 1))).getD t 0).toNat false) _ hk9 hsl9) (fun c19 => ?_) (fun c19 => ?_)))
            ·
              have hp9 : betH B (nS - (k + 1)) F b t = true := by rw [hb8]; exact betH_3 hfr9 (by first | exact c19 | (rw [hx9]; exact c19))
              rw [hb8] at hp9 ha
              refine a_do rfl (o_assign (by conv => lhs; whnf) ?_)
              refine a_end ?_
              refine awp_seq ?_
              refine awp_region rfl ?_
              refine a_do rfl (o_move (by conv => lhs; whnf) ?_)
              refine a_do rfl (o_move (by conv => lhs; whnf) ?_)
              refine a_do rfl (o_indexB Try.underlying70 ty4 (by conv => lhs; whnf) (by with_reducible repeat (first | assumption | (apply lk_last; (try simp only [ll1, ll2, ll3, ll4, lls_len, lls2_len, markL_len]); omega) | apply lk_prev)) (by first | exact seenB_len | exact bitsB_len | rfl | assumption | (simp; done)) (by conv => lhs; whnf) (by omega) (by omega) (fun p20 hp20 => ?_))
              refine a_do rfl (o_storeB ty4 (by conv => lhs; whnf) hp20 (by with_reducible repeat (first | assumption | (apply lk_last; (try simp only [ll1, ll2, ll3, ll4, lls_len, lls2_len, markL_len]); omega) | apply lk_prev)) (by first | exact seenB_len | exact bitsB_len | rfl | assumption | (simp; done)) (by omega) (by conv => lhs; whnf) (by with_reducible repeat (first | (apply set_last; (try simp only [ll1, ll2, ll3, ll4, lls_len, lls2_len, markL_len]); omega) | (apply set_step; (try simp only [ll1, ll2, ll3, ll4, lls_len, lls2_len, markL_len]); omega) | exact rfl)) ?_)
              refine a_end ?_
              refine awp_seq ?_
              refine awp_region rfl ?_
              rw [set_back hfr9]
              refine a_do rfl (o_move (by conv => lhs; whnf) ?_)
              refine a_end ?_
              refine awp_condT (by conv => lhs; whnf) ?_
              refine awp_seq ?_
              refine awp_region rfl ?_
              refine a_do rfl (o_assign (by conv => lhs; whnf) ?_)
              refine a_end ?_
              refine awp_ret ?_
              refine ⟨.inl rfl, [_], ⟨ares_tmp (by conv => lhs; whnf), trivial⟩, ?_⟩
              first | exact ⟨congrArg Value.bool (by rw [hM1, betB_succ]; exact (rany_hit (by omega) hp9).symm), (by first | ((repeat (first | with_reducible exact Grown.refl _ | with_reducible apply Grown.push)); done) | repeat (first | exact Grown.refl _ | refine Grown.push ?_ _))⟩ | (obtain rfl : t = (B.own (nS - (k + 1))) + 1 := (by omega); exact ⟨congrArg Value.bool (by rw [hM1, betB_succ]; exact ha.symm), (by first | ((repeat (first | with_reducible exact Grown.refl _ | with_reducible apply Grown.push)); done) | repeat (first | exact Grown.refl _ | refine Grown.push ?_ _))⟩) | (obtain rfl : k = nS := (by omega); exact ⟨by rw [Nat.sub_self]; rfl, (by first | ((repeat (first | with_reducible exact Grown.refl _ | with_reducible apply Grown.push)); done) | repeat (first | exact Grown.refl _ | refine Grown.push ?_ _))⟩)
            ·
              have hp9 : betH B (nS - (k + 1)) F b t = false := by rw [hb8]; exact betH_3 hfr9 (by first | exact c19 | (rw [hx9]; exact c19))
              rw [hb8] at hp9 ha
              refine a_do rfl (o_assign (by conv => lhs; whnf) ?_)
              refine a_end ?_
              refine awp_seq ?_
              refine awp_region rfl ?_
              refine a_do rfl (o_move (by conv => lhs; whnf) ?_)
              refine a_do rfl (o_move (by conv => lhs; whnf) ?_)
              refine a_do rfl (o_indexB Try.underlying70 ty4 (by conv => lhs; whnf) (by with_reducible repeat (first | assumption | (apply lk_last; (try simp only [ll1, ll2, ll3, ll4, lls_len, lls2_len, markL_len]); omega) | apply lk_prev)) (by first | exact seenB_len | exact bitsB_len | rfl | assumption | (simp; done)) (by conv => lhs; whnf) (by omega) (by omega) (fun p21 hp21 => ?_))
              refine a_do rfl (o_storeB ty4 (by conv => lhs; whnf) hp21 (by with_reducible repeat (first | assumption | (apply lk_last; (try simp only [ll1, ll2, ll3, ll4, lls_len, lls2_len, markL_len]); omega) | apply lk_prev)) (by first | exact seenB_len | exact bitsB_len | rfl | assumption | (simp; done)) (by omega) (by conv => lhs; whnf) (by with_reducible repeat (first | (apply set_last; (try simp only [ll1, ll2, ll3, ll4, lls_len, lls2_len, markL_len]); omega) | (apply set_step; (try simp only [ll1, ll2, ll3, ll4, lls_len, lls2_len, markL_len]); omega) | exact rfl)) ?_)
              refine a_end ?_
              refine awp_seq ?_
              refine awp_region rfl ?_
              rw [set_back hfr9]
              refine a_do rfl (o_move (by conv => lhs; whnf) ?_)
              refine a_end ?_
              refine awp_condF (by conv => lhs; whnf) ?_
              refine awp_skip ?_
              refine awp_region rfl ?_
              refine a_do rfl (o_move (by conv => lhs; whnf) ?_)
              refine a_do rfl (o_add (by conv => lhs; whnf) (by conv => lhs; whnf) (by omega) (by omega) ?_)
              refine a_do rfl (o_assign (by conv => lhs; whnf) ?_)
              refine a_end ?_
              refine ⟨t + 1, ⟨Slots.mk ⟨?_, ?_, ?_, ?_, ?_, ?_, ?_, ?_, ?_, trivial⟩, ?_, ?_⟩, ?_⟩
              all_goals first | rfl | omega | exact congrArg i64 (by omega) | exact ⟨by omega, rany_step ha hp9⟩
        ·
          have hp9 : betH B (nS - (k + 1)) F b t = false := betH_1 c10
          refine a_do rfl (o_notF (by conv => lhs; whnf) ?_)
          refine a_end ?_
          refine awp_condT (by conv => lhs; whnf) ?_
          refine awp_exit ?_
          refine awp_region rfl ?_
          refine a_do rfl (o_move (by conv => lhs; whnf) ?_)
          refine a_do rfl (o_add (by conv => lhs; whnf) (by conv => lhs; whnf) (by omega) (by omega) ?_)
          refine a_do rfl (o_assign (by conv => lhs; whnf) ?_)
          refine a_end ?_
          refine ⟨t + 1, ⟨Slots.mk ⟨?_, ?_, ?_, ?_, ?_, ?_, ?_, ?_, ?_, trivial⟩, ?_, ?_⟩, ?_⟩
          all_goals first | rfl | omega | exact congrArg i64 (by omega) | exact ⟨by omega, rany_step ha hp9⟩
      ·
        refine a_end ?_
        refine awp_condF (by conv => lhs; whnf) ?_
        refine awp_exit ?_
        refine awp_seq ?_
        refine awp_region rfl ?_
        refine a_do rfl (o_assign (by conv => lhs; whnf) ?_)
        refine a_end ?_
        refine awp_ret ?_
        refine ⟨.inl rfl, [_], ⟨ares_tmp (by conv => lhs; whnf), trivial⟩, ?_⟩
        first | exact ⟨congrArg Value.bool (by rw [hM1, betB_succ]; exact (rany_hit (by omega) hp9).symm), (by first | ((repeat (first | with_reducible exact Grown.refl _ | with_reducible apply Grown.push)); done) | repeat (first | exact Grown.refl _ | refine Grown.push ?_ _))⟩ | (obtain rfl : t = (B.own (nS - (k + 1))) + 1 := (by omega); exact ⟨congrArg Value.bool (by rw [hM1, betB_succ]; exact ha.symm), (by first | ((repeat (first | with_reducible exact Grown.refl _ | with_reducible apply Grown.push)); done) | repeat (first | exact Grown.refl _ | refine Grown.push ?_ _))⟩) | (obtain rfl : k = nS := (by omega); exact ⟨by rw [Nat.sub_self]; rfl, (by first | ((repeat (first | with_reducible exact Grown.refl _ | with_reducible apply Grown.push)); done) | repeat (first | exact Grown.refl _ | refine Grown.push ?_ _))⟩)

theorem l05Better_ret (n kS nS kF : Nat) (B : Blk) (w u : Value) (H1 g2 : AHeap) (hkF : kF = H1.length) (hS : H1[kS]? = some (lst B.ls)) (hSl : B.ls.length = nS) (hv : Lists H1 w B.xss) (hu : Ints H1 u B.ms) (hb : LB B.xss) (hB : OkB B n) (hn8 : n ≤ 8) (hnS : nS ≤ 8) : ∀ (j k : Nat) (F : List Bool) (b : Bool), nS - k = j → k ≤ nS → F.length = n → Ret Try.prog 56 [w, u, sl kS nS, i64 k, sl kF n, .bool b] (H1 ++ [lstB F] ++ g2) (.bool (betB B (nS - k) F b)) (H1 ++ [lstB F] ++ g2) := by
  intro j
  induction j with
  | zero => intro k F b hj hk hF; exact l05BetterS_ret k F b n kS nS kF B w u H1 g2 hkF hS hSl hv hu hb hB hn8 hnS hk hF fun F2 b2 hlt _ => absurd hlt (by omega)
  | succ j ih => intro k F b hj hk hF; exact l05BetterS_ret k F b n kS nS kF B w u H1 g2 hkF hS hSl hv hu hb hB hn8 hnS hk hF fun F2 b2 hlt hF2 => ih (k + 1) F2 b2 (by omega) (by omega) hF2

theorem l05Better0_ret (n kS nS kF : Nat) (B : Blk) (w u : Value) (H1 g2 : AHeap) (hkF : kF = H1.length) (hS : H1[kS]? = some (lst B.ls)) (hSl : B.ls.length = nS) (hv : Lists H1 w B.xss) (hu : Ints H1 u B.ms) (hb : LB B.xss) (hB : OkB B n) (hn8 : n ≤ 8) (hnS : nS ≤ 8) (F : List Bool) (hF : F.length = n) : Ret Try.prog 56 [w, u, sl kS nS, i64 0, sl kF n, .bool false] (H1 ++ [lstB F] ++ g2) (.bool (betB B nS F false)) (H1 ++ [lstB F] ++ g2) := by
  exact l05Better_ret n kS nS kF B w u H1 g2 hkF hS hSl hv hu hb hB hn8 hnS nS 0 F false (by omega) (by omega) hF

set_option maxRecDepth 10000 in
theorem specHouseBlock_ret (xss : List (List Int)) (os : List Int) (v w : Value) (h : AHeap) (hv : Lists h v xss) (hw : Ints h w os) (hb : LB xss) (hl : os.length ≤ 1073741824) : RetO Try.prog 24 [v, w] h (blkV xss os) (VL (blkL xss os).length) (lst (blkL xss os)) NL := by
  refine retL_of ?_
  have hbl := hb.len
  refine tri_of_body Try.func24 rfl (by kernel_rfl) (by show 2 ≤ 56; decide) ?_
  refine awp_seq ?_
  refine awp_region rfl ?_
  refine a_do rfl (o_assign (by conv => lhs; whnf) ?_)
  refine a_do rfl (o_assign (by conv => lhs; whnf) ?_)
  refine a_end ?_
  refine awp_seq ?_
  refine awp_region rfl ?_
  refine a_do rfl (o_move (by conv => lhs; whnf) ?_)
  refine a_do rfl (o_lenL Try.underlying35 (by conv => lhs; whnf) (by first | ((with_reducible repeat (first | assumption | apply Lists.app)); done) | exact lists_nil | repeat (first | with_reducible assumption | exact lls_lists (by (try simp only [ll1, ll2, ll3, ll4, lls_len, lls2_len, markL_len]); omega) rfl | exact lls2_left (by (try simp only [ll1, ll2, ll3, ll4, lls_len, lls2_len, markL_len]); omega) (by first | rfl | exact markL_len | simp) | exact lls2_right (by (try simp only [ll1, ll2, ll3, ll4, lls_len, lls2_len, markL_len]); omega) (by first | rfl | exact markL_len | simp) (by first | rfl | exact markL_len | simp) | with_reducible apply Lists.app)) ?_)
  refine a_do rfl (o_assign (by conv => lhs; whnf) ?_)
  refine a_end ?_
  refine awp_seq ?_
  refine awp_seq ?_
  refine awp_region rfl ?_
  refine a_do rfl (o_move (by conv => lhs; whnf) ?_)
  refine a_do rfl (o_callF (lmap_cons (by conv => lhs; whnf) lmap_nil) (Ret.toB (l05Whole_ret _ _ _ (by first | ((with_reducible repeat (first | assumption | apply Lists.app)); done) | exact lists_nil | repeat (first | with_reducible assumption | exact lls_lists (by (try simp only [ll1, ll2, ll3, ll4, lls_len, lls2_len, markL_len]); omega) rfl | exact lls2_left (by (try simp only [ll1, ll2, ll3, ll4, lls_len, lls2_len, markL_len]); omega) (by first | rfl | exact markL_len | simp) | exact lls2_right (by (try simp only [ll1, ll2, ll3, ll4, lls_len, lls2_len, markL_len]); omega) (by first | rfl | exact markL_len | simp) (by first | rfl | exact markL_len | simp) | with_reducible apply Lists.app)) (by assumption)) (fun c1 => ?_) (fun c1 => ?_)))
  ·
    have hF := c1
    have hfg := (okH_get hF).1
    have hp8 := pow8 hfg.2
    refine a_do rfl (o_notT (by conv => lhs; whnf) ?_)
    refine a_do rfl (o_move (by conv => lhs; whnf) ?_)
    refine a_do rfl (o_move (by conv => lhs; whnf) ?_)
    refine a_do rfl (o_move (by conv => lhs; whnf) ?_)
    refine a_do rfl (o_callF (lmap_cons (by conv => lhs; whnf) (lmap_cons (by conv => lhs; whnf) lmap_nil)) (Ret.toB (l05Order_ret _ _ _ _ (by first | ((with_reducible repeat (first | assumption | apply Ints.app)); done) | repeat (first | with_reducible assumption | exact ints_nil | exact Ints.own (by with_reducible repeat (first | assumption | (apply lk_last; (try simp only [ll1, ll2, ll3, ll4, lls_len, lls2_len, markL_len]); omega) | apply lk_prev)) (by first | rfl | exact upto_len | assumption | exact map_len | exact List.length_set | (rw [List.length_set]; assumption)) | exact Ints.tail (by with_reducible repeat (first | assumption | (apply lk_last; (try simp only [ll1, ll2, ll3, ll4, lls_len, lls2_len, markL_len]); omega) | apply lk_prev)) (by first | rfl | exact upto_len | assumption | exact map_len | exact List.length_set | (rw [List.length_set]; assumption)) | with_reducible apply Ints.app | (refine Ints.sub (by with_reducible repeat (first | assumption | apply Ints.app)) (by omega) (by omega) (by omega)))) (by omega) (by omega)) (fun c2 => ?_) (fun c2 => ?_)))
    ·
      have hoo := Bool.and_eq_true_iff.1 c2
      have hwo := hoo.1
      have hlo : (os.length : Int) = xss.length := of_decide_eq_true hoo.2
      have hV := turnV_yes hF hlo hwo
      refine a_do rfl (o_notT (by conv => lhs; whnf) ?_)
      refine a_do rfl (o_pickF (by conv => lhs; whnf) (by conv => lhs; whnf) ?_)
      refine a_end ?_
      refine awp_condF (by conv => lhs; whnf) ?_
      refine awp_skip ?_
      refine awp_seq ?_
      refine awp_seq ?_
      refine awp_region rfl ?_
      refine a_do rfl (o_assign (by conv => lhs; whnf) ?_)
      refine a_end ?_
      refine awp_block ?_
      refine awp_loop (σ := Nat) (fun s env1 h1 => Slots env1 [(0, v), (1, w), (6, i64 xss.length), (7, i64 s)] ∧ Grown (h) h1 ∧ 1 ≤ s ∧ s ≤ (2 ^ xss.length) ∧ idxTo (goodS xss os) (cntL (2 ^ xss.length)) s = -1) (fun s => (2 ^ xss.length) - s) 1 ?_ ?_
      · refine ⟨Slots.mk ⟨?_, ?_, ?_, ?_, trivial⟩, ?_, ?_⟩
        all_goals first | rfl | omega | exact ⟨Nat.le_refl _, hp8.1, fir_one⟩ | exact Grown.refl _ | (simp; done)
      · intro s env1 h1 hI1
        obtain ⟨⟨e1, rfl⟩, ⟨gs, rfl⟩, ⟨hs1, hs, ha⟩⟩ := hI1
        have hfn := freeF_len (s := s) (n := xss.length) xss.length
        refine awp_seq ?_
        refine awp_seq ?_
        refine awp_region rfl ?_
        refine a_do rfl (o_move (by conv => lhs; whnf) ?_)
        refine a_do rfl (o_move (by conv => lhs; whnf) ?_)
        refine a_do rfl (o_convU Try.underlying3 Try.underlying76 (by conv => lhs; whnf) (by omega) (by omega) ?_)
        refine a_do rfl (o_shl (by conv => lhs; whnf) (by conv => lhs; whnf) (by omega) (by omega) (by rw [one_shl]; have h1 := hp8; have h2 := Int.ofNat_le.2 h1.2; have h3 := Int.ofNat_le.2 h1.1; simp only [Int.toNat_natCast]; omega) (by rw [one_shl]; have h1 := hp8; have h2 := Int.ofNat_le.2 h1.2; simp only [Int.toNat_natCast]; omega) ?_)
        refine a_do rfl (o_lss (by conv => lhs; whnf) (by conv => lhs; whnf) (fun c3 => ?_) (fun c3 => ?_))
        ·
          have hsn : s < (2 ^ xss.length) := (by have h9 := c3; simp only [one_shl] at h9; exact Int.ofNat_lt.1 h9)
          refine a_end ?_
          refine awp_condT (by conv => lhs; whnf) ?_
          refine awp_skip ?_
          refine awp_seq ?_
          refine awp_block ?_
          refine awp_seq ?_
          refine awp_region rfl ?_
          refine a_do rfl (o_buildI0 Try.underlying22 ty2 (fun k4 hk4 => ?_))
          try simp at hk4
          refine a_do rfl (o_assign (by conv => lhs; whnf) ?_)
          refine a_end ?_
          refine awp_seq ?_
          refine awp_region rfl ?_
          refine a_do rfl (o_move (by conv => lhs; whnf) ?_)
          refine a_do rfl (o_makeB Try.underlying70 ty4 (by conv => lhs; whnf) (by conv => lhs; whnf) (by omega) (by omega) (fun k5 hk5 => ?_))
          try simp at hk5
          refine a_do rfl (o_assign (by conv => lhs; whnf) ?_)
          refine a_end ?_
          refine awp_seq ?_
          refine awp_seq ?_
          refine awp_region rfl ?_
          refine a_do rfl (o_assign (by conv => lhs; whnf) ?_)
          refine a_end ?_
          refine awp_block ?_
          refine awp_loop (σ := Nat) (fun t env1 h1 => Slots env1 [(0, v), (1, w), (6, i64 xss.length), (7, i64 s), (8, sl k4 (memL s t).length), (9, sl k5 xss.length), (10, i64 t)] ∧ Grown (h ++ gs ++ [lst (memL s t)] ++ [lstB (freeF s xss.length t)]) h1 ∧ t ≤ xss.length) (fun t => xss.length - t) 0 ?_ ?_
          · refine ⟨Slots.mk ⟨?_, ?_, ?_, ?_, ?_, ?_, ?_, trivial⟩, ?_, ?_⟩
            all_goals first | rfl | exact Grown.refl _ | omega | (simp; done)
          · intro t env1 h1 hI1
            obtain ⟨⟨e1, rfl⟩, ⟨gs2, rfl⟩, ht⟩ := hI1
            have hmt := memL_len (s := s) (m := t)
            have hfl := freeF_len (s := s) (n := xss.length) t
            have hdl : s / 2 ^ (t : Int).toNat ≤ s := Nat.div_le_self _ _
            refine awp_seq ?_
            refine awp_seq ?_
            refine awp_region rfl ?_
            refine a_do rfl (o_move (by conv => lhs; whnf) ?_)
            refine a_do rfl (o_move (by conv => lhs; whnf) ?_)
            refine a_do rfl (o_lss (by conv => lhs; whnf) (by conv => lhs; whnf) (fun c6 => ?_) (fun c6 => ?_))
            ·
              refine a_end ?_
              refine awp_condT (by conv => lhs; whnf) ?_
              refine awp_skip ?_
              refine awp_seq ?_
              refine awp_block ?_
              refine awp_seq ?_
              refine awp_region rfl ?_
              refine a_do rfl (o_move (by conv => lhs; whnf) ?_)
              refine a_do rfl (o_move (by conv => lhs; whnf) ?_)
              refine a_do rfl (o_convU Try.underlying3 Try.underlying76 (by conv => lhs; whnf) (by omega) (by omega) ?_)
              refine a_do rfl (o_shr (by conv => lhs; whnf) (by conv => lhs; whnf) (by omega) (by omega) ?_)
              refine a_do rfl (o_and (by conv => lhs; whnf) (by conv => lhs; whnf) (by first | exact (nat_shr _ _).symm | exact one_shl _ | exact rfl | exact (Int.toNat_of_nonneg (by omega)).symm) (by first | exact (nat_shr _ _).symm | exact one_shl _ | exact rfl | exact (Int.toNat_of_nonneg (by omega)).symm) (by first | omega | decide) ?_)
              refine a_do rfl (o_eql (by conv => lhs; whnf) (by conv => lhs; whnf) (fun c7 => ?_) (fun c7 => ?_))
              ·
                have hb9 : s.testBit t = true := bit_is.1 c7
                refine a_end ?_
                refine awp_condT (by conv => lhs; whnf) ?_
                refine awp_seq ?_
                refine awp_region rfl ?_
                refine a_do rfl (o_move (by conv => lhs; whnf) ?_)
                refine a_do rfl (o_move (by conv => lhs; whnf) ?_)
                refine a_do rfl (o_buildI1 Try.underlying22 ty2 (by conv => lhs; whnf) (fun k8 hk8 => ?_))
                try simp at hk8
                refine a_do rfl (o_appendI Try.underlying22 ty2 (by conv => lhs; whnf) (by with_reducible repeat (first | assumption | (apply lk_last; (try simp only [ll1, ll2, ll3, ll4, lls_len, lls2_len, markL_len]); omega) | apply lk_prev)) (by first | rfl | omega | (simp; done) | (simp; omega)) (by conv => lhs; whnf) (by first | ((with_reducible repeat (first | assumption | apply Ints.app)); done) | exact Ints.own (by with_reducible repeat (first | assumption | (apply lk_last; (try simp only [ll1, ll2, ll3, ll4, lls_len, lls2_len, markL_len]); omega) | apply lk_prev)) (by first | rfl | exact upto_len | assumption | exact map_len | exact List.length_set | (rw [List.length_set]; assumption))) (by first | omega | (simp; done) | (simp; omega)) (by with_reducible repeat (first | (apply set_last; (try simp only [ll1, ll2, ll3, ll4, lls_len, lls2_len, markL_len]); omega) | (apply set_step; (try simp only [ll1, ll2, ll3, ll4, lls_len, lls2_len, markL_len]); omega) | exact rfl)) ?_)
                refine a_do rfl (o_assign (by conv => lhs; whnf) ?_)
                refine a_end ?_
                refine awp_region rfl ?_
                refine a_do rfl (o_move (by conv => lhs; whnf) ?_)
                refine a_do rfl (o_move (by conv => lhs; whnf) ?_)
                refine a_do rfl (o_indexB Try.underlying70 ty4 (by conv => lhs; whnf) (by with_reducible repeat (first | assumption | (apply lk_last; (try simp only [ll1, ll2, ll3, ll4, lls_len, lls2_len, markL_len]); omega) | apply lk_prev)) (by first | exact seenB_len | exact bitsB_len | rfl | assumption | (simp; done)) (by conv => lhs; whnf) (by omega) (by omega) (fun p9 hp9 => ?_))
                refine a_do rfl (o_storeB ty4 (by conv => lhs; whnf) hp9 (by with_reducible repeat (first | assumption | (apply lk_last; (try simp only [ll1, ll2, ll3, ll4, lls_len, lls2_len, markL_len]); omega) | apply lk_prev)) (by first | exact seenB_len | exact bitsB_len | rfl | assumption | (simp; done)) (by omega) (by conv => lhs; whnf) (by with_reducible repeat (first | (apply set_last; (try simp only [ll1, ll2, ll3, ll4, lls_len, lls2_len, markL_len]); omega) | (apply set_step; (try simp only [ll1, ll2, ll3, ll4, lls_len, lls2_len, markL_len]); omega) | exact rfl)) ?_)
                refine a_end ?_
                refine awp_region rfl ?_
                refine a_do rfl (o_move (by conv => lhs; whnf) ?_)
                refine a_do rfl (o_add (by conv => lhs; whnf) (by conv => lhs; whnf) (by omega) (by omega) ?_)
                refine a_do rfl (o_assign (by conv => lhs; whnf) ?_)
                refine a_end ?_
                refine ⟨t + 1, ⟨Slots.mk ⟨?_, ?_, ?_, ?_, ?_, ?_, ?_, trivial⟩, ?_, ?_⟩, ?_⟩
                all_goals first | rfl | omega | exact congrArg i64 (by omega) | exact congrArg (sl _) (by rw [← mem_yes hb9]; simp) | exact congrArg (sl _) (by rw [← mem_no hb9]) | (first | ((repeat (first | with_reducible exact Grown.refl _ | first | (rw [← mem_yes hb9, ← free_yes hb9]; exact Grown.refl _) | (rw [← mem_no hb9, ← free_no hb9]; exact Grown.refl _) | with_reducible apply Grown.push)); done) | repeat (first | exact Grown.refl _ | first | (rw [← mem_yes hb9, ← free_yes hb9]; exact Grown.refl _) | (rw [← mem_no hb9, ← free_no hb9]; exact Grown.refl _) | refine Grown.push ?_ _))
              ·
                have hb9 : s.testBit t = false := Bool.eq_false_iff.2 fun e => c7 (bit_is.2 e)
                refine a_end ?_
                refine awp_condF (by conv => lhs; whnf) ?_
                refine awp_skip ?_
                refine awp_region rfl ?_
                refine a_do rfl (o_move (by conv => lhs; whnf) ?_)
                refine a_do rfl (o_add (by conv => lhs; whnf) (by conv => lhs; whnf) (by omega) (by omega) ?_)
                refine a_do rfl (o_assign (by conv => lhs; whnf) ?_)
                refine a_end ?_
                refine ⟨t + 1, ⟨Slots.mk ⟨?_, ?_, ?_, ?_, ?_, ?_, ?_, trivial⟩, ?_, ?_⟩, ?_⟩
                all_goals first | rfl | omega | exact congrArg i64 (by omega) | exact congrArg (sl _) (by rw [← mem_yes hb9]; simp) | exact congrArg (sl _) (by rw [← mem_no hb9]) | (first | ((repeat (first | with_reducible exact Grown.refl _ | first | (rw [← mem_yes hb9, ← free_yes hb9]; exact Grown.refl _) | (rw [← mem_no hb9, ← free_no hb9]; exact Grown.refl _) | with_reducible apply Grown.push)); done) | repeat (first | exact Grown.refl _ | first | (rw [← mem_yes hb9, ← free_yes hb9]; exact Grown.refl _) | (rw [← mem_no hb9, ← free_no hb9]; exact Grown.refl _) | refine Grown.push ?_ _))
            ·
              refine a_end ?_
              refine awp_condF (by conv => lhs; whnf) ?_
              refine awp_exit ?_
              refine awp_seq ?_
              refine awp_region rfl ?_
              obtain rfl : t = xss.length := (by omega)
              refine a_do rfl (o_move (by conv => lhs; whnf) ?_)
              refine a_do rfl (o_move (by conv => lhs; whnf) ?_)
              refine a_do rfl (o_move (by conv => lhs; whnf) ?_)
              refine a_do rfl (o_move (by conv => lhs; whnf) ?_)
              refine a_do rfl (o_callF (lmap_cons (by conv => lhs; whnf) (lmap_cons (by conv => lhs; whnf) (lmap_cons (by conv => lhs; whnf) (lmap_cons (by conv => lhs; whnf) (lmap_cons (by conv => lhs; whnf) (lmap_cons (by conv => lhs; whnf) lmap_nil)))))) (Ret.toB (l05Better0_ret xss.length k4 (memL s xss.length).length k5 ⟨xss, os, memL s xss.length⟩ v w _ _ (by simp only [ll1, ll2, ll3]; omega) (by first | ((with_reducible repeat (first | assumption | (apply lk_last; (try simp only [ll1, ll2, ll3, ll4, lls_len, lls2_len, markL_len]); omega) | apply lk_prev)); done) | repeat (first | assumption | exact lk_last (by (try simp only [ll1, ll2, ll3, ll4, lls_len, lls2_len, markL_len]); omega) | apply lk_prev)) rfl (by first | ((with_reducible repeat (first | assumption | apply Lists.app)); done) | exact lists_nil | repeat (first | with_reducible assumption | exact lls_lists (by (try simp only [ll1, ll2, ll3, ll4, lls_len, lls2_len, markL_len]); omega) rfl | exact lls2_left (by (try simp only [ll1, ll2, ll3, ll4, lls_len, lls2_len, markL_len]); omega) (by first | rfl | exact markL_len | simp) | exact lls2_right (by (try simp only [ll1, ll2, ll3, ll4, lls_len, lls2_len, markL_len]); omega) (by first | rfl | exact markL_len | simp) (by first | rfl | exact markL_len | simp) | with_reducible apply Lists.app)) (by first | ((with_reducible repeat (first | assumption | apply Ints.app)); done) | repeat (first | with_reducible assumption | exact ints_nil | exact Ints.own (by with_reducible repeat (first | assumption | (apply lk_last; (try simp only [ll1, ll2, ll3, ll4, lls_len, lls2_len, markL_len]); omega) | apply lk_prev)) (by first | rfl | exact upto_len | assumption | exact map_len | exact List.length_set | (rw [List.length_set]; assumption)) | exact Ints.tail (by with_reducible repeat (first | assumption | (apply lk_last; (try simp only [ll1, ll2, ll3, ll4, lls_len, lls2_len, markL_len]); omega) | apply lk_prev)) (by first | rfl | exact upto_len | assumption | exact map_len | exact List.length_set | (rw [List.length_set]; assumption)) | with_reducible apply Ints.app | (refine Ints.sub (by with_reducible repeat (first | assumption | apply Ints.app)) (by omega) (by omega) (by omega)))) hb (ok_blk hV) (by omega) (by omega) (freeF s xss.length xss.length) hfn) (fun c10 => ?_) (fun c10 => ?_)))
              ·
                have hg9 : goodS xss os (s : Int) = true := by rw [good_bet hV]; exact c10
                refine a_end ?_
                refine awp_condT (by conv => lhs; whnf) ?_
                refine awp_seq ?_
                refine awp_region rfl ?_
                refine a_do rfl (o_move (by conv => lhs; whnf) ?_)
                refine a_do rfl (o_assign (by conv => lhs; whnf) ?_)
                refine a_do rfl (o_assign (by conv => lhs; whnf) ?_)
                refine a_end ?_
                refine awp_ret ?_
                refine ⟨.inl rfl, [_, _], ⟨ares_tmp (by conv => lhs; whnf), ares_tmp (by conv => lhs; whnf), trivial⟩, ?_⟩
                first | exact .inr ⟨hR, rfl, (by first | ((repeat (first | with_reducible exact Grown.refl _ | with_reducible apply Grown.push)); done) | repeat (first | exact Grown.refl _ | refine Grown.push ?_ _))⟩ | (have hfs : firS xss os = (s : Int) := idxTo_some ha (good_at hsn hg9) _ (by omega); have hbL : blkL xss os = memL s xss.length := (by rw [blkL, hfs]; rfl); rw [hbL]; exact .inl ⟨blk_yes hV hfs, k4, rfl, (by first | ((repeat (first | with_reducible exact Grown.refl _ | with_reducible apply Grown.push)); done) | repeat (first | exact Grown.refl _ | refine Grown.push ?_ _)), (by first | ((with_reducible repeat (first | assumption | (apply lk_last; (try simp only [ll1, ll2, ll3, ll4, lls_len, lls2_len, markL_len]); omega) | apply lk_prev)); done) | repeat (first | assumption | exact lk_last (by (try simp only [ll1, ll2, ll3, ll4, lls_len, lls2_len, markL_len]); omega) | apply lk_prev)), by omega⟩) | (obtain rfl : s = (2 ^ xss.length) := (by omega); exact .inr ⟨blk_no2 ha, rfl, (by first | ((repeat (first | with_reducible exact Grown.refl _ | with_reducible apply Grown.push)); done) | repeat (first | exact Grown.refl _ | refine Grown.push ?_ _))⟩)
              ·
                have hg9 : goodS xss os (s : Int) = false := by rw [good_bet hV]; exact c10
                refine a_end ?_
                refine awp_condF (by conv => lhs; whnf) ?_
                refine awp_skip ?_
                refine awp_region rfl ?_
                refine a_do rfl (o_move (by conv => lhs; whnf) ?_)
                refine a_do rfl (o_add (by conv => lhs; whnf) (by conv => lhs; whnf) (by omega) (by omega) ?_)
                refine a_do rfl (o_assign (by conv => lhs; whnf) ?_)
                refine a_end ?_
                refine ⟨s + 1, ⟨Slots.mk ⟨?_, ?_, ?_, ?_, trivial⟩, ?_, ?_⟩, ?_⟩
                all_goals first | rfl | omega | exact congrArg i64 (by omega) | exact ⟨by omega, by omega, idxTo_none ha (good_at hsn hg9)⟩ | (first | ((repeat (first | with_reducible exact Grown.refl _ | exact Grown.refl _ | with_reducible apply Grown.push)); done) | repeat (first | exact Grown.refl _ | exact Grown.refl _ | refine Grown.push ?_ _))
        ·
          have hsn9 : ¬ s < (2 ^ xss.length) := (by intro hh; have h9 := c3; simp only [one_shl] at h9; exact h9 (Int.ofNat_lt.2 hh))
          refine a_end ?_
          refine awp_condF (by conv => lhs; whnf) ?_
          refine awp_exit ?_
          refine awp_seq ?_
          refine awp_region rfl ?_
          refine a_do rfl (o_assign (by conv => lhs; whnf) ?_)
          refine a_do rfl (o_assign (by conv => lhs; whnf) ?_)
          refine a_end ?_
          refine awp_ret ?_
          refine ⟨.inl rfl, [_, _], ⟨ares_tmp (by conv => lhs; whnf), ares_tmp (by conv => lhs; whnf), trivial⟩, ?_⟩
          first | exact .inr ⟨hR, rfl, (by first | ((repeat (first | with_reducible exact Grown.refl _ | with_reducible apply Grown.push)); done) | repeat (first | exact Grown.refl _ | refine Grown.push ?_ _))⟩ | (have hfs : firS xss os = (s : Int) := idxTo_some ha (good_at hsn hg9) _ (by omega); have hbL : blkL xss os = memL s xss.length := (by rw [blkL, hfs]; rfl); rw [hbL]; exact .inl ⟨blk_yes hV hfs, k0, rfl, (by first | ((repeat (first | with_reducible exact Grown.refl _ | with_reducible apply Grown.push)); done) | repeat (first | exact Grown.refl _ | refine Grown.push ?_ _)), (by first | ((with_reducible repeat (first | assumption | (apply lk_last; (try simp only [ll1, ll2, ll3, ll4, lls_len, lls2_len, markL_len]); omega) | apply lk_prev)); done) | repeat (first | assumption | exact lk_last (by (try simp only [ll1, ll2, ll3, ll4, lls_len, lls2_len, markL_len]); omega) | apply lk_prev)), by omega⟩) | (obtain rfl : s = (2 ^ xss.length) := (by omega); exact .inr ⟨blk_no2 ha, rfl, (by first | ((repeat (first | with_reducible exact Grown.refl _ | with_reducible apply Grown.push)); done) | repeat (first | exact Grown.refl _ | refine Grown.push ?_ _))⟩)
    ·
      have hR := blk_no1 (turnV_noW c2)
      refine a_do rfl (o_notF (by conv => lhs; whnf) ?_)
      refine a_do rfl (o_pickF (by conv => lhs; whnf) (by conv => lhs; whnf) ?_)
      refine a_end ?_
      refine awp_condT (by conv => lhs; whnf) ?_
      refine awp_seq ?_
      refine awp_region rfl ?_
      refine a_do rfl (o_assign (by conv => lhs; whnf) ?_)
      refine a_do rfl (o_assign (by conv => lhs; whnf) ?_)
      refine a_end ?_
      refine awp_ret ?_
      refine ⟨.inl rfl, [_, _], ⟨ares_tmp (by conv => lhs; whnf), ares_tmp (by conv => lhs; whnf), trivial⟩, ?_⟩
      first | exact .inr ⟨hR, rfl, (by first | ((repeat (first | with_reducible exact Grown.refl _ | with_reducible apply Grown.push)); done) | repeat (first | exact Grown.refl _ | refine Grown.push ?_ _))⟩ | (have hfs : firS xss os = (s : Int) := idxTo_some ha (good_at hsn hg9) _ (by omega); have hbL : blkL xss os = memL s xss.length := (by rw [blkL, hfs]; rfl); rw [hbL]; exact .inl ⟨blk_yes hV hfs, k0, rfl, (by first | ((repeat (first | with_reducible exact Grown.refl _ | with_reducible apply Grown.push)); done) | repeat (first | exact Grown.refl _ | refine Grown.push ?_ _)), (by first | ((with_reducible repeat (first | assumption | (apply lk_last; (try simp only [ll1, ll2, ll3, ll4, lls_len, lls2_len, markL_len]); omega) | apply lk_prev)); done) | repeat (first | assumption | exact lk_last (by (try simp only [ll1, ll2, ll3, ll4, lls_len, lls2_len, markL_len]); omega) | apply lk_prev)), by omega⟩) | (obtain rfl : s = (2 ^ xss.length) := (by omega); exact .inr ⟨blk_no2 ha, rfl, (by first | ((repeat (first | with_reducible exact Grown.refl _ | with_reducible apply Grown.push)); done) | repeat (first | exact Grown.refl _ | refine Grown.push ?_ _))⟩)
  ·
    have hR := blk_no1 (turnV_noF (os := os) c1)
    refine a_do rfl (o_notF (by conv => lhs; whnf) ?_)
    refine a_do rfl (o_move (by conv => lhs; whnf) ?_)
    refine a_no rfl ?_
    refine a_no rfl ?_
    refine a_no rfl ?_
    refine a_no rfl ?_
    refine a_do rfl (o_pickT (by conv => lhs; whnf) (by conv => lhs; whnf) ?_)
    refine a_end ?_
    refine awp_condT (by conv => lhs; whnf) ?_
    refine awp_seq ?_
    refine awp_region rfl ?_
    refine a_do rfl (o_assign (by conv => lhs; whnf) ?_)
    refine a_do rfl (o_assign (by conv => lhs; whnf) ?_)
    refine a_end ?_
    refine awp_ret ?_
    refine ⟨.inl rfl, [_, _], ⟨ares_tmp (by conv => lhs; whnf), ares_tmp (by conv => lhs; whnf), trivial⟩, ?_⟩
    first | exact .inr ⟨hR, rfl, (by first | ((repeat (first | with_reducible exact Grown.refl _ | with_reducible apply Grown.push)); done) | repeat (first | exact Grown.refl _ | refine Grown.push ?_ _))⟩ | (have hfs : firS xss os = (s : Int) := idxTo_some ha (good_at hsn hg9) _ (by omega); have hbL : blkL xss os = memL s xss.length := (by rw [blkL, hfs]; rfl); rw [hbL]; exact .inl ⟨blk_yes hV hfs, k0, rfl, (by first | ((repeat (first | with_reducible exact Grown.refl _ | with_reducible apply Grown.push)); done) | repeat (first | exact Grown.refl _ | refine Grown.push ?_ _)), (by first | ((with_reducible repeat (first | assumption | (apply lk_last; (try simp only [ll1, ll2, ll3, ll4, lls_len, lls2_len, markL_len]); omega) | apply lk_prev)); done) | repeat (first | assumption | exact lk_last (by (try simp only [ll1, ll2, ll3, ll4, lls_len, lls2_len, markL_len]); omega) | apply lk_prev)), by omega⟩) | (obtain rfl : s = (2 ^ xss.length) := (by omega); exact .inr ⟨blk_no2 ha, rfl, (by first | ((repeat (first | with_reducible exact Grown.refl _ | with_reducible apply Grown.push)); done) | repeat (first | exact Grown.refl _ | refine Grown.push ?_ _))⟩)

end Go.Am
