/-
  More of what the functions that the law FnExactInCore calls answer.
-/
import Derived.Test.YtbldflekjdlbhaaFnExactInCoreBk1
namespace Go.Am
open Go.Proofs
set_option linter.unusedSimpArgs false
set_option linter.unusedVariables false

set_option maxRecDepth 10000 in
theorem implInCore_ret (p b : Int) (xs ss : List Int) (v w : Value) (h : AHeap) (hv : Ints h v xs) (hw : Ints h w ss) (hl : xs.length ≤ 1073741824) (hl2 : ss.length ≤ 1073741824) : Ret Try.prog 39 [.agg #[i64 p, v], w, i64 b] h (.tuple #[.bool (canW p xs ss b && coreB (compF xs ss b) xs.length), .bool (canW p xs ss b)]) h := by
  refine ret_of (within_tup2 (.prim rfl) (.prim rfl)) ?_
  refine tri_of_body Try.func39 rfl (by kernel_rfl) (by show 3 ≤ 17; decide) ?_
  refine awp_seq ?_
  refine awp_region rfl ?_
  refine a_do rfl (o_boxN (n := 2) (by conv => lhs; whnf) (by exact (rfl : _ = [_, _])) (by rfl) (fun k2 hk2 => ?_))
  try simp at hk2
  refine a_do rfl (o_assign (by conv => lhs; whnf) ?_)
  refine a_do rfl (o_assign (by conv => lhs; whnf) ?_)
  refine a_end ?_
  refine awp_seq ?_
  refine awp_seq ?_
  refine awp_region rfl ?_
  refine a_do rfl (o_loadAgg Try.underlying24 rfl ty24 (by conv => lhs; whnf) (by repeat (first | assumption | exact lk_last (by (try simp only [List.length_append, List.length_cons, List.length_nil, List.length_set]); omega) | apply lk_prev)) (by rfl) (by exact (rfl : _ = [_, _])) (by rfl) ?_)
  refine a_do rfl (o_move (by conv => lhs; whnf) ?_)
  refine a_do rfl (o_move (by conv => lhs; whnf) ?_)
  refine a_do rfl (o_callF (lmap_cons (by conv => lhs; whnf) (lmap_cons (by conv => lhs; whnf) (lmap_cons (by conv => lhs; whnf) lmap_nil))) (Ret.toB (areShares_ret _ _ _ _ _ _ _ (by repeat (first | assumption | exact ints_nil | exact Ints.own (by repeat (first | assumption | exact lk_last (by (try simp only [List.length_append, List.length_cons, List.length_nil, List.length_set]); omega) | apply lk_prev)) (by first | rfl | exact upto_len | assumption | exact map_len) | apply Ints.app | (refine Ints.sub (by repeat (first | assumption | apply Ints.app)) (by omega) (by omega) (by omega)))) (by repeat (first | assumption | exact ints_nil | exact Ints.own (by repeat (first | assumption | exact lk_last (by (try simp only [List.length_append, List.length_cons, List.length_nil, List.length_set]); omega) | apply lk_prev)) (by first | rfl | exact upto_len | assumption | exact map_len) | apply Ints.app | (refine Ints.sub (by repeat (first | assumption | apply Ints.app)) (by omega) (by omega) (by omega)))) (by omega) (by omega)) (fun c3 => ?_) (fun c3 => ?_)))
  ·
    have hC := c3
    obtain ⟨hW, hlen, hall, hbb⟩ := canW_get c3
    have hG := isW_get hW
    refine a_do rfl (o_notT (by conv => lhs; whnf) ?_)
    refine a_end ?_
    refine awp_condF (by conv => lhs; whnf) ?_
    refine awp_skip ?_
    refine awp_seq ?_
    refine awp_region rfl ?_
    refine a_do rfl (o_loadAgg Try.underlying24 rfl ty24 (by conv => lhs; whnf) (by repeat (first | assumption | exact lk_last (by (try simp only [List.length_append, List.length_cons, List.length_nil, List.length_set]); omega) | apply lk_prev)) (by rfl) (by exact (rfl : _ = [_, _])) (by rfl) ?_)
    refine a_do rfl (o_move (by conv => lhs; whnf) ?_)
    refine a_do rfl (o_move (by conv => lhs; whnf) ?_)
    refine a_do rfl (o_callF (lmap_cons (by conv => lhs; whnf) (lmap_cons (by conv => lhs; whnf) (lmap_cons (by conv => lhs; whnf) lmap_nil))) (Ret.toB (inCore_ret _ _ _ _ _ _ _ (by repeat (first | assumption | exact ints_nil | exact Ints.own (by repeat (first | assumption | exact lk_last (by (try simp only [List.length_append, List.length_cons, List.length_nil, List.length_set]); omega) | apply lk_prev)) (by first | rfl | exact upto_len | assumption | exact map_len) | apply Ints.app | (refine Ints.sub (by repeat (first | assumption | apply Ints.app)) (by omega) (by omega) (by omega)))) (by repeat (first | assumption | exact ints_nil | exact Ints.own (by repeat (first | assumption | exact lk_last (by (try simp only [List.length_append, List.length_cons, List.length_nil, List.length_set]); omega) | apply lk_prev)) (by first | rfl | exact upto_len | assumption | exact map_len) | apply Ints.app | (refine Ints.sub (by repeat (first | assumption | apply Ints.app)) (by omega) (by omega) (by omega)))) (by omega) (by omega) (by omega) (by omega) (by omega)) (fun c4 => ?_) (fun c4 => ?_)))
    ·
      refine a_do rfl (o_assign (by conv => lhs; whnf) ?_)
      refine a_do rfl (o_assign (by conv => lhs; whnf) ?_)
      refine a_end ?_
      refine awp_ret ?_
      refine ⟨.inl rfl, [_, _], ⟨ares_tmp (by conv => lhs; whnf), ares_tmp (by conv => lhs; whnf), trivial⟩, ?_⟩
      exact ⟨tup2 (by simp [*]) (by simp [*]), (by repeat (first | exact Grown.refl _ | refine Grown.push ?_ _))⟩
    ·
      refine a_do rfl (o_assign (by conv => lhs; whnf) ?_)
      refine a_do rfl (o_assign (by conv => lhs; whnf) ?_)
      refine a_end ?_
      refine awp_ret ?_
      refine ⟨.inl rfl, [_, _], ⟨ares_tmp (by conv => lhs; whnf), ares_tmp (by conv => lhs; whnf), trivial⟩, ?_⟩
      exact ⟨tup2 (by simp [*]) (by simp [*]), (by repeat (first | exact Grown.refl _ | refine Grown.push ?_ _))⟩
  ·
    refine a_do rfl (o_notF (by conv => lhs; whnf) ?_)
    refine a_end ?_
    refine awp_condT (by conv => lhs; whnf) ?_
    refine awp_seq ?_
    refine awp_region rfl ?_
    refine a_do rfl (o_assign (by conv => lhs; whnf) ?_)
    refine a_do rfl (o_assign (by conv => lhs; whnf) ?_)
    refine a_end ?_
    refine awp_ret ?_
    refine ⟨.inl rfl, [_, _], ⟨ares_tmp (by conv => lhs; whnf), ares_tmp (by conv => lhs; whnf), trivial⟩, ?_⟩
    exact ⟨tup2 (by simp [*]) (by simp [*]), (by repeat (first | exact Grown.refl _ | refine Grown.push ?_ _))⟩

set_option maxRecDepth 10000 in
theorem l03Core_ret (k : Nat) (p b : Int) (xs ss : List Int) (v w : Value) (h : AHeap) (ho : h[k]? = some ⟨[i64 p, v], true, 1⟩) (hv : Ints h v xs) (hw : Ints h w ss) (hl : xs.length ≤ 1073741824) (hl2 : ss.length ≤ 1073741824) (hl64 : xs.length ≤ 64) (hl6 : ss.length ≤ 6) : Ret Try.prog 82 [.pointer (some ⟨k, 0, some 2⟩), w, i64 b] h (.bool (coreB (compF xs ss b) xs.length)) h := by
  refine ret_of (.prim rfl) ?_
  refine tri_of_body Try.func82 rfl (by kernel_rfl) (by show 3 ≤ 39; decide) ?_
  refine awp_seq ?_
  refine awp_region rfl ?_
  refine a_do rfl (o_assign (by conv => lhs; whnf) ?_)
  refine a_end ?_
  refine awp_seq ?_
  refine awp_seq ?_
  refine awp_region rfl ?_
  refine a_do rfl (o_move (by conv => lhs; whnf) ?_)
  refine a_do rfl (o_nilCheck (by conv => lhs; whnf) ?_)
  refine a_do rfl (o_fieldAddr Try.underlying24 rfl ty22 (by conv => lhs; whnf) (by repeat (first | assumption | exact lk_last (by (try simp only [List.length_append, List.length_cons, List.length_nil, List.length_set]); omega) | apply lk_prev)) (by rfl) ?_)
  refine a_do rfl (o_load Try.underlying22 rfl (by conv => lhs; whnf) (by repeat (first | assumption | exact lk_last (by (try simp only [List.length_append, List.length_cons, List.length_nil, List.length_set]); omega) | apply lk_prev)) (by rfl) (by rfl) ?_)
  refine a_do rfl (o_lenI Try.underlying22 (by conv => lhs; whnf) (by repeat (first | assumption | exact ints_nil | exact Ints.own (by repeat (first | assumption | exact lk_last (by (try simp only [List.length_append, List.length_cons, List.length_nil, List.length_set]); omega) | apply lk_prev)) (by first | rfl | exact upto_len | assumption | exact map_len) | apply Ints.app | (refine Ints.sub (by repeat (first | assumption | apply Ints.app)) (by omega) (by omega) (by omega)))) ?_)
  refine a_do rfl (o_move (by conv => lhs; whnf) ?_)
  refine a_end ?_
  refine awp_block ?_
  refine awp_loop (σ := Nat) (fun s env1 h1 => Slots env1 [(0, .pointer (some ⟨k, 0, some 2⟩)), (1, w), (2, i64 b), (13, i64 xs.length), (14, i64 s)] ∧ h1 = h ∧ s ≤ xs.length ∧ (List.range s).all (fun t => decide ((compF xs ss b) t ≤ 0 ∧ (t + 1 = xs.length → (compF xs ss b) t = 0))) = true) (fun s => xs.length - s) 0 ?_ ?_
  · refine ⟨Slots.mk ⟨?_, ?_, ?_, ?_, ?_, trivial⟩, ?_, ?_⟩
    all_goals first | rfl | (simp; done) | exact ⟨by omega, rfl⟩
  · intro s env1 h1 hI1
    obtain ⟨⟨e1, rfl⟩, rfl, ⟨hs, ha⟩⟩ := hI1
    refine awp_seq ?_
    refine awp_region rfl ?_
    refine a_do rfl (o_lss (by conv => lhs; whnf) (by conv => lhs; whnf) (fun c1 => ?_) (fun c1 => ?_))
    ·
      refine a_end ?_
      refine awp_seq ?_
      refine awp_condT (by conv => lhs; whnf) ?_
      refine awp_skip ?_
      refine awp_seq ?_
      refine awp_block ?_
      refine awp_seq ?_
      refine awp_region rfl ?_
      refine a_do rfl (o_move (by conv => lhs; whnf) ?_)
      refine a_do rfl (o_assign (by conv => lhs; whnf) ?_)
      refine a_end ?_
      refine awp_seq ?_
      refine awp_region rfl ?_
      refine a_do rfl (o_move (by conv => lhs; whnf) ?_)
      refine a_do rfl (o_move (by conv => lhs; whnf) ?_)
      refine a_do rfl (o_move (by conv => lhs; whnf) ?_)
      refine a_do rfl (o_move (by conv => lhs; whnf) ?_)
      refine a_do rfl (o_callF (lmap_cons (by conv => lhs; whnf) (lmap_cons (by conv => lhs; whnf) (lmap_cons (by conv => lhs; whnf) (lmap_cons (by conv => lhs; whnf) lmap_nil)))) (Ret.to (l03Complaint_ret _ _ _ _ _ _ _ _ _ _ (by repeat (first | assumption | exact lk_last (by (try simp only [List.length_append, List.length_cons, List.length_nil, List.length_set]); omega) | apply lk_prev)) (by repeat (first | assumption | exact ints_nil | exact Ints.own (by repeat (first | assumption | exact lk_last (by (try simp only [List.length_append, List.length_cons, List.length_nil, List.length_set]); omega) | apply lk_prev)) (by first | rfl | exact upto_len | assumption | exact map_len) | apply Ints.app | (refine Ints.sub (by repeat (first | assumption | apply Ints.app)) (by omega) (by omega) (by omega)))) (by repeat (first | assumption | exact ints_nil | exact Ints.own (by repeat (first | assumption | exact lk_last (by (try simp only [List.length_append, List.length_cons, List.length_nil, List.length_set]); omega) | apply lk_prev)) (by first | rfl | exact upto_len | assumption | exact map_len) | apply Ints.app | (refine Ints.sub (by repeat (first | assumption | apply Ints.app)) (by omega) (by omega) (by omega)))) (by omega) (by omega) rfl (by omega) (by omega) (by omega)) ?_))
      refine a_do rfl (o_assign (by conv => lhs; whnf) ?_)
      refine a_end ?_
      refine awp_seq ?_
      refine awp_region rfl ?_
      refine a_do rfl (o_move (by conv => lhs; whnf) ?_)
      refine a_do rfl (o_gtr (by conv => lhs; whnf) (by conv => lhs; whnf) (fun c2 => ?_) (fun c2 => ?_))
      ·
        refine a_do rfl (o_move (by conv => lhs; whnf) ?_)
        refine a_no rfl ?_
        refine a_no rfl ?_
        refine a_no rfl ?_
        refine a_no rfl ?_
        refine a_no rfl ?_
        refine a_no rfl ?_
        refine a_no rfl ?_
        refine a_no rfl ?_
        refine a_no rfl ?_
        refine a_no rfl ?_
        refine a_no rfl ?_
        refine a_no rfl ?_
        refine a_do rfl (o_pickT (by conv => lhs; whnf) (by conv => lhs; whnf) ?_)
        refine a_end ?_
        refine awp_condT (by conv => lhs; whnf) ?_
        refine awp_seq ?_
        refine awp_region rfl ?_
        refine a_do rfl (o_assign (by conv => lhs; whnf) ?_)
        refine a_end ?_
        refine awp_ret ?_
        refine ⟨.inl rfl, [_], ⟨ares_tmp (by conv => lhs; whnf), trivial⟩, ?_⟩
        exact ⟨congrArg Value.bool (by first | (obtain rfl : s = xs.length := (by omega); exact ha.symm) | exact (coreB_no (s := s) (by omega) (by omega)).symm), (by repeat (first | exact Grown.refl _ | refine Grown.push ?_ _))⟩
      ·
        refine a_do rfl (o_move (by conv => lhs; whnf) ?_)
        refine a_do rfl (o_move (by conv => lhs; whnf) ?_)
        refine a_do rfl (o_move (by conv => lhs; whnf) ?_)
        refine a_do rfl (o_nilCheck (by conv => lhs; whnf) ?_)
        refine a_do rfl (o_fieldAddr Try.underlying24 rfl ty22 (by conv => lhs; whnf) (by repeat (first | assumption | exact lk_last (by (try simp only [List.length_append, List.length_cons, List.length_nil, List.length_set]); omega) | apply lk_prev)) (by rfl) ?_)
        refine a_do rfl (o_load Try.underlying22 rfl (by conv => lhs; whnf) (by repeat (first | assumption | exact lk_last (by (try simp only [List.length_append, List.length_cons, List.length_nil, List.length_set]); omega) | apply lk_prev)) (by rfl) (by rfl) ?_)
        refine a_do rfl (o_lenI Try.underlying22 (by conv => lhs; whnf) (by repeat (first | assumption | exact ints_nil | exact Ints.own (by repeat (first | assumption | exact lk_last (by (try simp only [List.length_append, List.length_cons, List.length_nil, List.length_set]); omega) | apply lk_prev)) (by first | rfl | exact upto_len | assumption | exact map_len) | apply Ints.app | (refine Ints.sub (by repeat (first | assumption | apply Ints.app)) (by omega) (by omega) (by omega)))) ?_)
        refine a_do rfl (o_sub (by conv => lhs; whnf) (by conv => lhs; whnf) (by omega) (by omega) ?_)
        refine a_do rfl (o_eql (by conv => lhs; whnf) (by conv => lhs; whnf) (fun c3 => ?_) (fun c3 => ?_))
        ·
          refine a_do rfl (o_move (by conv => lhs; whnf) ?_)
          refine a_do rfl (o_move (by conv => lhs; whnf) ?_)
          refine a_do rfl (o_neq (by conv => lhs; whnf) (by conv => lhs; whnf) (fun c4 => ?_) (fun c4 => ?_))
          ·
            refine a_do rfl (o_pickT (by conv => lhs; whnf) (by conv => lhs; whnf) ?_)
            refine a_do rfl (o_pickF (by conv => lhs; whnf) (by conv => lhs; whnf) ?_)
            refine a_end ?_
            refine awp_condT (by conv => lhs; whnf) ?_
            refine awp_seq ?_
            refine awp_region rfl ?_
            refine a_do rfl (o_assign (by conv => lhs; whnf) ?_)
            refine a_end ?_
            refine awp_ret ?_
            refine ⟨.inl rfl, [_], ⟨ares_tmp (by conv => lhs; whnf), trivial⟩, ?_⟩
            exact ⟨congrArg Value.bool (by first | (obtain rfl : s = xs.length := (by omega); exact ha.symm) | exact (coreB_no (s := s) (by omega) (by omega)).symm), (by repeat (first | exact Grown.refl _ | refine Grown.push ?_ _))⟩
          ·
            refine a_do rfl (o_pickT (by conv => lhs; whnf) (by conv => lhs; whnf) ?_)
            refine a_do rfl (o_pickF (by conv => lhs; whnf) (by conv => lhs; whnf) ?_)
            refine a_end ?_
            refine awp_condF (by conv => lhs; whnf) ?_
            refine awp_skip ?_
            refine awp_region rfl ?_
            refine a_do rfl (o_add (by conv => lhs; whnf) (by conv => lhs; whnf) (by omega) (by omega) ?_)
            refine a_do rfl (o_move (by conv => lhs; whnf) ?_)
            refine a_end ?_
            refine ⟨s + 1, ⟨Slots.mk ⟨?_, ?_, ?_, ?_, ?_, trivial⟩, ?_, ?_⟩, ?_⟩
            all_goals first | rfl | omega | exact congrArg i64 (by omega) | exact ⟨by omega, coreB_step ha (by omega) (by omega)⟩
        ·
          refine a_do rfl (o_move (by conv => lhs; whnf) ?_)
          refine a_no rfl ?_
          refine a_no rfl ?_
          refine a_do rfl (o_pickF (by conv => lhs; whnf) (by conv => lhs; whnf) ?_)
          refine a_do rfl (o_pickF (by conv => lhs; whnf) (by conv => lhs; whnf) ?_)
          refine a_end ?_
          refine awp_condF (by conv => lhs; whnf) ?_
          refine awp_skip ?_
          refine awp_region rfl ?_
          refine a_do rfl (o_add (by conv => lhs; whnf) (by conv => lhs; whnf) (by omega) (by omega) ?_)
          refine a_do rfl (o_move (by conv => lhs; whnf) ?_)
          refine a_end ?_
          refine ⟨s + 1, ⟨Slots.mk ⟨?_, ?_, ?_, ?_, ?_, trivial⟩, ?_, ?_⟩, ?_⟩
          all_goals first | rfl | omega | exact congrArg i64 (by omega) | exact ⟨by omega, coreB_step ha (by omega) (by omega)⟩
    ·
      refine a_end ?_
      refine awp_seq ?_
      refine awp_condF (by conv => lhs; whnf) ?_
      refine awp_exit ?_
      refine awp_seq ?_
      refine awp_region rfl ?_
      refine a_do rfl (o_assign (by conv => lhs; whnf) ?_)
      refine a_end ?_
      refine awp_ret ?_
      refine ⟨.inl rfl, [_], ⟨ares_tmp (by conv => lhs; whnf), trivial⟩, ?_⟩
      exact ⟨congrArg Value.bool (by first | (obtain rfl : s = xs.length := (by omega); exact ha.symm) | exact (coreB_no (s := s) (by omega) (by omega)).symm), (by repeat (first | exact Grown.refl _ | refine Grown.push ?_ _))⟩

set_option maxRecDepth 10000 in
theorem specInCore_ret (p b : Int) (xs ss : List Int) (v w : Value) (h : AHeap) (hv : Ints h v xs) (hw : Ints h w ss) (hl : xs.length ≤ 1073741824) (hl2 : ss.length ≤ 1073741824) : Ret Try.prog 38 [.agg #[i64 p, v], w, i64 b] h (.tuple #[.bool (canW p xs ss b && coreB (compF xs ss b) xs.length), .bool (canW p xs ss b)]) h := by
  refine ret_of (within_tup2 (.prim rfl) (.prim rfl)) ?_
  refine tri_of_body Try.func38 rfl (by kernel_rfl) (by show 3 ≤ 15; decide) ?_
  refine awp_seq ?_
  refine awp_region rfl ?_
  refine a_do rfl (o_boxN (n := 2) (by conv => lhs; whnf) (by exact (rfl : _ = [_, _])) (by rfl) (fun k2 hk2 => ?_))
  try simp at hk2
  refine a_do rfl (o_assign (by conv => lhs; whnf) ?_)
  refine a_do rfl (o_assign (by conv => lhs; whnf) ?_)
  refine a_end ?_
  refine awp_seq ?_
  refine awp_seq ?_
  refine awp_region rfl ?_
  refine a_do rfl (o_move (by conv => lhs; whnf) ?_)
  refine a_do rfl (o_move (by conv => lhs; whnf) ?_)
  refine a_do rfl (o_callF (lmap_cons (by conv => lhs; whnf) (lmap_cons (by conv => lhs; whnf) (lmap_cons (by conv => lhs; whnf) lmap_nil))) (Ret.toB (l03Can_ret _ _ _ _ _ _ _ _ (by repeat (first | assumption | exact lk_last (by (try simp only [List.length_append, List.length_cons, List.length_nil, List.length_set]); omega) | apply lk_prev)) (by repeat (first | assumption | exact ints_nil | exact Ints.own (by repeat (first | assumption | exact lk_last (by (try simp only [List.length_append, List.length_cons, List.length_nil, List.length_set]); omega) | apply lk_prev)) (by first | rfl | exact upto_len | assumption | exact map_len) | apply Ints.app | (refine Ints.sub (by repeat (first | assumption | apply Ints.app)) (by omega) (by omega) (by omega)))) (by repeat (first | assumption | exact ints_nil | exact Ints.own (by repeat (first | assumption | exact lk_last (by (try simp only [List.length_append, List.length_cons, List.length_nil, List.length_set]); omega) | apply lk_prev)) (by first | rfl | exact upto_len | assumption | exact map_len) | apply Ints.app | (refine Ints.sub (by repeat (first | assumption | apply Ints.app)) (by omega) (by omega) (by omega)))) (by omega) (by omega)) (fun c3 => ?_) (fun c3 => ?_)))
  ·
    have hC := c3
    obtain ⟨hW, hlen, hall, hbb⟩ := canW_get c3
    have hG := isW_get hW
    refine a_do rfl (o_notT (by conv => lhs; whnf) ?_)
    refine a_end ?_
    refine awp_condF (by conv => lhs; whnf) ?_
    refine awp_skip ?_
    refine awp_seq ?_
    refine awp_region rfl ?_
    refine a_do rfl (o_move (by conv => lhs; whnf) ?_)
    refine a_do rfl (o_move (by conv => lhs; whnf) ?_)
    refine a_do rfl (o_callF (lmap_cons (by conv => lhs; whnf) (lmap_cons (by conv => lhs; whnf) (lmap_cons (by conv => lhs; whnf) lmap_nil))) (Ret.toB (l03Core_ret _ _ _ _ _ _ _ _ (by repeat (first | assumption | exact lk_last (by (try simp only [List.length_append, List.length_cons, List.length_nil, List.length_set]); omega) | apply lk_prev)) (by repeat (first | assumption | exact ints_nil | exact Ints.own (by repeat (first | assumption | exact lk_last (by (try simp only [List.length_append, List.length_cons, List.length_nil, List.length_set]); omega) | apply lk_prev)) (by first | rfl | exact upto_len | assumption | exact map_len) | apply Ints.app | (refine Ints.sub (by repeat (first | assumption | apply Ints.app)) (by omega) (by omega) (by omega)))) (by repeat (first | assumption | exact ints_nil | exact Ints.own (by repeat (first | assumption | exact lk_last (by (try simp only [List.length_append, List.length_cons, List.length_nil, List.length_set]); omega) | apply lk_prev)) (by first | rfl | exact upto_len | assumption | exact map_len) | apply Ints.app | (refine Ints.sub (by repeat (first | assumption | apply Ints.app)) (by omega) (by omega) (by omega)))) (by omega) (by omega) (by omega) (by omega)) (fun c4 => ?_) (fun c4 => ?_)))
    ·
      refine a_do rfl (o_assign (by conv => lhs; whnf) ?_)
      refine a_do rfl (o_assign (by conv => lhs; whnf) ?_)
      refine a_end ?_
      refine awp_ret ?_
      refine ⟨.inl rfl, [_, _], ⟨ares_tmp (by conv => lhs; whnf), ares_tmp (by conv => lhs; whnf), trivial⟩, ?_⟩
      exact ⟨tup2 (by simp [*]) (by simp [*]), (by repeat (first | exact Grown.refl _ | refine Grown.push ?_ _))⟩
    ·
      refine a_do rfl (o_assign (by conv => lhs; whnf) ?_)
      refine a_do rfl (o_assign (by conv => lhs; whnf) ?_)
      refine a_end ?_
      refine awp_ret ?_
      refine ⟨.inl rfl, [_, _], ⟨ares_tmp (by conv => lhs; whnf), ares_tmp (by conv => lhs; whnf), trivial⟩, ?_⟩
      exact ⟨tup2 (by simp [*]) (by simp [*]), (by repeat (first | exact Grown.refl _ | refine Grown.push ?_ _))⟩
  ·
    refine a_do rfl (o_notF (by conv => lhs; whnf) ?_)
    refine a_end ?_
    refine awp_condT (by conv => lhs; whnf) ?_
    refine awp_seq ?_
    refine awp_region rfl ?_
    refine a_do rfl (o_assign (by conv => lhs; whnf) ?_)
    refine a_do rfl (o_assign (by conv => lhs; whnf) ?_)
    refine a_end ?_
    refine awp_ret ?_
    refine ⟨.inl rfl, [_, _], ⟨ares_tmp (by conv => lhs; whnf), ares_tmp (by conv => lhs; whnf), trivial⟩, ?_⟩
    exact ⟨tup2 (by simp [*]) (by simp [*]), (by repeat (first | exact Grown.refl _ | refine Grown.push ?_ _))⟩

end Go.Am
