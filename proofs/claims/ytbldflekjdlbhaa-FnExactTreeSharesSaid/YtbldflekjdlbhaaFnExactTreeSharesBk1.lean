/-
  What the functions that the law FnExactTreeShares calls answer, each over an abstract heap, for every input.
-/
import Derived.Test.YtbldflekjdlbhaaAmLib9
import Derived.Test.YtbldflekjdlbhaaProg
import Derived.KernelRfl
namespace Go.Am
open Go.Proofs
set_option linter.unusedSimpArgs false
set_option linter.unusedVariables false
theorem Try_mixed : Try.prog.follows .mixedOrders = true := by kernel_rfl
theorem ty2 : InfoIs Try.prog 2 (i64 0) 1 8 := by unfold InfoIs; kernel_rfl
theorem ty4 : InfoIs Try.prog 4 (.bool false) 1 1 := by unfold InfoIs; kernel_rfl

set_option maxRecDepth 10000 in
theorem within_ret (n lo hi : Int) (h : AHeap) : Ret Try.prog 85 [i64 n, i64 lo, i64 hi] h (.bool (decide (lo ≤ n ∧ n ≤ hi))) h := by
  refine ret_of (.prim rfl) ?_
  refine tri_of_body Try.func85 rfl (by kernel_rfl) (by show 3 ≤ 15; decide) ?_
  refine awp_seq ?_
  refine awp_region rfl ?_
  refine a_do rfl (o_assign (by conv => lhs; whnf) ?_)
  refine a_end ?_
  refine awp_seq ?_
  refine awp_region rfl ?_
  refine a_do rfl (o_move (by conv => lhs; whnf) ?_)
  refine a_do rfl (o_move (by conv => lhs; whnf) ?_)
  refine a_do rfl (o_geq (by conv => lhs; whnf) (by conv => lhs; whnf) (fun c1 => ?_) (fun c1 => ?_))
  ·
    refine a_do rfl (o_move (by conv => lhs; whnf) ?_)
    refine a_do rfl (o_move (by conv => lhs; whnf) ?_)
    refine a_do rfl (o_move (by conv => lhs; whnf) ?_)
    refine a_do rfl (o_leq (by conv => lhs; whnf) (by conv => lhs; whnf) (fun c2 => ?_) (fun c2 => ?_))
    ·
      refine a_do rfl (o_pickT (by conv => lhs; whnf) (by conv => lhs; whnf) ?_)
      refine a_do rfl (o_assign (by conv => lhs; whnf) ?_)
      refine a_end ?_
      refine awp_ret ?_
      refine ⟨.inl rfl, [_], ⟨ares_tmp (by conv => lhs; whnf), trivial⟩, ?_⟩
      exact ⟨by first | rfl | (simp only [packR_one, *]; done) | (simp only [packR_one, *]; rfl) | (simp [*]; done) | (simp_all; done), (by repeat (first | exact Grown.refl _ | refine Grown.push ?_ _))⟩
    ·
      refine a_do rfl (o_pickT (by conv => lhs; whnf) (by conv => lhs; whnf) ?_)
      refine a_do rfl (o_assign (by conv => lhs; whnf) ?_)
      refine a_end ?_
      refine awp_ret ?_
      refine ⟨.inl rfl, [_], ⟨ares_tmp (by conv => lhs; whnf), trivial⟩, ?_⟩
      exact ⟨by first | rfl | (simp only [packR_one, *]; done) | (simp only [packR_one, *]; rfl) | (simp [*]; done) | (simp_all; done), (by repeat (first | exact Grown.refl _ | refine Grown.push ?_ _))⟩
  ·
    refine a_do rfl (o_move (by conv => lhs; whnf) ?_)
    refine a_no rfl ?_
    refine a_no rfl ?_
    refine a_no rfl ?_
    refine a_do rfl (o_pickF (by conv => lhs; whnf) (by conv => lhs; whnf) ?_)
    refine a_do rfl (o_assign (by conv => lhs; whnf) ?_)
    refine a_end ?_
    refine awp_ret ?_
    refine ⟨.inl rfl, [_], ⟨ares_tmp (by conv => lhs; whnf), trivial⟩, ?_⟩
    exact ⟨by first | rfl | (simp only [packR_one, *]; done) | (simp only [packR_one, *]; rfl) | (simp [*]; done) | (simp_all; done), (by repeat (first | exact Grown.refl _ | refine Grown.push ?_ _))⟩

set_option maxRecDepth 10000 in
theorem l00In_ret (n lo hi : Int) (h : AHeap) : Ret Try.prog 60 [i64 n, i64 lo, i64 hi] h (.bool (decide (lo ≤ n ∧ n ≤ hi))) h := by
  refine ret_of (.prim rfl) ?_
  refine tri_of_body Try.func60 rfl (by kernel_rfl) (by show 3 ≤ 15; decide) ?_
  refine awp_seq ?_
  refine awp_region rfl ?_
  refine a_do rfl (o_assign (by conv => lhs; whnf) ?_)
  refine a_end ?_
  refine awp_seq ?_
  refine awp_region rfl ?_
  refine a_do rfl (o_move (by conv => lhs; whnf) ?_)
  refine a_do rfl (o_move (by conv => lhs; whnf) ?_)
  refine a_do rfl (o_geq (by conv => lhs; whnf) (by conv => lhs; whnf) (fun c1 => ?_) (fun c1 => ?_))
  ·
    refine a_do rfl (o_move (by conv => lhs; whnf) ?_)
    refine a_do rfl (o_move (by conv => lhs; whnf) ?_)
    refine a_do rfl (o_move (by conv => lhs; whnf) ?_)
    refine a_do rfl (o_leq (by conv => lhs; whnf) (by conv => lhs; whnf) (fun c2 => ?_) (fun c2 => ?_))
    ·
      refine a_do rfl (o_pickT (by conv => lhs; whnf) (by conv => lhs; whnf) ?_)
      refine a_do rfl (o_assign (by conv => lhs; whnf) ?_)
      refine a_end ?_
      refine awp_ret ?_
      refine ⟨.inl rfl, [_], ⟨ares_tmp (by conv => lhs; whnf), trivial⟩, ?_⟩
      exact ⟨by first | rfl | (simp only [packR_one, *]; done) | (simp only [packR_one, *]; rfl) | (simp [*]; done) | (simp_all; done), (by repeat (first | exact Grown.refl _ | refine Grown.push ?_ _))⟩
    ·
      refine a_do rfl (o_pickT (by conv => lhs; whnf) (by conv => lhs; whnf) ?_)
      refine a_do rfl (o_assign (by conv => lhs; whnf) ?_)
      refine a_end ?_
      refine awp_ret ?_
      refine ⟨.inl rfl, [_], ⟨ares_tmp (by conv => lhs; whnf), trivial⟩, ?_⟩
      exact ⟨by first | rfl | (simp only [packR_one, *]; done) | (simp only [packR_one, *]; rfl) | (simp [*]; done) | (simp_all; done), (by repeat (first | exact Grown.refl _ | refine Grown.push ?_ _))⟩
  ·
    refine a_do rfl (o_move (by conv => lhs; whnf) ?_)
    refine a_no rfl ?_
    refine a_no rfl ?_
    refine a_no rfl ?_
    refine a_do rfl (o_pickF (by conv => lhs; whnf) (by conv => lhs; whnf) ?_)
    refine a_do rfl (o_assign (by conv => lhs; whnf) ?_)
    refine a_end ?_
    refine awp_ret ?_
    refine ⟨.inl rfl, [_], ⟨ares_tmp (by conv => lhs; whnf), trivial⟩, ?_⟩
    exact ⟨by first | rfl | (simp only [packR_one, *]; done) | (simp only [packR_one, *]; rfl) | (simp [*]; done) | (simp_all; done), (by repeat (first | exact Grown.refl _ | refine Grown.push ?_ _))⟩

set_option maxRecDepth 10000 in
theorem areWithin_ret (lo hi : Int) (xs : List Int) (v : Value) (h : AHeap) (hv : Ints h v xs) (hl : xs.length ≤ 1073741824) : Ret Try.prog 69 [v, i64 lo, i64 hi] h (.bool (xs.all fun n => decide (lo ≤ n ∧ n ≤ hi))) h := by
  refine ret_of (.prim rfl) ?_
  refine tri_of_body Try.func69 rfl (by kernel_rfl) (by show 3 ≤ 21; decide) ?_
  refine awp_seq ?_
  refine awp_region rfl ?_
  refine a_do rfl (o_assign (by conv => lhs; whnf) ?_)
  refine a_end ?_
  refine awp_seq ?_
  refine awp_seq ?_
  refine awp_region rfl ?_
  refine a_do rfl (o_move (by conv => lhs; whnf) ?_)
  refine a_do rfl (o_lenI Try.underlying22 (by conv => lhs; whnf) (by repeat (first | assumption | exact ints_nil | exact Ints.own (by repeat (first | assumption | exact lk_last (by (try simp only [List.length_append, List.length_cons, List.length_nil, List.length_set]); omega) | apply lk_prev)) (by first | rfl | exact upto_len | assumption | exact map_len | exact List.length_set) | exact Ints.tail (by repeat (first | assumption | exact lk_last (by (try simp only [List.length_append, List.length_cons, List.length_nil, List.length_set]); omega) | apply lk_prev)) (by first | rfl | exact upto_len | assumption | exact map_len | exact List.length_set) | apply Ints.app | (refine Ints.sub (by repeat (first | assumption | apply Ints.app)) (by omega) (by omega) (by omega)))) ?_)
  refine a_do rfl (o_move (by conv => lhs; whnf) ?_)
  refine a_end ?_
  refine awp_block ?_
  refine awp_loop (σ := Nat) (fun s env1 h1 => Slots env1 [(1, i64 lo), (2, i64 hi), (9, v), (10, i64 xs.length), (11, i64 s)] ∧ h1 = h ∧ s ≤ xs.length ∧ (xs.take s).all (fun n => decide (lo ≤ n ∧ n ≤ hi)) = true) (fun s => xs.length - s) 0 ?_ ?_
  · refine ⟨Slots.mk ⟨?_, ?_, ?_, ?_, ?_, trivial⟩, ?_, ?_⟩
    all_goals first | rfl | simp
  · intro s env1 h1 hI1
    obtain ⟨⟨e1, rfl⟩, rfl, ⟨hs, ha⟩⟩ := hI1
    refine awp_seq ?_
    refine awp_region rfl ?_
    refine a_do rfl (o_lss (by conv => lhs; whnf) (by conv => lhs; whnf) (fun c1 => ?_) (fun c1 => ?_))
    ·
      refine a_end ?_
      refine awp_seq ?_
      refine awp_condT (by conv => lhs; whnf) ?_
      refine awp_skip ?_
      refine awp_seq ?_
      refine awp_block ?_
      refine awp_seq ?_
      refine awp_region rfl ?_
      first | refine a_do rfl (o_indexI Try.underlying22 ty2 (by conv => lhs; whnf) (by repeat (first | assumption | exact ints_nil | exact Ints.own (by repeat (first | assumption | exact lk_last (by (try simp only [List.length_append, List.length_cons, List.length_nil, List.length_set]); omega) | apply lk_prev)) (by first | rfl | exact upto_len | assumption | exact map_len | exact List.length_set) | exact Ints.tail (by repeat (first | assumption | exact lk_last (by (try simp only [List.length_append, List.length_cons, List.length_nil, List.length_set]); omega) | apply lk_prev)) (by first | rfl | exact upto_len | assumption | exact map_len | exact List.length_set) | apply Ints.app | (refine Ints.sub (by repeat (first | assumption | apply Ints.app)) (by omega) (by omega) (by omega)))) (by conv => lhs; whnf) (by omega) (fun p2 hp2 => ?_)) | refine a_do rfl (o_indexZ Try.underlying22 ty2 (by conv => lhs; whnf) (by repeat (first | assumption | exact ints_nil | exact Ints.own (by repeat (first | assumption | exact lk_last (by (try simp only [List.length_append, List.length_cons, List.length_nil, List.length_set]); omega) | apply lk_prev)) (by first | rfl | exact upto_len | assumption | exact map_len | exact List.length_set) | exact Ints.tail (by repeat (first | assumption | exact lk_last (by (try simp only [List.length_append, List.length_cons, List.length_nil, List.length_set]); omega) | apply lk_prev)) (by first | rfl | exact upto_len | assumption | exact map_len | exact List.length_set) | apply Ints.app | (refine Ints.sub (by repeat (first | assumption | apply Ints.app)) (by omega) (by omega) (by omega)))) (by conv => lhs; whnf) (by omega) (by omega) (fun p2 hp2 => ?_))
      refine a_do rfl (o_loadI Try.underlying2 rfl (by conv => lhs; whnf) hp2 (by repeat (first | assumption | exact ints_nil | exact Ints.own (by repeat (first | assumption | exact lk_last (by (try simp only [List.length_append, List.length_cons, List.length_nil, List.length_set]); omega) | apply lk_prev)) (by first | rfl | exact upto_len | assumption | exact map_len | exact List.length_set) | exact Ints.tail (by repeat (first | assumption | exact lk_last (by (try simp only [List.length_append, List.length_cons, List.length_nil, List.length_set]); omega) | apply lk_prev)) (by first | rfl | exact upto_len | assumption | exact map_len | exact List.length_set) | apply Ints.app | (refine Ints.sub (by repeat (first | assumption | apply Ints.app)) (by omega) (by omega) (by omega)))) (by omega) ?_)
      refine a_do rfl (o_assign (by conv => lhs; whnf) ?_)
      refine a_end ?_
      refine awp_seq ?_
      refine awp_region rfl ?_
      refine a_do rfl (o_move (by conv => lhs; whnf) ?_)
      refine a_do rfl (o_move (by conv => lhs; whnf) ?_)
      refine a_do rfl (o_move (by conv => lhs; whnf) ?_)
      refine a_do rfl (o_callF (lmap_cons (by conv => lhs; whnf) (lmap_cons (by conv => lhs; whnf) (lmap_cons (by conv => lhs; whnf) lmap_nil))) (Ret.toB (within_ret _ _ _ _) (fun c3 => ?_) (fun c3 => ?_)))
      ·
        refine a_do rfl (o_notT (by conv => lhs; whnf) ?_)
        refine a_end ?_
        refine awp_condF (by conv => lhs; whnf) ?_
        refine awp_skip ?_
        refine awp_region rfl ?_
        refine a_do rfl (o_add (by conv => lhs; whnf) (by conv => lhs; whnf) (by omega) (by omega) ?_)
        refine a_do rfl (o_move (by conv => lhs; whnf) ?_)
        refine a_end ?_
        refine ⟨s + 1, ⟨Slots.mk ⟨?_, ?_, ?_, ?_, ?_, trivial⟩, ?_, ?_⟩, ?_⟩
        all_goals first | rfl | omega | exact ⟨by omega, all_take_step (by omega) ha ‹_›⟩
      ·
        refine a_do rfl (o_notF (by conv => lhs; whnf) ?_)
        refine a_end ?_
        refine awp_condT (by conv => lhs; whnf) ?_
        refine awp_seq ?_
        refine awp_region rfl ?_
        refine a_do rfl (o_assign (by conv => lhs; whnf) ?_)
        refine a_end ?_
        refine awp_ret ?_
        refine ⟨.inl rfl, [_], ⟨ares_tmp (by conv => lhs; whnf), trivial⟩, ?_⟩
        exact ⟨congrArg Value.bool (by first | (rw [all_take_full (by omega) ha]) | (rw [all_false (k := s) (by omega) ‹_›])), Grown.refl _⟩
    ·
      refine a_end ?_
      refine awp_seq ?_
      refine awp_condF (by conv => lhs; whnf) ?_
      refine awp_exit ?_
      refine awp_seq ?_
      refine awp_region rfl ?_
      refine a_do rfl (o_assign (by conv => lhs; whnf) ?_)
      refine a_end ?_
      refine awp_ret ?_
      refine ⟨.inl rfl, [_], ⟨ares_tmp (by conv => lhs; whnf), trivial⟩, ?_⟩
      exact ⟨congrArg Value.bool (by first | (rw [all_take_full (by omega) ha]) | (rw [all_false (k := s) (by omega) ‹_›])), Grown.refl _⟩

set_option maxRecDepth 10000 in
theorem areMany_ret (a b lo hi : Int) (xs : List Int) (v : Value) (h : AHeap) (hv : Ints h v xs) (hl : xs.length ≤ 1073741824) : Ret Try.prog 90 [v, i64 a, i64 b, i64 lo, i64 hi] h (.bool (decide (a ≤ xs.length ∧ xs.length ≤ b) && xs.all fun n => decide (lo ≤ n ∧ n ≤ hi))) h := by
  refine ret_of (.prim rfl) ?_
  refine tri_of_body Try.func90 rfl (by kernel_rfl) (by show 5 ≤ 22; decide) ?_
  refine awp_seq ?_
  refine awp_region rfl ?_
  refine a_do rfl (o_assign (by conv => lhs; whnf) ?_)
  refine a_end ?_
  refine awp_seq ?_
  refine awp_region rfl ?_
  refine a_do rfl (o_move (by conv => lhs; whnf) ?_)
  refine a_do rfl (o_lenI Try.underlying22 (by conv => lhs; whnf) (by repeat (first | assumption | exact ints_nil | exact Ints.own (by repeat (first | assumption | exact lk_last (by (try simp only [List.length_append, List.length_cons, List.length_nil, List.length_set]); omega) | apply lk_prev)) (by first | rfl | exact upto_len | assumption | exact map_len | exact List.length_set) | exact Ints.tail (by repeat (first | assumption | exact lk_last (by (try simp only [List.length_append, List.length_cons, List.length_nil, List.length_set]); omega) | apply lk_prev)) (by first | rfl | exact upto_len | assumption | exact map_len | exact List.length_set) | apply Ints.app | (refine Ints.sub (by repeat (first | assumption | apply Ints.app)) (by omega) (by omega) (by omega)))) ?_)
  refine a_do rfl (o_move (by conv => lhs; whnf) ?_)
  refine a_do rfl (o_move (by conv => lhs; whnf) ?_)
  refine a_do rfl (o_callF (lmap_cons (by conv => lhs; whnf) (lmap_cons (by conv => lhs; whnf) (lmap_cons (by conv => lhs; whnf) lmap_nil))) (Ret.toB (within_ret _ _ _ _) (fun c1 => ?_) (fun c1 => ?_)))
  ·
    refine a_do rfl (o_move (by conv => lhs; whnf) ?_)
    refine a_do rfl (o_move (by conv => lhs; whnf) ?_)
    refine a_do rfl (o_move (by conv => lhs; whnf) ?_)
    refine a_do rfl (o_move (by conv => lhs; whnf) ?_)
    refine a_do rfl (o_callF (lmap_cons (by conv => lhs; whnf) (lmap_cons (by conv => lhs; whnf) (lmap_cons (by conv => lhs; whnf) lmap_nil))) (Ret.toB (areWithin_ret _ _ _ _ _ (by repeat (first | assumption | exact ints_nil | exact Ints.own (by repeat (first | assumption | exact lk_last (by (try simp only [List.length_append, List.length_cons, List.length_nil, List.length_set]); omega) | apply lk_prev)) (by first | rfl | exact upto_len | assumption | exact map_len | exact List.length_set) | exact Ints.tail (by repeat (first | assumption | exact lk_last (by (try simp only [List.length_append, List.length_cons, List.length_nil, List.length_set]); omega) | apply lk_prev)) (by first | rfl | exact upto_len | assumption | exact map_len | exact List.length_set) | apply Ints.app | (refine Ints.sub (by repeat (first | assumption | apply Ints.app)) (by omega) (by omega) (by omega)))) (by omega)) (fun c2 => ?_) (fun c2 => ?_)))
    ·
      refine a_do rfl (o_pickT (by conv => lhs; whnf) (by conv => lhs; whnf) ?_)
      refine a_do rfl (o_assign (by conv => lhs; whnf) ?_)
      refine a_end ?_
      refine awp_ret ?_
      refine ⟨.inl rfl, [_], ⟨ares_tmp (by conv => lhs; whnf), trivial⟩, ?_⟩
      exact ⟨by first | rfl | (simp only [packR_one, *]; done) | (simp only [packR_one, *]; rfl) | (simp [*]; done) | (simp_all; done), (by repeat (first | exact Grown.refl _ | refine Grown.push ?_ _))⟩
    ·
      refine a_do rfl (o_pickT (by conv => lhs; whnf) (by conv => lhs; whnf) ?_)
      refine a_do rfl (o_assign (by conv => lhs; whnf) ?_)
      refine a_end ?_
      refine awp_ret ?_
      refine ⟨.inl rfl, [_], ⟨ares_tmp (by conv => lhs; whnf), trivial⟩, ?_⟩
      exact ⟨by first | rfl | (simp only [packR_one, *]; done) | (simp only [packR_one, *]; rfl) | (simp [*]; done) | (simp_all; done), (by repeat (first | exact Grown.refl _ | refine Grown.push ?_ _))⟩
  ·
    refine a_do rfl (o_move (by conv => lhs; whnf) ?_)
    refine a_no rfl ?_
    refine a_no rfl ?_
    refine a_no rfl ?_
    refine a_no rfl ?_
    refine a_do rfl (o_pickF (by conv => lhs; whnf) (by conv => lhs; whnf) ?_)
    refine a_do rfl (o_assign (by conv => lhs; whnf) ?_)
    refine a_end ?_
    refine awp_ret ?_
    refine ⟨.inl rfl, [_], ⟨ares_tmp (by conv => lhs; whnf), trivial⟩, ?_⟩
    exact ⟨by first | rfl | (simp only [packR_one, *]; done) | (simp only [packR_one, *]; rfl) | (simp [*]; done) | (simp_all; done), (by repeat (first | exact Grown.refl _ | refine Grown.push ?_ _))⟩

set_option maxRecDepth 10000 in
theorem eqInt64S_ret (xs ys : List Int) (v w : Value) (h : AHeap) (hv : Ints h v xs) (hw : Ints h w ys) (hl : xs.length ≤ 1073741824) : Ret Try.prog 19 [v, w] h (.bool (decide (xs = ys))) h := by
  refine ret_of (.prim rfl) ?_
  refine tri_of_body Try.func19 rfl (by kernel_rfl) (by show 2 ≤ 26; decide) ?_
  refine awp_seq ?_
  refine awp_region rfl ?_
  refine a_do rfl (o_assign (by conv => lhs; whnf) ?_)
  refine a_end ?_
  refine awp_seq ?_
  refine awp_seq ?_
  refine awp_region rfl ?_
  refine a_do rfl (o_move (by conv => lhs; whnf) ?_)
  refine a_do rfl (o_lenI Try.underlying22 (by conv => lhs; whnf) (by repeat (first | assumption | exact ints_nil | exact Ints.own (by repeat (first | assumption | exact lk_last (by (try simp only [List.length_append, List.length_cons, List.length_nil, List.length_set]); omega) | apply lk_prev)) (by first | rfl | exact upto_len | assumption | exact map_len | exact List.length_set) | exact Ints.tail (by repeat (first | assumption | exact lk_last (by (try simp only [List.length_append, List.length_cons, List.length_nil, List.length_set]); omega) | apply lk_prev)) (by first | rfl | exact upto_len | assumption | exact map_len | exact List.length_set) | apply Ints.app | (refine Ints.sub (by repeat (first | assumption | apply Ints.app)) (by omega) (by omega) (by omega)))) ?_)
  refine a_do rfl (o_move (by conv => lhs; whnf) ?_)
  refine a_do rfl (o_lenI Try.underlying22 (by conv => lhs; whnf) (by repeat (first | assumption | exact ints_nil | exact Ints.own (by repeat (first | assumption | exact lk_last (by (try simp only [List.length_append, List.length_cons, List.length_nil, List.length_set]); omega) | apply lk_prev)) (by first | rfl | exact upto_len | assumption | exact map_len | exact List.length_set) | exact Ints.tail (by repeat (first | assumption | exact lk_last (by (try simp only [List.length_append, List.length_cons, List.length_nil, List.length_set]); omega) | apply lk_prev)) (by first | rfl | exact upto_len | assumption | exact map_len | exact List.length_set) | apply Ints.app | (refine Ints.sub (by repeat (first | assumption | apply Ints.app)) (by omega) (by omega) (by omega)))) ?_)
  refine a_do rfl (o_neq (by conv => lhs; whnf) (by conv => lhs; whnf) (fun c1 => ?_) (fun c1 => ?_))
  ·
    refine a_end ?_
    refine awp_condT (by conv => lhs; whnf) ?_
    refine awp_seq ?_
    refine awp_region rfl ?_
    refine a_do rfl (o_assign (by conv => lhs; whnf) ?_)
    refine a_end ?_
    refine awp_ret ?_
    refine ⟨.inl rfl, [_], ⟨ares_tmp (by conv => lhs; whnf), trivial⟩, ?_⟩
    exact ⟨congrArg Value.bool (by first | (rw [decide_eq_true]; exact eq_take_full (by omega) (by omega) ha) | (rw [decide_eq_false]; first | exact ne_of_getD ‹_› | exact ne_of_length ‹_›)), Grown.refl _⟩
  ·
    refine a_end ?_
    refine awp_condF (by conv => lhs; whnf) ?_
    refine awp_skip ?_
    refine awp_seq ?_
    refine awp_seq ?_
    refine awp_region rfl ?_
    refine a_do rfl (o_assign (by conv => lhs; whnf) ?_)
    refine a_end ?_
    refine awp_block ?_
    refine awp_loop (σ := Nat) (fun s env1 h1 => Slots env1 [(0, v), (1, w), (5, i64 s)] ∧ h1 = h ∧ s ≤ xs.length ∧ xs.take s = ys.take s) (fun s => xs.length - s) 0 ?_ ?_
    · refine ⟨Slots.mk ⟨?_, ?_, ?_, trivial⟩, ?_, ?_⟩
      all_goals first | rfl | simp
    · intro s env1 h1 hI1
      obtain ⟨⟨e1, rfl⟩, rfl, ⟨hs, ha⟩⟩ := hI1
      refine awp_seq ?_
      refine awp_seq ?_
      refine awp_region rfl ?_
      refine a_do rfl (o_move (by conv => lhs; whnf) ?_)
      refine a_do rfl (o_move (by conv => lhs; whnf) ?_)
      refine a_do rfl (o_lenI Try.underlying22 (by conv => lhs; whnf) (by repeat (first | assumption | exact ints_nil | exact Ints.own (by repeat (first | assumption | exact lk_last (by (try simp only [List.length_append, List.length_cons, List.length_nil, List.length_set]); omega) | apply lk_prev)) (by first | rfl | exact upto_len | assumption | exact map_len | exact List.length_set) | exact Ints.tail (by repeat (first | assumption | exact lk_last (by (try simp only [List.length_append, List.length_cons, List.length_nil, List.length_set]); omega) | apply lk_prev)) (by first | rfl | exact upto_len | assumption | exact map_len | exact List.length_set) | apply Ints.app | (refine Ints.sub (by repeat (first | assumption | apply Ints.app)) (by omega) (by omega) (by omega)))) ?_)
      refine a_do rfl (o_lss (by conv => lhs; whnf) (by conv => lhs; whnf) (fun c2 => ?_) (fun c2 => ?_))
      ·
        refine a_end ?_
        refine awp_condT (by conv => lhs; whnf) ?_
        refine awp_skip ?_
        refine awp_seq ?_
        refine awp_block ?_
        refine awp_seq ?_
        refine awp_draw Try_mixed (by kernel_rfl) rfl ?_
        refine d_do rfl (o_move (by conv => lhs; whnf) ⟨rfl, rfl⟩) (by first | exact .prim rfl | exact Within.mono ‹Within _ (Value.func _ _ _)› (by (try simp only [List.length_append, List.length_cons, List.length_nil, List.length_set]); omega) | (apply within_sub; apply Ints.within; repeat (first | assumption | apply Ints.app)) | (apply within_ptr; repeat (first | assumption | exact lk_last (by (try simp only [List.length_append, List.length_cons, List.length_nil, List.length_set]); omega) | apply lk_prev)) | (apply within_sl; repeat (first | assumption | exact lk_last (by (try simp only [List.length_append, List.length_cons, List.length_nil, List.length_set]); omega) | apply lk_prev)) | (apply Within.agg3 <;> (first | exact .prim rfl | (apply within_ptr; repeat (first | assumption | exact lk_last (by (try simp only [List.length_append, List.length_cons, List.length_nil, List.length_set]); omega) | apply lk_prev)) | (apply within_sl; repeat (first | assumption | exact lk_last (by (try simp only [List.length_append, List.length_cons, List.length_nil, List.length_set]); omega) | apply lk_prev)) | ((try apply within_sub); apply Ints.within; repeat (first | assumption | apply Ints.app)))) | (apply Within.agg2 <;> (first | exact .prim rfl | (apply within_ptr; repeat (first | assumption | exact lk_last (by (try simp only [List.length_append, List.length_cons, List.length_nil, List.length_set]); omega) | apply lk_prev)) | (apply within_sl; repeat (first | assumption | exact lk_last (by (try simp only [List.length_append, List.length_cons, List.length_nil, List.length_set]); omega) | apply lk_prev)) | ((try apply within_sub); apply Ints.within; repeat (first | assumption | apply Ints.app)))) | (apply Ints.within; repeat (first | assumption | apply Ints.app))) ?_
        refine d_do rfl (o_move (by conv => lhs; whnf) ⟨rfl, rfl⟩) (by first | exact .prim rfl | exact Within.mono ‹Within _ (Value.func _ _ _)› (by (try simp only [List.length_append, List.length_cons, List.length_nil, List.length_set]); omega) | (apply within_sub; apply Ints.within; repeat (first | assumption | apply Ints.app)) | (apply within_ptr; repeat (first | assumption | exact lk_last (by (try simp only [List.length_append, List.length_cons, List.length_nil, List.length_set]); omega) | apply lk_prev)) | (apply within_sl; repeat (first | assumption | exact lk_last (by (try simp only [List.length_append, List.length_cons, List.length_nil, List.length_set]); omega) | apply lk_prev)) | (apply Within.agg3 <;> (first | exact .prim rfl | (apply within_ptr; repeat (first | assumption | exact lk_last (by (try simp only [List.length_append, List.length_cons, List.length_nil, List.length_set]); omega) | apply lk_prev)) | (apply within_sl; repeat (first | assumption | exact lk_last (by (try simp only [List.length_append, List.length_cons, List.length_nil, List.length_set]); omega) | apply lk_prev)) | ((try apply within_sub); apply Ints.within; repeat (first | assumption | apply Ints.app)))) | (apply Within.agg2 <;> (first | exact .prim rfl | (apply within_ptr; repeat (first | assumption | exact lk_last (by (try simp only [List.length_append, List.length_cons, List.length_nil, List.length_set]); omega) | apply lk_prev)) | (apply within_sl; repeat (first | assumption | exact lk_last (by (try simp only [List.length_append, List.length_cons, List.length_nil, List.length_set]); omega) | apply lk_prev)) | ((try apply within_sub); apply Ints.within; repeat (first | assumption | apply Ints.app)))) | (apply Ints.within; repeat (first | assumption | apply Ints.app))) ?_
        first | refine d_indexI rfl Try.underlying22 ty2 (by conv => lhs; whnf) (by repeat (first | assumption | exact ints_nil | exact Ints.own (by repeat (first | assumption | exact lk_last (by (try simp only [List.length_append, List.length_cons, List.length_nil, List.length_set]); omega) | apply lk_prev)) (by first | rfl | exact upto_len | assumption | exact map_len | exact List.length_set) | exact Ints.tail (by repeat (first | assumption | exact lk_last (by (try simp only [List.length_append, List.length_cons, List.length_nil, List.length_set]); omega) | apply lk_prev)) (by first | rfl | exact upto_len | assumption | exact map_len | exact List.length_set) | apply Ints.app | (refine Ints.sub (by repeat (first | assumption | apply Ints.app)) (by omega) (by omega) (by omega)))) (by conv => lhs; whnf) (by omega) (fun p3 hp3 => ?_) | refine d_indexZ rfl Try.underlying22 ty2 (by conv => lhs; whnf) (by repeat (first | assumption | exact ints_nil | exact Ints.own (by repeat (first | assumption | exact lk_last (by (try simp only [List.length_append, List.length_cons, List.length_nil, List.length_set]); omega) | apply lk_prev)) (by first | rfl | exact upto_len | assumption | exact map_len | exact List.length_set) | exact Ints.tail (by repeat (first | assumption | exact lk_last (by (try simp only [List.length_append, List.length_cons, List.length_nil, List.length_set]); omega) | apply lk_prev)) (by first | rfl | exact upto_len | assumption | exact map_len | exact List.length_set) | apply Ints.app | (refine Ints.sub (by repeat (first | assumption | apply Ints.app)) (by omega) (by omega) (by omega)))) (by conv => lhs; whnf) (by omega) (by omega) (fun p3 hp3 => ?_)
        refine d_do rfl (o_loadI Try.underlying2 rfl (by conv => lhs; whnf) hp3 (by repeat (first | assumption | exact ints_nil | exact Ints.own (by repeat (first | assumption | exact lk_last (by (try simp only [List.length_append, List.length_cons, List.length_nil, List.length_set]); omega) | apply lk_prev)) (by first | rfl | exact upto_len | assumption | exact map_len | exact List.length_set) | exact Ints.tail (by repeat (first | assumption | exact lk_last (by (try simp only [List.length_append, List.length_cons, List.length_nil, List.length_set]); omega) | apply lk_prev)) (by first | rfl | exact upto_len | assumption | exact map_len | exact List.length_set) | apply Ints.app | (refine Ints.sub (by repeat (first | assumption | apply Ints.app)) (by omega) (by omega) (by omega)))) (by omega) ⟨rfl, rfl⟩) (by first | exact .prim rfl | exact Within.mono ‹Within _ (Value.func _ _ _)› (by (try simp only [List.length_append, List.length_cons, List.length_nil, List.length_set]); omega) | (apply within_sub; apply Ints.within; repeat (first | assumption | apply Ints.app)) | (apply within_ptr; repeat (first | assumption | exact lk_last (by (try simp only [List.length_append, List.length_cons, List.length_nil, List.length_set]); omega) | apply lk_prev)) | (apply within_sl; repeat (first | assumption | exact lk_last (by (try simp only [List.length_append, List.length_cons, List.length_nil, List.length_set]); omega) | apply lk_prev)) | (apply Within.agg3 <;> (first | exact .prim rfl | (apply within_ptr; repeat (first | assumption | exact lk_last (by (try simp only [List.length_append, List.length_cons, List.length_nil, List.length_set]); omega) | apply lk_prev)) | (apply within_sl; repeat (first | assumption | exact lk_last (by (try simp only [List.length_append, List.length_cons, List.length_nil, List.length_set]); omega) | apply lk_prev)) | ((try apply within_sub); apply Ints.within; repeat (first | assumption | apply Ints.app)))) | (apply Within.agg2 <;> (first | exact .prim rfl | (apply within_ptr; repeat (first | assumption | exact lk_last (by (try simp only [List.length_append, List.length_cons, List.length_nil, List.length_set]); omega) | apply lk_prev)) | (apply within_sl; repeat (first | assumption | exact lk_last (by (try simp only [List.length_append, List.length_cons, List.length_nil, List.length_set]); omega) | apply lk_prev)) | ((try apply within_sub); apply Ints.within; repeat (first | assumption | apply Ints.app)))) | (apply Ints.within; repeat (first | assumption | apply Ints.app))) ?_
        refine d_do rfl (o_move (by conv => lhs; whnf) ⟨rfl, rfl⟩) (by first | exact .prim rfl | exact Within.mono ‹Within _ (Value.func _ _ _)› (by (try simp only [List.length_append, List.length_cons, List.length_nil, List.length_set]); omega) | (apply within_sub; apply Ints.within; repeat (first | assumption | apply Ints.app)) | (apply within_ptr; repeat (first | assumption | exact lk_last (by (try simp only [List.length_append, List.length_cons, List.length_nil, List.length_set]); omega) | apply lk_prev)) | (apply within_sl; repeat (first | assumption | exact lk_last (by (try simp only [List.length_append, List.length_cons, List.length_nil, List.length_set]); omega) | apply lk_prev)) | (apply Within.agg3 <;> (first | exact .prim rfl | (apply within_ptr; repeat (first | assumption | exact lk_last (by (try simp only [List.length_append, List.length_cons, List.length_nil, List.length_set]); omega) | apply lk_prev)) | (apply within_sl; repeat (first | assumption | exact lk_last (by (try simp only [List.length_append, List.length_cons, List.length_nil, List.length_set]); omega) | apply lk_prev)) | ((try apply within_sub); apply Ints.within; repeat (first | assumption | apply Ints.app)))) | (apply Within.agg2 <;> (first | exact .prim rfl | (apply within_ptr; repeat (first | assumption | exact lk_last (by (try simp only [List.length_append, List.length_cons, List.length_nil, List.length_set]); omega) | apply lk_prev)) | (apply within_sl; repeat (first | assumption | exact lk_last (by (try simp only [List.length_append, List.length_cons, List.length_nil, List.length_set]); omega) | apply lk_prev)) | ((try apply within_sub); apply Ints.within; repeat (first | assumption | apply Ints.app)))) | (apply Ints.within; repeat (first | assumption | apply Ints.app))) ?_
        refine d_do rfl (o_move (by conv => lhs; whnf) ⟨rfl, rfl⟩) (by first | exact .prim rfl | exact Within.mono ‹Within _ (Value.func _ _ _)› (by (try simp only [List.length_append, List.length_cons, List.length_nil, List.length_set]); omega) | (apply within_sub; apply Ints.within; repeat (first | assumption | apply Ints.app)) | (apply within_ptr; repeat (first | assumption | exact lk_last (by (try simp only [List.length_append, List.length_cons, List.length_nil, List.length_set]); omega) | apply lk_prev)) | (apply within_sl; repeat (first | assumption | exact lk_last (by (try simp only [List.length_append, List.length_cons, List.length_nil, List.length_set]); omega) | apply lk_prev)) | (apply Within.agg3 <;> (first | exact .prim rfl | (apply within_ptr; repeat (first | assumption | exact lk_last (by (try simp only [List.length_append, List.length_cons, List.length_nil, List.length_set]); omega) | apply lk_prev)) | (apply within_sl; repeat (first | assumption | exact lk_last (by (try simp only [List.length_append, List.length_cons, List.length_nil, List.length_set]); omega) | apply lk_prev)) | ((try apply within_sub); apply Ints.within; repeat (first | assumption | apply Ints.app)))) | (apply Within.agg2 <;> (first | exact .prim rfl | (apply within_ptr; repeat (first | assumption | exact lk_last (by (try simp only [List.length_append, List.length_cons, List.length_nil, List.length_set]); omega) | apply lk_prev)) | (apply within_sl; repeat (first | assumption | exact lk_last (by (try simp only [List.length_append, List.length_cons, List.length_nil, List.length_set]); omega) | apply lk_prev)) | ((try apply within_sub); apply Ints.within; repeat (first | assumption | apply Ints.app)))) | (apply Ints.within; repeat (first | assumption | apply Ints.app))) ?_
        first | refine d_indexI rfl Try.underlying22 ty2 (by conv => lhs; whnf) (by repeat (first | assumption | exact ints_nil | exact Ints.own (by repeat (first | assumption | exact lk_last (by (try simp only [List.length_append, List.length_cons, List.length_nil, List.length_set]); omega) | apply lk_prev)) (by first | rfl | exact upto_len | assumption | exact map_len | exact List.length_set) | exact Ints.tail (by repeat (first | assumption | exact lk_last (by (try simp only [List.length_append, List.length_cons, List.length_nil, List.length_set]); omega) | apply lk_prev)) (by first | rfl | exact upto_len | assumption | exact map_len | exact List.length_set) | apply Ints.app | (refine Ints.sub (by repeat (first | assumption | apply Ints.app)) (by omega) (by omega) (by omega)))) (by conv => lhs; whnf) (by omega) (fun p4 hp4 => ?_) | refine d_indexZ rfl Try.underlying22 ty2 (by conv => lhs; whnf) (by repeat (first | assumption | exact ints_nil | exact Ints.own (by repeat (first | assumption | exact lk_last (by (try simp only [List.length_append, List.length_cons, List.length_nil, List.length_set]); omega) | apply lk_prev)) (by first | rfl | exact upto_len | assumption | exact map_len | exact List.length_set) | exact Ints.tail (by repeat (first | assumption | exact lk_last (by (try simp only [List.length_append, List.length_cons, List.length_nil, List.length_set]); omega) | apply lk_prev)) (by first | rfl | exact upto_len | assumption | exact map_len | exact List.length_set) | apply Ints.app | (refine Ints.sub (by repeat (first | assumption | apply Ints.app)) (by omega) (by omega) (by omega)))) (by conv => lhs; whnf) (by omega) (by omega) (fun p4 hp4 => ?_)
        refine d_do rfl (o_loadI Try.underlying2 rfl (by conv => lhs; whnf) hp4 (by repeat (first | assumption | exact ints_nil | exact Ints.own (by repeat (first | assumption | exact lk_last (by (try simp only [List.length_append, List.length_cons, List.length_nil, List.length_set]); omega) | apply lk_prev)) (by first | rfl | exact upto_len | assumption | exact map_len | exact List.length_set) | exact Ints.tail (by repeat (first | assumption | exact lk_last (by (try simp only [List.length_append, List.length_cons, List.length_nil, List.length_set]); omega) | apply lk_prev)) (by first | rfl | exact upto_len | assumption | exact map_len | exact List.length_set) | apply Ints.app | (refine Ints.sub (by repeat (first | assumption | apply Ints.app)) (by omega) (by omega) (by omega)))) (by omega) ⟨rfl, rfl⟩) (by first | exact .prim rfl | exact Within.mono ‹Within _ (Value.func _ _ _)› (by (try simp only [List.length_append, List.length_cons, List.length_nil, List.length_set]); omega) | (apply within_sub; apply Ints.within; repeat (first | assumption | apply Ints.app)) | (apply within_ptr; repeat (first | assumption | exact lk_last (by (try simp only [List.length_append, List.length_cons, List.length_nil, List.length_set]); omega) | apply lk_prev)) | (apply within_sl; repeat (first | assumption | exact lk_last (by (try simp only [List.length_append, List.length_cons, List.length_nil, List.length_set]); omega) | apply lk_prev)) | (apply Within.agg3 <;> (first | exact .prim rfl | (apply within_ptr; repeat (first | assumption | exact lk_last (by (try simp only [List.length_append, List.length_cons, List.length_nil, List.length_set]); omega) | apply lk_prev)) | (apply within_sl; repeat (first | assumption | exact lk_last (by (try simp only [List.length_append, List.length_cons, List.length_nil, List.length_set]); omega) | apply lk_prev)) | ((try apply within_sub); apply Ints.within; repeat (first | assumption | apply Ints.app)))) | (apply Within.agg2 <;> (first | exact .prim rfl | (apply within_ptr; repeat (first | assumption | exact lk_last (by (try simp only [List.length_append, List.length_cons, List.length_nil, List.length_set]); omega) | apply lk_prev)) | (apply within_sl; repeat (first | assumption | exact lk_last (by (try simp only [List.length_append, List.length_cons, List.length_nil, List.length_set]); omega) | apply lk_prev)) | ((try apply within_sub); apply Ints.within; repeat (first | assumption | apply Ints.app)))) | (apply Ints.within; repeat (first | assumption | apply Ints.app))) ?_
        refine d_neq rfl (by conv => lhs; whnf) (by conv => lhs; whnf) (fun c5 => ?_) (fun c5 => ?_)
        ·
          refine d_end ?_
          refine awp_condT (by conv => lhs; whnf) ?_
          refine awp_seq ?_
          refine awp_region rfl ?_
          refine a_do rfl (o_assign (by conv => lhs; whnf) ?_)
          refine a_end ?_
          refine awp_ret ?_
          refine ⟨.inl rfl, [_], ⟨ares_tmp (by conv => lhs; whnf), trivial⟩, ?_⟩
          exact ⟨congrArg Value.bool (by first | (rw [decide_eq_true]; exact eq_take_full (by omega) (by omega) ha) | (rw [decide_eq_false]; first | exact ne_of_getD ‹_› | exact ne_of_length ‹_›)), Grown.refl _⟩
        ·
          refine d_end ?_
          refine awp_condF (by conv => lhs; whnf) ?_
          refine awp_skip ?_
          refine awp_region rfl ?_
          refine a_do rfl (o_move (by conv => lhs; whnf) ?_)
          refine a_do rfl (o_add (by conv => lhs; whnf) (by conv => lhs; whnf) (by omega) (by omega) ?_)
          refine a_do rfl (o_assign (by conv => lhs; whnf) ?_)
          refine a_end ?_
          refine ⟨s + 1, ⟨Slots.mk ⟨?_, ?_, ?_, trivial⟩, ?_, ?_⟩, ?_⟩
          all_goals first | rfl | omega | exact ⟨by omega, eq_take_step (by omega) (by omega) ha ‹_›⟩
      ·
        refine a_end ?_
        refine awp_condF (by conv => lhs; whnf) ?_
        refine awp_exit ?_
        refine awp_seq ?_
        refine awp_region rfl ?_
        refine a_do rfl (o_assign (by conv => lhs; whnf) ?_)
        refine a_end ?_
        refine awp_ret ?_
        refine ⟨.inl rfl, [_], ⟨ares_tmp (by conv => lhs; whnf), trivial⟩, ?_⟩
        exact ⟨congrArg Value.bool (by first | (rw [decide_eq_true]; exact eq_take_full (by omega) (by omega) ha) | (rw [decide_eq_false]; first | exact ne_of_getD ‹_› | exact ne_of_length ‹_›)), Grown.refl _⟩

set_option maxRecDepth 10000 in
theorem toInt64S_ret (xs : List Int) (v : Value) (h : AHeap) (hv : Ints h v xs) (hl : xs.length ≤ 1073741824) : RetN Try.prog 16 [v] h (fun k => sl k xs.length) (lst xs) := by
  refine ret1_of (o := lst xs) (V := fun k => sl k xs.length) (fun _ _ => .slice) (.slice (by omega)) (by simp [lst, isPrim]) ?_
  refine tri_of_body Try.func16 rfl (by kernel_rfl) (by show 1 ≤ 22; decide) ?_
  refine awp_seq ?_
  refine awp_region rfl ?_
  refine a_do rfl (o_assign (by conv => lhs; whnf) ?_)
  refine a_end ?_
  refine awp_seq ?_
  refine awp_region rfl ?_
  refine a_do rfl (o_move (by conv => lhs; whnf) ?_)
  refine a_do rfl (o_lenI Try.underlying22 (by conv => lhs; whnf) (by repeat (first | assumption | exact ints_nil | exact Ints.own (by repeat (first | assumption | exact lk_last (by (try simp only [List.length_append, List.length_cons, List.length_nil, List.length_set]); omega) | apply lk_prev)) (by first | rfl | exact upto_len | assumption | exact map_len | exact List.length_set) | exact Ints.tail (by repeat (first | assumption | exact lk_last (by (try simp only [List.length_append, List.length_cons, List.length_nil, List.length_set]); omega) | apply lk_prev)) (by first | rfl | exact upto_len | assumption | exact map_len | exact List.length_set) | apply Ints.app | (refine Ints.sub (by repeat (first | assumption | apply Ints.app)) (by omega) (by omega) (by omega)))) ?_)
  first | refine a_do rfl (o_makeI Try.underlying22 ty2 (by conv => lhs; whnf) (by conv => lhs; whnf) (by omega) (by omega) (fun k1 hk1 => ?_)) | refine a_do rfl (o_makeZ Try.underlying22 ty2 (by conv => lhs; whnf) (by conv => lhs; whnf) (by omega) (by omega) (fun k1 hk1 => ?_))
  try simp at hk1
  refine a_do rfl (o_assign (by conv => lhs; whnf) ?_)
  refine a_end ?_
  refine awp_seq ?_
  refine awp_seq ?_
  refine awp_region rfl ?_
  refine a_do rfl (o_assign (by conv => lhs; whnf) ?_)
  refine a_end ?_
  refine awp_block ?_
  refine awp_loop (σ := Nat) (fun s env1 h1 => Slots env1 [(0, v), (3, sl k1 xs.length), (4, i64 s)] ∧ h1 = h ++ [lst (xs.take s ++ List.replicate (xs.length - s) 0)] ∧ s ≤ xs.length) (fun s => xs.length - s) 0 ?_ ?_
  · refine ⟨Slots.mk ⟨?_, ?_, ?_, trivial⟩, ?_, ?_⟩
    all_goals first | rfl | simp
  · intro s env1 h1 hI1
    obtain ⟨⟨e1, rfl⟩, rfl, hs⟩ := hI1
    have hfl := fill_len (xs := xs) (k := s) rfl hs
    have hI := Ints.new (h := h) hk1 hfl
    refine awp_seq ?_
    refine awp_seq ?_
    refine awp_region rfl ?_
    refine a_do rfl (o_move (by conv => lhs; whnf) ?_)
    refine a_do rfl (o_move (by conv => lhs; whnf) ?_)
    refine a_do rfl (o_lenI Try.underlying22 (by conv => lhs; whnf) (by repeat (first | assumption | exact ints_nil | exact Ints.own (by repeat (first | assumption | exact lk_last (by (try simp only [List.length_append, List.length_cons, List.length_nil, List.length_set]); omega) | apply lk_prev)) (by first | rfl | exact upto_len | assumption | exact map_len | exact List.length_set) | exact Ints.tail (by repeat (first | assumption | exact lk_last (by (try simp only [List.length_append, List.length_cons, List.length_nil, List.length_set]); omega) | apply lk_prev)) (by first | rfl | exact upto_len | assumption | exact map_len | exact List.length_set) | apply Ints.app | (refine Ints.sub (by repeat (first | assumption | apply Ints.app)) (by omega) (by omega) (by omega)))) ?_)
    refine a_do rfl (o_lss (by conv => lhs; whnf) (by conv => lhs; whnf) (fun c2 => ?_) (fun c2 => ?_))
    ·
      refine a_end ?_
      refine awp_condT (by conv => lhs; whnf) ?_
      refine awp_skip ?_
      refine awp_seq ?_
      refine awp_block ?_
      refine awp_region rfl ?_
      refine a_do rfl (o_move (by conv => lhs; whnf) ?_)
      refine a_do rfl (o_move (by conv => lhs; whnf) ?_)
      refine a_do rfl (o_move (by conv => lhs; whnf) ?_)
      refine a_do rfl (o_move (by conv => lhs; whnf) ?_)
      first | refine a_do rfl (o_indexI Try.underlying22 ty2 (by conv => lhs; whnf) (by repeat (first | assumption | exact ints_nil | exact Ints.own (by repeat (first | assumption | exact lk_last (by (try simp only [List.length_append, List.length_cons, List.length_nil, List.length_set]); omega) | apply lk_prev)) (by first | rfl | exact upto_len | assumption | exact map_len | exact List.length_set) | exact Ints.tail (by repeat (first | assumption | exact lk_last (by (try simp only [List.length_append, List.length_cons, List.length_nil, List.length_set]); omega) | apply lk_prev)) (by first | rfl | exact upto_len | assumption | exact map_len | exact List.length_set) | apply Ints.app | (refine Ints.sub (by repeat (first | assumption | apply Ints.app)) (by omega) (by omega) (by omega)))) (by conv => lhs; whnf) (by omega) (fun p3 hp3 => ?_)) | refine a_do rfl (o_indexZ Try.underlying22 ty2 (by conv => lhs; whnf) (by repeat (first | assumption | exact ints_nil | exact Ints.own (by repeat (first | assumption | exact lk_last (by (try simp only [List.length_append, List.length_cons, List.length_nil, List.length_set]); omega) | apply lk_prev)) (by first | rfl | exact upto_len | assumption | exact map_len | exact List.length_set) | exact Ints.tail (by repeat (first | assumption | exact lk_last (by (try simp only [List.length_append, List.length_cons, List.length_nil, List.length_set]); omega) | apply lk_prev)) (by first | rfl | exact upto_len | assumption | exact map_len | exact List.length_set) | apply Ints.app | (refine Ints.sub (by repeat (first | assumption | apply Ints.app)) (by omega) (by omega) (by omega)))) (by conv => lhs; whnf) (by omega) (by omega) (fun p3 hp3 => ?_))
      refine a_do rfl (o_loadI Try.underlying2 rfl (by conv => lhs; whnf) hp3 (by repeat (first | assumption | exact ints_nil | exact Ints.own (by repeat (first | assumption | exact lk_last (by (try simp only [List.length_append, List.length_cons, List.length_nil, List.length_set]); omega) | apply lk_prev)) (by first | rfl | exact upto_len | assumption | exact map_len | exact List.length_set) | exact Ints.tail (by repeat (first | assumption | exact lk_last (by (try simp only [List.length_append, List.length_cons, List.length_nil, List.length_set]); omega) | apply lk_prev)) (by first | rfl | exact upto_len | assumption | exact map_len | exact List.length_set) | apply Ints.app | (refine Ints.sub (by repeat (first | assumption | apply Ints.app)) (by omega) (by omega) (by omega)))) (by omega) ?_)
      first | refine a_do rfl (o_indexI Try.underlying22 ty2 (by conv => lhs; whnf) (by repeat (first | assumption | exact ints_nil | exact Ints.own (by repeat (first | assumption | exact lk_last (by (try simp only [List.length_append, List.length_cons, List.length_nil, List.length_set]); omega) | apply lk_prev)) (by first | rfl | exact upto_len | assumption | exact map_len | exact List.length_set) | exact Ints.tail (by repeat (first | assumption | exact lk_last (by (try simp only [List.length_append, List.length_cons, List.length_nil, List.length_set]); omega) | apply lk_prev)) (by first | rfl | exact upto_len | assumption | exact map_len | exact List.length_set) | apply Ints.app | (refine Ints.sub (by repeat (first | assumption | apply Ints.app)) (by omega) (by omega) (by omega)))) (by conv => lhs; whnf) (by omega) (fun p4 hp4 => ?_)) | refine a_do rfl (o_indexZ Try.underlying22 ty2 (by conv => lhs; whnf) (by repeat (first | assumption | exact ints_nil | exact Ints.own (by repeat (first | assumption | exact lk_last (by (try simp only [List.length_append, List.length_cons, List.length_nil, List.length_set]); omega) | apply lk_prev)) (by first | rfl | exact upto_len | assumption | exact map_len | exact List.length_set) | exact Ints.tail (by repeat (first | assumption | exact lk_last (by (try simp only [List.length_append, List.length_cons, List.length_nil, List.length_set]); omega) | apply lk_prev)) (by first | rfl | exact upto_len | assumption | exact map_len | exact List.length_set) | apply Ints.app | (refine Ints.sub (by repeat (first | assumption | apply Ints.app)) (by omega) (by omega) (by omega)))) (by conv => lhs; whnf) (by omega) (by omega) (fun p4 hp4 => ?_))
      refine a_do rfl (o_storeI ty2 (by conv => lhs; whnf) hp4 (by repeat (first | assumption | exact lk_last (by (try simp only [List.length_append, List.length_cons, List.length_nil, List.length_set]); omega) | apply lk_prev)) (by first | rfl | omega | (simp; done) | (simp; omega)) (by omega) (by conv => lhs; whnf) (by repeat (first | exact set_last (by (try simp only [List.length_append, List.length_cons, List.length_nil, List.length_set]); omega) | (apply set_step; (try simp only [List.length_append, List.length_cons, List.length_nil, List.length_set]); omega) | exact rfl)) ?_)
      refine a_end ?_
      refine awp_region rfl ?_
      refine a_do rfl (o_move (by conv => lhs; whnf) ?_)
      refine a_do rfl (o_add (by conv => lhs; whnf) (by conv => lhs; whnf) (by omega) (by omega) ?_)
      refine a_do rfl (o_assign (by conv => lhs; whnf) ?_)
      refine a_end ?_
      refine ⟨s + 1, ⟨Slots.mk ⟨?_, ?_, ?_, trivial⟩, ?_, ?_⟩, ?_⟩
      all_goals first | rfl | omega | (rw [fill_step rfl (by omega)])
    ·
      refine a_end ?_
      refine awp_condF (by conv => lhs; whnf) ?_
      refine awp_exit ?_
      refine awp_seq ?_
      refine awp_region rfl ?_
      refine a_do rfl (o_move (by conv => lhs; whnf) ?_)
      refine a_do rfl (o_assign (by conv => lhs; whnf) ?_)
      refine a_end ?_
      refine awp_ret ?_
      refine ⟨.inl rfl, [_], ⟨ares_tmp (by conv => lhs; whnf), trivial⟩, ?_⟩
      exact ⟨k1, rfl, .push (.refl _) _, by rw [fill_full rfl (by omega)]; exact lk_last hk1, by omega⟩

set_option maxRecDepth 10000 in
theorem arePlayers_ret (n : Int) (h : AHeap) : Ret Try.prog 106 [i64 n] h (.bool (decide (1 ≤ n ∧ n ≤ 6))) h := by
  refine ret_of (.prim rfl) ?_
  refine tri_of_body Try.func106 rfl (by kernel_rfl) (by show 1 ≤ 5; decide) ?_
  refine awp_seq ?_
  refine awp_region rfl ?_
  refine a_do rfl (o_assign (by conv => lhs; whnf) ?_)
  refine a_end ?_
  refine awp_seq ?_
  refine awp_region rfl ?_
  refine a_do rfl (o_move (by conv => lhs; whnf) ?_)
  refine a_do rfl (o_callF (lmap_cons (by conv => lhs; whnf) (lmap_cons (by conv => lhs; whnf) (lmap_cons (by conv => lhs; whnf) lmap_nil))) (Ret.toB (within_ret _ _ _ _) (fun c1 => ?_) (fun c1 => ?_)))
  ·
    refine a_do rfl (o_assign (by conv => lhs; whnf) ?_)
    refine a_end ?_
    refine awp_ret ?_
    refine ⟨.inl rfl, [_], ⟨ares_tmp (by conv => lhs; whnf), trivial⟩, ?_⟩
    exact ⟨by first | rfl | (simp only [packR_one, *]; done) | (simp only [packR_one, *]; rfl) | (simp [*]; done) | (simp_all; done), (by repeat (first | exact Grown.refl _ | refine Grown.push ?_ _))⟩
  ·
    refine a_do rfl (o_assign (by conv => lhs; whnf) ?_)
    refine a_end ?_
    refine awp_ret ?_
    refine ⟨.inl rfl, [_], ⟨ares_tmp (by conv => lhs; whnf), trivial⟩, ?_⟩
    exact ⟨by first | rfl | (simp only [packR_one, *]; done) | (simp only [packR_one, *]; rfl) | (simp [*]; done) | (simp_all; done), (by repeat (first | exact Grown.refl _ | refine Grown.push ?_ _))⟩

set_option maxRecDepth 10000 in
theorem l03In_ret (s : Nat) (p : Int) (h : AHeap) (hs : s < 4611686018427387904) (hp : 0 ≤ p ∧ p ≤ 60) : Ret Try.prog 61 [i64 s, i64 p] h (.bool (s.testBit p.toNat)) h := by
  refine ret_of (.prim rfl) ?_
  have hdl : s / 2 ^ p.toNat ≤ s := Nat.div_le_self _ _
  refine tri_of_body Try.func61 rfl (by kernel_rfl) (by show 2 ≤ 11; decide) ?_
  refine awp_seq ?_
  refine awp_region rfl ?_
  refine a_do rfl (o_assign (by conv => lhs; whnf) ?_)
  refine a_end ?_
  refine awp_seq ?_
  refine awp_region rfl ?_
  refine a_do rfl (o_move (by conv => lhs; whnf) ?_)
  refine a_do rfl (o_move (by conv => lhs; whnf) ?_)
  refine a_do rfl (o_convU Try.underlying2 Try.underlying65 (by conv => lhs; whnf) (by omega) (by omega) ?_)
  refine a_do rfl (o_shr (by conv => lhs; whnf) (by conv => lhs; whnf) (by omega) (by omega) ?_)
  refine a_do rfl (o_and (by conv => lhs; whnf) (by conv => lhs; whnf) (by first | exact (nat_shr _ _).symm | exact one_shl _ | exact rfl | exact (Int.toNat_of_nonneg (by omega)).symm) (by first | exact (nat_shr _ _).symm | exact one_shl _ | exact rfl | exact (Int.toNat_of_nonneg (by omega)).symm) (by first | omega | decide) ?_)
  refine a_do rfl (o_eql (by conv => lhs; whnf) (by conv => lhs; whnf) (fun c1 => ?_) (fun c1 => ?_))
  ·
    refine a_do rfl (o_assign (by conv => lhs; whnf) ?_)
    refine a_end ?_
    refine awp_ret ?_
    refine ⟨.inl rfl, [_], ⟨ares_tmp (by conv => lhs; whnf), trivial⟩, ?_⟩
    exact ⟨congrArg Value.bool (by first | exact (bit_is.1 ‹_›).symm | exact (Bool.eq_false_iff.2 fun hb => ‹¬ _› (bit_is.2 hb)).symm), (by repeat (first | exact Grown.refl _ | refine Grown.push ?_ _))⟩
  ·
    refine a_do rfl (o_assign (by conv => lhs; whnf) ?_)
    refine a_end ?_
    refine awp_ret ?_
    refine ⟨.inl rfl, [_], ⟨ares_tmp (by conv => lhs; whnf), trivial⟩, ?_⟩
    exact ⟨congrArg Value.bool (by first | exact (bit_is.1 ‹_›).symm | exact (Bool.eq_false_iff.2 fun hb => ‹¬ _› (bit_is.2 hb)).symm), (by repeat (first | exact Grown.refl _ | refine Grown.push ?_ _))⟩

set_option maxRecDepth 10000 in
theorem markInt64S_ret (c : Int) (k n : Nat) (xs : List Int) (h : AHeap) (ho : h[k]? = some (lst xs)) (hn : xs.length = n) (hl : xs.length ≤ 1073741824) (hc : 0 ≤ c ∧ c ≤ 1073741824) : Ret Try.prog 20 [sl k n, i64 c] h (i64 (c + n)) (h.set k (lst (upto c n))) := by
  subst hn
  have hk := (List.getElem?_eq_some_iff.1 ho).1
  refine retm_of (by simp) (.prim rfl) (fun cl => cl.set (by simp [lst, isPrim])) ?_
  refine tri_of_body Try.func20 rfl (by kernel_rfl) (by show 2 ≤ 19; decide) ?_
  refine awp_seq ?_
  refine awp_region rfl ?_
  refine a_do rfl (o_assign (by conv => lhs; whnf) ?_)
  refine a_end ?_
  refine awp_seq ?_
  refine awp_seq ?_
  refine awp_region rfl ?_
  refine a_do rfl (o_assign (by conv => lhs; whnf) ?_)
  refine a_end ?_
  refine awp_block ?_
  refine awp_loop (σ := Nat) (fun s env1 h1 => Slots env1 [(0, sl k xs.length), (1, i64 (c + s)), (5, i64 s)] ∧ h1 = h.set k (lst (upto c s ++ xs.drop s)) ∧ s ≤ xs.length) (fun s => xs.length - s) 0 ?_ ?_
  · refine ⟨Slots.mk ⟨?_, ?_, ?_, trivial⟩, ?_, ?_⟩
    all_goals first | rfl | exact congrArg i64 (show c = c + ((0 : Nat) : Int) by simp) | (rw [upto_zero, List.nil_append, List.drop_zero, set_same ho]; done) | (simp; done)
  · intro s env1 h1 hI1
    obtain ⟨⟨e1, rfl⟩, rfl, hs⟩ := hI1
    have hlk := lk_set (o := lst (upto c s ++ xs.drop s)) hk
    have hI : Ints (h.set k (lst (upto c s ++ xs.drop s))) (sl k xs.length) (upto c s ++ xs.drop s) := Ints.own hlk (by simp [upto_len]; omega)
    have hll : (upto c s ++ xs.drop s).length = xs.length := by simp [upto_len]; omega
    refine awp_seq ?_
    refine awp_seq ?_
    refine awp_region rfl ?_
    refine a_do rfl (o_move (by conv => lhs; whnf) ?_)
    refine a_do rfl (o_move (by conv => lhs; whnf) ?_)
    refine a_do rfl (o_lenI Try.underlying22 (by conv => lhs; whnf) (by repeat (first | assumption | exact ints_nil | exact Ints.own (by repeat (first | assumption | exact lk_last (by (try simp only [List.length_append, List.length_cons, List.length_nil, List.length_set]); omega) | apply lk_prev)) (by first | rfl | exact upto_len | assumption | exact map_len | exact List.length_set) | exact Ints.tail (by repeat (first | assumption | exact lk_last (by (try simp only [List.length_append, List.length_cons, List.length_nil, List.length_set]); omega) | apply lk_prev)) (by first | rfl | exact upto_len | assumption | exact map_len | exact List.length_set) | apply Ints.app | (refine Ints.sub (by repeat (first | assumption | apply Ints.app)) (by omega) (by omega) (by omega)))) ?_)
    refine a_do rfl (o_lss (by conv => lhs; whnf) (by conv => lhs; whnf) (fun c1 => ?_) (fun c1 => ?_))
    ·
      refine a_end ?_
      refine awp_condT (by conv => lhs; whnf) ?_
      refine awp_skip ?_
      refine awp_seq ?_
      refine awp_block ?_
      refine awp_seq ?_
      refine awp_region rfl ?_
      refine a_do rfl (o_move (by conv => lhs; whnf) ?_)
      refine a_do rfl (o_move (by conv => lhs; whnf) ?_)
      refine a_do rfl (o_move (by conv => lhs; whnf) ?_)
      first | refine a_do rfl (o_indexI Try.underlying22 ty2 (by conv => lhs; whnf) (by repeat (first | assumption | exact ints_nil | exact Ints.own (by repeat (first | assumption | exact lk_last (by (try simp only [List.length_append, List.length_cons, List.length_nil, List.length_set]); omega) | apply lk_prev)) (by first | rfl | exact upto_len | assumption | exact map_len | exact List.length_set) | exact Ints.tail (by repeat (first | assumption | exact lk_last (by (try simp only [List.length_append, List.length_cons, List.length_nil, List.length_set]); omega) | apply lk_prev)) (by first | rfl | exact upto_len | assumption | exact map_len | exact List.length_set) | apply Ints.app | (refine Ints.sub (by repeat (first | assumption | apply Ints.app)) (by omega) (by omega) (by omega)))) (by conv => lhs; whnf) (by omega) (fun p2 hp2 => ?_)) | refine a_do rfl (o_indexZ Try.underlying22 ty2 (by conv => lhs; whnf) (by repeat (first | assumption | exact ints_nil | exact Ints.own (by repeat (first | assumption | exact lk_last (by (try simp only [List.length_append, List.length_cons, List.length_nil, List.length_set]); omega) | apply lk_prev)) (by first | rfl | exact upto_len | assumption | exact map_len | exact List.length_set) | exact Ints.tail (by repeat (first | assumption | exact lk_last (by (try simp only [List.length_append, List.length_cons, List.length_nil, List.length_set]); omega) | apply lk_prev)) (by first | rfl | exact upto_len | assumption | exact map_len | exact List.length_set) | apply Ints.app | (refine Ints.sub (by repeat (first | assumption | apply Ints.app)) (by omega) (by omega) (by omega)))) (by conv => lhs; whnf) (by omega) (by omega) (fun p2 hp2 => ?_))
      refine a_do rfl (o_storeI ty2 (by conv => lhs; whnf) hp2 (by repeat (first | assumption | exact lk_last (by (try simp only [List.length_append, List.length_cons, List.length_nil, List.length_set]); omega) | apply lk_prev)) (by first | rfl | omega | (simp; done) | (simp; omega)) (by omega) (by conv => lhs; whnf) (by repeat (first | exact set_last (by (try simp only [List.length_append, List.length_cons, List.length_nil, List.length_set]); omega) | (apply set_step; (try simp only [List.length_append, List.length_cons, List.length_nil, List.length_set]); omega) | exact rfl)) ?_)
      refine a_end ?_
      refine awp_region rfl ?_
      refine a_do rfl (o_move (by conv => lhs; whnf) ?_)
      refine a_do rfl (o_add (by conv => lhs; whnf) (by conv => lhs; whnf) (by omega) (by omega) ?_)
      refine a_do rfl (o_assign (by conv => lhs; whnf) ?_)
      refine a_end ?_
      refine awp_region rfl ?_
      refine a_do rfl (o_move (by conv => lhs; whnf) ?_)
      refine a_do rfl (o_add (by conv => lhs; whnf) (by conv => lhs; whnf) (by omega) (by omega) ?_)
      refine a_do rfl (o_assign (by conv => lhs; whnf) ?_)
      refine a_end ?_
      refine ⟨s + 1, ⟨Slots.mk ⟨?_, ?_, ?_, trivial⟩, ?_, ?_⟩, ?_⟩
      all_goals first | rfl | omega | exact congrArg i64 (by omega) | (rw [set_set, upto_step (by omega)])
    ·
      refine a_end ?_
      refine awp_condF (by conv => lhs; whnf) ?_
      refine awp_exit ?_
      refine awp_seq ?_
      refine awp_region rfl ?_
      refine a_do rfl (o_move (by conv => lhs; whnf) ?_)
      refine a_do rfl (o_assign (by conv => lhs; whnf) ?_)
      refine a_end ?_
      refine awp_ret ?_
      refine ⟨.inl rfl, [_], ⟨ares_tmp (by conv => lhs; whnf), trivial⟩, ?_⟩
      exact ⟨congrArg i64 (by omega), by rw [upto_done (by omega)]; exact Grown.refl _⟩

set_option maxRecDepth 10000 in
theorem markNil_ret (c : Int) (h : AHeap) (hc : 0 ≤ c ∧ c ≤ 1073741824) : Ret Try.prog 20 [.slice none 0 0, i64 c] h (i64 c) h := by
  refine ret_of (.prim rfl) ?_
  have hv : Ints h (.slice none 0 0) [] := .inl ⟨rfl, rfl⟩
  refine tri_of_body Try.func20 rfl (by kernel_rfl) (by show 2 ≤ 19; decide) ?_
  refine awp_seq ?_
  refine awp_region rfl ?_
  refine a_do rfl (o_assign (by conv => lhs; whnf) ?_)
  refine a_end ?_
  refine awp_seq ?_
  refine awp_seq ?_
  refine awp_region rfl ?_
  refine a_do rfl (o_assign (by conv => lhs; whnf) ?_)
  refine a_end ?_
  refine awp_block ?_
  refine awp_loop (σ := Nat) (fun s env1 h1 => Slots env1 [(0, .slice none 0 0), (1, i64 c), (5, i64 0)] ∧ h1 = h ∧ True) (fun s => 0) 0 ?_ ?_
  · refine ⟨Slots.mk ⟨?_, ?_, ?_, trivial⟩, ?_, ?_⟩
    all_goals first | rfl | trivial
  · intro s env1 h1 hI1
    obtain ⟨⟨e1, rfl⟩, rfl, -⟩ := hI1
    refine awp_seq ?_
    refine awp_seq ?_
    refine awp_region rfl ?_
    refine a_do rfl (o_move (by conv => lhs; whnf) ?_)
    refine a_do rfl (o_move (by conv => lhs; whnf) ?_)
    refine a_do rfl (o_lenI Try.underlying22 (by conv => lhs; whnf) (by repeat (first | assumption | exact ints_nil | exact Ints.own (by repeat (first | assumption | exact lk_last (by (try simp only [List.length_append, List.length_cons, List.length_nil, List.length_set]); omega) | apply lk_prev)) (by first | rfl | exact upto_len | assumption | exact map_len | exact List.length_set) | exact Ints.tail (by repeat (first | assumption | exact lk_last (by (try simp only [List.length_append, List.length_cons, List.length_nil, List.length_set]); omega) | apply lk_prev)) (by first | rfl | exact upto_len | assumption | exact map_len | exact List.length_set) | apply Ints.app | (refine Ints.sub (by repeat (first | assumption | apply Ints.app)) (by omega) (by omega) (by omega)))) ?_)
    refine a_do rfl (o_lss (by conv => lhs; whnf) (by conv => lhs; whnf) (fun c1 => ?_) (fun c1 => ?_))
    ·
      simp at c1
    ·
      refine a_end ?_
      refine awp_condF (by conv => lhs; whnf) ?_
      refine awp_exit ?_
      refine awp_seq ?_
      refine awp_region rfl ?_
      refine a_do rfl (o_move (by conv => lhs; whnf) ?_)
      refine a_do rfl (o_assign (by conv => lhs; whnf) ?_)
      refine a_end ?_
      refine awp_ret ?_
      refine ⟨.inl rfl, [_], ⟨ares_tmp (by conv => lhs; whnf), trivial⟩, ?_⟩
      exact ⟨rfl, Grown.refl _⟩

set_option maxRecDepth 10000 in
theorem heldInt64S_ret (c : Int) (xs : List Int) (v : Value) (h : AHeap) (hv : Ints h v xs) (hl : xs.length ≤ 1073741824) (hc : 0 ≤ c ∧ c ≤ 1073741824) : Ret Try.prog 47 [v, i64 c] h (i64 (held c xs)) h := by
  refine ret_of (.prim rfl) ?_
  refine tri_of_body Try.func47 rfl (by kernel_rfl) (by show 2 ≤ 21; decide) ?_
  refine awp_seq ?_
  refine awp_region rfl ?_
  refine a_do rfl (o_assign (by conv => lhs; whnf) ?_)
  refine a_end ?_
  refine awp_seq ?_
  refine awp_seq ?_
  refine awp_region rfl ?_
  refine a_do rfl (o_assign (by conv => lhs; whnf) ?_)
  refine a_end ?_
  refine awp_block ?_
  refine awp_loop (σ := Nat) (fun s env1 h1 => Slots env1 [(0, v), (1, i64 (c + s)), (5, i64 s)] ∧ h1 = h ∧ s ≤ xs.length ∧ xs.take s = upto c s) (fun s => xs.length - s) 0 ?_ ?_
  · refine ⟨Slots.mk ⟨?_, ?_, ?_, trivial⟩, ?_, ?_⟩
    all_goals first | rfl | exact congrArg i64 (show c = c + ((0 : Nat) : Int) by simp) | exact ⟨by omega, rfl⟩ | (simp; done)
  · intro s env1 h1 hI1
    obtain ⟨⟨e1, rfl⟩, rfl, ⟨hs, ha⟩⟩ := hI1
    refine awp_seq ?_
    refine awp_seq ?_
    refine awp_region rfl ?_
    refine a_do rfl (o_move (by conv => lhs; whnf) ?_)
    refine a_do rfl (o_move (by conv => lhs; whnf) ?_)
    refine a_do rfl (o_lenI Try.underlying22 (by conv => lhs; whnf) (by repeat (first | assumption | exact ints_nil | exact Ints.own (by repeat (first | assumption | exact lk_last (by (try simp only [List.length_append, List.length_cons, List.length_nil, List.length_set]); omega) | apply lk_prev)) (by first | rfl | exact upto_len | assumption | exact map_len | exact List.length_set) | exact Ints.tail (by repeat (first | assumption | exact lk_last (by (try simp only [List.length_append, List.length_cons, List.length_nil, List.length_set]); omega) | apply lk_prev)) (by first | rfl | exact upto_len | assumption | exact map_len | exact List.length_set) | apply Ints.app | (refine Ints.sub (by repeat (first | assumption | apply Ints.app)) (by omega) (by omega) (by omega)))) ?_)
    refine a_do rfl (o_lss (by conv => lhs; whnf) (by conv => lhs; whnf) (fun c1 => ?_) (fun c1 => ?_))
    ·
      refine a_end ?_
      refine awp_condT (by conv => lhs; whnf) ?_
      refine awp_skip ?_
      refine awp_seq ?_
      refine awp_block ?_
      refine awp_seq ?_
      refine awp_seq ?_
      refine awp_region rfl ?_
      refine a_do rfl (o_move (by conv => lhs; whnf) ?_)
      refine a_do rfl (o_move (by conv => lhs; whnf) ?_)
      first | refine a_do rfl (o_indexI Try.underlying22 ty2 (by conv => lhs; whnf) (by repeat (first | assumption | exact ints_nil | exact Ints.own (by repeat (first | assumption | exact lk_last (by (try simp only [List.length_append, List.length_cons, List.length_nil, List.length_set]); omega) | apply lk_prev)) (by first | rfl | exact upto_len | assumption | exact map_len | exact List.length_set) | exact Ints.tail (by repeat (first | assumption | exact lk_last (by (try simp only [List.length_append, List.length_cons, List.length_nil, List.length_set]); omega) | apply lk_prev)) (by first | rfl | exact upto_len | assumption | exact map_len | exact List.length_set) | apply Ints.app | (refine Ints.sub (by repeat (first | assumption | apply Ints.app)) (by omega) (by omega) (by omega)))) (by conv => lhs; whnf) (by omega) (fun p2 hp2 => ?_)) | refine a_do rfl (o_indexZ Try.underlying22 ty2 (by conv => lhs; whnf) (by repeat (first | assumption | exact ints_nil | exact Ints.own (by repeat (first | assumption | exact lk_last (by (try simp only [List.length_append, List.length_cons, List.length_nil, List.length_set]); omega) | apply lk_prev)) (by first | rfl | exact upto_len | assumption | exact map_len | exact List.length_set) | exact Ints.tail (by repeat (first | assumption | exact lk_last (by (try simp only [List.length_append, List.length_cons, List.length_nil, List.length_set]); omega) | apply lk_prev)) (by first | rfl | exact upto_len | assumption | exact map_len | exact List.length_set) | apply Ints.app | (refine Ints.sub (by repeat (first | assumption | apply Ints.app)) (by omega) (by omega) (by omega)))) (by conv => lhs; whnf) (by omega) (by omega) (fun p2 hp2 => ?_))
      refine a_do rfl (o_loadI Try.underlying2 rfl (by conv => lhs; whnf) hp2 (by repeat (first | assumption | exact ints_nil | exact Ints.own (by repeat (first | assumption | exact lk_last (by (try simp only [List.length_append, List.length_cons, List.length_nil, List.length_set]); omega) | apply lk_prev)) (by first | rfl | exact upto_len | assumption | exact map_len | exact List.length_set) | exact Ints.tail (by repeat (first | assumption | exact lk_last (by (try simp only [List.length_append, List.length_cons, List.length_nil, List.length_set]); omega) | apply lk_prev)) (by first | rfl | exact upto_len | assumption | exact map_len | exact List.length_set) | apply Ints.app | (refine Ints.sub (by repeat (first | assumption | apply Ints.app)) (by omega) (by omega) (by omega)))) (by omega) ?_)
      refine a_do rfl (o_move (by conv => lhs; whnf) ?_)
      refine a_do rfl (o_neq (by conv => lhs; whnf) (by conv => lhs; whnf) (fun c3 => ?_) (fun c3 => ?_))
      ·
        refine a_end ?_
        refine awp_condT (by conv => lhs; whnf) ?_
        refine awp_seq ?_
        refine awp_region rfl ?_
        refine a_do rfl (o_assign (by conv => lhs; whnf) ?_)
        refine a_end ?_
        refine awp_ret ?_
        refine ⟨.inl rfl, [_], ⟨ares_tmp (by conv => lhs; whnf), trivial⟩, ?_⟩
        exact ⟨congrArg i64 (by first | exact held_no (s := s) (by omega) (by omega) | exact held_yes ha (by omega)), (by repeat (first | exact Grown.refl _ | refine Grown.push ?_ _))⟩
      ·
        refine a_end ?_
        refine awp_condF (by conv => lhs; whnf) ?_
        refine awp_skip ?_
        refine awp_region rfl ?_
        refine a_do rfl (o_move (by conv => lhs; whnf) ?_)
        refine a_do rfl (o_add (by conv => lhs; whnf) (by conv => lhs; whnf) (by omega) (by omega) ?_)
        refine a_do rfl (o_assign (by conv => lhs; whnf) ?_)
        refine a_end ?_
        refine awp_region rfl ?_
        refine a_do rfl (o_move (by conv => lhs; whnf) ?_)
        refine a_do rfl (o_add (by conv => lhs; whnf) (by conv => lhs; whnf) (by omega) (by omega) ?_)
        refine a_do rfl (o_assign (by conv => lhs; whnf) ?_)
        refine a_end ?_
        refine ⟨s + 1, ⟨Slots.mk ⟨?_, ?_, ?_, trivial⟩, ?_, ?_⟩, ?_⟩
        all_goals first | rfl | omega | exact congrArg i64 (by omega) | exact ⟨by omega, upto_take (by omega) ha (by omega)⟩
    ·
      refine a_end ?_
      refine awp_condF (by conv => lhs; whnf) ?_
      refine awp_exit ?_
      refine awp_seq ?_
      refine awp_region rfl ?_
      refine a_do rfl (o_move (by conv => lhs; whnf) ?_)
      refine a_do rfl (o_assign (by conv => lhs; whnf) ?_)
      refine a_end ?_
      refine awp_ret ?_
      refine ⟨.inl rfl, [_], ⟨ares_tmp (by conv => lhs; whnf), trivial⟩, ?_⟩
      exact ⟨congrArg i64 (by first | exact held_no (s := s) (by omega) (by omega) | exact held_yes ha (by omega)), (by repeat (first | exact Grown.refl _ | refine Grown.push ?_ _))⟩

theorem heldU_ret (c : Int) (n : Nat) (v : Value) (h : AHeap) (hv : Ints h v (upto c n)) (hl : n ≤ 1073741824) (hc : 0 ≤ c ∧ c ≤ 1073741824) : Ret Try.prog 47 [v, i64 c] h (i64 (c + n)) h := by
  have hr := heldInt64S_ret c (upto c n) v h hv (by rw [upto_len]; exact hl) hc
  rw [held_upto] at hr
  exact hr

theorem heldNil_ret (c : Int) (h : AHeap) (hc : 0 ≤ c ∧ c ≤ 1073741824) : Ret Try.prog 47 [.slice none 0 0, i64 c] h (i64 c) h := by
  have hr := heldInt64S_ret c [] (.slice none 0 0) h (.inl ⟨rfl, rfl⟩) (by simp) hc
  simpa [held, upto] using hr

set_option maxRecDepth 10000 in
theorem l03Count_ret (s : Nat) (h : AHeap) (hs : s < 64) : Ret Try.prog 108 [i64 s] h (i64 ((pop s : Nat) : Int)) h := by
  refine ret_of (.prim rfl) ?_
  refine tri_of_body Try.func108 rfl (by kernel_rfl) (by show 1 ≤ 13; decide) ?_
  refine awp_seq ?_
  refine awp_region rfl ?_
  refine a_do rfl (o_assign (by conv => lhs; whnf) ?_)
  refine a_end ?_
  refine awp_seq ?_
  refine awp_region rfl ?_
  refine a_do rfl (o_assign (by conv => lhs; whnf) ?_)
  refine a_end ?_
  refine awp_seq ?_
  refine awp_block ?_
  refine awp_loop (σ := Nat × Nat) (fun ⟨r, a⟩ env1 h1 => Slots env1 [(0, i64 r), (3, i64 a)] ∧ h1 = h ∧ r < 64 ∧ a + pop r = pop s) (fun ⟨r, a⟩ => r) (s, 0) ?_ ?_
  · refine ⟨Slots.mk ⟨?_, ?_, trivial⟩, ?_, ?_⟩
    all_goals first | rfl | omega | exact ⟨by omega, by omega⟩
  · intro ⟨r, a⟩ env1 h1 hI1
    obtain ⟨⟨e1, rfl⟩, rfl, ⟨hr, ha⟩⟩ := hI1
    have hp7 := pop_le s hs
    refine awp_seq ?_
    refine awp_seq ?_
    refine awp_region rfl ?_
    refine a_do rfl (o_move (by conv => lhs; whnf) ?_)
    refine a_do rfl (o_gtr (by conv => lhs; whnf) (by conv => lhs; whnf) (fun c1 => ?_) (fun c1 => ?_))
    ·
      refine a_end ?_
      refine awp_condT (by conv => lhs; whnf) ?_
      refine awp_skip ?_
      refine awp_seq ?_
      refine awp_block ?_
      refine awp_region rfl ?_
      refine a_do rfl (o_move (by conv => lhs; whnf) ?_)
      refine a_do rfl (o_move (by conv => lhs; whnf) ?_)
      refine a_do rfl (o_rem (by conv => lhs; whnf) (by conv => lhs; whnf) (by omega) (by omega) ?_)
      refine a_do rfl (o_add (by conv => lhs; whnf) (by conv => lhs; whnf) (by omega) (by omega) ?_)
      refine a_do rfl (o_assign (by conv => lhs; whnf) ?_)
      refine a_end ?_
      refine awp_region rfl ?_
      refine a_do rfl (o_move (by conv => lhs; whnf) ?_)
      refine a_do rfl (o_quo (by conv => lhs; whnf) (by conv => lhs; whnf) (by omega) (by omega) (by omega) ?_)
      refine a_do rfl (o_assign (by conv => lhs; whnf) ?_)
      refine a_end ?_
      refine ⟨(r / 2, a + r % 2), ⟨Slots.mk ⟨?_, ?_, trivial⟩, ?_, ?_⟩, ?_⟩
      all_goals first | rfl | omega | exact congrArg i64 (by omega) | (show r / 2 < r; omega) | (have hp8 := pop_step r hr (by omega); exact ⟨by omega, by omega⟩)
    ·
      refine a_end ?_
      refine awp_condF (by conv => lhs; whnf) ?_
      refine awp_exit ?_
      refine awp_seq ?_
      refine awp_region rfl ?_
      refine a_do rfl (o_move (by conv => lhs; whnf) ?_)
      refine a_do rfl (o_assign (by conv => lhs; whnf) ?_)
      refine a_end ?_
      refine awp_ret ?_
      refine ⟨.inl rfl, [_], ⟨ares_tmp (by conv => lhs; whnf), trivial⟩, ?_⟩
      obtain rfl : r = 0 := (by omega); have hz0 : pop 0 = 0 := (by decide +kernel); exact ⟨congrArg i64 (by omega), (by repeat (first | exact Grown.refl _ | refine Grown.push ?_ _))⟩

set_option maxRecDepth 10000 in
theorem areWays_ret (p : Int) (xs : List Int) (v : Value) (h : AHeap) (hv : Ints h v xs) (hl : xs.length ≤ 1073741824) : Ret Try.prog 103 [i64 p, v] h (.bool (waysV p xs)) h := by
  refine ret_of (.prim rfl) ?_
  refine tri_of_body Try.func103 rfl (by kernel_rfl) (by show 2 ≤ 60; decide) ?_
  refine awp_seq ?_
  refine awp_region rfl ?_
  refine a_do rfl (o_assign (by conv => lhs; whnf) ?_)
  refine a_end ?_
  refine awp_seq ?_
  refine awp_region rfl ?_
  refine a_do rfl (o_move (by conv => lhs; whnf) ?_)
  refine a_do rfl (o_bin (by conv => lhs; whnf) (by conv => lhs; whnf) rfl ?_)
  refine a_do rfl (o_assign (by conv => lhs; whnf) ?_)
  refine a_end ?_
  refine awp_seq ?_
  refine awp_seq ?_
  refine awp_region rfl ?_
  refine a_do rfl (o_move (by conv => lhs; whnf) ?_)
  refine a_do rfl (o_callF (lmap_cons (by conv => lhs; whnf) lmap_nil) (Ret.toB (arePlayers_ret _ _) (fun c1 => ?_) (fun c1 => ?_)))
  ·
    have hp := of_decide_eq_true c1
    have hwr : IntKind.i64.wrap (p + 1) = p + 1 := wrap_id (by omega) (by omega)
    have hm2 := mul_bound (p := p + 1) (q := p + 1) (a := 7) (b := 7) (by omega) (by omega)
    rw [hwr]
    refine a_do rfl (o_notT (by conv => lhs; whnf) ?_)
    refine a_do rfl (o_move (by conv => lhs; whnf) ?_)
    refine a_do rfl (o_move (by conv => lhs; whnf) ?_)
    refine a_do rfl (o_move (by conv => lhs; whnf) ?_)
    refine a_do rfl (o_move (by conv => lhs; whnf) ?_)
    refine a_do rfl (o_mul (by conv => lhs; whnf) (by conv => lhs; whnf) (by omega) (by omega) ?_)
    refine a_do rfl (o_move (by conv => lhs; whnf) ?_)
    refine a_do rfl (o_move (by conv => lhs; whnf) ?_)
    refine a_do rfl (o_mul (by conv => lhs; whnf) (by conv => lhs; whnf) (by omega) (by omega) ?_)
    refine a_do rfl (o_callF (lmap_cons (by conv => lhs; whnf) (lmap_cons (by conv => lhs; whnf) (lmap_cons (by conv => lhs; whnf) (lmap_cons (by conv => lhs; whnf) (lmap_cons (by conv => lhs; whnf) lmap_nil))))) (Ret.toB (areMany_ret _ _ _ _ _ _ _ (by repeat (first | assumption | exact ints_nil | exact Ints.own (by repeat (first | assumption | exact lk_last (by (try simp only [List.length_append, List.length_cons, List.length_nil, List.length_set]); omega) | apply lk_prev)) (by first | rfl | exact upto_len | assumption | exact map_len | exact List.length_set) | exact Ints.tail (by repeat (first | assumption | exact lk_last (by (try simp only [List.length_append, List.length_cons, List.length_nil, List.length_set]); omega) | apply lk_prev)) (by first | rfl | exact upto_len | assumption | exact map_len | exact List.length_set) | apply Ints.app | (refine Ints.sub (by repeat (first | assumption | apply Ints.app)) (by omega) (by omega) (by omega)))) (by omega)) (fun c2 => ?_) (fun c2 => ?_)))
    ·
      obtain ⟨hlen, hall⟩ := many_of c2
      refine a_do rfl (o_notT (by conv => lhs; whnf) ?_)
      refine a_do rfl (o_pickF (by conv => lhs; whnf) (by conv => lhs; whnf) ?_)
      refine a_end ?_
      refine awp_condF (by conv => lhs; whnf) ?_
      refine awp_skip ?_
      refine awp_seq ?_
      refine awp_seq ?_
      refine awp_region rfl ?_
      refine a_do rfl (o_move (by conv => lhs; whnf) ?_)
      refine a_do rfl (o_move (by conv => lhs; whnf) ?_)
      refine a_end ?_
      refine awp_block ?_
      refine awp_loop (σ := Nat) (fun s env1 h1 => Slots env1 [(1, v), (5, i64 (p + 1)), (24, i64 (p + 1)), (25, i64 s)] ∧ h1 = h ∧ (s : Int) ≤ p + 1 ∧ WayS (p + 1) xs s) (fun s => (p + 1).toNat - s) 0 ?_ ?_
      · refine ⟨Slots.mk ⟨?_, ?_, ?_, ?_, trivial⟩, ?_, ?_⟩
        all_goals first | rfl | exact ⟨by omega, fun i hi => absurd hi (by omega)⟩ | (simp; done)
      · intro s env1 h1 hI1
        obtain ⟨⟨e1, rfl⟩, hkeep, ⟨hs, hS⟩⟩ := hI1
        obtain rfl := hkeep.symm
        refine awp_seq ?_
        refine awp_region rfl ?_
        refine a_do rfl (o_lss (by conv => lhs; whnf) (by conv => lhs; whnf) (fun c3 => ?_) (fun c3 => ?_))
        ·
          refine a_end ?_
          refine awp_seq ?_
          refine awp_condT (by conv => lhs; whnf) ?_
          refine awp_skip ?_
          refine awp_seq ?_
          refine awp_block ?_
          refine awp_seq ?_
          refine awp_region rfl ?_
          refine a_do rfl (o_move (by conv => lhs; whnf) ?_)
          refine a_do rfl (o_assign (by conv => lhs; whnf) ?_)
          refine a_end ?_
          refine awp_seq ?_
          refine awp_seq ?_
          refine awp_region rfl ?_
          have hcb := cell_bnd (i := (s : Int)) (p := p + 1) (q := p + 1) (n := (xs.length : Int)) (k := s) (by omega) (by omega) hlen
          refine a_do rfl (o_move (by conv => lhs; whnf) ?_)
          refine a_do rfl (o_move (by conv => lhs; whnf) ?_)
          refine a_do rfl (o_move (by conv => lhs; whnf) ?_)
          refine a_do rfl (o_mul (by conv => lhs; whnf) (by conv => lhs; whnf) (by omega) (by omega) ?_)
          refine a_do rfl (o_move (by conv => lhs; whnf) ?_)
          refine a_do rfl (o_add (by conv => lhs; whnf) (by conv => lhs; whnf) (by omega) (by omega) ?_)
          first | refine a_do rfl (o_indexI Try.underlying22 ty2 (by conv => lhs; whnf) (by repeat (first | assumption | exact ints_nil | exact Ints.own (by repeat (first | assumption | exact lk_last (by (try simp only [List.length_append, List.length_cons, List.length_nil, List.length_set]); omega) | apply lk_prev)) (by first | rfl | exact upto_len | assumption | exact map_len | exact List.length_set) | exact Ints.tail (by repeat (first | assumption | exact lk_last (by (try simp only [List.length_append, List.length_cons, List.length_nil, List.length_set]); omega) | apply lk_prev)) (by first | rfl | exact upto_len | assumption | exact map_len | exact List.length_set) | apply Ints.app | (refine Ints.sub (by repeat (first | assumption | apply Ints.app)) (by omega) (by omega) (by omega)))) (by conv => lhs; whnf) (by omega) (fun p4 hp4 => ?_)) | refine a_do rfl (o_indexZ Try.underlying22 ty2 (by conv => lhs; whnf) (by repeat (first | assumption | exact ints_nil | exact Ints.own (by repeat (first | assumption | exact lk_last (by (try simp only [List.length_append, List.length_cons, List.length_nil, List.length_set]); omega) | apply lk_prev)) (by first | rfl | exact upto_len | assumption | exact map_len | exact List.length_set) | exact Ints.tail (by repeat (first | assumption | exact lk_last (by (try simp only [List.length_append, List.length_cons, List.length_nil, List.length_set]); omega) | apply lk_prev)) (by first | rfl | exact upto_len | assumption | exact map_len | exact List.length_set) | apply Ints.app | (refine Ints.sub (by repeat (first | assumption | apply Ints.app)) (by omega) (by omega) (by omega)))) (by conv => lhs; whnf) (by omega) (by omega) (fun p4 hp4 => ?_))
          refine a_do rfl (o_loadI Try.underlying2 rfl (by conv => lhs; whnf) hp4 (by repeat (first | assumption | exact ints_nil | exact Ints.own (by repeat (first | assumption | exact lk_last (by (try simp only [List.length_append, List.length_cons, List.length_nil, List.length_set]); omega) | apply lk_prev)) (by first | rfl | exact upto_len | assumption | exact map_len | exact List.length_set) | exact Ints.tail (by repeat (first | assumption | exact lk_last (by (try simp only [List.length_append, List.length_cons, List.length_nil, List.length_set]); omega) | apply lk_prev)) (by first | rfl | exact upto_len | assumption | exact map_len | exact List.length_set) | apply Ints.app | (refine Ints.sub (by repeat (first | assumption | apply Ints.app)) (by omega) (by omega) (by omega)))) (by omega) ?_)
          refine a_do rfl (o_neq (by conv => lhs; whnf) (by conv => lhs; whnf) (fun c5 => ?_) (fun c5 => ?_))
          ·
            have hR : waysV p xs = false := ways_noD (s := s) (by omega) c5
            refine a_end ?_
            refine awp_condT (by conv => lhs; whnf) ?_
            refine awp_seq ?_
            refine awp_region rfl ?_
            refine a_do rfl (o_assign (by conv => lhs; whnf) ?_)
            refine a_end ?_
            refine awp_ret ?_
            refine ⟨.inl rfl, [_], ⟨ares_tmp (by conv => lhs; whnf), trivial⟩, ?_⟩
            exact ⟨congrArg Value.bool (by first | exact hR.symm | exact (ways_yes hp hlen hall (by omega) hS).symm), (by repeat (first | exact Grown.refl _ | refine Grown.push ?_ _))⟩
          ·
            have hd9 : wayC xs (p + 1) s s = 0 := c5
            refine a_end ?_
            refine awp_condF (by conv => lhs; whnf) ?_
            refine awp_skip ?_
            refine awp_seq ?_
            refine awp_region rfl ?_
            refine a_do rfl (o_move (by conv => lhs; whnf) ?_)
            refine a_do rfl (o_move (by conv => lhs; whnf) ?_)
            refine a_end ?_
            refine awp_block ?_
            refine awp_loop (σ := Nat) (fun s2 env1 h1 => Slots env1 [(1, v), (5, i64 (p + 1)), (6, i64 s), (24, i64 (p + 1)), (25, i64 s), (37, i64 s), (38, i64 s2)] ∧ h1 = h ∧ s2 ≤ s ∧ ∀ k : Nat, k < s2 → wayC xs (p + 1) s k = wayC xs (p + 1) k s) (fun s2 => s - s2) 0 ?_ ?_
            · refine ⟨Slots.mk ⟨?_, ?_, ?_, ?_, ?_, ?_, ?_, trivial⟩, ?_, ?_⟩
              all_goals first | rfl | exact ⟨by omega, fun i hi => absurd hi (by omega)⟩ | (simp; done)
            · intro s2 env1 h1 hI1
              obtain ⟨⟨e1, rfl⟩, hkeep, ⟨hs2, ha2⟩⟩ := hI1
              obtain rfl := hkeep.symm
              refine awp_seq ?_
              refine awp_region rfl ?_
              refine a_do rfl (o_lss (by conv => lhs; whnf) (by conv => lhs; whnf) (fun c6 => ?_) (fun c6 => ?_))
              ·
                refine a_end ?_
                refine awp_seq ?_
                refine awp_condT (by conv => lhs; whnf) ?_
                refine awp_skip ?_
                refine awp_seq ?_
                refine awp_block ?_
                refine awp_seq ?_
                refine awp_region rfl ?_
                refine a_do rfl (o_move (by conv => lhs; whnf) ?_)
                refine a_do rfl (o_assign (by conv => lhs; whnf) ?_)
                refine a_end ?_
                refine awp_seq ?_
                refine awp_draw Try_mixed (by kernel_rfl) rfl ?_
                have hcb1 := cell_bnd (i := (s : Int)) (p := p + 1) (q := p + 1) (n := (xs.length : Int)) (k := s2) (by omega) (by omega) hlen
                have hcb2 := cell_bnd (i := (s2 : Int)) (p := p + 1) (q := p + 1) (n := (xs.length : Int)) (k := s) (by omega) (by omega) hlen
                refine d_do rfl (o_move (by conv => lhs; whnf) ⟨rfl, rfl⟩) (by first | exact .prim rfl | exact Within.mono ‹Within _ (Value.func _ _ _)› (by (try simp only [List.length_append, List.length_cons, List.length_nil, List.length_set]); omega) | (apply within_sub; apply Ints.within; repeat (first | assumption | apply Ints.app)) | (apply within_ptr; repeat (first | assumption | exact lk_last (by (try simp only [List.length_append, List.length_cons, List.length_nil, List.length_set]); omega) | apply lk_prev)) | (apply within_sl; repeat (first | assumption | exact lk_last (by (try simp only [List.length_append, List.length_cons, List.length_nil, List.length_set]); omega) | apply lk_prev)) | (apply Within.agg3 <;> (first | exact .prim rfl | (apply within_ptr; repeat (first | assumption | exact lk_last (by (try simp only [List.length_append, List.length_cons, List.length_nil, List.length_set]); omega) | apply lk_prev)) | (apply within_sl; repeat (first | assumption | exact lk_last (by (try simp only [List.length_append, List.length_cons, List.length_nil, List.length_set]); omega) | apply lk_prev)) | ((try apply within_sub); apply Ints.within; repeat (first | assumption | apply Ints.app)))) | (apply Within.agg2 <;> (first | exact .prim rfl | (apply within_ptr; repeat (first | assumption | exact lk_last (by (try simp only [List.length_append, List.length_cons, List.length_nil, List.length_set]); omega) | apply lk_prev)) | (apply within_sl; repeat (first | assumption | exact lk_last (by (try simp only [List.length_append, List.length_cons, List.length_nil, List.length_set]); omega) | apply lk_prev)) | ((try apply within_sub); apply Ints.within; repeat (first | assumption | apply Ints.app)))) | (apply Ints.within; repeat (first | assumption | apply Ints.app))) ?_
                refine d_do rfl (o_move (by conv => lhs; whnf) ⟨rfl, rfl⟩) (by first | exact .prim rfl | exact Within.mono ‹Within _ (Value.func _ _ _)› (by (try simp only [List.length_append, List.length_cons, List.length_nil, List.length_set]); omega) | (apply within_sub; apply Ints.within; repeat (first | assumption | apply Ints.app)) | (apply within_ptr; repeat (first | assumption | exact lk_last (by (try simp only [List.length_append, List.length_cons, List.length_nil, List.length_set]); omega) | apply lk_prev)) | (apply within_sl; repeat (first | assumption | exact lk_last (by (try simp only [List.length_append, List.length_cons, List.length_nil, List.length_set]); omega) | apply lk_prev)) | (apply Within.agg3 <;> (first | exact .prim rfl | (apply within_ptr; repeat (first | assumption | exact lk_last (by (try simp only [List.length_append, List.length_cons, List.length_nil, List.length_set]); omega) | apply lk_prev)) | (apply within_sl; repeat (first | assumption | exact lk_last (by (try simp only [List.length_append, List.length_cons, List.length_nil, List.length_set]); omega) | apply lk_prev)) | ((try apply within_sub); apply Ints.within; repeat (first | assumption | apply Ints.app)))) | (apply Within.agg2 <;> (first | exact .prim rfl | (apply within_ptr; repeat (first | assumption | exact lk_last (by (try simp only [List.length_append, List.length_cons, List.length_nil, List.length_set]); omega) | apply lk_prev)) | (apply within_sl; repeat (first | assumption | exact lk_last (by (try simp only [List.length_append, List.length_cons, List.length_nil, List.length_set]); omega) | apply lk_prev)) | ((try apply within_sub); apply Ints.within; repeat (first | assumption | apply Ints.app)))) | (apply Ints.within; repeat (first | assumption | apply Ints.app))) ?_
                refine d_do rfl (o_move (by conv => lhs; whnf) ⟨rfl, rfl⟩) (by first | exact .prim rfl | exact Within.mono ‹Within _ (Value.func _ _ _)› (by (try simp only [List.length_append, List.length_cons, List.length_nil, List.length_set]); omega) | (apply within_sub; apply Ints.within; repeat (first | assumption | apply Ints.app)) | (apply within_ptr; repeat (first | assumption | exact lk_last (by (try simp only [List.length_append, List.length_cons, List.length_nil, List.length_set]); omega) | apply lk_prev)) | (apply within_sl; repeat (first | assumption | exact lk_last (by (try simp only [List.length_append, List.length_cons, List.length_nil, List.length_set]); omega) | apply lk_prev)) | (apply Within.agg3 <;> (first | exact .prim rfl | (apply within_ptr; repeat (first | assumption | exact lk_last (by (try simp only [List.length_append, List.length_cons, List.length_nil, List.length_set]); omega) | apply lk_prev)) | (apply within_sl; repeat (first | assumption | exact lk_last (by (try simp only [List.length_append, List.length_cons, List.length_nil, List.length_set]); omega) | apply lk_prev)) | ((try apply within_sub); apply Ints.within; repeat (first | assumption | apply Ints.app)))) | (apply Within.agg2 <;> (first | exact .prim rfl | (apply within_ptr; repeat (first | assumption | exact lk_last (by (try simp only [List.length_append, List.length_cons, List.length_nil, List.length_set]); omega) | apply lk_prev)) | (apply within_sl; repeat (first | assumption | exact lk_last (by (try simp only [List.length_append, List.length_cons, List.length_nil, List.length_set]); omega) | apply lk_prev)) | ((try apply within_sub); apply Ints.within; repeat (first | assumption | apply Ints.app)))) | (apply Ints.within; repeat (first | assumption | apply Ints.app))) ?_
                refine d_do rfl (o_mul (by conv => lhs; whnf) (by conv => lhs; whnf) (by omega) (by omega) ⟨rfl, rfl⟩) (by first | exact .prim rfl | exact Within.mono ‹Within _ (Value.func _ _ _)› (by (try simp only [List.length_append, List.length_cons, List.length_nil, List.length_set]); omega) | (apply within_sub; apply Ints.within; repeat (first | assumption | apply Ints.app)) | (apply within_ptr; repeat (first | assumption | exact lk_last (by (try simp only [List.length_append, List.length_cons, List.length_nil, List.length_set]); omega) | apply lk_prev)) | (apply within_sl; repeat (first | assumption | exact lk_last (by (try simp only [List.length_append, List.length_cons, List.length_nil, List.length_set]); omega) | apply lk_prev)) | (apply Within.agg3 <;> (first | exact .prim rfl | (apply within_ptr; repeat (first | assumption | exact lk_last (by (try simp only [List.length_append, List.length_cons, List.length_nil, List.length_set]); omega) | apply lk_prev)) | (apply within_sl; repeat (first | assumption | exact lk_last (by (try simp only [List.length_append, List.length_cons, List.length_nil, List.length_set]); omega) | apply lk_prev)) | ((try apply within_sub); apply Ints.within; repeat (first | assumption | apply Ints.app)))) | (apply Within.agg2 <;> (first | exact .prim rfl | (apply within_ptr; repeat (first | assumption | exact lk_last (by (try simp only [List.length_append, List.length_cons, List.length_nil, List.length_set]); omega) | apply lk_prev)) | (apply within_sl; repeat (first | assumption | exact lk_last (by (try simp only [List.length_append, List.length_cons, List.length_nil, List.length_set]); omega) | apply lk_prev)) | ((try apply within_sub); apply Ints.within; repeat (first | assumption | apply Ints.app)))) | (apply Ints.within; repeat (first | assumption | apply Ints.app))) ?_
                refine d_do rfl (o_move (by conv => lhs; whnf) ⟨rfl, rfl⟩) (by first | exact .prim rfl | exact Within.mono ‹Within _ (Value.func _ _ _)› (by (try simp only [List.length_append, List.length_cons, List.length_nil, List.length_set]); omega) | (apply within_sub; apply Ints.within; repeat (first | assumption | apply Ints.app)) | (apply within_ptr; repeat (first | assumption | exact lk_last (by (try simp only [List.length_append, List.length_cons, List.length_nil, List.length_set]); omega) | apply lk_prev)) | (apply within_sl; repeat (first | assumption | exact lk_last (by (try simp only [List.length_append, List.length_cons, List.length_nil, List.length_set]); omega) | apply lk_prev)) | (apply Within.agg3 <;> (first | exact .prim rfl | (apply within_ptr; repeat (first | assumption | exact lk_last (by (try simp only [List.length_append, List.length_cons, List.length_nil, List.length_set]); omega) | apply lk_prev)) | (apply within_sl; repeat (first | assumption | exact lk_last (by (try simp only [List.length_append, List.length_cons, List.length_nil, List.length_set]); omega) | apply lk_prev)) | ((try apply within_sub); apply Ints.within; repeat (first | assumption | apply Ints.app)))) | (apply Within.agg2 <;> (first | exact .prim rfl | (apply within_ptr; repeat (first | assumption | exact lk_last (by (try simp only [List.length_append, List.length_cons, List.length_nil, List.length_set]); omega) | apply lk_prev)) | (apply within_sl; repeat (first | assumption | exact lk_last (by (try simp only [List.length_append, List.length_cons, List.length_nil, List.length_set]); omega) | apply lk_prev)) | ((try apply within_sub); apply Ints.within; repeat (first | assumption | apply Ints.app)))) | (apply Ints.within; repeat (first | assumption | apply Ints.app))) ?_
                refine d_do rfl (o_add (by conv => lhs; whnf) (by conv => lhs; whnf) (by omega) (by omega) ⟨rfl, rfl⟩) (by first | exact .prim rfl | exact Within.mono ‹Within _ (Value.func _ _ _)› (by (try simp only [List.length_append, List.length_cons, List.length_nil, List.length_set]); omega) | (apply within_sub; apply Ints.within; repeat (first | assumption | apply Ints.app)) | (apply within_ptr; repeat (first | assumption | exact lk_last (by (try simp only [List.length_append, List.length_cons, List.length_nil, List.length_set]); omega) | apply lk_prev)) | (apply within_sl; repeat (first | assumption | exact lk_last (by (try simp only [List.length_append, List.length_cons, List.length_nil, List.length_set]); omega) | apply lk_prev)) | (apply Within.agg3 <;> (first | exact .prim rfl | (apply within_ptr; repeat (first | assumption | exact lk_last (by (try simp only [List.length_append, List.length_cons, List.length_nil, List.length_set]); omega) | apply lk_prev)) | (apply within_sl; repeat (first | assumption | exact lk_last (by (try simp only [List.length_append, List.length_cons, List.length_nil, List.length_set]); omega) | apply lk_prev)) | ((try apply within_sub); apply Ints.within; repeat (first | assumption | apply Ints.app)))) | (apply Within.agg2 <;> (first | exact .prim rfl | (apply within_ptr; repeat (first | assumption | exact lk_last (by (try simp only [List.length_append, List.length_cons, List.length_nil, List.length_set]); omega) | apply lk_prev)) | (apply within_sl; repeat (first | assumption | exact lk_last (by (try simp only [List.length_append, List.length_cons, List.length_nil, List.length_set]); omega) | apply lk_prev)) | ((try apply within_sub); apply Ints.within; repeat (first | assumption | apply Ints.app)))) | (apply Ints.within; repeat (first | assumption | apply Ints.app))) ?_
                first | refine d_indexI rfl Try.underlying22 ty2 (by conv => lhs; whnf) (by repeat (first | assumption | exact ints_nil | exact Ints.own (by repeat (first | assumption | exact lk_last (by (try simp only [List.length_append, List.length_cons, List.length_nil, List.length_set]); omega) | apply lk_prev)) (by first | rfl | exact upto_len | assumption | exact map_len | exact List.length_set) | exact Ints.tail (by repeat (first | assumption | exact lk_last (by (try simp only [List.length_append, List.length_cons, List.length_nil, List.length_set]); omega) | apply lk_prev)) (by first | rfl | exact upto_len | assumption | exact map_len | exact List.length_set) | apply Ints.app | (refine Ints.sub (by repeat (first | assumption | apply Ints.app)) (by omega) (by omega) (by omega)))) (by conv => lhs; whnf) (by omega) (fun p7 hp7 => ?_) | refine d_indexZ rfl Try.underlying22 ty2 (by conv => lhs; whnf) (by repeat (first | assumption | exact ints_nil | exact Ints.own (by repeat (first | assumption | exact lk_last (by (try simp only [List.length_append, List.length_cons, List.length_nil, List.length_set]); omega) | apply lk_prev)) (by first | rfl | exact upto_len | assumption | exact map_len | exact List.length_set) | exact Ints.tail (by repeat (first | assumption | exact lk_last (by (try simp only [List.length_append, List.length_cons, List.length_nil, List.length_set]); omega) | apply lk_prev)) (by first | rfl | exact upto_len | assumption | exact map_len | exact List.length_set) | apply Ints.app | (refine Ints.sub (by repeat (first | assumption | apply Ints.app)) (by omega) (by omega) (by omega)))) (by conv => lhs; whnf) (by omega) (by omega) (fun p7 hp7 => ?_)
                refine d_do rfl (o_loadI Try.underlying2 rfl (by conv => lhs; whnf) hp7 (by repeat (first | assumption | exact ints_nil | exact Ints.own (by repeat (first | assumption | exact lk_last (by (try simp only [List.length_append, List.length_cons, List.length_nil, List.length_set]); omega) | apply lk_prev)) (by first | rfl | exact upto_len | assumption | exact map_len | exact List.length_set) | exact Ints.tail (by repeat (first | assumption | exact lk_last (by (try simp only [List.length_append, List.length_cons, List.length_nil, List.length_set]); omega) | apply lk_prev)) (by first | rfl | exact upto_len | assumption | exact map_len | exact List.length_set) | apply Ints.app | (refine Ints.sub (by repeat (first | assumption | apply Ints.app)) (by omega) (by omega) (by omega)))) (by omega) ⟨rfl, rfl⟩) (by first | exact .prim rfl | exact Within.mono ‹Within _ (Value.func _ _ _)› (by (try simp only [List.length_append, List.length_cons, List.length_nil, List.length_set]); omega) | (apply within_sub; apply Ints.within; repeat (first | assumption | apply Ints.app)) | (apply within_ptr; repeat (first | assumption | exact lk_last (by (try simp only [List.length_append, List.length_cons, List.length_nil, List.length_set]); omega) | apply lk_prev)) | (apply within_sl; repeat (first | assumption | exact lk_last (by (try simp only [List.length_append, List.length_cons, List.length_nil, List.length_set]); omega) | apply lk_prev)) | (apply Within.agg3 <;> (first | exact .prim rfl | (apply within_ptr; repeat (first | assumption | exact lk_last (by (try simp only [List.length_append, List.length_cons, List.length_nil, List.length_set]); omega) | apply lk_prev)) | (apply within_sl; repeat (first | assumption | exact lk_last (by (try simp only [List.length_append, List.length_cons, List.length_nil, List.length_set]); omega) | apply lk_prev)) | ((try apply within_sub); apply Ints.within; repeat (first | assumption | apply Ints.app)))) | (apply Within.agg2 <;> (first | exact .prim rfl | (apply within_ptr; repeat (first | assumption | exact lk_last (by (try simp only [List.length_append, List.length_cons, List.length_nil, List.length_set]); omega) | apply lk_prev)) | (apply within_sl; repeat (first | assumption | exact lk_last (by (try simp only [List.length_append, List.length_cons, List.length_nil, List.length_set]); omega) | apply lk_prev)) | ((try apply within_sub); apply Ints.within; repeat (first | assumption | apply Ints.app)))) | (apply Ints.within; repeat (first | assumption | apply Ints.app))) ?_
                refine d_do rfl (o_move (by conv => lhs; whnf) ⟨rfl, rfl⟩) (by first | exact .prim rfl | exact Within.mono ‹Within _ (Value.func _ _ _)› (by (try simp only [List.length_append, List.length_cons, List.length_nil, List.length_set]); omega) | (apply within_sub; apply Ints.within; repeat (first | assumption | apply Ints.app)) | (apply within_ptr; repeat (first | assumption | exact lk_last (by (try simp only [List.length_append, List.length_cons, List.length_nil, List.length_set]); omega) | apply lk_prev)) | (apply within_sl; repeat (first | assumption | exact lk_last (by (try simp only [List.length_append, List.length_cons, List.length_nil, List.length_set]); omega) | apply lk_prev)) | (apply Within.agg3 <;> (first | exact .prim rfl | (apply within_ptr; repeat (first | assumption | exact lk_last (by (try simp only [List.length_append, List.length_cons, List.length_nil, List.length_set]); omega) | apply lk_prev)) | (apply within_sl; repeat (first | assumption | exact lk_last (by (try simp only [List.length_append, List.length_cons, List.length_nil, List.length_set]); omega) | apply lk_prev)) | ((try apply within_sub); apply Ints.within; repeat (first | assumption | apply Ints.app)))) | (apply Within.agg2 <;> (first | exact .prim rfl | (apply within_ptr; repeat (first | assumption | exact lk_last (by (try simp only [List.length_append, List.length_cons, List.length_nil, List.length_set]); omega) | apply lk_prev)) | (apply within_sl; repeat (first | assumption | exact lk_last (by (try simp only [List.length_append, List.length_cons, List.length_nil, List.length_set]); omega) | apply lk_prev)) | ((try apply within_sub); apply Ints.within; repeat (first | assumption | apply Ints.app)))) | (apply Ints.within; repeat (first | assumption | apply Ints.app))) ?_
                refine d_do rfl (o_move (by conv => lhs; whnf) ⟨rfl, rfl⟩) (by first | exact .prim rfl | exact Within.mono ‹Within _ (Value.func _ _ _)› (by (try simp only [List.length_append, List.length_cons, List.length_nil, List.length_set]); omega) | (apply within_sub; apply Ints.within; repeat (first | assumption | apply Ints.app)) | (apply within_ptr; repeat (first | assumption | exact lk_last (by (try simp only [List.length_append, List.length_cons, List.length_nil, List.length_set]); omega) | apply lk_prev)) | (apply within_sl; repeat (first | assumption | exact lk_last (by (try simp only [List.length_append, List.length_cons, List.length_nil, List.length_set]); omega) | apply lk_prev)) | (apply Within.agg3 <;> (first | exact .prim rfl | (apply within_ptr; repeat (first | assumption | exact lk_last (by (try simp only [List.length_append, List.length_cons, List.length_nil, List.length_set]); omega) | apply lk_prev)) | (apply within_sl; repeat (first | assumption | exact lk_last (by (try simp only [List.length_append, List.length_cons, List.length_nil, List.length_set]); omega) | apply lk_prev)) | ((try apply within_sub); apply Ints.within; repeat (first | assumption | apply Ints.app)))) | (apply Within.agg2 <;> (first | exact .prim rfl | (apply within_ptr; repeat (first | assumption | exact lk_last (by (try simp only [List.length_append, List.length_cons, List.length_nil, List.length_set]); omega) | apply lk_prev)) | (apply within_sl; repeat (first | assumption | exact lk_last (by (try simp only [List.length_append, List.length_cons, List.length_nil, List.length_set]); omega) | apply lk_prev)) | ((try apply within_sub); apply Ints.within; repeat (first | assumption | apply Ints.app)))) | (apply Ints.within; repeat (first | assumption | apply Ints.app))) ?_
                refine d_do rfl (o_move (by conv => lhs; whnf) ⟨rfl, rfl⟩) (by first | exact .prim rfl | exact Within.mono ‹Within _ (Value.func _ _ _)› (by (try simp only [List.length_append, List.length_cons, List.length_nil, List.length_set]); omega) | (apply within_sub; apply Ints.within; repeat (first | assumption | apply Ints.app)) | (apply within_ptr; repeat (first | assumption | exact lk_last (by (try simp only [List.length_append, List.length_cons, List.length_nil, List.length_set]); omega) | apply lk_prev)) | (apply within_sl; repeat (first | assumption | exact lk_last (by (try simp only [List.length_append, List.length_cons, List.length_nil, List.length_set]); omega) | apply lk_prev)) | (apply Within.agg3 <;> (first | exact .prim rfl | (apply within_ptr; repeat (first | assumption | exact lk_last (by (try simp only [List.length_append, List.length_cons, List.length_nil, List.length_set]); omega) | apply lk_prev)) | (apply within_sl; repeat (first | assumption | exact lk_last (by (try simp only [List.length_append, List.length_cons, List.length_nil, List.length_set]); omega) | apply lk_prev)) | ((try apply within_sub); apply Ints.within; repeat (first | assumption | apply Ints.app)))) | (apply Within.agg2 <;> (first | exact .prim rfl | (apply within_ptr; repeat (first | assumption | exact lk_last (by (try simp only [List.length_append, List.length_cons, List.length_nil, List.length_set]); omega) | apply lk_prev)) | (apply within_sl; repeat (first | assumption | exact lk_last (by (try simp only [List.length_append, List.length_cons, List.length_nil, List.length_set]); omega) | apply lk_prev)) | ((try apply within_sub); apply Ints.within; repeat (first | assumption | apply Ints.app)))) | (apply Ints.within; repeat (first | assumption | apply Ints.app))) ?_
                refine d_do rfl (o_mul (by conv => lhs; whnf) (by conv => lhs; whnf) (by omega) (by omega) ⟨rfl, rfl⟩) (by first | exact .prim rfl | exact Within.mono ‹Within _ (Value.func _ _ _)› (by (try simp only [List.length_append, List.length_cons, List.length_nil, List.length_set]); omega) | (apply within_sub; apply Ints.within; repeat (first | assumption | apply Ints.app)) | (apply within_ptr; repeat (first | assumption | exact lk_last (by (try simp only [List.length_append, List.length_cons, List.length_nil, List.length_set]); omega) | apply lk_prev)) | (apply within_sl; repeat (first | assumption | exact lk_last (by (try simp only [List.length_append, List.length_cons, List.length_nil, List.length_set]); omega) | apply lk_prev)) | (apply Within.agg3 <;> (first | exact .prim rfl | (apply within_ptr; repeat (first | assumption | exact lk_last (by (try simp only [List.length_append, List.length_cons, List.length_nil, List.length_set]); omega) | apply lk_prev)) | (apply within_sl; repeat (first | assumption | exact lk_last (by (try simp only [List.length_append, List.length_cons, List.length_nil, List.length_set]); omega) | apply lk_prev)) | ((try apply within_sub); apply Ints.within; repeat (first | assumption | apply Ints.app)))) | (apply Within.agg2 <;> (first | exact .prim rfl | (apply within_ptr; repeat (first | assumption | exact lk_last (by (try simp only [List.length_append, List.length_cons, List.length_nil, List.length_set]); omega) | apply lk_prev)) | (apply within_sl; repeat (first | assumption | exact lk_last (by (try simp only [List.length_append, List.length_cons, List.length_nil, List.length_set]); omega) | apply lk_prev)) | ((try apply within_sub); apply Ints.within; repeat (first | assumption | apply Ints.app)))) | (apply Ints.within; repeat (first | assumption | apply Ints.app))) ?_
                refine d_do rfl (o_move (by conv => lhs; whnf) ⟨rfl, rfl⟩) (by first | exact .prim rfl | exact Within.mono ‹Within _ (Value.func _ _ _)› (by (try simp only [List.length_append, List.length_cons, List.length_nil, List.length_set]); omega) | (apply within_sub; apply Ints.within; repeat (first | assumption | apply Ints.app)) | (apply within_ptr; repeat (first | assumption | exact lk_last (by (try simp only [List.length_append, List.length_cons, List.length_nil, List.length_set]); omega) | apply lk_prev)) | (apply within_sl; repeat (first | assumption | exact lk_last (by (try simp only [List.length_append, List.length_cons, List.length_nil, List.length_set]); omega) | apply lk_prev)) | (apply Within.agg3 <;> (first | exact .prim rfl | (apply within_ptr; repeat (first | assumption | exact lk_last (by (try simp only [List.length_append, List.length_cons, List.length_nil, List.length_set]); omega) | apply lk_prev)) | (apply within_sl; repeat (first | assumption | exact lk_last (by (try simp only [List.length_append, List.length_cons, List.length_nil, List.length_set]); omega) | apply lk_prev)) | ((try apply within_sub); apply Ints.within; repeat (first | assumption | apply Ints.app)))) | (apply Within.agg2 <;> (first | exact .prim rfl | (apply within_ptr; repeat (first | assumption | exact lk_last (by (try simp only [List.length_append, List.length_cons, List.length_nil, List.length_set]); omega) | apply lk_prev)) | (apply within_sl; repeat (first | assumption | exact lk_last (by (try simp only [List.length_append, List.length_cons, List.length_nil, List.length_set]); omega) | apply lk_prev)) | ((try apply within_sub); apply Ints.within; repeat (first | assumption | apply Ints.app)))) | (apply Ints.within; repeat (first | assumption | apply Ints.app))) ?_
                refine d_do rfl (o_add (by conv => lhs; whnf) (by conv => lhs; whnf) (by omega) (by omega) ⟨rfl, rfl⟩) (by first | exact .prim rfl | exact Within.mono ‹Within _ (Value.func _ _ _)› (by (try simp only [List.length_append, List.length_cons, List.length_nil, List.length_set]); omega) | (apply within_sub; apply Ints.within; repeat (first | assumption | apply Ints.app)) | (apply within_ptr; repeat (first | assumption | exact lk_last (by (try simp only [List.length_append, List.length_cons, List.length_nil, List.length_set]); omega) | apply lk_prev)) | (apply within_sl; repeat (first | assumption | exact lk_last (by (try simp only [List.length_append, List.length_cons, List.length_nil, List.length_set]); omega) | apply lk_prev)) | (apply Within.agg3 <;> (first | exact .prim rfl | (apply within_ptr; repeat (first | assumption | exact lk_last (by (try simp only [List.length_append, List.length_cons, List.length_nil, List.length_set]); omega) | apply lk_prev)) | (apply within_sl; repeat (first | assumption | exact lk_last (by (try simp only [List.length_append, List.length_cons, List.length_nil, List.length_set]); omega) | apply lk_prev)) | ((try apply within_sub); apply Ints.within; repeat (first | assumption | apply Ints.app)))) | (apply Within.agg2 <;> (first | exact .prim rfl | (apply within_ptr; repeat (first | assumption | exact lk_last (by (try simp only [List.length_append, List.length_cons, List.length_nil, List.length_set]); omega) | apply lk_prev)) | (apply within_sl; repeat (first | assumption | exact lk_last (by (try simp only [List.length_append, List.length_cons, List.length_nil, List.length_set]); omega) | apply lk_prev)) | ((try apply within_sub); apply Ints.within; repeat (first | assumption | apply Ints.app)))) | (apply Ints.within; repeat (first | assumption | apply Ints.app))) ?_
                first | refine d_indexI rfl Try.underlying22 ty2 (by conv => lhs; whnf) (by repeat (first | assumption | exact ints_nil | exact Ints.own (by repeat (first | assumption | exact lk_last (by (try simp only [List.length_append, List.length_cons, List.length_nil, List.length_set]); omega) | apply lk_prev)) (by first | rfl | exact upto_len | assumption | exact map_len | exact List.length_set) | exact Ints.tail (by repeat (first | assumption | exact lk_last (by (try simp only [List.length_append, List.length_cons, List.length_nil, List.length_set]); omega) | apply lk_prev)) (by first | rfl | exact upto_len | assumption | exact map_len | exact List.length_set) | apply Ints.app | (refine Ints.sub (by repeat (first | assumption | apply Ints.app)) (by omega) (by omega) (by omega)))) (by conv => lhs; whnf) (by omega) (fun p8 hp8 => ?_) | refine d_indexZ rfl Try.underlying22 ty2 (by conv => lhs; whnf) (by repeat (first | assumption | exact ints_nil | exact Ints.own (by repeat (first | assumption | exact lk_last (by (try simp only [List.length_append, List.length_cons, List.length_nil, List.length_set]); omega) | apply lk_prev)) (by first | rfl | exact upto_len | assumption | exact map_len | exact List.length_set) | exact Ints.tail (by repeat (first | assumption | exact lk_last (by (try simp only [List.length_append, List.length_cons, List.length_nil, List.length_set]); omega) | apply lk_prev)) (by first | rfl | exact upto_len | assumption | exact map_len | exact List.length_set) | apply Ints.app | (refine Ints.sub (by repeat (first | assumption | apply Ints.app)) (by omega) (by omega) (by omega)))) (by conv => lhs; whnf) (by omega) (by omega) (fun p8 hp8 => ?_)
                refine d_do rfl (o_loadI Try.underlying2 rfl (by conv => lhs; whnf) hp8 (by repeat (first | assumption | exact ints_nil | exact Ints.own (by repeat (first | assumption | exact lk_last (by (try simp only [List.length_append, List.length_cons, List.length_nil, List.length_set]); omega) | apply lk_prev)) (by first | rfl | exact upto_len | assumption | exact map_len | exact List.length_set) | exact Ints.tail (by repeat (first | assumption | exact lk_last (by (try simp only [List.length_append, List.length_cons, List.length_nil, List.length_set]); omega) | apply lk_prev)) (by first | rfl | exact upto_len | assumption | exact map_len | exact List.length_set) | apply Ints.app | (refine Ints.sub (by repeat (first | assumption | apply Ints.app)) (by omega) (by omega) (by omega)))) (by omega) ⟨rfl, rfl⟩) (by first | exact .prim rfl | exact Within.mono ‹Within _ (Value.func _ _ _)› (by (try simp only [List.length_append, List.length_cons, List.length_nil, List.length_set]); omega) | (apply within_sub; apply Ints.within; repeat (first | assumption | apply Ints.app)) | (apply within_ptr; repeat (first | assumption | exact lk_last (by (try simp only [List.length_append, List.length_cons, List.length_nil, List.length_set]); omega) | apply lk_prev)) | (apply within_sl; repeat (first | assumption | exact lk_last (by (try simp only [List.length_append, List.length_cons, List.length_nil, List.length_set]); omega) | apply lk_prev)) | (apply Within.agg3 <;> (first | exact .prim rfl | (apply within_ptr; repeat (first | assumption | exact lk_last (by (try simp only [List.length_append, List.length_cons, List.length_nil, List.length_set]); omega) | apply lk_prev)) | (apply within_sl; repeat (first | assumption | exact lk_last (by (try simp only [List.length_append, List.length_cons, List.length_nil, List.length_set]); omega) | apply lk_prev)) | ((try apply within_sub); apply Ints.within; repeat (first | assumption | apply Ints.app)))) | (apply Within.agg2 <;> (first | exact .prim rfl | (apply within_ptr; repeat (first | assumption | exact lk_last (by (try simp only [List.length_append, List.length_cons, List.length_nil, List.length_set]); omega) | apply lk_prev)) | (apply within_sl; repeat (first | assumption | exact lk_last (by (try simp only [List.length_append, List.length_cons, List.length_nil, List.length_set]); omega) | apply lk_prev)) | ((try apply within_sub); apply Ints.within; repeat (first | assumption | apply Ints.app)))) | (apply Ints.within; repeat (first | assumption | apply Ints.app))) ?_
                refine d_neq rfl (by conv => lhs; whnf) (by conv => lhs; whnf) (fun c9 => ?_) (fun c9 => ?_)
                ·
                  have hR : waysV p xs = false := ways_noS (s := s) (k := s2) (by omega) (by omega) c9
                  refine d_end ?_
                  refine awp_condT (by conv => lhs; whnf) ?_
                  refine awp_seq ?_
                  refine awp_region rfl ?_
                  refine a_do rfl (o_assign (by conv => lhs; whnf) ?_)
                  refine a_end ?_
                  refine awp_ret ?_
                  refine ⟨.inl rfl, [_], ⟨ares_tmp (by conv => lhs; whnf), trivial⟩, ?_⟩
                  exact ⟨congrArg Value.bool (by first | exact hR.symm | exact (ways_yes hp hlen hall (by omega) hS).symm), (by repeat (first | exact Grown.refl _ | refine Grown.push ?_ _))⟩
                ·
                  have hs9 : wayC xs (p + 1) s s2 = wayC xs (p + 1) s2 s := c9
                  refine d_end ?_
                  refine awp_condF (by conv => lhs; whnf) ?_
                  refine awp_skip ?_
                  refine awp_region rfl ?_
                  refine a_do rfl (o_add (by conv => lhs; whnf) (by conv => lhs; whnf) (by omega) (by omega) ?_)
                  refine a_do rfl (o_move (by conv => lhs; whnf) ?_)
                  refine a_end ?_
                  refine ⟨s2 + 1, ⟨Slots.mk ⟨?_, ?_, ?_, ?_, ?_, ?_, ?_, trivial⟩, ?_, ?_⟩, ?_⟩
                  all_goals first | rfl | omega | exact congrArg i64 (by omega) | exact ⟨by omega, all_step (Q := fun k => wayC xs (p + 1) s k = wayC xs (p + 1) k s) ha2 hs9⟩
              ·
                refine a_end ?_
                refine awp_seq ?_
                refine awp_condF (by conv => lhs; whnf) ?_
                refine awp_exit ?_
                refine awp_region rfl ?_
                refine a_do rfl (o_add (by conv => lhs; whnf) (by conv => lhs; whnf) (by omega) (by omega) ?_)
                refine a_do rfl (o_move (by conv => lhs; whnf) ?_)
                refine a_end ?_
                obtain rfl : s = s2 := (by omega)
                refine ⟨s + 1, ⟨Slots.mk ⟨?_, ?_, ?_, ?_, trivial⟩, ?_, ?_⟩, ?_⟩
                all_goals first | rfl | omega | exact congrArg i64 (by omega) | exact ⟨by omega, all_step hS ⟨hd9, ha2⟩⟩
        ·
          refine a_end ?_
          refine awp_seq ?_
          refine awp_condF (by conv => lhs; whnf) ?_
          refine awp_exit ?_
          refine awp_seq ?_
          refine awp_region rfl ?_
          refine a_do rfl (o_assign (by conv => lhs; whnf) ?_)
          refine a_end ?_
          refine awp_ret ?_
          refine ⟨.inl rfl, [_], ⟨ares_tmp (by conv => lhs; whnf), trivial⟩, ?_⟩
          exact ⟨congrArg Value.bool (by first | exact hR.symm | exact (ways_yes hp hlen hall (by omega) hS).symm), (by repeat (first | exact Grown.refl _ | refine Grown.push ?_ _))⟩
    ·
      have hR : waysV p xs = false := ways_noM c2
      refine a_do rfl (o_notF (by conv => lhs; whnf) ?_)
      refine a_do rfl (o_pickF (by conv => lhs; whnf) (by conv => lhs; whnf) ?_)
      refine a_end ?_
      refine awp_condT (by conv => lhs; whnf) ?_
      refine awp_seq ?_
      refine awp_region rfl ?_
      refine a_do rfl (o_assign (by conv => lhs; whnf) ?_)
      refine a_end ?_
      refine awp_ret ?_
      refine ⟨.inl rfl, [_], ⟨ares_tmp (by conv => lhs; whnf), trivial⟩, ?_⟩
      exact ⟨congrArg Value.bool (by first | exact hR.symm | exact (ways_yes hp hlen hall (by omega) hS).symm), (by repeat (first | exact Grown.refl _ | refine Grown.push ?_ _))⟩
  ·
    have hR : waysV p xs = false := waysV_no fun h9 => (of_decide_eq_false c1) h9.1
    refine a_do rfl (o_notF (by conv => lhs; whnf) ?_)
    refine a_do rfl (o_move (by conv => lhs; whnf) ?_)
    refine a_no rfl ?_
    refine a_no rfl ?_
    refine a_no rfl ?_
    refine a_no rfl ?_
    refine a_no rfl ?_
    refine a_no rfl ?_
    refine a_no rfl ?_
    refine a_no rfl ?_
    refine a_no rfl ?_
    refine a_do rfl (o_pickT (by conv => lhs; whnf) (by conv => lhs; whnf) ?_)
    refine a_end ?_
    refine awp_condT (by conv => lhs; whnf) ?_
    refine awp_seq ?_
    refine awp_region rfl ?_
    refine a_do rfl (o_assign (by conv => lhs; whnf) ?_)
    refine a_end ?_
    refine awp_ret ?_
    refine ⟨.inl rfl, [_], ⟨ares_tmp (by conv => lhs; whnf), trivial⟩, ?_⟩
    exact ⟨congrArg Value.bool (by first | exact hR.symm | exact (ways_yes hp hlen hall (by omega) hS).symm), (by repeat (first | exact Grown.refl _ | refine Grown.push ?_ _))⟩

set_option maxRecDepth 10000 in
theorem l03Costs_ret (p : Int) (xs : List Int) (v : Value) (h : AHeap) (hv : Ints h v xs) (hl : xs.length ≤ 1073741824) : Ret Try.prog 101 [i64 p, v] h (.bool (waysV p xs)) h := by
  refine ret_of (.prim rfl) ?_
  refine tri_of_body Try.func101 rfl (by kernel_rfl) (by show 2 ≤ 62; decide) ?_
  refine awp_seq ?_
  refine awp_region rfl ?_
  refine a_do rfl (o_assign (by conv => lhs; whnf) ?_)
  refine a_end ?_
  refine awp_seq ?_
  refine awp_seq ?_
  refine awp_region rfl ?_
  refine a_do rfl (o_move (by conv => lhs; whnf) ?_)
  refine a_do rfl (o_callF (lmap_cons (by conv => lhs; whnf) (lmap_cons (by conv => lhs; whnf) (lmap_cons (by conv => lhs; whnf) lmap_nil))) (Ret.toB (l00In_ret _ _ _ _) (fun c1 => ?_) (fun c1 => ?_)))
  ·
    have hp := of_decide_eq_true c1
    have hm2 := mul_bound (p := p + 1) (q := p + 1) (a := 7) (b := 7) (by omega) (by omega)
    refine a_do rfl (o_notT (by conv => lhs; whnf) ?_)
    refine a_end ?_
    refine awp_condF (by conv => lhs; whnf) ?_
    refine awp_skip ?_
    refine awp_seq ?_
    refine awp_region rfl ?_
    refine a_do rfl (o_move (by conv => lhs; whnf) ?_)
    refine a_do rfl (o_add (by conv => lhs; whnf) (by conv => lhs; whnf) (by omega) (by omega) ?_)
    refine a_do rfl (o_assign (by conv => lhs; whnf) ?_)
    refine a_end ?_
    refine awp_seq ?_
    refine awp_seq ?_
    refine awp_region rfl ?_
    refine a_do rfl (o_move (by conv => lhs; whnf) ?_)
    refine a_do rfl (o_lenI Try.underlying22 (by conv => lhs; whnf) (by repeat (first | assumption | exact ints_nil | exact Ints.own (by repeat (first | assumption | exact lk_last (by (try simp only [List.length_append, List.length_cons, List.length_nil, List.length_set]); omega) | apply lk_prev)) (by first | rfl | exact upto_len | assumption | exact map_len | exact List.length_set) | exact Ints.tail (by repeat (first | assumption | exact lk_last (by (try simp only [List.length_append, List.length_cons, List.length_nil, List.length_set]); omega) | apply lk_prev)) (by first | rfl | exact upto_len | assumption | exact map_len | exact List.length_set) | apply Ints.app | (refine Ints.sub (by repeat (first | assumption | apply Ints.app)) (by omega) (by omega) (by omega)))) ?_)
    refine a_do rfl (o_move (by conv => lhs; whnf) ?_)
    refine a_do rfl (o_move (by conv => lhs; whnf) ?_)
    refine a_do rfl (o_mul (by conv => lhs; whnf) (by conv => lhs; whnf) (by omega) (by omega) ?_)
    refine a_do rfl (o_neq (by conv => lhs; whnf) (by conv => lhs; whnf) (fun c2 => ?_) (fun c2 => ?_))
    ·
      have hR : waysV p xs = false := waysV_no fun h9 => c2 h9.2.1
      refine a_end ?_
      refine awp_condT (by conv => lhs; whnf) ?_
      refine awp_seq ?_
      refine awp_region rfl ?_
      refine a_do rfl (o_assign (by conv => lhs; whnf) ?_)
      refine a_end ?_
      refine awp_ret ?_
      refine ⟨.inl rfl, [_], ⟨ares_tmp (by conv => lhs; whnf), trivial⟩, ?_⟩
      exact ⟨congrArg Value.bool (by first | exact hR.symm | exact (ways_rows hp hlen (by omega) hA).symm), (by repeat (first | exact Grown.refl _ | refine Grown.push ?_ _))⟩
    ·
      have hlen : (xs.length : Int) = (p + 1) * (p + 1) := c2
      refine a_end ?_
      refine awp_condF (by conv => lhs; whnf) ?_
      refine awp_skip ?_
      refine awp_seq ?_
      refine awp_seq ?_
      refine awp_region rfl ?_
      refine a_do rfl (o_assign (by conv => lhs; whnf) ?_)
      refine a_end ?_
      refine awp_block ?_
      refine awp_loop (σ := Nat) (fun s env1 h1 => Slots env1 [(1, v), (5, i64 (p + 1)), (6, i64 s)] ∧ h1 = h ∧ (s : Int) ≤ p + 1 ∧ ∀ i : Nat, i < s → WayR (p + 1) xs i (p + 1).toNat) (fun s => (p + 1).toNat - s) 0 ?_ ?_
      · refine ⟨Slots.mk ⟨?_, ?_, ?_, trivial⟩, ?_, ?_⟩
        all_goals first | rfl | exact ⟨by omega, fun i hi => absurd hi (by omega)⟩ | (simp; done)
      · intro s env1 h1 hI1
        obtain ⟨⟨e1, rfl⟩, hkeep, ⟨hs, hA⟩⟩ := hI1
        obtain rfl := hkeep.symm
        refine awp_seq ?_
        refine awp_seq ?_
        refine awp_region rfl ?_
        refine a_do rfl (o_move (by conv => lhs; whnf) ?_)
        refine a_do rfl (o_move (by conv => lhs; whnf) ?_)
        refine a_do rfl (o_lss (by conv => lhs; whnf) (by conv => lhs; whnf) (fun c3 => ?_) (fun c3 => ?_))
        ·
          refine a_end ?_
          refine awp_condT (by conv => lhs; whnf) ?_
          refine awp_skip ?_
          refine awp_seq ?_
          refine awp_block ?_
          refine awp_seq ?_
          refine awp_region rfl ?_
          refine a_do rfl (o_assign (by conv => lhs; whnf) ?_)
          refine a_end ?_
          refine awp_block ?_
          refine awp_loop (σ := Nat) (fun s2 env1 h1 => Slots env1 [(1, v), (5, i64 (p + 1)), (6, i64 s), (7, i64 s2)] ∧ h1 = h ∧ (s2 : Int) ≤ p + 1 ∧ WayR (p + 1) xs s s2) (fun s2 => (p + 1).toNat - s2) 0 ?_ ?_
          · refine ⟨Slots.mk ⟨?_, ?_, ?_, ?_, trivial⟩, ?_, ?_⟩
            all_goals first | rfl | exact ⟨by omega, fun i hi => absurd hi (by omega)⟩ | (simp; done)
          · intro s2 env1 h1 hI1
            obtain ⟨⟨e1, rfl⟩, hkeep, ⟨hs2, hrow⟩⟩ := hI1
            obtain rfl := hkeep.symm
            refine awp_seq ?_
            refine awp_seq ?_
            refine awp_region rfl ?_
            refine a_do rfl (o_move (by conv => lhs; whnf) ?_)
            refine a_do rfl (o_move (by conv => lhs; whnf) ?_)
            refine a_do rfl (o_lss (by conv => lhs; whnf) (by conv => lhs; whnf) (fun c4 => ?_) (fun c4 => ?_))
            ·
              refine a_end ?_
              refine awp_condT (by conv => lhs; whnf) ?_
              refine awp_skip ?_
              refine awp_seq ?_
              refine awp_block ?_
              refine awp_seq ?_
              refine awp_region rfl ?_
              have hcb1 := cell_bnd (i := (s : Int)) (p := p + 1) (q := p + 1) (n := (xs.length : Int)) (k := s2) (by omega) (by omega) hlen
              have hcb2 := cell_bnd (i := (s2 : Int)) (p := p + 1) (q := p + 1) (n := (xs.length : Int)) (k := s) (by omega) (by omega) hlen
              refine a_do rfl (o_move (by conv => lhs; whnf) ?_)
              refine a_do rfl (o_move (by conv => lhs; whnf) ?_)
              refine a_do rfl (o_move (by conv => lhs; whnf) ?_)
              refine a_do rfl (o_mul (by conv => lhs; whnf) (by conv => lhs; whnf) (by omega) (by omega) ?_)
              refine a_do rfl (o_move (by conv => lhs; whnf) ?_)
              refine a_do rfl (o_add (by conv => lhs; whnf) (by conv => lhs; whnf) (by omega) (by omega) ?_)
              first | refine a_do rfl (o_indexI Try.underlying22 ty2 (by conv => lhs; whnf) (by repeat (first | assumption | exact ints_nil | exact Ints.own (by repeat (first | assumption | exact lk_last (by (try simp only [List.length_append, List.length_cons, List.length_nil, List.length_set]); omega) | apply lk_prev)) (by first | rfl | exact upto_len | assumption | exact map_len | exact List.length_set) | exact Ints.tail (by repeat (first | assumption | exact lk_last (by (try simp only [List.length_append, List.length_cons, List.length_nil, List.length_set]); omega) | apply lk_prev)) (by first | rfl | exact upto_len | assumption | exact map_len | exact List.length_set) | apply Ints.app | (refine Ints.sub (by repeat (first | assumption | apply Ints.app)) (by omega) (by omega) (by omega)))) (by conv => lhs; whnf) (by omega) (fun p5 hp5 => ?_)) | refine a_do rfl (o_indexZ Try.underlying22 ty2 (by conv => lhs; whnf) (by repeat (first | assumption | exact ints_nil | exact Ints.own (by repeat (first | assumption | exact lk_last (by (try simp only [List.length_append, List.length_cons, List.length_nil, List.length_set]); omega) | apply lk_prev)) (by first | rfl | exact upto_len | assumption | exact map_len | exact List.length_set) | exact Ints.tail (by repeat (first | assumption | exact lk_last (by (try simp only [List.length_append, List.length_cons, List.length_nil, List.length_set]); omega) | apply lk_prev)) (by first | rfl | exact upto_len | assumption | exact map_len | exact List.length_set) | apply Ints.app | (refine Ints.sub (by repeat (first | assumption | apply Ints.app)) (by omega) (by omega) (by omega)))) (by conv => lhs; whnf) (by omega) (by omega) (fun p5 hp5 => ?_))
              refine a_do rfl (o_loadI Try.underlying2 rfl (by conv => lhs; whnf) hp5 (by repeat (first | assumption | exact ints_nil | exact Ints.own (by repeat (first | assumption | exact lk_last (by (try simp only [List.length_append, List.length_cons, List.length_nil, List.length_set]); omega) | apply lk_prev)) (by first | rfl | exact upto_len | assumption | exact map_len | exact List.length_set) | exact Ints.tail (by repeat (first | assumption | exact lk_last (by (try simp only [List.length_append, List.length_cons, List.length_nil, List.length_set]); omega) | apply lk_prev)) (by first | rfl | exact upto_len | assumption | exact map_len | exact List.length_set) | apply Ints.app | (refine Ints.sub (by repeat (first | assumption | apply Ints.app)) (by omega) (by omega) (by omega)))) (by omega) ?_)
              refine a_do rfl (o_assign (by conv => lhs; whnf) ?_)
              refine a_end ?_
              refine awp_seq ?_
              refine awp_region rfl ?_
              refine a_do rfl (o_move (by conv => lhs; whnf) ?_)
              refine a_do rfl (o_callF (lmap_cons (by conv => lhs; whnf) (lmap_cons (by conv => lhs; whnf) (lmap_cons (by conv => lhs; whnf) lmap_nil))) (Ret.toB (l00In_ret _ _ _ _) (fun c6 => ?_) (fun c6 => ?_)))
              ·
                have hr9 := of_decide_eq_true c6
                refine a_do rfl (o_notT (by conv => lhs; whnf) ?_)
                refine a_do rfl (o_move (by conv => lhs; whnf) ?_)
                refine a_do rfl (o_move (by conv => lhs; whnf) ?_)
                refine a_do rfl (o_move (by conv => lhs; whnf) ?_)
                refine a_do rfl (o_move (by conv => lhs; whnf) ?_)
                refine a_do rfl (o_move (by conv => lhs; whnf) ?_)
                refine a_do rfl (o_mul (by conv => lhs; whnf) (by conv => lhs; whnf) (by omega) (by omega) ?_)
                refine a_do rfl (o_move (by conv => lhs; whnf) ?_)
                refine a_do rfl (o_add (by conv => lhs; whnf) (by conv => lhs; whnf) (by omega) (by omega) ?_)
                first | refine a_do rfl (o_indexI Try.underlying22 ty2 (by conv => lhs; whnf) (by repeat (first | assumption | exact ints_nil | exact Ints.own (by repeat (first | assumption | exact lk_last (by (try simp only [List.length_append, List.length_cons, List.length_nil, List.length_set]); omega) | apply lk_prev)) (by first | rfl | exact upto_len | assumption | exact map_len | exact List.length_set) | exact Ints.tail (by repeat (first | assumption | exact lk_last (by (try simp only [List.length_append, List.length_cons, List.length_nil, List.length_set]); omega) | apply lk_prev)) (by first | rfl | exact upto_len | assumption | exact map_len | exact List.length_set) | apply Ints.app | (refine Ints.sub (by repeat (first | assumption | apply Ints.app)) (by omega) (by omega) (by omega)))) (by conv => lhs; whnf) (by omega) (fun p7 hp7 => ?_)) | refine a_do rfl (o_indexZ Try.underlying22 ty2 (by conv => lhs; whnf) (by repeat (first | assumption | exact ints_nil | exact Ints.own (by repeat (first | assumption | exact lk_last (by (try simp only [List.length_append, List.length_cons, List.length_nil, List.length_set]); omega) | apply lk_prev)) (by first | rfl | exact upto_len | assumption | exact map_len | exact List.length_set) | exact Ints.tail (by repeat (first | assumption | exact lk_last (by (try simp only [List.length_append, List.length_cons, List.length_nil, List.length_set]); omega) | apply lk_prev)) (by first | rfl | exact upto_len | assumption | exact map_len | exact List.length_set) | apply Ints.app | (refine Ints.sub (by repeat (first | assumption | apply Ints.app)) (by omega) (by omega) (by omega)))) (by conv => lhs; whnf) (by omega) (by omega) (fun p7 hp7 => ?_))
                refine a_do rfl (o_loadI Try.underlying2 rfl (by conv => lhs; whnf) hp7 (by repeat (first | assumption | exact ints_nil | exact Ints.own (by repeat (first | assumption | exact lk_last (by (try simp only [List.length_append, List.length_cons, List.length_nil, List.length_set]); omega) | apply lk_prev)) (by first | rfl | exact upto_len | assumption | exact map_len | exact List.length_set) | exact Ints.tail (by repeat (first | assumption | exact lk_last (by (try simp only [List.length_append, List.length_cons, List.length_nil, List.length_set]); omega) | apply lk_prev)) (by first | rfl | exact upto_len | assumption | exact map_len | exact List.length_set) | apply Ints.app | (refine Ints.sub (by repeat (first | assumption | apply Ints.app)) (by omega) (by omega) (by omega)))) (by omega) ?_)
                refine a_do rfl (o_neq (by conv => lhs; whnf) (by conv => lhs; whnf) (fun c8 => ?_) (fun c8 => ?_))
                ·
                  have hR : waysV p xs = false := ways_noS (s := s) (k := s2) (by omega) (by omega) c8
                  refine a_do rfl (o_pickF (by conv => lhs; whnf) (by conv => lhs; whnf) ?_)
                  refine a_do rfl (o_move (by conv => lhs; whnf) ?_)
                  refine a_no rfl ?_
                  refine a_no rfl ?_
                  refine a_no rfl ?_
                  refine a_no rfl ?_
                  refine a_no rfl ?_
                  refine a_no rfl ?_
                  refine a_no rfl ?_
                  refine a_do rfl (o_pickT (by conv => lhs; whnf) (by conv => lhs; whnf) ?_)
                  refine a_end ?_
                  refine awp_condT (by conv => lhs; whnf) ?_
                  refine awp_seq ?_
                  refine awp_region rfl ?_
                  refine a_do rfl (o_assign (by conv => lhs; whnf) ?_)
                  refine a_end ?_
                  refine awp_ret ?_
                  refine ⟨.inl rfl, [_], ⟨ares_tmp (by conv => lhs; whnf), trivial⟩, ?_⟩
                  exact ⟨congrArg Value.bool (by first | exact hR.symm | exact (ways_rows hp hlen (by omega) hA).symm), (by repeat (first | exact Grown.refl _ | refine Grown.push ?_ _))⟩
                ·
                  have hs9 : wayC xs (p + 1) s s2 = wayC xs (p + 1) s2 s := c8
                  refine a_do rfl (o_pickF (by conv => lhs; whnf) (by conv => lhs; whnf) ?_)
                  refine a_do rfl (o_move (by conv => lhs; whnf) ?_)
                  refine a_do rfl (o_move (by conv => lhs; whnf) ?_)
                  refine a_do rfl (o_move (by conv => lhs; whnf) ?_)
                  refine a_do rfl (o_eql (by conv => lhs; whnf) (by conv => lhs; whnf) (fun c9 => ?_) (fun c9 => ?_))
                  ·
                    have he9 : s = s2 := by omega
                    refine a_do rfl (o_move (by conv => lhs; whnf) ?_)
                    refine a_do rfl (o_move (by conv => lhs; whnf) ?_)
                    refine a_do rfl (o_neq (by conv => lhs; whnf) (by conv => lhs; whnf) (fun c10 => ?_) (fun c10 => ?_))
                    ·
                      have hR : waysV p xs = false := waysV_no fun h9 => c10 ((h9.2.2 s s2 (by omega) (by omega)).2.2 he9)
                      refine a_do rfl (o_pickT (by conv => lhs; whnf) (by conv => lhs; whnf) ?_)
                      refine a_do rfl (o_pickF (by conv => lhs; whnf) (by conv => lhs; whnf) ?_)
                      refine a_end ?_
                      refine awp_condT (by conv => lhs; whnf) ?_
                      refine awp_seq ?_
                      refine awp_region rfl ?_
                      refine a_do rfl (o_assign (by conv => lhs; whnf) ?_)
                      refine a_end ?_
                      refine awp_ret ?_
                      refine ⟨.inl rfl, [_], ⟨ares_tmp (by conv => lhs; whnf), trivial⟩, ?_⟩
                      exact ⟨congrArg Value.bool (by first | exact hR.symm | exact (ways_rows hp hlen (by omega) hA).symm), (by repeat (first | exact Grown.refl _ | refine Grown.push ?_ _))⟩
                    ·
                      have h39 : s = s2 → wayC xs (p + 1) s s2 = 0 := fun _ => c10
                      refine a_do rfl (o_pickT (by conv => lhs; whnf) (by conv => lhs; whnf) ?_)
                      refine a_do rfl (o_pickF (by conv => lhs; whnf) (by conv => lhs; whnf) ?_)
                      refine a_end ?_
                      refine awp_condF (by conv => lhs; whnf) ?_
                      refine awp_skip ?_
                      refine awp_region rfl ?_
                      refine a_do rfl (o_move (by conv => lhs; whnf) ?_)
                      refine a_do rfl (o_add (by conv => lhs; whnf) (by conv => lhs; whnf) (by omega) (by omega) ?_)
                      refine a_do rfl (o_assign (by conv => lhs; whnf) ?_)
                      refine a_end ?_
                      refine ⟨s2 + 1, ⟨Slots.mk ⟨?_, ?_, ?_, ?_, trivial⟩, ?_, ?_⟩, ?_⟩
                      all_goals first | rfl | omega | exact congrArg i64 (by omega) | exact ⟨by omega, wayR_step hrow hr9 hs9 h39⟩
                  ·
                    have h39 : s = s2 → wayC xs (p + 1) s s2 = 0 := fun e => absurd (by omega) c9
                    refine a_do rfl (o_move (by conv => lhs; whnf) ?_)
                    refine a_no rfl ?_
                    refine a_no rfl ?_
                    refine a_do rfl (o_pickF (by conv => lhs; whnf) (by conv => lhs; whnf) ?_)
                    refine a_do rfl (o_pickF (by conv => lhs; whnf) (by conv => lhs; whnf) ?_)
                    refine a_end ?_
                    refine awp_condF (by conv => lhs; whnf) ?_
                    refine awp_skip ?_
                    refine awp_region rfl ?_
                    refine a_do rfl (o_move (by conv => lhs; whnf) ?_)
                    refine a_do rfl (o_add (by conv => lhs; whnf) (by conv => lhs; whnf) (by omega) (by omega) ?_)
                    refine a_do rfl (o_assign (by conv => lhs; whnf) ?_)
                    refine a_end ?_
                    refine ⟨s2 + 1, ⟨Slots.mk ⟨?_, ?_, ?_, ?_, trivial⟩, ?_, ?_⟩, ?_⟩
                    all_goals first | rfl | omega | exact congrArg i64 (by omega) | exact ⟨by omega, wayR_step hrow hr9 hs9 h39⟩
              ·
                have hR : waysV p xs = false := ways_noR (s := s) (k := s2) (by omega) (by omega) c6
                refine a_do rfl (o_notF (by conv => lhs; whnf) ?_)
                refine a_do rfl (o_move (by conv => lhs; whnf) ?_)
                refine a_no rfl ?_
                refine a_no rfl ?_
                refine a_no rfl ?_
                refine a_no rfl ?_
                refine a_no rfl ?_
                refine a_no rfl ?_
                refine a_no rfl ?_
                refine a_no rfl ?_
                refine a_no rfl ?_
                refine a_no rfl ?_
                refine a_do rfl (o_pickT (by conv => lhs; whnf) (by conv => lhs; whnf) ?_)
                refine a_do rfl (o_move (by conv => lhs; whnf) ?_)
                refine a_no rfl ?_
                refine a_no rfl ?_
                refine a_no rfl ?_
                refine a_no rfl ?_
                refine a_no rfl ?_
                refine a_no rfl ?_
                refine a_no rfl ?_
                refine a_do rfl (o_pickT (by conv => lhs; whnf) (by conv => lhs; whnf) ?_)
                refine a_end ?_
                refine awp_condT (by conv => lhs; whnf) ?_
                refine awp_seq ?_
                refine awp_region rfl ?_
                refine a_do rfl (o_assign (by conv => lhs; whnf) ?_)
                refine a_end ?_
                refine awp_ret ?_
                refine ⟨.inl rfl, [_], ⟨ares_tmp (by conv => lhs; whnf), trivial⟩, ?_⟩
                exact ⟨congrArg Value.bool (by first | exact hR.symm | exact (ways_rows hp hlen (by omega) hA).symm), (by repeat (first | exact Grown.refl _ | refine Grown.push ?_ _))⟩
            ·
              refine a_end ?_
              refine awp_condF (by conv => lhs; whnf) ?_
              refine awp_exit ?_
              refine awp_region rfl ?_
              refine a_do rfl (o_move (by conv => lhs; whnf) ?_)
              refine a_do rfl (o_add (by conv => lhs; whnf) (by conv => lhs; whnf) (by omega) (by omega) ?_)
              refine a_do rfl (o_assign (by conv => lhs; whnf) ?_)
              refine a_end ?_
              obtain rfl : s2 = (p + 1).toNat := (by omega)
              refine ⟨s + 1, ⟨Slots.mk ⟨?_, ?_, ?_, trivial⟩, ?_, ?_⟩, ?_⟩
              all_goals first | rfl | omega | exact congrArg i64 (by omega) | exact ⟨by omega, all_step (Q := fun i => WayR (p + 1) xs i (p + 1).toNat) hA hrow⟩
        ·
          refine a_end ?_
          refine awp_condF (by conv => lhs; whnf) ?_
          refine awp_exit ?_
          refine awp_seq ?_
          refine awp_region rfl ?_
          refine a_do rfl (o_assign (by conv => lhs; whnf) ?_)
          refine a_end ?_
          refine awp_ret ?_
          refine ⟨.inl rfl, [_], ⟨ares_tmp (by conv => lhs; whnf), trivial⟩, ?_⟩
          exact ⟨congrArg Value.bool (by first | exact hR.symm | exact (ways_rows hp hlen (by omega) hA).symm), (by repeat (first | exact Grown.refl _ | refine Grown.push ?_ _))⟩
  ·
    have hR : waysV p xs = false := waysV_no fun h9 => (of_decide_eq_false c1) h9.1
    refine a_do rfl (o_notF (by conv => lhs; whnf) ?_)
    refine a_end ?_
    refine awp_condT (by conv => lhs; whnf) ?_
    refine awp_seq ?_
    refine awp_region rfl ?_
    refine a_do rfl (o_assign (by conv => lhs; whnf) ?_)
    refine a_end ?_
    refine awp_ret ?_
    refine ⟨.inl rfl, [_], ⟨ares_tmp (by conv => lhs; whnf), trivial⟩, ?_⟩
    exact ⟨congrArg Value.bool (by first | exact hR.symm | exact (ways_rows hp hlen (by omega) hA).symm), (by repeat (first | exact Grown.refl _ | refine Grown.push ?_ _))⟩

set_option maxRecDepth 10000 in
theorem join_ret (s : Nat) (p : Int) (xs : List Int) (v : Value) (h : AHeap) (hv : Ints h v xs) (hl : xs.length ≤ 1073741824) (hWy : waysV p xs = true) (hs : s < 2 ^ p.toNat) : RetN Try.prog 104 [i64 p, v, i64 s] h (fun k => sl k (p + 1).toNat) (lst (joinL xs p s)) := by
  refine ret1_of (o := lst (joinL xs p s)) (V := fun k => sl k (p + 1).toNat) (fun _ _ => .slice) (.slice (by omega)) lst_prim ?_
  obtain ⟨hp, hlen, hway⟩ := waysV_get hWy
  have hpn := pow_nat hp
  have hs64 : s < 64 := by omega
  have hpl := plc_ok s hs64
  have hpo := pop_le s hs64
  have hn7 : (p + 1).toNat = p.toNat + 1 := by omega
  refine tri_of_body Try.func104 rfl (by kernel_rfl) (by show 3 ≤ 81; decide) ?_
  refine awp_seq ?_
  refine awp_region rfl ?_
  refine a_do rfl (o_assign (by conv => lhs; whnf) ?_)
  refine a_end ?_
  refine awp_seq ?_
  refine awp_region rfl ?_
  refine a_do rfl (o_move (by conv => lhs; whnf) ?_)
  refine a_do rfl (o_add (by conv => lhs; whnf) (by conv => lhs; whnf) (by omega) (by omega) ?_)
  refine a_do rfl (o_assign (by conv => lhs; whnf) ?_)
  refine a_end ?_
  refine awp_seq ?_
  refine awp_region rfl ?_
  refine a_do rfl (o_move (by conv => lhs; whnf) ?_)
  first | refine a_do rfl (o_makeI Try.underlying22 ty2 (by conv => lhs; whnf) (by conv => lhs; whnf) (by omega) (by omega) (fun k1 hk1 => ?_)) | refine a_do rfl (o_makeZ Try.underlying22 ty2 (by conv => lhs; whnf) (by conv => lhs; whnf) (by omega) (by omega) (fun k1 hk1 => ?_))
  try simp at hk1
  refine a_do rfl (o_assign (by conv => lhs; whnf) ?_)
  refine a_end ?_
  refine awp_seq ?_
  refine awp_region rfl ?_
  refine a_do rfl (o_move (by conv => lhs; whnf) ?_)
  refine a_do rfl (o_shl (by conv => lhs; whnf) (by conv => lhs; whnf) (by omega) (by omega) (by rw [shl_one]; omega) (by rw [shl_one]; omega) ?_)
  refine a_do rfl (o_or (by conv => lhs; whnf) (by conv => lhs; whnf) (by first | exact (rfl : (1 : Int) = ((1 : Nat) : Int)) | exact shl_one _ | exact (nat_shr _ _).symm | exact one_shl _ | exact rfl) (by first | exact (rfl : (1 : Int) = ((1 : Nat) : Int)) | exact shl_one _ | exact (nat_shr _ _).symm | exact one_shl _ | exact rfl) (by first | omega | decide) (by first | omega | decide) ?_)
  refine a_do rfl (o_assign (by conv => lhs; whnf) ?_)
  refine a_end ?_
  refine awp_seq ?_
  refine awp_region rfl ?_
  refine a_do rfl (o_assign (by conv => lhs; whnf) ?_)
  refine a_end ?_
  refine awp_seq ?_
  refine awp_block ?_
  refine awp_loop (σ := Nat) (fun t env1 h1 => Slots env1 [(0, i64 p), (1, v), (2, i64 s), (7, i64 (p + 1)), (8, sl k1 (p + 1).toNat), (9, i64 (plcP s)), (10, i64 (joinT xs (p + 1) (p + 1).toNat (plcP s) t).1)] ∧ h1 = h ++ [lst (joinT xs (p + 1) (p + 1).toNat (plcP s) t).2] ∧ JOk (joinT xs (p + 1) (p + 1).toNat (plcP s) t).1 (plcP s) t ∧ t ≤ pop s) (fun t => pop s - t) 0 ?_ ?_
  · refine ⟨Slots.mk ⟨?_, ?_, ?_, ?_, ?_, ?_, ?_, trivial⟩, ?_, ?_⟩
    all_goals first | rfl | exact ⟨jok_zero hs64, by omega⟩ | (simp; done)
  · intro t env1 h1 hI1
    obtain ⟨⟨e1, rfl⟩, rfl, ⟨hj, ht⟩⟩ := hI1
    refine awp_seq ?_
    refine awp_seq ?_
    refine awp_region rfl ?_
    refine a_do rfl (o_move (by conv => lhs; whnf) ?_)
    refine a_do rfl (o_move (by conv => lhs; whnf) ?_)
    refine a_do rfl (o_neq (by conv => lhs; whnf) (by conv => lhs; whnf) (fun c2 => ?_) (fun c2 => ?_))
    ·
      have hne9 : (joinT xs (p + 1) (p + 1).toNat (plcP s) t).1 ≠ plcP s := fun e => c2 (by rw [e])
      have hmo := jok_more hs64 hj hne9
      have hj1 := hj.lt
      refine a_end ?_
      refine awp_condT (by conv => lhs; whnf) ?_
      refine awp_skip ?_
      refine awp_block ?_
      refine awp_seq ?_
      refine awp_region rfl ?_
      refine a_do rfl (o_assign (by conv => lhs; whnf) ?_)
      refine a_do rfl (o_assign (by conv => lhs; whnf) ?_)
      refine a_end ?_
      refine awp_seq ?_
      refine awp_seq ?_
      refine awp_region rfl ?_
      refine a_do rfl (o_move (by conv => lhs; whnf) ?_)
      refine a_do rfl (o_move (by conv => lhs; whnf) ?_)
      refine a_end ?_
      refine awp_block ?_
      refine awp_loop (σ := Nat) (fun i env1 h1 => Slots env1 [(0, i64 p), (1, v), (2, i64 s), (7, i64 (p + 1)), (8, sl k1 (p + 1).toNat), (9, i64 (plcP s)), (10, i64 (joinT xs (p + 1) (p + 1).toNat (plcP s) t).1), (11, i64 (selA xs (p + 1) (joinT xs (p + 1) (p + 1).toNat (plcP s) t).1 (plcP s) (p + 1).toNat i).1), (12, i64 (selA xs (p + 1) (joinT xs (p + 1) (p + 1).toNat (plcP s) t).1 (plcP s) (p + 1).toNat i).2), (26, i64 (p + 1)), (27, i64 i)] ∧ h1 = h ++ [lst (joinT xs (p + 1) (p + 1).toNat (plcP s) t).2] ∧ (i : Int) ≤ p + 1) (fun i => (p + 1).toNat - i) 0 ?_ ?_
      · refine ⟨Slots.mk ⟨?_, ?_, ?_, ?_, ?_, ?_, ?_, ?_, ?_, ?_, ?_, trivial⟩, ?_, ?_⟩
        all_goals first | rfl | omega | (simp; done)
      · intro i env1 h1 hI1
        obtain ⟨⟨e1, rfl⟩, rfl, hi⟩ := hI1
        refine awp_seq ?_
        refine awp_region rfl ?_
        refine a_do rfl (o_lss (by conv => lhs; whnf) (by conv => lhs; whnf) (fun c3 => ?_) (fun c3 => ?_))
        ·
          refine a_end ?_
          refine awp_seq ?_
          refine awp_condT (by conv => lhs; whnf) ?_
          refine awp_skip ?_
          refine awp_seq ?_
          refine awp_block ?_
          refine awp_seq ?_
          refine awp_region rfl ?_
          refine a_do rfl (o_move (by conv => lhs; whnf) ?_)
          refine a_do rfl (o_assign (by conv => lhs; whnf) ?_)
          refine a_end ?_
          refine awp_seq ?_
          refine awp_region rfl ?_
          refine a_do rfl (o_move (by conv => lhs; whnf) ?_)
          refine a_do rfl (o_move (by conv => lhs; whnf) ?_)
          refine a_end ?_
          refine awp_block ?_
          refine awp_loop (σ := Nat) (fun k env1 h1 => Slots env1 [(0, i64 p), (1, v), (2, i64 s), (7, i64 (p + 1)), (8, sl k1 (p + 1).toNat), (9, i64 (plcP s)), (10, i64 (joinT xs (p + 1) (p + 1).toNat (plcP s) t).1), (11, i64 (selR xs (p + 1) (joinT xs (p + 1) (p + 1).toNat (plcP s) t).1 (plcP s) i (selA xs (p + 1) (joinT xs (p + 1) (p + 1).toNat (plcP s) t).1 (plcP s) (p + 1).toNat i) k).1), (12, i64 (selR xs (p + 1) (joinT xs (p + 1) (p + 1).toNat (plcP s) t).1 (plcP s) i (selA xs (p + 1) (joinT xs (p + 1) (p + 1).toNat (plcP s) t).1 (plcP s) (p + 1).toNat i) k).2), (13, i64 i), (26, i64 (p + 1)), (27, i64 i), (30, i64 (p + 1)), (31, i64 k)] ∧ h1 = h ++ [lst (joinT xs (p + 1) (p + 1).toNat (plcP s) t).2] ∧ (k : Int) ≤ p + 1) (fun k => (p + 1).toNat - k) 0 ?_ ?_
          · refine ⟨Slots.mk ⟨?_, ?_, ?_, ?_, ?_, ?_, ?_, ?_, ?_, ?_, ?_, ?_, ?_, ?_, trivial⟩, ?_, ?_⟩
            all_goals first | rfl | omega | (simp; done)
          · intro k env1 h1 hI1
            obtain ⟨⟨e1, rfl⟩, rfl, hk⟩ := hI1
            refine awp_seq ?_
            refine awp_region rfl ?_
            refine a_do rfl (o_lss (by conv => lhs; whnf) (by conv => lhs; whnf) (fun c4 => ?_) (fun c4 => ?_))
            ·
              refine a_end ?_
              refine awp_seq ?_
              refine awp_condT (by conv => lhs; whnf) ?_
              refine awp_skip ?_
              refine awp_seq ?_
              refine awp_block ?_
              refine awp_seq ?_
              refine awp_region rfl ?_
              refine a_do rfl (o_move (by conv => lhs; whnf) ?_)
              refine a_do rfl (o_assign (by conv => lhs; whnf) ?_)
              refine a_end ?_
              refine awp_seq ?_
              refine awp_seq ?_
              refine awp_region rfl ?_
              have hdl1 : (joinT xs (p + 1) (p + 1).toNat (plcP s) t).1 / 2 ^ (i : Int).toNat ≤ (joinT xs (p + 1) (p + 1).toNat (plcP s) t).1 := Nat.div_le_self _ _
              have hdl2 : (joinT xs (p + 1) (p + 1).toNat (plcP s) t).1 / 2 ^ (k : Int).toNat ≤ (joinT xs (p + 1) (p + 1).toNat (plcP s) t).1 := Nat.div_le_self _ _
              have hdl3 : plcP s / 2 ^ (k : Int).toNat ≤ plcP s := Nat.div_le_self _ _
              refine a_do rfl (o_move (by conv => lhs; whnf) ?_)
              refine a_do rfl (o_move (by conv => lhs; whnf) ?_)
              refine a_do rfl (o_shr (by conv => lhs; whnf) (by conv => lhs; whnf) (by omega) (by omega) ?_)
              refine a_do rfl (o_and (by conv => lhs; whnf) (by conv => lhs; whnf) (by first | exact (rfl : (1 : Int) = ((1 : Nat) : Int)) | exact shl_one _ | exact (nat_shr _ _).symm | exact one_shl _ | exact rfl) (by first | exact (rfl : (1 : Int) = ((1 : Nat) : Int)) | exact shl_one _ | exact (nat_shr _ _).symm | exact one_shl _ | exact rfl) (by first | omega | decide) ?_)
              refine a_do rfl (o_eql (by conv => lhs; whnf) (by conv => lhs; whnf) (fun c5 => ?_) (fun c5 => ?_))
              ·
                have hw9 := selR_skip (cs := xs) (m := p + 1) (J := (joinT xs (p + 1) (p + 1).toNat (plcP s) t).1) (P := plcP s) (i := i) (k := k) (st := (selA xs (p + 1) (joinT xs (p + 1) (p + 1).toNat (plcP s) t).1 (plcP s) (p + 1).toNat i)) (.inl (nbit0 c5))
                refine a_do rfl (o_move (by conv => lhs; whnf) ?_)
                refine a_no rfl ?_
                refine a_no rfl ?_
                refine a_no rfl ?_
                refine a_no rfl ?_
                refine a_no rfl ?_
                refine a_do rfl (o_pickT (by conv => lhs; whnf) (by conv => lhs; whnf) ?_)
                refine a_do rfl (o_move (by conv => lhs; whnf) ?_)
                refine a_no rfl ?_
                refine a_no rfl ?_
                refine a_no rfl ?_
                refine a_no rfl ?_
                refine a_no rfl ?_
                refine a_do rfl (o_pickT (by conv => lhs; whnf) (by conv => lhs; whnf) ?_)
                refine a_end ?_
                refine awp_condT (by conv => lhs; whnf) ?_
                refine awp_exit ?_
                refine awp_region rfl ?_
                refine a_do rfl (o_add (by conv => lhs; whnf) (by conv => lhs; whnf) (by omega) (by omega) ?_)
                refine a_do rfl (o_move (by conv => lhs; whnf) ?_)
                refine a_end ?_
                refine ⟨k + 1, ⟨Slots.mk ⟨?_, ?_, ?_, ?_, ?_, ?_, ?_, ?_, ?_, ?_, ?_, ?_, ?_, ?_, trivial⟩, ?_, ?_⟩, ?_⟩
                all_goals first | rfl | omega | exact congrArg i64 (by omega) | exact congrArg i64 (by rw [hw9]; all_goals rfl)
              ·
                have hi1 := nbit1 c5
                refine a_do rfl (o_move (by conv => lhs; whnf) ?_)
                refine a_do rfl (o_move (by conv => lhs; whnf) ?_)
                refine a_do rfl (o_move (by conv => lhs; whnf) ?_)
                refine a_do rfl (o_shr (by conv => lhs; whnf) (by conv => lhs; whnf) (by omega) (by omega) ?_)
                refine a_do rfl (o_and (by conv => lhs; whnf) (by conv => lhs; whnf) (by first | exact (rfl : (1 : Int) = ((1 : Nat) : Int)) | exact shl_one _ | exact (nat_shr _ _).symm | exact one_shl _ | exact rfl) (by first | exact (rfl : (1 : Int) = ((1 : Nat) : Int)) | exact shl_one _ | exact (nat_shr _ _).symm | exact one_shl _ | exact rfl) (by first | omega | decide) ?_)
                refine a_do rfl (o_eql (by conv => lhs; whnf) (by conv => lhs; whnf) (fun c6 => ?_) (fun c6 => ?_))
                ·
                  have hw9 := selR_skip (cs := xs) (m := p + 1) (J := (joinT xs (p + 1) (p + 1).toNat (plcP s) t).1) (P := plcP s) (i := i) (k := k) (st := (selA xs (p + 1) (joinT xs (p + 1) (p + 1).toNat (plcP s) t).1 (plcP s) (p + 1).toNat i)) (.inr (.inl (ybit1 c6)))
                  refine a_do rfl (o_pickF (by conv => lhs; whnf) (by conv => lhs; whnf) ?_)
                  refine a_do rfl (o_move (by conv => lhs; whnf) ?_)
                  refine a_no rfl ?_
                  refine a_no rfl ?_
                  refine a_no rfl ?_
                  refine a_no rfl ?_
                  refine a_no rfl ?_
                  refine a_do rfl (o_pickT (by conv => lhs; whnf) (by conv => lhs; whnf) ?_)
                  refine a_end ?_
                  refine awp_condT (by conv => lhs; whnf) ?_
                  refine awp_exit ?_
                  refine awp_region rfl ?_
                  refine a_do rfl (o_add (by conv => lhs; whnf) (by conv => lhs; whnf) (by omega) (by omega) ?_)
                  refine a_do rfl (o_move (by conv => lhs; whnf) ?_)
                  refine a_end ?_
                  refine ⟨k + 1, ⟨Slots.mk ⟨?_, ?_, ?_, ?_, ?_, ?_, ?_, ?_, ?_, ?_, ?_, ?_, ?_, ?_, trivial⟩, ?_, ?_⟩, ?_⟩
                  all_goals first | rfl | omega | exact congrArg i64 (by omega) | exact congrArg i64 (by rw [hw9]; all_goals rfl)
                ·
                  have hk1 := ybit0 c6
                  refine a_do rfl (o_pickF (by conv => lhs; whnf) (by conv => lhs; whnf) ?_)
                  refine a_do rfl (o_move (by conv => lhs; whnf) ?_)
                  refine a_do rfl (o_move (by conv => lhs; whnf) ?_)
                  refine a_do rfl (o_move (by conv => lhs; whnf) ?_)
                  refine a_do rfl (o_shr (by conv => lhs; whnf) (by conv => lhs; whnf) (by omega) (by omega) ?_)
                  refine a_do rfl (o_and (by conv => lhs; whnf) (by conv => lhs; whnf) (by first | exact (rfl : (1 : Int) = ((1 : Nat) : Int)) | exact shl_one _ | exact (nat_shr _ _).symm | exact one_shl _ | exact rfl) (by first | exact (rfl : (1 : Int) = ((1 : Nat) : Int)) | exact shl_one _ | exact (nat_shr _ _).symm | exact one_shl _ | exact rfl) (by first | omega | decide) ?_)
                  refine a_do rfl (o_eql (by conv => lhs; whnf) (by conv => lhs; whnf) (fun c7 => ?_) (fun c7 => ?_))
                  ·
                    have hw9 := selR_skip (cs := xs) (m := p + 1) (J := (joinT xs (p + 1) (p + 1).toNat (plcP s) t).1) (P := plcP s) (i := i) (k := k) (st := (selA xs (p + 1) (joinT xs (p + 1) (p + 1).toNat (plcP s) t).1 (plcP s) (p + 1).toNat i)) (.inr (.inr (nbit0 c7)))
                    refine a_do rfl (o_pickF (by conv => lhs; whnf) (by conv => lhs; whnf) ?_)
                    refine a_end ?_
                    refine awp_condT (by conv => lhs; whnf) ?_
                    refine awp_exit ?_
                    refine awp_region rfl ?_
                    refine a_do rfl (o_add (by conv => lhs; whnf) (by conv => lhs; whnf) (by omega) (by omega) ?_)
                    refine a_do rfl (o_move (by conv => lhs; whnf) ?_)
                    refine a_end ?_
                    refine ⟨k + 1, ⟨Slots.mk ⟨?_, ?_, ?_, ?_, ?_, ?_, ?_, ?_, ?_, ?_, ?_, ?_, ?_, ?_, trivial⟩, ?_, ?_⟩, ?_⟩
                    all_goals first | rfl | omega | exact congrArg i64 (by omega) | exact congrArg i64 (by rw [hw9]; all_goals rfl)
                  ·
                    have hP1 := nbit1 c7
                    refine a_do rfl (o_pickF (by conv => lhs; whnf) (by conv => lhs; whnf) ?_)
                    refine a_end ?_
                    refine awp_condF (by conv => lhs; whnf) ?_
                    refine awp_skip ?_
                    refine awp_seq ?_
                    refine awp_region rfl ?_
                    have hcb := cell_bnd (i := (i : Int)) (p := p + 1) (q := p + 1) (n := (xs.length : Int)) (k := k) (by omega) (by omega) hlen
                    refine a_do rfl (o_move (by conv => lhs; whnf) ?_)
                    refine a_do rfl (o_move (by conv => lhs; whnf) ?_)
                    refine a_do rfl (o_move (by conv => lhs; whnf) ?_)
                    refine a_do rfl (o_mul (by conv => lhs; whnf) (by conv => lhs; whnf) (by omega) (by omega) ?_)
                    refine a_do rfl (o_move (by conv => lhs; whnf) ?_)
                    refine a_do rfl (o_add (by conv => lhs; whnf) (by conv => lhs; whnf) (by omega) (by omega) ?_)
                    first | refine a_do rfl (o_indexI Try.underlying22 ty2 (by conv => lhs; whnf) (by repeat (first | assumption | exact ints_nil | exact Ints.own (by repeat (first | assumption | exact lk_last (by (try simp only [List.length_append, List.length_cons, List.length_nil, List.length_set]); omega) | apply lk_prev)) (by first | rfl | exact upto_len | assumption | exact map_len | exact List.length_set) | exact Ints.tail (by repeat (first | assumption | exact lk_last (by (try simp only [List.length_append, List.length_cons, List.length_nil, List.length_set]); omega) | apply lk_prev)) (by first | rfl | exact upto_len | assumption | exact map_len | exact List.length_set) | apply Ints.app | (refine Ints.sub (by repeat (first | assumption | apply Ints.app)) (by omega) (by omega) (by omega)))) (by conv => lhs; whnf) (by omega) (fun p8 hp8 => ?_)) | refine a_do rfl (o_indexZ Try.underlying22 ty2 (by conv => lhs; whnf) (by repeat (first | assumption | exact ints_nil | exact Ints.own (by repeat (first | assumption | exact lk_last (by (try simp only [List.length_append, List.length_cons, List.length_nil, List.length_set]); omega) | apply lk_prev)) (by first | rfl | exact upto_len | assumption | exact map_len | exact List.length_set) | exact Ints.tail (by repeat (first | assumption | exact lk_last (by (try simp only [List.length_append, List.length_cons, List.length_nil, List.length_set]); omega) | apply lk_prev)) (by first | rfl | exact upto_len | assumption | exact map_len | exact List.length_set) | apply Ints.app | (refine Ints.sub (by repeat (first | assumption | apply Ints.app)) (by omega) (by omega) (by omega)))) (by conv => lhs; whnf) (by omega) (by omega) (fun p8 hp8 => ?_))
                    refine a_do rfl (o_loadI Try.underlying2 rfl (by conv => lhs; whnf) hp8 (by repeat (first | assumption | exact ints_nil | exact Ints.own (by repeat (first | assumption | exact lk_last (by (try simp only [List.length_append, List.length_cons, List.length_nil, List.length_set]); omega) | apply lk_prev)) (by first | rfl | exact upto_len | assumption | exact map_len | exact List.length_set) | exact Ints.tail (by repeat (first | assumption | exact lk_last (by (try simp only [List.length_append, List.length_cons, List.length_nil, List.length_set]); omega) | apply lk_prev)) (by first | rfl | exact upto_len | assumption | exact map_len | exact List.length_set) | apply Ints.app | (refine Ints.sub (by repeat (first | assumption | apply Ints.app)) (by omega) (by omega) (by omega)))) (by omega) ?_)
                    refine a_do rfl (o_assign (by conv => lhs; whnf) ?_)
                    refine a_end ?_
                    refine awp_seq ?_
                    refine awp_region rfl ?_
                    refine a_do rfl (o_move (by conv => lhs; whnf) ?_)
                    refine a_do rfl (o_lss (by conv => lhs; whnf) (by conv => lhs; whnf) (fun c9 => ?_) (fun c9 => ?_))
                    ·
                      have hw9 := selR_new (st := (selA xs (p + 1) (joinT xs (p + 1) (p + 1).toNat (plcP s) t).1 (plcP s) (p + 1).toNat i)) (cs := xs) (m := p + 1) (sel_take hi1 hk1 hP1) (.inl c9)
                      refine a_do rfl (o_move (by conv => lhs; whnf) ?_)
                      refine a_no rfl ?_
                      refine a_no rfl ?_
                      refine a_no rfl ?_
                      refine a_do rfl (o_pickT (by conv => lhs; whnf) (by conv => lhs; whnf) ?_)
                      refine a_end ?_
                      refine awp_condT (by conv => lhs; whnf) ?_
                      refine awp_region rfl ?_
                      refine a_do rfl (o_move (by conv => lhs; whnf) ?_)
                      refine a_do rfl (o_move (by conv => lhs; whnf) ?_)
                      refine a_do rfl (o_assign (by conv => lhs; whnf) ?_)
                      refine a_do rfl (o_assign (by conv => lhs; whnf) ?_)
                      refine a_end ?_
                      refine awp_region rfl ?_
                      refine a_do rfl (o_add (by conv => lhs; whnf) (by conv => lhs; whnf) (by omega) (by omega) ?_)
                      refine a_do rfl (o_move (by conv => lhs; whnf) ?_)
                      refine a_end ?_
                      refine ⟨k + 1, ⟨Slots.mk ⟨?_, ?_, ?_, ?_, ?_, ?_, ?_, ?_, ?_, ?_, ?_, ?_, ?_, ?_, trivial⟩, ?_, ?_⟩, ?_⟩
                      all_goals first | rfl | omega | exact congrArg i64 (by omega) | exact congrArg i64 (by rw [hw9]; all_goals rfl)
                    ·
                      have hn9 := c9
                      refine a_do rfl (o_move (by conv => lhs; whnf) ?_)
                      refine a_do rfl (o_move (by conv => lhs; whnf) ?_)
                      refine a_do rfl (o_move (by conv => lhs; whnf) ?_)
                      refine a_do rfl (o_lss (by conv => lhs; whnf) (by conv => lhs; whnf) (fun c10 => ?_) (fun c10 => ?_))
                      ·
                        have hw9 := selR_new (st := (selA xs (p + 1) (joinT xs (p + 1) (p + 1).toNat (plcP s) t).1 (plcP s) (p + 1).toNat i)) (cs := xs) (m := p + 1) (sel_take hi1 hk1 hP1) (.inr c10)
                        refine a_do rfl (o_pickF (by conv => lhs; whnf) (by conv => lhs; whnf) ?_)
                        refine a_end ?_
                        refine awp_condT (by conv => lhs; whnf) ?_
                        refine awp_region rfl ?_
                        refine a_do rfl (o_move (by conv => lhs; whnf) ?_)
                        refine a_do rfl (o_move (by conv => lhs; whnf) ?_)
                        refine a_do rfl (o_assign (by conv => lhs; whnf) ?_)
                        refine a_do rfl (o_assign (by conv => lhs; whnf) ?_)
                        refine a_end ?_
                        refine awp_region rfl ?_
                        refine a_do rfl (o_add (by conv => lhs; whnf) (by conv => lhs; whnf) (by omega) (by omega) ?_)
                        refine a_do rfl (o_move (by conv => lhs; whnf) ?_)
                        refine a_end ?_
                        refine ⟨k + 1, ⟨Slots.mk ⟨?_, ?_, ?_, ?_, ?_, ?_, ?_, ?_, ?_, ?_, ?_, ?_, ?_, ?_, trivial⟩, ?_, ?_⟩, ?_⟩
                        all_goals first | rfl | omega | exact congrArg i64 (by omega) | exact congrArg i64 (by rw [hw9]; all_goals rfl)
                      ·
                        have hw9 := selR_old (cs := xs) (m := p + 1) (J := (joinT xs (p + 1) (p + 1).toNat (plcP s) t).1) (P := plcP s) (i := i) (k := k) (st := (selA xs (p + 1) (joinT xs (p + 1) (p + 1).toNat (plcP s) t).1 (plcP s) (p + 1).toNat i)) (fun ⟨_, h9⟩ => h9.elim hn9 c10)
                        refine a_do rfl (o_pickF (by conv => lhs; whnf) (by conv => lhs; whnf) ?_)
                        refine a_end ?_
                        refine awp_condF (by conv => lhs; whnf) ?_
                        refine awp_skip ?_
                        refine awp_region rfl ?_
                        refine a_do rfl (o_add (by conv => lhs; whnf) (by conv => lhs; whnf) (by omega) (by omega) ?_)
                        refine a_do rfl (o_move (by conv => lhs; whnf) ?_)
                        refine a_end ?_
                        refine ⟨k + 1, ⟨Slots.mk ⟨?_, ?_, ?_, ?_, ?_, ?_, ?_, ?_, ?_, ?_, ?_, ?_, ?_, ?_, trivial⟩, ?_, ?_⟩, ?_⟩
                        all_goals first | rfl | omega | exact congrArg i64 (by omega) | exact congrArg i64 (by rw [hw9]; all_goals rfl)
            ·
              refine a_end ?_
              refine awp_seq ?_
              refine awp_condF (by conv => lhs; whnf) ?_
              refine awp_exit ?_
              refine awp_region rfl ?_
              refine a_do rfl (o_add (by conv => lhs; whnf) (by conv => lhs; whnf) (by omega) (by omega) ?_)
              refine a_do rfl (o_move (by conv => lhs; whnf) ?_)
              refine a_end ?_
              obtain rfl : k = (p + 1).toNat := (by omega)
              refine ⟨i + 1, ⟨Slots.mk ⟨?_, ?_, ?_, ?_, ?_, ?_, ?_, ?_, ?_, ?_, ?_, trivial⟩, ?_, ?_⟩, ?_⟩
              all_goals first | rfl | omega | exact congrArg i64 (by omega)
        ·
          refine a_end ?_
          refine awp_seq ?_
          refine awp_condF (by conv => lhs; whnf) ?_
          refine awp_exit ?_
          refine awp_seq ?_
          refine awp_region rfl ?_
          obtain rfl : i = (p + 1).toNat := (by omega)
          obtain ⟨k9, hk9, hk9n, hk9p, hk9b, hk9j⟩ := jok_sel (cs := xs) (m := p + 1) (p := p.toNat) (by omega) hs hj hne9
          rw [← hn7] at hk9
          have hpk := pow_k (k := k9) (by omega)
          have hpk2 : 0 < (2 : Nat) ^ (k9 : Int).toNat ∧ (2 : Nat) ^ (k9 : Int).toNat ≤ 64 := pow_kn (by omega)
          have hjn : (joinT xs (p + 1) (p + 1).toNat (plcP s) (t + 1)) = ((joinT xs (p + 1) (p + 1).toNat (plcP s) t).1 ||| 2 ^ k9, (joinT xs (p + 1) (p + 1).toNat (plcP s) t).2.set k9 (selA xs (p + 1) (joinT xs (p + 1) (p + 1).toNat (plcP s) t).1 (plcP s) (p + 1).toNat (p + 1).toNat).2) := by simp only [joinT, hk9, Int.toNat_natCast]
          rw [hk9]
          have hjl := joinT_len (cs := xs) (m := p + 1) (n := (p + 1).toNat) (P := plcP s) t
          refine a_do rfl (o_move (by conv => lhs; whnf) ?_)
          refine a_do rfl (o_move (by conv => lhs; whnf) ?_)
          refine a_do rfl (o_shl (by conv => lhs; whnf) (by conv => lhs; whnf) (by omega) (by omega) (by omega) (by omega) ?_)
          refine a_do rfl (o_or (by conv => lhs; whnf) (by conv => lhs; whnf) (by first | exact (rfl : (1 : Int) = ((1 : Nat) : Int)) | exact shl_one _ | exact (nat_shr _ _).symm | exact one_shl _ | exact rfl) (by first | exact (rfl : (1 : Int) = ((1 : Nat) : Int)) | exact shl_one _ | exact (nat_shr _ _).symm | exact one_shl _ | exact rfl) (by first | omega | decide) (by first | omega | decide) ?_)
          refine a_do rfl (o_assign (by conv => lhs; whnf) ?_)
          refine a_end ?_
          refine awp_region rfl ?_
          refine a_do rfl (o_move (by conv => lhs; whnf) ?_)
          refine a_do rfl (o_move (by conv => lhs; whnf) ?_)
          refine a_do rfl (o_move (by conv => lhs; whnf) ?_)
          first | refine a_do rfl (o_indexI Try.underlying22 ty2 (by conv => lhs; whnf) (by repeat (first | assumption | exact ints_nil | exact Ints.own (by repeat (first | assumption | exact lk_last (by (try simp only [List.length_append, List.length_cons, List.length_nil, List.length_set]); omega) | apply lk_prev)) (by first | rfl | exact upto_len | assumption | exact map_len | exact List.length_set) | exact Ints.tail (by repeat (first | assumption | exact lk_last (by (try simp only [List.length_append, List.length_cons, List.length_nil, List.length_set]); omega) | apply lk_prev)) (by first | rfl | exact upto_len | assumption | exact map_len | exact List.length_set) | apply Ints.app | (refine Ints.sub (by repeat (first | assumption | apply Ints.app)) (by omega) (by omega) (by omega)))) (by conv => lhs; whnf) (by omega) (fun p11 hp11 => ?_)) | refine a_do rfl (o_indexZ Try.underlying22 ty2 (by conv => lhs; whnf) (by repeat (first | assumption | exact ints_nil | exact Ints.own (by repeat (first | assumption | exact lk_last (by (try simp only [List.length_append, List.length_cons, List.length_nil, List.length_set]); omega) | apply lk_prev)) (by first | rfl | exact upto_len | assumption | exact map_len | exact List.length_set) | exact Ints.tail (by repeat (first | assumption | exact lk_last (by (try simp only [List.length_append, List.length_cons, List.length_nil, List.length_set]); omega) | apply lk_prev)) (by first | rfl | exact upto_len | assumption | exact map_len | exact List.length_set) | apply Ints.app | (refine Ints.sub (by repeat (first | assumption | apply Ints.app)) (by omega) (by omega) (by omega)))) (by conv => lhs; whnf) (by omega) (by omega) (fun p11 hp11 => ?_))
          refine a_do rfl (o_storeI ty2 (by conv => lhs; whnf) hp11 (by repeat (first | assumption | exact lk_last (by (try simp only [List.length_append, List.length_cons, List.length_nil, List.length_set]); omega) | apply lk_prev)) (by first | rfl | omega | (simp; done) | (simp; omega)) (by omega) (by conv => lhs; whnf) (by repeat (first | exact set_last (by (try simp only [List.length_append, List.length_cons, List.length_nil, List.length_set]); omega) | (apply set_step; (try simp only [List.length_append, List.length_cons, List.length_nil, List.length_set]); omega) | exact rfl)) ?_)
          refine a_end ?_
          refine ⟨t + 1, ⟨Slots.mk ⟨?_, ?_, ?_, ?_, ?_, ?_, ?_, trivial⟩, ?_, ?_⟩, ?_⟩
          all_goals first | rfl | omega | exact congrArg i64 (by rw [hjn, Int.toNat_natCast]) | (rw [hjn]; done) | exact ⟨by rw [hjn]; exact hk9j, by omega⟩
    ·
      have hte := jok_done hs64 hj (by omega)
      subst hte
      refine a_end ?_
      refine awp_condF (by conv => lhs; whnf) ?_
      refine awp_exit ?_
      refine awp_seq ?_
      refine awp_region rfl ?_
      refine a_do rfl (o_move (by conv => lhs; whnf) ?_)
      refine a_do rfl (o_assign (by conv => lhs; whnf) ?_)
      refine a_end ?_
      refine awp_ret ?_
      refine ⟨.inl rfl, [_], ⟨ares_tmp (by conv => lhs; whnf), trivial⟩, ?_⟩
      exact ⟨k1, rfl, (by repeat (first | exact Grown.refl _ | refine Grown.push ?_ _)), (by repeat (first | assumption | exact lk_last (by (try simp only [List.length_append, List.length_cons, List.length_nil, List.length_set]); omega) | apply lk_prev)), by omega⟩

set_option maxRecDepth 10000 in
theorem l03Tree_ret (s : Nat) (p : Int) (xs : List Int) (v : Value) (h : AHeap) (hv : Ints h v xs) (hl : xs.length ≤ 1073741824) (hWy : waysV p xs = true) (hs : s < 2 ^ p.toNat) : RetN Try.prog 102 [i64 p, v, i64 s] h (fun k => sl k p.toNat) (lst (treeD xs p s)) := by
  refine ret1_of (o := lst (treeD xs p s)) (V := fun k => sl k p.toNat) (fun _ _ => .slice) (.slice (by omega)) lst_prim ?_
  obtain ⟨hp, hlen, hway⟩ := waysV_get hWy
  have hpn := pow_nat hp
  have hs64 : s < 64 := by omega
  have hpl := plc_ok s hs64
  have hpo := pop_le s hs64
  have hn7 : (p + 1).toNat = p.toNat + 1 := by omega
  refine tri_of_body Try.func102 rfl (by kernel_rfl) (by show 3 ≤ 90; decide) ?_
  refine awp_seq ?_
  refine awp_region rfl ?_
  refine a_do rfl (o_assign (by conv => lhs; whnf) ?_)
  refine a_end ?_
  refine awp_seq ?_
  refine awp_region rfl ?_
  refine a_do rfl (o_move (by conv => lhs; whnf) ?_)
  refine a_do rfl (o_add (by conv => lhs; whnf) (by conv => lhs; whnf) (by omega) (by omega) ?_)
  refine a_do rfl (o_assign (by conv => lhs; whnf) ?_)
  refine a_end ?_
  refine awp_seq ?_
  refine awp_region rfl ?_
  refine a_do rfl (o_move (by conv => lhs; whnf) ?_)
  refine a_do rfl (o_makeB Try.underlying98 ty4 (by conv => lhs; whnf) (by conv => lhs; whnf) (by omega) (by omega) (fun k1 hk1 => ?_))
  try simp at hk1
  refine a_do rfl (o_assign (by conv => lhs; whnf) ?_)
  refine a_end ?_
  refine awp_seq ?_
  refine awp_region rfl ?_
  refine a_do rfl (o_move (by conv => lhs; whnf) ?_)
  refine a_do rfl (o_indexB Try.underlying98 ty4 (by conv => lhs; whnf) (by repeat (first | assumption | exact lk_last (by (try simp only [List.length_append, List.length_cons, List.length_nil, List.length_set]); omega) | apply lk_prev)) (by first | exact seenB_len | exact bitsB_len | rfl | assumption | (simp; done)) (by conv => lhs; whnf) (by omega) (by omega) (fun p2 hp2 => ?_))
  refine a_do rfl (o_storeB ty4 (by conv => lhs; whnf) hp2 (by repeat (first | assumption | exact lk_last (by (try simp only [List.length_append, List.length_cons, List.length_nil, List.length_set]); omega) | apply lk_prev)) (by first | exact seenB_len | exact bitsB_len | rfl | assumption | (simp; done)) (by omega) (by conv => lhs; whnf) (by repeat (first | exact set_last (by (try simp only [List.length_append, List.length_cons, List.length_nil, List.length_set]); omega) | (apply set_step; (try simp only [List.length_append, List.length_cons, List.length_nil, List.length_set]); omega) | exact rfl)) ?_)
  refine a_end ?_
  refine awp_seq ?_
  refine awp_region rfl ?_
  refine a_do rfl (o_move (by conv => lhs; whnf) ?_)
  first | refine a_do rfl (o_makeI Try.underlying22 ty2 (by conv => lhs; whnf) (by conv => lhs; whnf) (by omega) (by omega) (fun k3 hk3 => ?_)) | refine a_do rfl (o_makeZ Try.underlying22 ty2 (by conv => lhs; whnf) (by conv => lhs; whnf) (by omega) (by omega) (fun k3 hk3 => ?_))
  try simp at hk3
  refine a_do rfl (o_assign (by conv => lhs; whnf) ?_)
  refine a_end ?_
  refine awp_seq ?_
  refine awp_seq ?_
  refine awp_region rfl ?_
  refine a_do rfl (o_move (by conv => lhs; whnf) ?_)
  refine a_do rfl (o_callF (lmap_cons (by conv => lhs; whnf) lmap_nil) (Ret.to (l03Count_ret _ _ (by omega)) ?_))
  refine a_do rfl (o_assign (by conv => lhs; whnf) ?_)
  refine a_end ?_
  refine awp_block ?_
  refine awp_loop (σ := Nat) (fun t env1 h1 => Slots env1 [(0, i64 p), (1, v), (2, i64 s), (7, i64 (p + 1)), (8, sl k1 (p + 1).toNat), (9, sl k3 p.toNat), (10, i64 ((pop s : Int) - (t : Int)))] ∧ h1 = h ++ [lstB (bitsB (p + 1).toNat (joinT xs (p + 1) (p + 1).toNat (plcP s) t).1)] ++ [lst ((joinT xs (p + 1) (p + 1).toNat (plcP s) t).2.drop 1)] ∧ JOk (joinT xs (p + 1) (p + 1).toNat (plcP s) t).1 (plcP s) t ∧ t ≤ pop s) (fun t => pop s - t) 0 ?_ ?_
  · refine ⟨Slots.mk ⟨?_, ?_, ?_, ?_, ?_, ?_, ?_, trivial⟩, ?_, ?_⟩
    all_goals first | rfl | exact ⟨jok_zero hs64, by omega⟩ | exact congrArg i64 (by omega) | exact jt_zero (by omega) | (simp; done)
  · intro t env1 h1 hI1
    obtain ⟨⟨e1, rfl⟩, rfl, ⟨hj, ht⟩⟩ := hI1
    refine awp_seq ?_
    refine awp_seq ?_
    refine awp_region rfl ?_
    refine a_do rfl (o_move (by conv => lhs; whnf) ?_)
    refine a_do rfl (o_gtr (by conv => lhs; whnf) (by conv => lhs; whnf) (fun c4 => ?_) (fun c4 => ?_))
    ·
      have hne9 : (joinT xs (p + 1) (p + 1).toNat (plcP s) t).1 ≠ plcP s := fun e => by have := jok_done hs64 hj e; omega
      have hmo := jok_more hs64 hj hne9
      have hj1 := hj.lt
      refine a_end ?_
      refine awp_condT (by conv => lhs; whnf) ?_
      refine awp_skip ?_
      refine awp_seq ?_
      refine awp_block ?_
      refine awp_seq ?_
      refine awp_region rfl ?_
      refine a_do rfl (o_assign (by conv => lhs; whnf) ?_)
      refine a_end ?_
      refine awp_seq ?_
      refine awp_region rfl ?_
      refine a_do rfl (o_assign (by conv => lhs; whnf) ?_)
      refine a_end ?_
      refine awp_seq ?_
      refine awp_seq ?_
      refine awp_region rfl ?_
      refine a_do rfl (o_assign (by conv => lhs; whnf) ?_)
      refine a_end ?_
      refine awp_block ?_
      refine awp_loop (σ := Nat) (fun i env1 h1 => Slots env1 [(0, i64 p), (1, v), (2, i64 s), (7, i64 (p + 1)), (8, sl k1 (p + 1).toNat), (9, sl k3 p.toNat), (10, i64 ((pop s : Int) - (t : Int))), (11, i64 (selA xs (p + 1) (joinT xs (p + 1) (p + 1).toNat (plcP s) t).1 (plcP s) (p + 1).toNat i).1), (12, i64 (selA xs (p + 1) (joinT xs (p + 1) (p + 1).toNat (plcP s) t).1 (plcP s) (p + 1).toNat i).2), (13, i64 i)] ∧ h1 = h ++ [lstB (bitsB (p + 1).toNat (joinT xs (p + 1) (p + 1).toNat (plcP s) t).1)] ++ [lst ((joinT xs (p + 1) (p + 1).toNat (plcP s) t).2.drop 1)] ∧ (i : Int) ≤ p + 1) (fun i => (p + 1).toNat - i) 0 ?_ ?_
      · refine ⟨Slots.mk ⟨?_, ?_, ?_, ?_, ?_, ?_, ?_, ?_, ?_, ?_, trivial⟩, ?_, ?_⟩
        all_goals first | rfl | omega | (simp; done)
      · intro i env1 h1 hI1
        obtain ⟨⟨e1, rfl⟩, rfl, hi⟩ := hI1
        refine awp_seq ?_
        refine awp_seq ?_
        refine awp_region rfl ?_
        refine a_do rfl (o_move (by conv => lhs; whnf) ?_)
        refine a_do rfl (o_move (by conv => lhs; whnf) ?_)
        refine a_do rfl (o_lss (by conv => lhs; whnf) (by conv => lhs; whnf) (fun c5 => ?_) (fun c5 => ?_))
        ·
          refine a_end ?_
          refine awp_condT (by conv => lhs; whnf) ?_
          refine awp_skip ?_
          refine awp_seq ?_
          refine awp_block ?_
          refine awp_seq ?_
          refine awp_region rfl ?_
          refine a_do rfl (o_assign (by conv => lhs; whnf) ?_)
          refine a_end ?_
          refine awp_block ?_
          refine awp_loop (σ := Nat) (fun k env1 h1 => Slots env1 [(0, i64 p), (1, v), (2, i64 s), (7, i64 (p + 1)), (8, sl k1 (p + 1).toNat), (9, sl k3 p.toNat), (10, i64 ((pop s : Int) - (t : Int))), (11, i64 (selR xs (p + 1) (joinT xs (p + 1) (p + 1).toNat (plcP s) t).1 (plcP s) i (selA xs (p + 1) (joinT xs (p + 1) (p + 1).toNat (plcP s) t).1 (plcP s) (p + 1).toNat i) k).1), (12, i64 (selR xs (p + 1) (joinT xs (p + 1) (p + 1).toNat (plcP s) t).1 (plcP s) i (selA xs (p + 1) (joinT xs (p + 1) (p + 1).toNat (plcP s) t).1 (plcP s) (p + 1).toNat i) k).2), (13, i64 i), (14, i64 k)] ∧ h1 = h ++ [lstB (bitsB (p + 1).toNat (joinT xs (p + 1) (p + 1).toNat (plcP s) t).1)] ++ [lst ((joinT xs (p + 1) (p + 1).toNat (plcP s) t).2.drop 1)] ∧ 1 ≤ k ∧ (k : Int) ≤ p + 1) (fun k => (p + 1).toNat - k) 1 ?_ ?_
          · refine ⟨Slots.mk ⟨?_, ?_, ?_, ?_, ?_, ?_, ?_, ?_, ?_, ?_, ?_, trivial⟩, ?_, ?_⟩
            all_goals first | rfl | omega | exact congrArg i64 (by rw [selR_one hj.zero]) | (simp; done)
          · intro k env1 h1 hI1
            obtain ⟨⟨e1, rfl⟩, rfl, ⟨hk0, hk⟩⟩ := hI1
            refine awp_seq ?_
            refine awp_seq ?_
            refine awp_region rfl ?_
            refine a_do rfl (o_move (by conv => lhs; whnf) ?_)
            refine a_do rfl (o_move (by conv => lhs; whnf) ?_)
            refine a_do rfl (o_lss (by conv => lhs; whnf) (by conv => lhs; whnf) (fun c6 => ?_) (fun c6 => ?_))
            ·
              refine a_end ?_
              refine awp_condT (by conv => lhs; whnf) ?_
              refine awp_skip ?_
              refine awp_seq ?_
              refine awp_block ?_
              refine awp_seq ?_
              refine awp_region rfl ?_
              have hcb := cell_bnd (i := (i : Int)) (p := p + 1) (q := p + 1) (n := (xs.length : Int)) (k := k) (by omega) (by omega) hlen
              refine a_do rfl (o_move (by conv => lhs; whnf) ?_)
              refine a_do rfl (o_move (by conv => lhs; whnf) ?_)
              refine a_do rfl (o_indexB Try.underlying98 ty4 (by conv => lhs; whnf) (by repeat (first | assumption | exact lk_last (by (try simp only [List.length_append, List.length_cons, List.length_nil, List.length_set]); omega) | apply lk_prev)) (by first | exact seenB_len | exact bitsB_len | rfl | assumption | (simp; done)) (by conv => lhs; whnf) (by omega) (by omega) (fun p7 hp7 => ?_))
              refine a_do rfl (o_loadB Try.underlying4 rfl (by conv => lhs; whnf) hp7 (by repeat (first | assumption | exact lk_last (by (try simp only [List.length_append, List.length_cons, List.length_nil, List.length_set]); omega) | apply lk_prev)) (by first | exact seenB_len | exact bitsB_len | rfl | assumption | (simp; done)) (by omega) (fun c8 => ?_) (fun c8 => ?_))
              ·
                rw [bitsB_get (by omega), Int.toNat_natCast] at c8
                have hi1 := c8
                refine a_do rfl (o_move (by conv => lhs; whnf) ?_)
                refine a_do rfl (o_move (by conv => lhs; whnf) ?_)
                refine a_do rfl (o_move (by conv => lhs; whnf) ?_)
                refine a_do rfl (o_indexB Try.underlying98 ty4 (by conv => lhs; whnf) (by repeat (first | assumption | exact lk_last (by (try simp only [List.length_append, List.length_cons, List.length_nil, List.length_set]); omega) | apply lk_prev)) (by first | exact seenB_len | exact bitsB_len | rfl | assumption | (simp; done)) (by conv => lhs; whnf) (by omega) (by omega) (fun p9 hp9 => ?_))
                refine a_do rfl (o_loadB Try.underlying4 rfl (by conv => lhs; whnf) hp9 (by repeat (first | assumption | exact lk_last (by (try simp only [List.length_append, List.length_cons, List.length_nil, List.length_set]); omega) | apply lk_prev)) (by first | exact seenB_len | exact bitsB_len | rfl | assumption | (simp; done)) (by omega) (fun c10 => ?_) (fun c10 => ?_))
                ·
                  rw [bitsB_get (by omega), Int.toNat_natCast] at c10
                  have hw9 := selR_skip (cs := xs) (m := p + 1) (J := (joinT xs (p + 1) (p + 1).toNat (plcP s) t).1) (P := plcP s) (i := i) (k := k) (st := (selA xs (p + 1) (joinT xs (p + 1) (p + 1).toNat (plcP s) t).1 (plcP s) (p + 1).toNat i)) (.inr (.inl c10))
                  refine a_do rfl (o_notT (by conv => lhs; whnf) ?_)
                  refine a_do rfl (o_pickT (by conv => lhs; whnf) (by conv => lhs; whnf) ?_)
                  refine a_do rfl (o_move (by conv => lhs; whnf) ?_)
                  refine a_no rfl ?_
                  refine a_no rfl ?_
                  refine a_no rfl ?_
                  refine a_no rfl ?_
                  refine a_do rfl (o_pickF (by conv => lhs; whnf) (by conv => lhs; whnf) ?_)
                  refine a_do rfl (o_move (by conv => lhs; whnf) ?_)
                  refine a_no rfl ?_
                  refine a_no rfl ?_
                  refine a_no rfl ?_
                  refine a_no rfl ?_
                  refine a_no rfl ?_
                  refine a_no rfl ?_
                  refine a_no rfl ?_
                  refine a_no rfl ?_
                  refine a_no rfl ?_
                  refine a_no rfl ?_
                  refine a_no rfl ?_
                  refine a_no rfl ?_
                  refine a_no rfl ?_
                  refine a_no rfl ?_
                  refine a_do rfl (o_pickF (by conv => lhs; whnf) (by conv => lhs; whnf) ?_)
                  refine a_end ?_
                  refine awp_condF (by conv => lhs; whnf) ?_
                  refine awp_skip ?_
                  refine awp_region rfl ?_
                  refine a_do rfl (o_move (by conv => lhs; whnf) ?_)
                  refine a_do rfl (o_add (by conv => lhs; whnf) (by conv => lhs; whnf) (by omega) (by omega) ?_)
                  refine a_do rfl (o_assign (by conv => lhs; whnf) ?_)
                  refine a_end ?_
                  refine ⟨k + 1, ⟨Slots.mk ⟨?_, ?_, ?_, ?_, ?_, ?_, ?_, ?_, ?_, ?_, ?_, trivial⟩, ?_, ?_⟩, ?_⟩
                  all_goals first | rfl | omega | exact congrArg i64 (by omega) | exact congrArg i64 (by rw [hw9]; all_goals rfl)
                ·
                  rw [bitsB_get (by omega), Int.toNat_natCast] at c10
                  have hkb1 := c10
                  refine a_do rfl (o_notF (by conv => lhs; whnf) ?_)
                  refine a_do rfl (o_pickT (by conv => lhs; whnf) (by conv => lhs; whnf) ?_)
                  refine a_do rfl (o_move (by conv => lhs; whnf) ?_)
                  refine a_do rfl (o_move (by conv => lhs; whnf) ?_)
                  refine a_do rfl (o_move (by conv => lhs; whnf) ?_)
                  refine a_do rfl (o_sub (by conv => lhs; whnf) (by conv => lhs; whnf) (by omega) (by omega) ?_)
                  refine a_do rfl (o_callF (lmap_cons (by conv => lhs; whnf) (lmap_cons (by conv => lhs; whnf) lmap_nil)) (Ret.toB (l03In_ret _ _ _ (by omega) (by omega)) (fun c11 => ?_) (fun c11 => ?_)))
                  ·
                    have hP1 : (plcP s).testBit k = true := by rw [plc_bit s hs64 k (by omega) (by omega), show k - 1 = ((k : Int) - 1).toNat by omega]; exact c11
                    refine a_do rfl (o_pickT (by conv => lhs; whnf) (by conv => lhs; whnf) ?_)
                    refine a_do rfl (o_move (by conv => lhs; whnf) ?_)
                    refine a_do rfl (o_move (by conv => lhs; whnf) ?_)
                    refine a_do rfl (o_lss (by conv => lhs; whnf) (by conv => lhs; whnf) (fun c12 => ?_) (fun c12 => ?_))
                    ·
                      have hw9 := selR_new (st := (selA xs (p + 1) (joinT xs (p + 1) (p + 1).toNat (plcP s) t).1 (plcP s) (p + 1).toNat i)) (cs := xs) (m := p + 1) (sel_take hi1 hkb1 hP1) (.inl c12)
                      refine a_do rfl (o_move (by conv => lhs; whnf) ?_)
                      refine a_no rfl ?_
                      refine a_no rfl ?_
                      refine a_no rfl ?_
                      refine a_no rfl ?_
                      refine a_no rfl ?_
                      refine a_no rfl ?_
                      refine a_no rfl ?_
                      refine a_no rfl ?_
                      refine a_no rfl ?_
                      refine a_no rfl ?_
                      refine a_do rfl (o_pickT (by conv => lhs; whnf) (by conv => lhs; whnf) ?_)
                      refine a_do rfl (o_pickT (by conv => lhs; whnf) (by conv => lhs; whnf) ?_)
                      refine a_end ?_
                      refine awp_condT (by conv => lhs; whnf) ?_
                      refine awp_seq ?_
                      refine awp_region rfl ?_
                      refine a_do rfl (o_move (by conv => lhs; whnf) ?_)
                      refine a_do rfl (o_assign (by conv => lhs; whnf) ?_)
                      refine a_end ?_
                      refine awp_region rfl ?_
                      refine a_do rfl (o_move (by conv => lhs; whnf) ?_)
                      refine a_do rfl (o_move (by conv => lhs; whnf) ?_)
                      refine a_do rfl (o_move (by conv => lhs; whnf) ?_)
                      refine a_do rfl (o_mul (by conv => lhs; whnf) (by conv => lhs; whnf) (by omega) (by omega) ?_)
                      refine a_do rfl (o_move (by conv => lhs; whnf) ?_)
                      refine a_do rfl (o_add (by conv => lhs; whnf) (by conv => lhs; whnf) (by omega) (by omega) ?_)
                      first | refine a_do rfl (o_indexI Try.underlying22 ty2 (by conv => lhs; whnf) (by repeat (first | assumption | exact ints_nil | exact Ints.own (by repeat (first | assumption | exact lk_last (by (try simp only [List.length_append, List.length_cons, List.length_nil, List.length_set]); omega) | apply lk_prev)) (by first | rfl | exact upto_len | assumption | exact map_len | exact List.length_set) | exact Ints.tail (by repeat (first | assumption | exact lk_last (by (try simp only [List.length_append, List.length_cons, List.length_nil, List.length_set]); omega) | apply lk_prev)) (by first | rfl | exact upto_len | assumption | exact map_len | exact List.length_set) | apply Ints.app | (refine Ints.sub (by repeat (first | assumption | apply Ints.app)) (by omega) (by omega) (by omega)))) (by conv => lhs; whnf) (by omega) (fun p13 hp13 => ?_)) | refine a_do rfl (o_indexZ Try.underlying22 ty2 (by conv => lhs; whnf) (by repeat (first | assumption | exact ints_nil | exact Ints.own (by repeat (first | assumption | exact lk_last (by (try simp only [List.length_append, List.length_cons, List.length_nil, List.length_set]); omega) | apply lk_prev)) (by first | rfl | exact upto_len | assumption | exact map_len | exact List.length_set) | exact Ints.tail (by repeat (first | assumption | exact lk_last (by (try simp only [List.length_append, List.length_cons, List.length_nil, List.length_set]); omega) | apply lk_prev)) (by first | rfl | exact upto_len | assumption | exact map_len | exact List.length_set) | apply Ints.app | (refine Ints.sub (by repeat (first | assumption | apply Ints.app)) (by omega) (by omega) (by omega)))) (by conv => lhs; whnf) (by omega) (by omega) (fun p13 hp13 => ?_))
                      refine a_do rfl (o_loadI Try.underlying2 rfl (by conv => lhs; whnf) hp13 (by repeat (first | assumption | exact ints_nil | exact Ints.own (by repeat (first | assumption | exact lk_last (by (try simp only [List.length_append, List.length_cons, List.length_nil, List.length_set]); omega) | apply lk_prev)) (by first | rfl | exact upto_len | assumption | exact map_len | exact List.length_set) | exact Ints.tail (by repeat (first | assumption | exact lk_last (by (try simp only [List.length_append, List.length_cons, List.length_nil, List.length_set]); omega) | apply lk_prev)) (by first | rfl | exact upto_len | assumption | exact map_len | exact List.length_set) | apply Ints.app | (refine Ints.sub (by repeat (first | assumption | apply Ints.app)) (by omega) (by omega) (by omega)))) (by omega) ?_)
                      refine a_do rfl (o_assign (by conv => lhs; whnf) ?_)
                      refine a_end ?_
                      refine awp_region rfl ?_
                      refine a_do rfl (o_move (by conv => lhs; whnf) ?_)
                      refine a_do rfl (o_add (by conv => lhs; whnf) (by conv => lhs; whnf) (by omega) (by omega) ?_)
                      refine a_do rfl (o_assign (by conv => lhs; whnf) ?_)
                      refine a_end ?_
                      refine ⟨k + 1, ⟨Slots.mk ⟨?_, ?_, ?_, ?_, ?_, ?_, ?_, ?_, ?_, ?_, ?_, trivial⟩, ?_, ?_⟩, ?_⟩
                      all_goals first | rfl | omega | exact congrArg i64 (by omega) | exact congrArg i64 (by rw [hw9]; all_goals rfl)
                    ·
                      have hn9 := c12
                      refine a_do rfl (o_move (by conv => lhs; whnf) ?_)
                      refine a_do rfl (o_move (by conv => lhs; whnf) ?_)
                      refine a_do rfl (o_move (by conv => lhs; whnf) ?_)
                      refine a_do rfl (o_move (by conv => lhs; whnf) ?_)
                      refine a_do rfl (o_mul (by conv => lhs; whnf) (by conv => lhs; whnf) (by omega) (by omega) ?_)
                      refine a_do rfl (o_move (by conv => lhs; whnf) ?_)
                      refine a_do rfl (o_add (by conv => lhs; whnf) (by conv => lhs; whnf) (by omega) (by omega) ?_)
                      first | refine a_do rfl (o_indexI Try.underlying22 ty2 (by conv => lhs; whnf) (by repeat (first | assumption | exact ints_nil | exact Ints.own (by repeat (first | assumption | exact lk_last (by (try simp only [List.length_append, List.length_cons, List.length_nil, List.length_set]); omega) | apply lk_prev)) (by first | rfl | exact upto_len | assumption | exact map_len | exact List.length_set) | exact Ints.tail (by repeat (first | assumption | exact lk_last (by (try simp only [List.length_append, List.length_cons, List.length_nil, List.length_set]); omega) | apply lk_prev)) (by first | rfl | exact upto_len | assumption | exact map_len | exact List.length_set) | apply Ints.app | (refine Ints.sub (by repeat (first | assumption | apply Ints.app)) (by omega) (by omega) (by omega)))) (by conv => lhs; whnf) (by omega) (fun p14 hp14 => ?_)) | refine a_do rfl (o_indexZ Try.underlying22 ty2 (by conv => lhs; whnf) (by repeat (first | assumption | exact ints_nil | exact Ints.own (by repeat (first | assumption | exact lk_last (by (try simp only [List.length_append, List.length_cons, List.length_nil, List.length_set]); omega) | apply lk_prev)) (by first | rfl | exact upto_len | assumption | exact map_len | exact List.length_set) | exact Ints.tail (by repeat (first | assumption | exact lk_last (by (try simp only [List.length_append, List.length_cons, List.length_nil, List.length_set]); omega) | apply lk_prev)) (by first | rfl | exact upto_len | assumption | exact map_len | exact List.length_set) | apply Ints.app | (refine Ints.sub (by repeat (first | assumption | apply Ints.app)) (by omega) (by omega) (by omega)))) (by conv => lhs; whnf) (by omega) (by omega) (fun p14 hp14 => ?_))
                      refine a_do rfl (o_loadI Try.underlying2 rfl (by conv => lhs; whnf) hp14 (by repeat (first | assumption | exact ints_nil | exact Ints.own (by repeat (first | assumption | exact lk_last (by (try simp only [List.length_append, List.length_cons, List.length_nil, List.length_set]); omega) | apply lk_prev)) (by first | rfl | exact upto_len | assumption | exact map_len | exact List.length_set) | exact Ints.tail (by repeat (first | assumption | exact lk_last (by (try simp only [List.length_append, List.length_cons, List.length_nil, List.length_set]); omega) | apply lk_prev)) (by first | rfl | exact upto_len | assumption | exact map_len | exact List.length_set) | apply Ints.app | (refine Ints.sub (by repeat (first | assumption | apply Ints.app)) (by omega) (by omega) (by omega)))) (by omega) ?_)
                      refine a_do rfl (o_move (by conv => lhs; whnf) ?_)
                      refine a_do rfl (o_lss (by conv => lhs; whnf) (by conv => lhs; whnf) (fun c15 => ?_) (fun c15 => ?_))
                      ·
                        have hw9 := selR_new (st := (selA xs (p + 1) (joinT xs (p + 1) (p + 1).toNat (plcP s) t).1 (plcP s) (p + 1).toNat i)) (cs := xs) (m := p + 1) (sel_take hi1 hkb1 hP1) (.inr c15)
                        refine a_do rfl (o_pickF (by conv => lhs; whnf) (by conv => lhs; whnf) ?_)
                        refine a_do rfl (o_pickT (by conv => lhs; whnf) (by conv => lhs; whnf) ?_)
                        refine a_end ?_
                        refine awp_condT (by conv => lhs; whnf) ?_
                        refine awp_seq ?_
                        refine awp_region rfl ?_
                        refine a_do rfl (o_move (by conv => lhs; whnf) ?_)
                        refine a_do rfl (o_assign (by conv => lhs; whnf) ?_)
                        refine a_end ?_
                        refine awp_region rfl ?_
                        refine a_do rfl (o_move (by conv => lhs; whnf) ?_)
                        refine a_do rfl (o_move (by conv => lhs; whnf) ?_)
                        refine a_do rfl (o_move (by conv => lhs; whnf) ?_)
                        refine a_do rfl (o_mul (by conv => lhs; whnf) (by conv => lhs; whnf) (by omega) (by omega) ?_)
                        refine a_do rfl (o_move (by conv => lhs; whnf) ?_)
                        refine a_do rfl (o_add (by conv => lhs; whnf) (by conv => lhs; whnf) (by omega) (by omega) ?_)
                        first | refine a_do rfl (o_indexI Try.underlying22 ty2 (by conv => lhs; whnf) (by repeat (first | assumption | exact ints_nil | exact Ints.own (by repeat (first | assumption | exact lk_last (by (try simp only [List.length_append, List.length_cons, List.length_nil, List.length_set]); omega) | apply lk_prev)) (by first | rfl | exact upto_len | assumption | exact map_len | exact List.length_set) | exact Ints.tail (by repeat (first | assumption | exact lk_last (by (try simp only [List.length_append, List.length_cons, List.length_nil, List.length_set]); omega) | apply lk_prev)) (by first | rfl | exact upto_len | assumption | exact map_len | exact List.length_set) | apply Ints.app | (refine Ints.sub (by repeat (first | assumption | apply Ints.app)) (by omega) (by omega) (by omega)))) (by conv => lhs; whnf) (by omega) (fun p16 hp16 => ?_)) | refine a_do rfl (o_indexZ Try.underlying22 ty2 (by conv => lhs; whnf) (by repeat (first | assumption | exact ints_nil | exact Ints.own (by repeat (first | assumption | exact lk_last (by (try simp only [List.length_append, List.length_cons, List.length_nil, List.length_set]); omega) | apply lk_prev)) (by first | rfl | exact upto_len | assumption | exact map_len | exact List.length_set) | exact Ints.tail (by repeat (first | assumption | exact lk_last (by (try simp only [List.length_append, List.length_cons, List.length_nil, List.length_set]); omega) | apply lk_prev)) (by first | rfl | exact upto_len | assumption | exact map_len | exact List.length_set) | apply Ints.app | (refine Ints.sub (by repeat (first | assumption | apply Ints.app)) (by omega) (by omega) (by omega)))) (by conv => lhs; whnf) (by omega) (by omega) (fun p16 hp16 => ?_))
                        refine a_do rfl (o_loadI Try.underlying2 rfl (by conv => lhs; whnf) hp16 (by repeat (first | assumption | exact ints_nil | exact Ints.own (by repeat (first | assumption | exact lk_last (by (try simp only [List.length_append, List.length_cons, List.length_nil, List.length_set]); omega) | apply lk_prev)) (by first | rfl | exact upto_len | assumption | exact map_len | exact List.length_set) | exact Ints.tail (by repeat (first | assumption | exact lk_last (by (try simp only [List.length_append, List.length_cons, List.length_nil, List.length_set]); omega) | apply lk_prev)) (by first | rfl | exact upto_len | assumption | exact map_len | exact List.length_set) | apply Ints.app | (refine Ints.sub (by repeat (first | assumption | apply Ints.app)) (by omega) (by omega) (by omega)))) (by omega) ?_)
                        refine a_do rfl (o_assign (by conv => lhs; whnf) ?_)
                        refine a_end ?_
                        refine awp_region rfl ?_
                        refine a_do rfl (o_move (by conv => lhs; whnf) ?_)
                        refine a_do rfl (o_add (by conv => lhs; whnf) (by conv => lhs; whnf) (by omega) (by omega) ?_)
                        refine a_do rfl (o_assign (by conv => lhs; whnf) ?_)
                        refine a_end ?_
                        refine ⟨k + 1, ⟨Slots.mk ⟨?_, ?_, ?_, ?_, ?_, ?_, ?_, ?_, ?_, ?_, ?_, trivial⟩, ?_, ?_⟩, ?_⟩
                        all_goals first | rfl | omega | exact congrArg i64 (by omega) | exact congrArg i64 (by rw [hw9]; all_goals rfl)
                      ·
                        have hw9 := selR_old (cs := xs) (m := p + 1) (J := (joinT xs (p + 1) (p + 1).toNat (plcP s) t).1) (P := plcP s) (i := i) (k := k) (st := (selA xs (p + 1) (joinT xs (p + 1) (p + 1).toNat (plcP s) t).1 (plcP s) (p + 1).toNat i)) (fun ⟨_, h9⟩ => h9.elim hn9 c15)
                        refine a_do rfl (o_pickF (by conv => lhs; whnf) (by conv => lhs; whnf) ?_)
                        refine a_do rfl (o_pickT (by conv => lhs; whnf) (by conv => lhs; whnf) ?_)
                        refine a_end ?_
                        refine awp_condF (by conv => lhs; whnf) ?_
                        refine awp_skip ?_
                        refine awp_region rfl ?_
                        refine a_do rfl (o_move (by conv => lhs; whnf) ?_)
                        refine a_do rfl (o_add (by conv => lhs; whnf) (by conv => lhs; whnf) (by omega) (by omega) ?_)
                        refine a_do rfl (o_assign (by conv => lhs; whnf) ?_)
                        refine a_end ?_
                        refine ⟨k + 1, ⟨Slots.mk ⟨?_, ?_, ?_, ?_, ?_, ?_, ?_, ?_, ?_, ?_, ?_, trivial⟩, ?_, ?_⟩, ?_⟩
                        all_goals first | rfl | omega | exact congrArg i64 (by omega) | exact congrArg i64 (by rw [hw9]; all_goals rfl)
                  ·
                    have hP1 : (plcP s).testBit k = false := by rw [plc_bit s hs64 k (by omega) (by omega), show k - 1 = ((k : Int) - 1).toNat by omega]; exact c11
                    have hw9 := selR_skip (cs := xs) (m := p + 1) (J := (joinT xs (p + 1) (p + 1).toNat (plcP s) t).1) (P := plcP s) (i := i) (k := k) (st := (selA xs (p + 1) (joinT xs (p + 1) (p + 1).toNat (plcP s) t).1 (plcP s) (p + 1).toNat i)) (.inr (.inr hP1))
                    refine a_do rfl (o_pickT (by conv => lhs; whnf) (by conv => lhs; whnf) ?_)
                    refine a_do rfl (o_move (by conv => lhs; whnf) ?_)
                    refine a_no rfl ?_
                    refine a_no rfl ?_
                    refine a_no rfl ?_
                    refine a_no rfl ?_
                    refine a_no rfl ?_
                    refine a_no rfl ?_
                    refine a_no rfl ?_
                    refine a_no rfl ?_
                    refine a_no rfl ?_
                    refine a_no rfl ?_
                    refine a_no rfl ?_
                    refine a_no rfl ?_
                    refine a_no rfl ?_
                    refine a_no rfl ?_
                    refine a_do rfl (o_pickF (by conv => lhs; whnf) (by conv => lhs; whnf) ?_)
                    refine a_end ?_
                    refine awp_condF (by conv => lhs; whnf) ?_
                    refine awp_skip ?_
                    refine awp_region rfl ?_
                    refine a_do rfl (o_move (by conv => lhs; whnf) ?_)
                    refine a_do rfl (o_add (by conv => lhs; whnf) (by conv => lhs; whnf) (by omega) (by omega) ?_)
                    refine a_do rfl (o_assign (by conv => lhs; whnf) ?_)
                    refine a_end ?_
                    refine ⟨k + 1, ⟨Slots.mk ⟨?_, ?_, ?_, ?_, ?_, ?_, ?_, ?_, ?_, ?_, ?_, trivial⟩, ?_, ?_⟩, ?_⟩
                    all_goals first | rfl | omega | exact congrArg i64 (by omega) | exact congrArg i64 (by rw [hw9]; all_goals rfl)
              ·
                rw [bitsB_get (by omega), Int.toNat_natCast] at c8
                have hw9 := selR_skip (cs := xs) (m := p + 1) (J := (joinT xs (p + 1) (p + 1).toNat (plcP s) t).1) (P := plcP s) (i := i) (k := k) (st := (selA xs (p + 1) (joinT xs (p + 1) (p + 1).toNat (plcP s) t).1 (plcP s) (p + 1).toNat i)) (.inl c8)
                refine a_do rfl (o_move (by conv => lhs; whnf) ?_)
                refine a_no rfl ?_
                refine a_no rfl ?_
                refine a_no rfl ?_
                refine a_no rfl ?_
                refine a_no rfl ?_
                refine a_do rfl (o_pickF (by conv => lhs; whnf) (by conv => lhs; whnf) ?_)
                refine a_do rfl (o_move (by conv => lhs; whnf) ?_)
                refine a_no rfl ?_
                refine a_no rfl ?_
                refine a_no rfl ?_
                refine a_no rfl ?_
                refine a_do rfl (o_pickF (by conv => lhs; whnf) (by conv => lhs; whnf) ?_)
                refine a_do rfl (o_move (by conv => lhs; whnf) ?_)
                refine a_no rfl ?_
                refine a_no rfl ?_
                refine a_no rfl ?_
                refine a_no rfl ?_
                refine a_no rfl ?_
                refine a_no rfl ?_
                refine a_no rfl ?_
                refine a_no rfl ?_
                refine a_no rfl ?_
                refine a_no rfl ?_
                refine a_no rfl ?_
                refine a_no rfl ?_
                refine a_no rfl ?_
                refine a_no rfl ?_
                refine a_do rfl (o_pickF (by conv => lhs; whnf) (by conv => lhs; whnf) ?_)
                refine a_end ?_
                refine awp_condF (by conv => lhs; whnf) ?_
                refine awp_skip ?_
                refine awp_region rfl ?_
                refine a_do rfl (o_move (by conv => lhs; whnf) ?_)
                refine a_do rfl (o_add (by conv => lhs; whnf) (by conv => lhs; whnf) (by omega) (by omega) ?_)
                refine a_do rfl (o_assign (by conv => lhs; whnf) ?_)
                refine a_end ?_
                refine ⟨k + 1, ⟨Slots.mk ⟨?_, ?_, ?_, ?_, ?_, ?_, ?_, ?_, ?_, ?_, ?_, trivial⟩, ?_, ?_⟩, ?_⟩
                all_goals first | rfl | omega | exact congrArg i64 (by omega) | exact congrArg i64 (by rw [hw9]; all_goals rfl)
            ·
              refine a_end ?_
              refine awp_condF (by conv => lhs; whnf) ?_
              refine awp_exit ?_
              refine awp_region rfl ?_
              refine a_do rfl (o_move (by conv => lhs; whnf) ?_)
              refine a_do rfl (o_add (by conv => lhs; whnf) (by conv => lhs; whnf) (by omega) (by omega) ?_)
              refine a_do rfl (o_assign (by conv => lhs; whnf) ?_)
              refine a_end ?_
              obtain rfl : k = (p + 1).toNat := (by omega)
              refine ⟨i + 1, ⟨Slots.mk ⟨?_, ?_, ?_, ?_, ?_, ?_, ?_, ?_, ?_, ?_, trivial⟩, ?_, ?_⟩, ?_⟩
              all_goals first | rfl | omega | exact congrArg i64 (by omega)
        ·
          refine a_end ?_
          refine awp_condF (by conv => lhs; whnf) ?_
          refine awp_exit ?_
          refine awp_seq ?_
          refine awp_region rfl ?_
          obtain rfl : i = (p + 1).toNat := (by omega)
          obtain ⟨k9, hk9, hk9n, hk9p, hk9b, hk9j⟩ := jok_sel (cs := xs) (m := p + 1) (p := p.toNat) (by omega) hs hj hne9
          rw [← hn7] at hk9
          have hpk := pow_k (k := k9) (by omega)
          have hpk2 : 0 < (2 : Nat) ^ (k9 : Int).toNat ∧ (2 : Nat) ^ (k9 : Int).toNat ≤ 64 := pow_kn (by omega)
          have hjn : (joinT xs (p + 1) (p + 1).toNat (plcP s) (t + 1)) = ((joinT xs (p + 1) (p + 1).toNat (plcP s) t).1 ||| 2 ^ k9, (joinT xs (p + 1) (p + 1).toNat (plcP s) t).2.set k9 (selA xs (p + 1) (joinT xs (p + 1) (p + 1).toNat (plcP s) t).1 (plcP s) (p + 1).toNat (p + 1).toNat).2) := by simp only [joinT, hk9, Int.toNat_natCast]
          rw [hk9]
          have hjl := joinT_len (cs := xs) (m := p + 1) (n := (p + 1).toNat) (P := plcP s) t
          have hdl : (joinT xs (p + 1) (p + 1).toNat (plcP s) t).2.length = (p + 1).toNat := joinT_len _
          have hdl2 : ((joinT xs (p + 1) (p + 1).toNat (plcP s) t).2.drop 1).length = p.toNat := by rw [List.length_drop, hdl]; omega
          have hz9 : ((k9 : Int) - 1).toNat = k9 - 1 := by omega
          refine a_do rfl (o_move (by conv => lhs; whnf) ?_)
          refine a_do rfl (o_move (by conv => lhs; whnf) ?_)
          refine a_do rfl (o_indexB Try.underlying98 ty4 (by conv => lhs; whnf) (by repeat (first | assumption | exact lk_last (by (try simp only [List.length_append, List.length_cons, List.length_nil, List.length_set]); omega) | apply lk_prev)) (by first | exact seenB_len | exact bitsB_len | rfl | assumption | (simp; done)) (by conv => lhs; whnf) (by omega) (by omega) (fun p17 hp17 => ?_))
          refine a_do rfl (o_storeB ty4 (by conv => lhs; whnf) hp17 (by repeat (first | assumption | exact lk_last (by (try simp only [List.length_append, List.length_cons, List.length_nil, List.length_set]); omega) | apply lk_prev)) (by first | exact seenB_len | exact bitsB_len | rfl | assumption | (simp; done)) (by omega) (by conv => lhs; whnf) (by repeat (first | exact set_last (by (try simp only [List.length_append, List.length_cons, List.length_nil, List.length_set]); omega) | (apply set_step; (try simp only [List.length_append, List.length_cons, List.length_nil, List.length_set]); omega) | exact rfl)) ?_)
          refine a_end ?_
          refine awp_region rfl ?_
          refine a_do rfl (o_move (by conv => lhs; whnf) ?_)
          refine a_do rfl (o_move (by conv => lhs; whnf) ?_)
          refine a_do rfl (o_sub (by conv => lhs; whnf) (by conv => lhs; whnf) (by omega) (by omega) ?_)
          refine a_do rfl (o_move (by conv => lhs; whnf) ?_)
          first | refine a_do rfl (o_indexI Try.underlying22 ty2 (by conv => lhs; whnf) (by repeat (first | assumption | exact ints_nil | exact Ints.own (by repeat (first | assumption | exact lk_last (by (try simp only [List.length_append, List.length_cons, List.length_nil, List.length_set]); omega) | apply lk_prev)) (by first | rfl | exact upto_len | assumption | exact map_len | exact List.length_set) | exact Ints.tail (by repeat (first | assumption | exact lk_last (by (try simp only [List.length_append, List.length_cons, List.length_nil, List.length_set]); omega) | apply lk_prev)) (by first | rfl | exact upto_len | assumption | exact map_len | exact List.length_set) | apply Ints.app | (refine Ints.sub (by repeat (first | assumption | apply Ints.app)) (by omega) (by omega) (by omega)))) (by conv => lhs; whnf) (by omega) (fun p18 hp18 => ?_)) | refine a_do rfl (o_indexZ Try.underlying22 ty2 (by conv => lhs; whnf) (by repeat (first | assumption | exact ints_nil | exact Ints.own (by repeat (first | assumption | exact lk_last (by (try simp only [List.length_append, List.length_cons, List.length_nil, List.length_set]); omega) | apply lk_prev)) (by first | rfl | exact upto_len | assumption | exact map_len | exact List.length_set) | exact Ints.tail (by repeat (first | assumption | exact lk_last (by (try simp only [List.length_append, List.length_cons, List.length_nil, List.length_set]); omega) | apply lk_prev)) (by first | rfl | exact upto_len | assumption | exact map_len | exact List.length_set) | apply Ints.app | (refine Ints.sub (by repeat (first | assumption | apply Ints.app)) (by omega) (by omega) (by omega)))) (by conv => lhs; whnf) (by omega) (by omega) (fun p18 hp18 => ?_))
          refine a_do rfl (o_storeI ty2 (by conv => lhs; whnf) hp18 (by repeat (first | assumption | exact lk_last (by (try simp only [List.length_append, List.length_cons, List.length_nil, List.length_set]); omega) | apply lk_prev)) (by first | rfl | omega | (simp; done) | (simp; omega)) (by omega) (by conv => lhs; whnf) (by repeat (first | exact set_last (by (try simp only [List.length_append, List.length_cons, List.length_nil, List.length_set]); omega) | (apply set_step; (try simp only [List.length_append, List.length_cons, List.length_nil, List.length_set]); omega) | exact rfl)) ?_)
          refine a_end ?_
          refine awp_region rfl ?_
          refine a_do rfl (o_move (by conv => lhs; whnf) ?_)
          refine a_do rfl (o_sub (by conv => lhs; whnf) (by conv => lhs; whnf) (by omega) (by omega) ?_)
          refine a_do rfl (o_assign (by conv => lhs; whnf) ?_)
          refine a_end ?_
          refine ⟨t + 1, ⟨Slots.mk ⟨?_, ?_, ?_, ?_, ?_, ?_, ?_, trivial⟩, ?_, ?_⟩, ?_⟩
          all_goals first | rfl | omega | exact congrArg i64 (by omega) | (rw [hjn, Int.toNat_natCast, bitsB_set (by omega), hz9, drop_set hk9p]; done) | exact ⟨by rw [hjn]; exact hk9j, by omega⟩
    ·
      have hte : t = pop s := by omega
      subst hte
      refine a_end ?_
      refine awp_condF (by conv => lhs; whnf) ?_
      refine awp_exit ?_
      refine awp_seq ?_
      refine awp_region rfl ?_
      refine a_do rfl (o_move (by conv => lhs; whnf) ?_)
      refine a_do rfl (o_assign (by conv => lhs; whnf) ?_)
      refine a_end ?_
      refine awp_ret ?_
      refine ⟨.inl rfl, [_], ⟨ares_tmp (by conv => lhs; whnf), trivial⟩, ?_⟩
      exact ⟨k3, rfl, (by repeat (first | exact Grown.refl _ | refine Grown.push ?_ _)), (by repeat (first | assumption | exact lk_last (by (try simp only [List.length_append, List.length_cons, List.length_nil, List.length_set]); omega) | apply lk_prev)), by omega⟩

set_option maxRecDepth 10000 in
theorem markT_ret (c x : Int) (k n : Nat) (xs : List Int) (h : AHeap) (ho : h[k]? = some (lst (x :: xs))) (hn : xs.length = n) (hl : xs.length ≤ 1073741824) (hc : 0 ≤ c ∧ c ≤ 1073741824) : Ret Try.prog 20 [slT k n, i64 c] h (i64 (c + n)) (h.set k (lst (x :: upto c n))) := by
  subst hn
  have hk := (List.getElem?_eq_some_iff.1 ho).1
  refine retm_of (by simp) (.prim rfl) (fun cl => cl.set (by simp [lst, isPrim])) ?_
  refine tri_of_body Try.func20 rfl (by kernel_rfl) (by show 2 ≤ 19; decide) ?_
  refine awp_seq ?_
  refine awp_region rfl ?_
  refine a_do rfl (o_assign (by conv => lhs; whnf) ?_)
  refine a_end ?_
  refine awp_seq ?_
  refine awp_seq ?_
  refine awp_region rfl ?_
  refine a_do rfl (o_assign (by conv => lhs; whnf) ?_)
  refine a_end ?_
  refine awp_block ?_
  refine awp_loop (σ := Nat) (fun s env1 h1 => Slots env1 [(0, slT k xs.length), (1, i64 (c + s)), (5, i64 s)] ∧ h1 = h.set k (lst (x :: (upto c s ++ xs.drop s))) ∧ s ≤ xs.length) (fun s => xs.length - s) 0 ?_ ?_
  · refine ⟨Slots.mk ⟨?_, ?_, ?_, trivial⟩, ?_, ?_⟩
    all_goals first | rfl | exact congrArg i64 (show c = c + ((0 : Nat) : Int) by simp) | (rw [upto_zero, List.nil_append, List.drop_zero, set_same ho]; done) | (simp; done)
  · intro s env1 h1 hI1
    obtain ⟨⟨e1, rfl⟩, rfl, hs⟩ := hI1
    have hlk := lk_set (o := lst (x :: (upto c s ++ xs.drop s))) hk
    have hll : (upto c s ++ xs.drop s).length = xs.length := by simp [upto_len]; omega
    have hll2 : (x :: (upto c s ++ xs.drop s)).length = xs.length + 1 := by rw [List.length_cons, hll]
    have hI : Ints (h.set k (lst (x :: (upto c s ++ xs.drop s)))) (slT k xs.length) (upto c s ++ xs.drop s) := Ints.tail hlk hll
    refine awp_seq ?_
    refine awp_seq ?_
    refine awp_region rfl ?_
    refine a_do rfl (o_move (by conv => lhs; whnf) ?_)
    refine a_do rfl (o_move (by conv => lhs; whnf) ?_)
    refine a_do rfl (o_lenI Try.underlying22 (by conv => lhs; whnf) (by repeat (first | assumption | exact ints_nil | exact Ints.own (by repeat (first | assumption | exact lk_last (by (try simp only [List.length_append, List.length_cons, List.length_nil, List.length_set]); omega) | apply lk_prev)) (by first | rfl | exact upto_len | assumption | exact map_len | exact List.length_set) | exact Ints.tail (by repeat (first | assumption | exact lk_last (by (try simp only [List.length_append, List.length_cons, List.length_nil, List.length_set]); omega) | apply lk_prev)) (by first | rfl | exact upto_len | assumption | exact map_len | exact List.length_set) | apply Ints.app | (refine Ints.sub (by repeat (first | assumption | apply Ints.app)) (by omega) (by omega) (by omega)))) ?_)
    refine a_do rfl (o_lss (by conv => lhs; whnf) (by conv => lhs; whnf) (fun c1 => ?_) (fun c1 => ?_))
    ·
      refine a_end ?_
      refine awp_condT (by conv => lhs; whnf) ?_
      refine awp_skip ?_
      refine awp_seq ?_
      refine awp_block ?_
      refine awp_seq ?_
      refine awp_region rfl ?_
      refine a_do rfl (o_move (by conv => lhs; whnf) ?_)
      refine a_do rfl (o_move (by conv => lhs; whnf) ?_)
      refine a_do rfl (o_move (by conv => lhs; whnf) ?_)
      first | refine a_do rfl (o_indexI Try.underlying22 ty2 (by conv => lhs; whnf) (by repeat (first | assumption | exact ints_nil | exact Ints.own (by repeat (first | assumption | exact lk_last (by (try simp only [List.length_append, List.length_cons, List.length_nil, List.length_set]); omega) | apply lk_prev)) (by first | rfl | exact upto_len | assumption | exact map_len | exact List.length_set) | exact Ints.tail (by repeat (first | assumption | exact lk_last (by (try simp only [List.length_append, List.length_cons, List.length_nil, List.length_set]); omega) | apply lk_prev)) (by first | rfl | exact upto_len | assumption | exact map_len | exact List.length_set) | apply Ints.app | (refine Ints.sub (by repeat (first | assumption | apply Ints.app)) (by omega) (by omega) (by omega)))) (by conv => lhs; whnf) (by omega) (fun p2 hp2 => ?_)) | refine a_do rfl (o_indexZ Try.underlying22 ty2 (by conv => lhs; whnf) (by repeat (first | assumption | exact ints_nil | exact Ints.own (by repeat (first | assumption | exact lk_last (by (try simp only [List.length_append, List.length_cons, List.length_nil, List.length_set]); omega) | apply lk_prev)) (by first | rfl | exact upto_len | assumption | exact map_len | exact List.length_set) | exact Ints.tail (by repeat (first | assumption | exact lk_last (by (try simp only [List.length_append, List.length_cons, List.length_nil, List.length_set]); omega) | apply lk_prev)) (by first | rfl | exact upto_len | assumption | exact map_len | exact List.length_set) | apply Ints.app | (refine Ints.sub (by repeat (first | assumption | apply Ints.app)) (by omega) (by omega) (by omega)))) (by conv => lhs; whnf) (by omega) (by omega) (fun p2 hp2 => ?_))
      refine a_do rfl (o_storeI ty2 (by conv => lhs; whnf) (elemT ‹IsElem _ _ _›) hlk hll2 (by omega) (by conv => lhs; whnf) rfl ?_)
      refine a_end ?_
      refine awp_region rfl ?_
      refine a_do rfl (o_move (by conv => lhs; whnf) ?_)
      refine a_do rfl (o_add (by conv => lhs; whnf) (by conv => lhs; whnf) (by omega) (by omega) ?_)
      refine a_do rfl (o_assign (by conv => lhs; whnf) ?_)
      refine a_end ?_
      refine awp_region rfl ?_
      refine a_do rfl (o_move (by conv => lhs; whnf) ?_)
      refine a_do rfl (o_add (by conv => lhs; whnf) (by conv => lhs; whnf) (by omega) (by omega) ?_)
      refine a_do rfl (o_assign (by conv => lhs; whnf) ?_)
      refine a_end ?_
      refine ⟨s + 1, ⟨Slots.mk ⟨?_, ?_, ?_, trivial⟩, ?_, ?_⟩, ?_⟩
      all_goals first | rfl | omega | exact congrArg i64 (by omega) | (rw [set_set, List.set_cons_succ, upto_step (by omega)])
    ·
      refine a_end ?_
      refine awp_condF (by conv => lhs; whnf) ?_
      refine awp_exit ?_
      refine awp_seq ?_
      refine awp_region rfl ?_
      refine a_do rfl (o_move (by conv => lhs; whnf) ?_)
      refine a_do rfl (o_assign (by conv => lhs; whnf) ?_)
      refine a_end ?_
      refine awp_ret ?_
      refine ⟨.inl rfl, [_], ⟨ares_tmp (by conv => lhs; whnf), trivial⟩, ?_⟩
      exact ⟨congrArg i64 (by omega), by obtain rfl : s = xs.length := (by omega); rw [List.drop_length, List.append_nil]; exact Grown.refl _⟩

set_option maxRecDepth 10000 in
theorem specTreeShares_ret (p : Int) (xs : List Int) (v : Value) (h : AHeap) (hv : Ints h v xs) (hl : xs.length ≤ 1073741824) : RetO Try.prog 56 [i64 p, v] h (waysV p xs) (VL p.toNat) (lst (treeD xs p (2 ^ p.toNat - 1))) NL := by
  refine retL_of ?_
  refine tri_of_body Try.func56 rfl (by kernel_rfl) (by show 2 ≤ 17; decide) ?_
  refine awp_seq ?_
  refine awp_region rfl ?_
  refine a_do rfl (o_assign (by conv => lhs; whnf) ?_)
  refine a_do rfl (o_assign (by conv => lhs; whnf) ?_)
  refine a_end ?_
  refine awp_seq ?_
  refine awp_seq ?_
  refine awp_region rfl ?_
  refine a_do rfl (o_move (by conv => lhs; whnf) ?_)
  refine a_do rfl (o_move (by conv => lhs; whnf) ?_)
  refine a_do rfl (o_callF (lmap_cons (by conv => lhs; whnf) (lmap_cons (by conv => lhs; whnf) lmap_nil)) (Ret.toB (l03Costs_ret _ _ _ _ (by repeat (first | assumption | exact ints_nil | exact Ints.own (by repeat (first | assumption | exact lk_last (by (try simp only [List.length_append, List.length_cons, List.length_nil, List.length_set]); omega) | apply lk_prev)) (by first | rfl | exact upto_len | assumption | exact map_len | exact List.length_set) | exact Ints.tail (by repeat (first | assumption | exact lk_last (by (try simp only [List.length_append, List.length_cons, List.length_nil, List.length_set]); omega) | apply lk_prev)) (by first | rfl | exact upto_len | assumption | exact map_len | exact List.length_set) | apply Ints.app | (refine Ints.sub (by repeat (first | assumption | apply Ints.app)) (by omega) (by omega) (by omega)))) (by omega)) (fun c1 => ?_) (fun c1 => ?_)))
  ·
    have hWy := c1
    have hpn := pow_nat (waysV_get hWy).1
    have hp := (waysV_get hWy).1
    have hsp : (1 : Int) * 2 ^ p.toNat - 1 = ((2 ^ p.toNat - 1 : Nat) : Int) := by omega
    refine a_do rfl (o_notT (by conv => lhs; whnf) ?_)
    refine a_end ?_
    refine awp_condF (by conv => lhs; whnf) ?_
    refine awp_skip ?_
    refine awp_seq ?_
    refine awp_region rfl ?_
    refine a_do rfl (o_move (by conv => lhs; whnf) ?_)
    refine a_do rfl (o_move (by conv => lhs; whnf) ?_)
    refine a_do rfl (o_move (by conv => lhs; whnf) ?_)
    refine a_do rfl (o_convU Try.underlying2 Try.underlying65 (by conv => lhs; whnf) (by omega) (by omega) ?_)
    refine a_do rfl (o_shl (by conv => lhs; whnf) (by conv => lhs; whnf) (by omega) (by omega) (by omega) (by omega) ?_)
    refine a_do rfl (o_sub (by conv => lhs; whnf) (by conv => lhs; whnf) (by omega) (by omega) ?_)
    rw [hsp]
    refine a_do rfl (o_callF (lmap_cons (by conv => lhs; whnf) (lmap_cons (by conv => lhs; whnf) (lmap_cons (by conv => lhs; whnf) lmap_nil))) (RetN.toN (l03Tree_ret _ _ _ _ _ (by repeat (first | assumption | exact ints_nil | exact Ints.own (by repeat (first | assumption | exact lk_last (by (try simp only [List.length_append, List.length_cons, List.length_nil, List.length_set]); omega) | apply lk_prev)) (by first | rfl | exact upto_len | assumption | exact map_len | exact List.length_set) | exact Ints.tail (by repeat (first | assumption | exact lk_last (by (try simp only [List.length_append, List.length_cons, List.length_nil, List.length_set]); omega) | apply lk_prev)) (by first | rfl | exact upto_len | assumption | exact map_len | exact List.length_set) | apply Ints.app | (refine Ints.sub (by repeat (first | assumption | apply Ints.app)) (by omega) (by omega) (by omega)))) (by omega) hWy (by omega)) (fun k2 hk2 hgk2 => ?_)))
    try simp at hk2
    have hlnk2 : (treeD xs p (2 ^ p.toNat - 1)).length = p.toNat := treeD_len (by omega)
    have hIk2 := Ints.own hgk2 hlnk2
    refine a_do rfl (o_assign (by conv => lhs; whnf) ?_)
    refine a_do rfl (o_assign (by conv => lhs; whnf) ?_)
    refine a_end ?_
    refine awp_ret ?_
    refine ⟨.inl rfl, [_, _], ⟨ares_tmp (by conv => lhs; whnf), ares_tmp (by conv => lhs; whnf), trivial⟩, ?_⟩
    first | exact .inr ⟨by assumption, rfl, (by repeat (first | exact Grown.refl _ | refine Grown.push ?_ _))⟩ | exact .inl ⟨by assumption, k2, rfl, (by repeat (first | exact Grown.refl _ | refine Grown.push ?_ _)), (by repeat (first | assumption | exact lk_last (by (try simp only [List.length_append, List.length_cons, List.length_nil, List.length_set]); omega) | apply lk_prev)), by omega⟩
  ·
    refine a_do rfl (o_notF (by conv => lhs; whnf) ?_)
    refine a_end ?_
    refine awp_condT (by conv => lhs; whnf) ?_
    refine awp_seq ?_
    refine awp_region rfl ?_
    refine a_do rfl (o_assign (by conv => lhs; whnf) ?_)
    refine a_do rfl (o_assign (by conv => lhs; whnf) ?_)
    refine a_end ?_
    refine awp_ret ?_
    refine ⟨.inl rfl, [_, _], ⟨ares_tmp (by conv => lhs; whnf), ares_tmp (by conv => lhs; whnf), trivial⟩, ?_⟩
    first | exact .inr ⟨by assumption, rfl, (by repeat (first | exact Grown.refl _ | refine Grown.push ?_ _))⟩ | exact .inl ⟨by assumption, k2, rfl, (by repeat (first | exact Grown.refl _ | refine Grown.push ?_ _)), (by repeat (first | assumption | exact lk_last (by (try simp only [List.length_append, List.length_cons, List.length_nil, List.length_set]); omega) | apply lk_prev)), by omega⟩

set_option maxRecDepth 10000 in
theorem implTreeShares_ret (p : Int) (xs : List Int) (v : Value) (h : AHeap) (hv : Ints h v xs) (hl : xs.length ≤ 1073741824) : RetO Try.prog 57 [i64 p, v] h (waysV p xs) (VT p.toNat) (lst (0 :: treeD xs p (2 ^ p.toNat - 1))) NL := by
  refine retT_of ?_
  refine tri_of_body Try.func57 rfl (by kernel_rfl) (by show 2 ≤ 17; decide) ?_
  refine awp_seq ?_
  refine awp_region rfl ?_
  refine a_do rfl (o_assign (by conv => lhs; whnf) ?_)
  refine a_do rfl (o_assign (by conv => lhs; whnf) ?_)
  refine a_end ?_
  refine awp_seq ?_
  refine awp_seq ?_
  refine awp_region rfl ?_
  refine a_do rfl (o_move (by conv => lhs; whnf) ?_)
  refine a_do rfl (o_move (by conv => lhs; whnf) ?_)
  refine a_do rfl (o_callF (lmap_cons (by conv => lhs; whnf) (lmap_cons (by conv => lhs; whnf) lmap_nil)) (Ret.toB (areWays_ret _ _ _ _ (by repeat (first | assumption | exact ints_nil | exact Ints.own (by repeat (first | assumption | exact lk_last (by (try simp only [List.length_append, List.length_cons, List.length_nil, List.length_set]); omega) | apply lk_prev)) (by first | rfl | exact upto_len | assumption | exact map_len | exact List.length_set) | exact Ints.tail (by repeat (first | assumption | exact lk_last (by (try simp only [List.length_append, List.length_cons, List.length_nil, List.length_set]); omega) | apply lk_prev)) (by first | rfl | exact upto_len | assumption | exact map_len | exact List.length_set) | apply Ints.app | (refine Ints.sub (by repeat (first | assumption | apply Ints.app)) (by omega) (by omega) (by omega)))) (by omega)) (fun c1 => ?_) (fun c1 => ?_)))
  ·
    have hWy := c1
    have hpn := pow_nat (waysV_get hWy).1
    have hp := (waysV_get hWy).1
    have hsp : (1 : Int) * 2 ^ p.toNat - 1 = ((2 ^ p.toNat - 1 : Nat) : Int) := by omega
    refine a_do rfl (o_notT (by conv => lhs; whnf) ?_)
    refine a_end ?_
    refine awp_condF (by conv => lhs; whnf) ?_
    refine awp_skip ?_
    refine awp_seq ?_
    refine awp_region rfl ?_
    refine a_do rfl (o_move (by conv => lhs; whnf) ?_)
    refine a_do rfl (o_move (by conv => lhs; whnf) ?_)
    refine a_do rfl (o_move (by conv => lhs; whnf) ?_)
    refine a_do rfl (o_shl (by conv => lhs; whnf) (by conv => lhs; whnf) (by omega) (by omega) (by omega) (by omega) ?_)
    refine a_do rfl (o_sub (by conv => lhs; whnf) (by conv => lhs; whnf) (by omega) (by omega) ?_)
    rw [hsp]
    refine a_do rfl (o_callF (lmap_cons (by conv => lhs; whnf) (lmap_cons (by conv => lhs; whnf) (lmap_cons (by conv => lhs; whnf) lmap_nil))) (RetN.toN (join_ret _ _ _ _ _ (by repeat (first | assumption | exact ints_nil | exact Ints.own (by repeat (first | assumption | exact lk_last (by (try simp only [List.length_append, List.length_cons, List.length_nil, List.length_set]); omega) | apply lk_prev)) (by first | rfl | exact upto_len | assumption | exact map_len | exact List.length_set) | exact Ints.tail (by repeat (first | assumption | exact lk_last (by (try simp only [List.length_append, List.length_cons, List.length_nil, List.length_set]); omega) | apply lk_prev)) (by first | rfl | exact upto_len | assumption | exact map_len | exact List.length_set) | apply Ints.app | (refine Ints.sub (by repeat (first | assumption | apply Ints.app)) (by omega) (by omega) (by omega)))) (by omega) hWy (by omega)) (fun k2 hk2 hgk2 => ?_)))
    try simp at hk2
    have hlnk2 : (joinL xs p (2 ^ p.toNat - 1)).length = (p + 1).toNat := joinL_len
    have hIk2 := Ints.own hgk2 hlnk2
    refine a_do rfl (o_sliceLo Try.underlying22 ty2 (by conv => lhs; whnf) (by repeat (first | assumption | exact ints_nil | exact Ints.own (by repeat (first | assumption | exact lk_last (by (try simp only [List.length_append, List.length_cons, List.length_nil, List.length_set]); omega) | apply lk_prev)) (by first | rfl | exact upto_len | assumption | exact map_len | exact List.length_set) | exact Ints.tail (by repeat (first | assumption | exact lk_last (by (try simp only [List.length_append, List.length_cons, List.length_nil, List.length_set]); omega) | apply lk_prev)) (by first | rfl | exact upto_len | assumption | exact map_len | exact List.length_set) | apply Ints.app | (refine Ints.sub (by repeat (first | assumption | apply Ints.app)) (by omega) (by omega) (by omega)))) (by conv => lhs; whnf) (by omega) (by omega) (by omega) ?_)
    refine a_do rfl (o_assign (by conv => lhs; whnf) ?_)
    refine a_do rfl (o_assign (by conv => lhs; whnf) ?_)
    refine a_end ?_
    refine awp_ret ?_
    refine ⟨.inl rfl, [_, _], ⟨ares_tmp (by conv => lhs; whnf), ares_tmp (by conv => lhs; whnf), trivial⟩, ?_⟩
    first | exact .inr ⟨by assumption, rfl, (by repeat (first | exact Grown.refl _ | refine Grown.push ?_ _))⟩ | exact .inl ⟨by assumption, k2, (congrArg (fun v => packR [v, .bool true]) (subv_tail (k := k2) (q := p.toNat) joinL_len.symm (by omega))), (by repeat (first | exact Grown.refl _ | refine Grown.push ?_ _)), (by rw [← tree_cons hp (by omega)]; exact (by repeat (first | assumption | exact lk_last (by (try simp only [List.length_append, List.length_cons, List.length_nil, List.length_set]); omega) | apply lk_prev))), by omega⟩
  ·
    refine a_do rfl (o_notF (by conv => lhs; whnf) ?_)
    refine a_end ?_
    refine awp_condT (by conv => lhs; whnf) ?_
    refine awp_seq ?_
    refine awp_region rfl ?_
    refine a_do rfl (o_assign (by conv => lhs; whnf) ?_)
    refine a_do rfl (o_assign (by conv => lhs; whnf) ?_)
    refine a_end ?_
    refine awp_ret ?_
    refine ⟨.inl rfl, [_, _], ⟨ares_tmp (by conv => lhs; whnf), ares_tmp (by conv => lhs; whnf), trivial⟩, ?_⟩
    first | exact .inr ⟨by assumption, rfl, (by repeat (first | exact Grown.refl _ | refine Grown.push ?_ _))⟩ | exact .inl ⟨by assumption, k2, (congrArg (fun v => packR [v, .bool true]) (subv_tail (k := k2) (q := p.toNat) joinL_len.symm (by omega))), (by repeat (first | exact Grown.refl _ | refine Grown.push ?_ _)), (by rw [← tree_cons hp (by omega)]; exact (by repeat (first | assumption | exact lk_last (by (try simp only [List.length_append, List.length_cons, List.length_nil, List.length_set]); omega) | apply lk_prev))), by omega⟩

end Go.Am
