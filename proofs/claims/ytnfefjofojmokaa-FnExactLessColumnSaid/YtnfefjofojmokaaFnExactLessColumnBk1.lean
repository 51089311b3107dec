/-
  What the functions that the law FnExactLessColumn calls answer, each over an abstract heap, for every input.
-/
import Derived.Test.YtnfefjofojmokaaAmLast
import Derived.Test.YtnfefjofojmokaaProg
import Derived.KernelRfl
namespace Go.Am
open Go.Proofs
set_option linter.unusedSimpArgs false
set_option linter.unusedVariables false
theorem Try_mixed : Try.prog.follows .mixedOrders = true := by kernel_rfl
theorem ty2 : InfoIs Try.prog 2 (i64 0) 1 8 := by unfold InfoIs; kernel_rfl
theorem ty32 : InfoIs Try.prog 32 (.slice none 0 0) 1 24 := by unfold InfoIs; kernel_rfl
theorem ty53 : InfoIs Try.prog 53 (.agg #[i64 0, i64 0, .slice none 0 0, .slice none 0 0]) 4 64 := by unfold InfoIs; kernel_rfl
theorem ty55 : InfoIs Try.prog 55 (.agg #[i64 0, i64 0, .slice none 0 0, .slice none 0 0]) 4 64 := by unfold InfoIs; kernel_rfl

set_option maxRecDepth 10000 in
theorem within_ret (n lo hi : Int) (h : AHeap) : Ret Try.prog 98 [i64 n, i64 lo, i64 hi] h (.bool (decide (lo ≤ n ∧ n ≤ hi))) h := by
  refine ret_of (.prim rfl) ?_
  refine tri_of_body Try.func98 rfl (by kernel_rfl) (by show 3 ≤ 15; decide) ?_
  refine awp_seq ?_
  refine awp_region rfl ?_
  refine a_do rfl (o_assign (by conv => lhs; whnf) ?_)
  refine a_end ?_
  refine awp_seq ?_
  refine awp_region rfl ?_
  refine a_do rfl (o_move (by conv => lhs; whnf) ?_)
  refine a_do rfl (o_move (by conv => lhs; whnf) ?_)
  refine a_do rfl (o_geq (by conv => lhs; whnf) (by conv => lhs; whnf) (fun c1 => ?_) (fun c1 => ?_))
  ·
    refine a_do rfl (o_move (by conv => lhs; whnf) ?_)
    refine a_do rfl (o_move (by conv => lhs; whnf) ?_)
    refine a_do rfl (o_move (by conv => lhs; whnf) ?_)
    refine a_do rfl (o_leq (by conv => lhs; whnf) (by conv => lhs; whnf) (fun c2 => ?_) (fun c2 => ?_))
    ·
      refine a_do rfl (o_pickT (by conv => lhs; whnf) (by conv => lhs; whnf) ?_)
      refine a_do rfl (o_assign (by conv => lhs; whnf) ?_)
      refine a_end ?_
      refine awp_ret ?_
      refine ⟨.inl rfl, [_], ⟨ares_tmp (by conv => lhs; whnf), trivial⟩, ?_⟩
      exact ⟨by first | rfl | (simp only [packR_one, *]; done) | (simp only [packR_one, *]; rfl) | (simp [*]; done) | (simp_all; done), (by first | ((repeat (first | with_reducible exact Grown.refl _ | with_reducible apply Grown.push)); done) | repeat (first | exact Grown.refl _ | refine Grown.push ?_ _))⟩
    ·
      refine a_do rfl (o_pickT (by conv => lhs; whnf) (by conv => lhs; whnf) ?_)
      refine a_do rfl (o_assign (by conv => lhs; whnf) ?_)
      refine a_end ?_
      refine awp_ret ?_
      refine ⟨.inl rfl, [_], ⟨ares_tmp (by conv => lhs; whnf), trivial⟩, ?_⟩
      exact ⟨by first | rfl | (simp only [packR_one, *]; done) | (simp only [packR_one, *]; rfl) | (simp [*]; done) | (simp_all; done), (by first | ((repeat (first | with_reducible exact Grown.refl _ | with_reducible apply Grown.push)); done) | repeat (first | exact Grown.refl _ | refine Grown.push ?_ _))⟩
  ·
    refine a_do rfl (o_move (by conv => lhs; whnf) ?_)
    refine a_no rfl ?_
    refine a_no rfl ?_
    refine a_no rfl ?_
    refine a_do rfl (o_pickF (by conv => lhs; whnf) (by conv => lhs; whnf) ?_)
    refine a_do rfl (o_assign (by conv => lhs; whnf) ?_)
    refine a_end ?_
    refine awp_ret ?_
    refine ⟨.inl rfl, [_], ⟨ares_tmp (by conv => lhs; whnf), trivial⟩, ?_⟩
    exact ⟨by first | rfl | (simp only [packR_one, *]; done) | (simp only [packR_one, *]; rfl) | (simp [*]; done) | (simp_all; done), (by first | ((repeat (first | with_reducible exact Grown.refl _ | with_reducible apply Grown.push)); done) | repeat (first | exact Grown.refl _ | refine Grown.push ?_ _))⟩

set_option maxRecDepth 10000 in
theorem l00In_ret (n lo hi : Int) (h : AHeap) : Ret Try.prog 83 [i64 n, i64 lo, i64 hi] h (.bool (decide (lo ≤ n ∧ n ≤ hi))) h := by
  refine ret_of (.prim rfl) ?_
  refine tri_of_body Try.func83 rfl (by kernel_rfl) (by show 3 ≤ 15; decide) ?_
  refine awp_seq ?_
  refine awp_region rfl ?_
  refine a_do rfl (o_assign (by conv => lhs; whnf) ?_)
  refine a_end ?_
  refine awp_seq ?_
  refine awp_region rfl ?_
  refine a_do rfl (o_move (by conv => lhs; whnf) ?_)
  refine a_do rfl (o_move (by conv => lhs; whnf) ?_)
  refine a_do rfl (o_geq (by conv => lhs; whnf) (by conv => lhs; whnf) (fun c1 => ?_) (fun c1 => ?_))
  ·
    refine a_do rfl (o_move (by conv => lhs; whnf) ?_)
    refine a_do rfl (o_move (by conv => lhs; whnf) ?_)
    refine a_do rfl (o_move (by conv => lhs; whnf) ?_)
    refine a_do rfl (o_leq (by conv => lhs; whnf) (by conv => lhs; whnf) (fun c2 => ?_) (fun c2 => ?_))
    ·
      refine a_do rfl (o_pickT (by conv => lhs; whnf) (by conv => lhs; whnf) ?_)
      refine a_do rfl (o_assign (by conv => lhs; whnf) ?_)
      refine a_end ?_
      refine awp_ret ?_
      refine ⟨.inl rfl, [_], ⟨ares_tmp (by conv => lhs; whnf), trivial⟩, ?_⟩
      exact ⟨by first | rfl | (simp only [packR_one, *]; done) | (simp only [packR_one, *]; rfl) | (simp [*]; done) | (simp_all; done), (by first | ((repeat (first | with_reducible exact Grown.refl _ | with_reducible apply Grown.push)); done) | repeat (first | exact Grown.refl _ | refine Grown.push ?_ _))⟩
    ·
      refine a_do rfl (o_pickT (by conv => lhs; whnf) (by conv => lhs; whnf) ?_)
      refine a_do rfl (o_assign (by conv => lhs; whnf) ?_)
      refine a_end ?_
      refine awp_ret ?_
      refine ⟨.inl rfl, [_], ⟨ares_tmp (by conv => lhs; whnf), trivial⟩, ?_⟩
      exact ⟨by first | rfl | (simp only [packR_one, *]; done) | (simp only [packR_one, *]; rfl) | (simp [*]; done) | (simp_all; done), (by first | ((repeat (first | with_reducible exact Grown.refl _ | with_reducible apply Grown.push)); done) | repeat (first | exact Grown.refl _ | refine Grown.push ?_ _))⟩
  ·
    refine a_do rfl (o_move (by conv => lhs; whnf) ?_)
    refine a_no rfl ?_
    refine a_no rfl ?_
    refine a_no rfl ?_
    refine a_do rfl (o_pickF (by conv => lhs; whnf) (by conv => lhs; whnf) ?_)
    refine a_do rfl (o_assign (by conv => lhs; whnf) ?_)
    refine a_end ?_
    refine awp_ret ?_
    refine ⟨.inl rfl, [_], ⟨ares_tmp (by conv => lhs; whnf), trivial⟩, ?_⟩
    exact ⟨by first | rfl | (simp only [packR_one, *]; done) | (simp only [packR_one, *]; rfl) | (simp [*]; done) | (simp_all; done), (by first | ((repeat (first | with_reducible exact Grown.refl _ | with_reducible apply Grown.push)); done) | repeat (first | exact Grown.refl _ | refine Grown.push ?_ _))⟩

set_option maxRecDepth 10000 in
theorem areWithin_ret (lo hi : Int) (xs : List Int) (v : Value) (h : AHeap) (hv : Ints h v xs) (hl : xs.length ≤ 1073741824) : Ret Try.prog 96 [v, i64 lo, i64 hi] h (.bool (xs.all fun n => decide (lo ≤ n ∧ n ≤ hi))) h := by
  refine ret_of (.prim rfl) ?_
  refine tri_of_body Try.func96 rfl (by kernel_rfl) (by show 3 ≤ 21; decide) ?_
  refine awp_seq ?_
  refine awp_region rfl ?_
  refine a_do rfl (o_assign (by conv => lhs; whnf) ?_)
  refine a_end ?_
  refine awp_seq ?_
  refine awp_seq ?_
  refine awp_region rfl ?_
  refine a_do rfl (o_move (by conv => lhs; whnf) ?_)
  refine a_do rfl (o_lenI Try.underlying32 (by conv => lhs; whnf) (by first | ((with_reducible repeat (first | assumption | apply Ints.app)); done) | repeat (first | with_reducible assumption | exact ints_nil | exact Ints.own (by with_reducible repeat (first | assumption | (apply lk_last; (try simp only [ll1, ll2, ll3, ll4, lls_len, lls2_len, markL_len]); omega) | apply lk_prev)) (by first | rfl | exact upto_len | assumption | exact map_len | exact List.length_set | (rw [List.length_set]; assumption)) | exact Ints.tail (by with_reducible repeat (first | assumption | (apply lk_last; (try simp only [ll1, ll2, ll3, ll4, lls_len, lls2_len, markL_len]); omega) | apply lk_prev)) (by first | rfl | exact upto_len | assumption | exact map_len | exact List.length_set | (rw [List.length_set]; assumption)) | with_reducible apply Ints.app | (refine Ints.sub (by with_reducible repeat (first | assumption | apply Ints.app)) (by omega) (by omega) (by omega)))) ?_)
  refine a_do rfl (o_move (by conv => lhs; whnf) ?_)
  refine a_end ?_
  refine awp_block ?_
  refine awp_loop (σ := Nat) (fun s env1 h1 => Slots env1 [(1, i64 lo), (2, i64 hi), (9, v), (10, i64 xs.length), (11, i64 s)] ∧ h1 = h ∧ s ≤ xs.length ∧ (xs.take s).all (fun n => decide (lo ≤ n ∧ n ≤ hi)) = true) (fun s => xs.length - s) 0 ?_ ?_
  · refine ⟨Slots.mk ⟨?_, ?_, ?_, ?_, ?_, trivial⟩, ?_, ?_⟩
    all_goals first | rfl | simp
  · intro s env1 h1 hI1
    obtain ⟨⟨e1, rfl⟩, rfl, ⟨hs, ha⟩⟩ := hI1
    refine awp_seq ?_
    refine awp_region rfl ?_
    refine a_do rfl (o_lss (by conv => lhs; whnf) (by conv => lhs; whnf) (fun c1 => ?_) (fun c1 => ?_))
    ·
      refine a_end ?_
      refine awp_seq ?_
      refine awp_condT (by conv => lhs; whnf) ?_
      refine awp_skip ?_
      refine awp_seq ?_
      refine awp_block ?_
      refine awp_seq ?_
      refine awp_region rfl ?_
      first | refine a_do rfl (o_indexI Try.underlying32 ty2 (by conv => lhs; whnf) (by first | ((with_reducible repeat (first | assumption | apply Ints.app)); done) | repeat (first | with_reducible assumption | exact ints_nil | exact Ints.own (by with_reducible repeat (first | assumption | (apply lk_last; (try simp only [ll1, ll2, ll3, ll4, lls_len, lls2_len, markL_len]); omega) | apply lk_prev)) (by first | rfl | exact upto_len | assumption | exact map_len | exact List.length_set | (rw [List.length_set]; assumption)) | exact Ints.tail (by with_reducible repeat (first | assumption | (apply lk_last; (try simp only [ll1, ll2, ll3, ll4, lls_len, lls2_len, markL_len]); omega) | apply lk_prev)) (by first | rfl | exact upto_len | assumption | exact map_len | exact List.length_set | (rw [List.length_set]; assumption)) | with_reducible apply Ints.app | (refine Ints.sub (by with_reducible repeat (first | assumption | apply Ints.app)) (by omega) (by omega) (by omega)))) (by conv => lhs; whnf) (by omega) (fun p2 hp2 => ?_)) | refine a_do rfl (o_indexZ Try.underlying32 ty2 (by conv => lhs; whnf) (by first | ((with_reducible repeat (first | assumption | apply Ints.app)); done) | repeat (first | with_reducible assumption | exact ints_nil | exact Ints.own (by with_reducible repeat (first | assumption | (apply lk_last; (try simp only [ll1, ll2, ll3, ll4, lls_len, lls2_len, markL_len]); omega) | apply lk_prev)) (by first | rfl | exact upto_len | assumption | exact map_len | exact List.length_set | (rw [List.length_set]; assumption)) | exact Ints.tail (by with_reducible repeat (first | assumption | (apply lk_last; (try simp only [ll1, ll2, ll3, ll4, lls_len, lls2_len, markL_len]); omega) | apply lk_prev)) (by first | rfl | exact upto_len | assumption | exact map_len | exact List.length_set | (rw [List.length_set]; assumption)) | with_reducible apply Ints.app | (refine Ints.sub (by with_reducible repeat (first | assumption | apply Ints.app)) (by omega) (by omega) (by omega)))) (by conv => lhs; whnf) (by omega) (by omega) (fun p2 hp2 => ?_))
      refine a_do rfl (o_loadI Try.underlying2 rfl (by conv => lhs; whnf) hp2 (by first | ((with_reducible repeat (first | assumption | apply Ints.app)); done) | repeat (first | with_reducible assumption | exact ints_nil | exact Ints.own (by with_reducible repeat (first | assumption | (apply lk_last; (try simp only [ll1, ll2, ll3, ll4, lls_len, lls2_len, markL_len]); omega) | apply lk_prev)) (by first | rfl | exact upto_len | assumption | exact map_len | exact List.length_set | (rw [List.length_set]; assumption)) | exact Ints.tail (by with_reducible repeat (first | assumption | (apply lk_last; (try simp only [ll1, ll2, ll3, ll4, lls_len, lls2_len, markL_len]); omega) | apply lk_prev)) (by first | rfl | exact upto_len | assumption | exact map_len | exact List.length_set | (rw [List.length_set]; assumption)) | with_reducible apply Ints.app | (refine Ints.sub (by with_reducible repeat (first | assumption | apply Ints.app)) (by omega) (by omega) (by omega)))) (by omega) ?_)
      refine a_do rfl (o_assign (by conv => lhs; whnf) ?_)
      refine a_end ?_
      refine awp_seq ?_
      refine awp_region rfl ?_
      refine a_do rfl (o_move (by conv => lhs; whnf) ?_)
      refine a_do rfl (o_move (by conv => lhs; whnf) ?_)
      refine a_do rfl (o_move (by conv => lhs; whnf) ?_)
      refine a_do rfl (o_callF (lmap_cons (by conv => lhs; whnf) (lmap_cons (by conv => lhs; whnf) (lmap_cons (by conv => lhs; whnf) lmap_nil))) (Ret.toB (within_ret _ _ _ _) (fun c3 => ?_) (fun c3 => ?_)))
      ·
        refine a_do rfl (o_notT (by conv => lhs; whnf) ?_)
        refine a_end ?_
        refine awp_condF (by conv => lhs; whnf) ?_
        refine awp_skip ?_
        refine awp_region rfl ?_
        refine a_do rfl (o_add (by conv => lhs; whnf) (by conv => lhs; whnf) (by omega) (by omega) ?_)
        refine a_do rfl (o_move (by conv => lhs; whnf) ?_)
        refine a_end ?_
        refine ⟨s + 1, ⟨Slots.mk ⟨?_, ?_, ?_, ?_, ?_, trivial⟩, ?_, ?_⟩, ?_⟩
        all_goals first | rfl | omega | exact ⟨by omega, all_take_step (by omega) ha ‹_›⟩
      ·
        refine a_do rfl (o_notF (by conv => lhs; whnf) ?_)
        refine a_end ?_
        refine awp_condT (by conv => lhs; whnf) ?_
        refine awp_seq ?_
        refine awp_region rfl ?_
        refine a_do rfl (o_assign (by conv => lhs; whnf) ?_)
        refine a_end ?_
        refine awp_ret ?_
        refine ⟨.inl rfl, [_], ⟨ares_tmp (by conv => lhs; whnf), trivial⟩, ?_⟩
        exact ⟨congrArg Value.bool (by first | (rw [all_take_full (by omega) ha]) | (rw [all_false (k := s) (by omega) ‹_›])), Grown.refl _⟩
    ·
      refine a_end ?_
      refine awp_seq ?_
      refine awp_condF (by conv => lhs; whnf) ?_
      refine awp_exit ?_
      refine awp_seq ?_
      refine awp_region rfl ?_
      refine a_do rfl (o_assign (by conv => lhs; whnf) ?_)
      refine a_end ?_
      refine awp_ret ?_
      refine ⟨.inl rfl, [_], ⟨ares_tmp (by conv => lhs; whnf), trivial⟩, ?_⟩
      exact ⟨congrArg Value.bool (by first | (rw [all_take_full (by omega) ha]) | (rw [all_false (k := s) (by omega) ‹_›])), Grown.refl _⟩

set_option maxRecDepth 10000 in
theorem areMany_ret (a b lo hi : Int) (xs : List Int) (v : Value) (h : AHeap) (hv : Ints h v xs) (hl : xs.length ≤ 1073741824) : Ret Try.prog 123 [v, i64 a, i64 b, i64 lo, i64 hi] h (.bool (decide (a ≤ xs.length ∧ xs.length ≤ b) && xs.all fun n => decide (lo ≤ n ∧ n ≤ hi))) h := by
  refine ret_of (.prim rfl) ?_
  refine tri_of_body Try.func123 rfl (by kernel_rfl) (by show 5 ≤ 22; decide) ?_
  refine awp_seq ?_
  refine awp_region rfl ?_
  refine a_do rfl (o_assign (by conv => lhs; whnf) ?_)
  refine a_end ?_
  refine awp_seq ?_
  refine awp_region rfl ?_
  refine a_do rfl (o_move (by conv => lhs; whnf) ?_)
  refine a_do rfl (o_lenI Try.underlying32 (by conv => lhs; whnf) (by first | ((with_reducible repeat (first | assumption | apply Ints.app)); done) | repeat (first | with_reducible assumption | exact ints_nil | exact Ints.own (by with_reducible repeat (first | assumption | (apply lk_last; (try simp only [ll1, ll2, ll3, ll4, lls_len, lls2_len, markL_len]); omega) | apply lk_prev)) (by first | rfl | exact upto_len | assumption | exact map_len | exact List.length_set | (rw [List.length_set]; assumption)) | exact Ints.tail (by with_reducible repeat (first | assumption | (apply lk_last; (try simp only [ll1, ll2, ll3, ll4, lls_len, lls2_len, markL_len]); omega) | apply lk_prev)) (by first | rfl | exact upto_len | assumption | exact map_len | exact List.length_set | (rw [List.length_set]; assumption)) | with_reducible apply Ints.app | (refine Ints.sub (by with_reducible repeat (first | assumption | apply Ints.app)) (by omega) (by omega) (by omega)))) ?_)
  refine a_do rfl (o_move (by conv => lhs; whnf) ?_)
  refine a_do rfl (o_move (by conv => lhs; whnf) ?_)
  refine a_do rfl (o_callF (lmap_cons (by conv => lhs; whnf) (lmap_cons (by conv => lhs; whnf) (lmap_cons (by conv => lhs; whnf) lmap_nil))) (Ret.toB (within_ret _ _ _ _) (fun c1 => ?_) (fun c1 => ?_)))
  ·
    refine a_do rfl (o_move (by conv => lhs; whnf) ?_)
    refine a_do rfl (o_move (by conv => lhs; whnf) ?_)
    refine a_do rfl (o_move (by conv => lhs; whnf) ?_)
    refine a_do rfl (o_move (by conv => lhs; whnf) ?_)
    refine a_do rfl (o_callF (lmap_cons (by conv => lhs; whnf) (lmap_cons (by conv => lhs; whnf) (lmap_cons (by conv => lhs; whnf) lmap_nil))) (Ret.toB (areWithin_ret _ _ _ _ _ (by first | ((with_reducible repeat (first | assumption | apply Ints.app)); done) | repeat (first | with_reducible assumption | exact ints_nil | exact Ints.own (by with_reducible repeat (first | assumption | (apply lk_last; (try simp only [ll1, ll2, ll3, ll4, lls_len, lls2_len, markL_len]); omega) | apply lk_prev)) (by first | rfl | exact upto_len | assumption | exact map_len | exact List.length_set | (rw [List.length_set]; assumption)) | exact Ints.tail (by with_reducible repeat (first | assumption | (apply lk_last; (try simp only [ll1, ll2, ll3, ll4, lls_len, lls2_len, markL_len]); omega) | apply lk_prev)) (by first | rfl | exact upto_len | assumption | exact map_len | exact List.length_set | (rw [List.length_set]; assumption)) | with_reducible apply Ints.app | (refine Ints.sub (by with_reducible repeat (first | assumption | apply Ints.app)) (by omega) (by omega) (by omega)))) (by omega)) (fun c2 => ?_) (fun c2 => ?_)))
    ·
      refine a_do rfl (o_pickT (by conv => lhs; whnf) (by conv => lhs; whnf) ?_)
      refine a_do rfl (o_assign (by conv => lhs; whnf) ?_)
      refine a_end ?_
      refine awp_ret ?_
      refine ⟨.inl rfl, [_], ⟨ares_tmp (by conv => lhs; whnf), trivial⟩, ?_⟩
      exact ⟨by first | rfl | (simp only [packR_one, *]; done) | (simp only [packR_one, *]; rfl) | (simp [*]; done) | (simp_all; done), (by first | ((repeat (first | with_reducible exact Grown.refl _ | with_reducible apply Grown.push)); done) | repeat (first | exact Grown.refl _ | refine Grown.push ?_ _))⟩
    ·
      refine a_do rfl (o_pickT (by conv => lhs; whnf) (by conv => lhs; whnf) ?_)
      refine a_do rfl (o_assign (by conv => lhs; whnf) ?_)
      refine a_end ?_
      refine awp_ret ?_
      refine ⟨.inl rfl, [_], ⟨ares_tmp (by conv => lhs; whnf), trivial⟩, ?_⟩
      exact ⟨by first | rfl | (simp only [packR_one, *]; done) | (simp only [packR_one, *]; rfl) | (simp [*]; done) | (simp_all; done), (by first | ((repeat (first | with_reducible exact Grown.refl _ | with_reducible apply Grown.push)); done) | repeat (first | exact Grown.refl _ | refine Grown.push ?_ _))⟩
  ·
    refine a_do rfl (o_move (by conv => lhs; whnf) ?_)
    refine a_no rfl ?_
    refine a_no rfl ?_
    refine a_no rfl ?_
    refine a_no rfl ?_
    refine a_do rfl (o_pickF (by conv => lhs; whnf) (by conv => lhs; whnf) ?_)
    refine a_do rfl (o_assign (by conv => lhs; whnf) ?_)
    refine a_end ?_
    refine awp_ret ?_
    refine ⟨.inl rfl, [_], ⟨ares_tmp (by conv => lhs; whnf), trivial⟩, ?_⟩
    exact ⟨by first | rfl | (simp only [packR_one, *]; done) | (simp only [packR_one, *]; rfl) | (simp [*]; done) | (simp_all; done), (by first | ((repeat (first | with_reducible exact Grown.refl _ | with_reducible apply Grown.push)); done) | repeat (first | exact Grown.refl _ | refine Grown.push ?_ _))⟩

set_option maxRecDepth 10000 in
theorem eqInt64S_ret (xs ys : List Int) (v w : Value) (h : AHeap) (hv : Ints h v xs) (hw : Ints h w ys) (hl : xs.length ≤ 1073741824) : Ret Try.prog 26 [v, w] h (.bool (decide (xs = ys))) h := by
  refine ret_of (.prim rfl) ?_
  refine tri_of_body Try.func26 rfl (by kernel_rfl) (by show 2 ≤ 26; decide) ?_
  refine awp_seq ?_
  refine awp_region rfl ?_
  refine a_do rfl (o_assign (by conv => lhs; whnf) ?_)
  refine a_end ?_
  refine awp_seq ?_
  refine awp_seq ?_
  refine awp_region rfl ?_
  refine a_do rfl (o_move (by conv => lhs; whnf) ?_)
  refine a_do rfl (o_lenI Try.underlying32 (by conv => lhs; whnf) (by first | ((with_reducible repeat (first | assumption | apply Ints.app)); done) | repeat (first | with_reducible assumption | exact ints_nil | exact Ints.own (by with_reducible repeat (first | assumption | (apply lk_last; (try simp only [ll1, ll2, ll3, ll4, lls_len, lls2_len, markL_len]); omega) | apply lk_prev)) (by first | rfl | exact upto_len | assumption | exact map_len | exact List.length_set | (rw [List.length_set]; assumption)) | exact Ints.tail (by with_reducible repeat (first | assumption | (apply lk_last; (try simp only [ll1, ll2, ll3, ll4, lls_len, lls2_len, markL_len]); omega) | apply lk_prev)) (by first | rfl | exact upto_len | assumption | exact map_len | exact List.length_set | (rw [List.length_set]; assumption)) | with_reducible apply Ints.app | (refine Ints.sub (by with_reducible repeat (first | assumption | apply Ints.app)) (by omega) (by omega) (by omega)))) ?_)
  refine a_do rfl (o_move (by conv => lhs; whnf) ?_)
  refine a_do rfl (o_lenI Try.underlying32 (by conv => lhs; whnf) (by first | ((with_reducible repeat (first | assumption | apply Ints.app)); done) | repeat (first | with_reducible assumption | exact ints_nil | exact Ints.own (by with_reducible repeat (first | assumption | (apply lk_last; (try simp only [ll1, ll2, ll3, ll4, lls_len, lls2_len, markL_len]); omega) | apply lk_prev)) (by first | rfl | exact upto_len | assumption | exact map_len | exact List.length_set | (rw [List.length_set]; assumption)) | exact Ints.tail (by with_reducible repeat (first | assumption | (apply lk_last; (try simp only [ll1, ll2, ll3, ll4, lls_len, lls2_len, markL_len]); omega) | apply lk_prev)) (by first | rfl | exact upto_len | assumption | exact map_len | exact List.length_set | (rw [List.length_set]; assumption)) | with_reducible apply Ints.app | (refine Ints.sub (by with_reducible repeat (first | assumption | apply Ints.app)) (by omega) (by omega) (by omega)))) ?_)
  refine a_do rfl (o_neq (by conv => lhs; whnf) (by conv => lhs; whnf) (fun c1 => ?_) (fun c1 => ?_))
  ·
    refine a_end ?_
    refine awp_condT (by conv => lhs; whnf) ?_
    refine awp_seq ?_
    refine awp_region rfl ?_
    refine a_do rfl (o_assign (by conv => lhs; whnf) ?_)
    refine a_end ?_
    refine awp_ret ?_
    refine ⟨.inl rfl, [_], ⟨ares_tmp (by conv => lhs; whnf), trivial⟩, ?_⟩
    exact ⟨congrArg Value.bool (by first | (rw [decide_eq_true]; exact eq_take_full (by omega) (by omega) ha) | (rw [decide_eq_false]; first | exact ne_of_getD ‹_› | exact ne_of_length ‹_›)), Grown.refl _⟩
  ·
    refine a_end ?_
    refine awp_condF (by conv => lhs; whnf) ?_
    refine awp_skip ?_
    refine awp_seq ?_
    refine awp_seq ?_
    refine awp_region rfl ?_
    refine a_do rfl (o_assign (by conv => lhs; whnf) ?_)
    refine a_end ?_
    refine awp_block ?_
    refine awp_loop (σ := Nat) (fun s env1 h1 => Slots env1 [(0, v), (1, w), (5, i64 s)] ∧ h1 = h ∧ s ≤ xs.length ∧ xs.take s = ys.take s) (fun s => xs.length - s) 0 ?_ ?_
    · refine ⟨Slots.mk ⟨?_, ?_, ?_, trivial⟩, ?_, ?_⟩
      all_goals first | rfl | simp
    · intro s env1 h1 hI1
      obtain ⟨⟨e1, rfl⟩, rfl, ⟨hs, ha⟩⟩ := hI1
      refine awp_seq ?_
      refine awp_seq ?_
      refine awp_region rfl ?_
      refine a_do rfl (o_move (by conv => lhs; whnf) ?_)
      refine a_do rfl (o_move (by conv => lhs; whnf) ?_)
      refine a_do rfl (o_lenI Try.underlying32 (by conv => lhs; whnf) (by first | ((with_reducible repeat (first | assumption | apply Ints.app)); done) | repeat (first | with_reducible assumption | exact ints_nil | exact Ints.own (by with_reducible repeat (first | assumption | (apply lk_last; (try simp only [ll1, ll2, ll3, ll4, lls_len, lls2_len, markL_len]); omega) | apply lk_prev)) (by first | rfl | exact upto_len | assumption | exact map_len | exact List.length_set | (rw [List.length_set]; assumption)) | exact Ints.tail (by with_reducible repeat (first | assumption | (apply lk_last; (try simp only [ll1, ll2, ll3, ll4, lls_len, lls2_len, markL_len]); omega) | apply lk_prev)) (by first | rfl | exact upto_len | assumption | exact map_len | exact List.length_set | (rw [List.length_set]; assumption)) | with_reducible apply Ints.app | (refine Ints.sub (by with_reducible repeat (first | assumption | apply Ints.app)) (by omega) (by omega) (by omega)))) ?_)
      refine a_do rfl (o_lss (by conv => lhs; whnf) (by conv => lhs; whnf) (fun c2 => ?_) (fun c2 => ?_))
      ·
        refine a_end ?_
        refine awp_condT (by conv => lhs; whnf) ?_
        refine awp_skip ?_
        refine awp_seq ?_
        refine awp_block ?_
        refine awp_seq ?_
        refine awp_draw Try_mixed (by kernel_rfl) rfl ?_
        refine d_do rfl (o_move (by conv => lhs; whnf) ⟨rfl, rfl⟩) (by first | exact .prim rfl | exact within_func0 | (apply within_ptr; (with_reducible repeat (first | assumption | (apply lk_last; (try simp only [ll1, ll2, ll3, ll4, lls_len, lls2_len, markL_len]); omega) | apply lk_prev)); done) | (apply within_sl; (with_reducible repeat (first | assumption | (apply lk_last; (try simp only [ll1, ll2, ll3, ll4, lls_len, lls2_len, markL_len]); omega) | apply lk_prev)); done) | ((try apply within_sub); apply Ints.within; (with_reducible repeat (first | assumption | apply Ints.app)); done) | (apply Lists.within; (with_reducible repeat (first | assumption | apply Lists.app)); done) | exact within_nilw | exact within_nilb | (apply within_tup2 <;> first | exact .prim rfl | (apply within_sl; (with_reducible repeat (first | assumption | (apply lk_last; (try simp only [ll1, ll2, ll3, ll4, lls_len, lls2_len, markL_len]); omega) | apply lk_prev)); done) | (apply Within.agg2 <;> (first | exact .prim rfl | (apply within_ptr; (with_reducible repeat (first | assumption | (apply lk_last; (try simp only [ll1, ll2, ll3, ll4, lls_len, lls2_len, markL_len]); omega) | apply lk_prev)); done) | (apply within_sl; (with_reducible repeat (first | assumption | (apply lk_last; (try simp only [ll1, ll2, ll3, ll4, lls_len, lls2_len, markL_len]); omega) | apply lk_prev)); done) | ((try apply within_sub); apply Ints.within; (with_reducible repeat (first | assumption | apply Ints.app)); done) | (apply Lists.within; (with_reducible repeat (first | assumption | apply Lists.app)); done) | (apply within_sl; (with_reducible repeat (first | assumption | (apply lk_last; (try simp only [ll1, ll2, ll3, ll4, lls_len, lls2_len, markL_len]); omega) | apply lk_prev)); done)))) | exact Within.mono ‹Within _ (Value.func _ _ _)› (by (try simp only [ll1, ll2, ll3, ll4, lls_len, lls2_len, markL_len]); omega) | (apply Within.agg4 <;> (first | exact .prim rfl | (apply within_ptr; (with_reducible repeat (first | assumption | (apply lk_last; (try simp only [ll1, ll2, ll3, ll4, lls_len, lls2_len, markL_len]); omega) | apply lk_prev)); done) | (apply within_sl; (with_reducible repeat (first | assumption | (apply lk_last; (try simp only [ll1, ll2, ll3, ll4, lls_len, lls2_len, markL_len]); omega) | apply lk_prev)); done) | ((try apply within_sub); apply Ints.within; (with_reducible repeat (first | assumption | apply Ints.app)); done) | (apply Lists.within; (with_reducible repeat (first | assumption | apply Lists.app)); done) | (apply within_sl; (with_reducible repeat (first | assumption | (apply lk_last; (try simp only [ll1, ll2, ll3, ll4, lls_len, lls2_len, markL_len]); omega) | apply lk_prev)); done))) | (apply Within.agg3 <;> (first | exact .prim rfl | (apply within_ptr; (with_reducible repeat (first | assumption | (apply lk_last; (try simp only [ll1, ll2, ll3, ll4, lls_len, lls2_len, markL_len]); omega) | apply lk_prev)); done) | (apply within_sl; (with_reducible repeat (first | assumption | (apply lk_last; (try simp only [ll1, ll2, ll3, ll4, lls_len, lls2_len, markL_len]); omega) | apply lk_prev)); done) | ((try apply within_sub); apply Ints.within; (with_reducible repeat (first | assumption | apply Ints.app)); done) | (apply Lists.within; (with_reducible repeat (first | assumption | apply Lists.app)); done) | (apply within_sl; (with_reducible repeat (first | assumption | (apply lk_last; (try simp only [ll1, ll2, ll3, ll4, lls_len, lls2_len, markL_len]); omega) | apply lk_prev)); done))) | (apply Within.agg2 <;> (first | exact .prim rfl | (apply within_ptr; (with_reducible repeat (first | assumption | (apply lk_last; (try simp only [ll1, ll2, ll3, ll4, lls_len, lls2_len, markL_len]); omega) | apply lk_prev)); done) | (apply within_sl; (with_reducible repeat (first | assumption | (apply lk_last; (try simp only [ll1, ll2, ll3, ll4, lls_len, lls2_len, markL_len]); omega) | apply lk_prev)); done) | ((try apply within_sub); apply Ints.within; (with_reducible repeat (first | assumption | apply Ints.app)); done) | (apply Lists.within; (with_reducible repeat (first | assumption | apply Lists.app)); done) | (apply within_sl; (with_reducible repeat (first | assumption | (apply lk_last; (try simp only [ll1, ll2, ll3, ll4, lls_len, lls2_len, markL_len]); omega) | apply lk_prev)); done)))) ?_
        refine d_do rfl (o_move (by conv => lhs; whnf) ⟨rfl, rfl⟩) (by first | exact .prim rfl | exact within_func0 | (apply within_ptr; (with_reducible repeat (first | assumption | (apply lk_last; (try simp only [ll1, ll2, ll3, ll4, lls_len, lls2_len, markL_len]); omega) | apply lk_prev)); done) | (apply within_sl; (with_reducible repeat (first | assumption | (apply lk_last; (try simp only [ll1, ll2, ll3, ll4, lls_len, lls2_len, markL_len]); omega) | apply lk_prev)); done) | ((try apply within_sub); apply Ints.within; (with_reducible repeat (first | assumption | apply Ints.app)); done) | (apply Lists.within; (with_reducible repeat (first | assumption | apply Lists.app)); done) | exact within_nilw | exact within_nilb | (apply within_tup2 <;> first | exact .prim rfl | (apply within_sl; (with_reducible repeat (first | assumption | (apply lk_last; (try simp only [ll1, ll2, ll3, ll4, lls_len, lls2_len, markL_len]); omega) | apply lk_prev)); done) | (apply Within.agg2 <;> (first | exact .prim rfl | (apply within_ptr; (with_reducible repeat (first | assumption | (apply lk_last; (try simp only [ll1, ll2, ll3, ll4, lls_len, lls2_len, markL_len]); omega) | apply lk_prev)); done) | (apply within_sl; (with_reducible repeat (first | assumption | (apply lk_last; (try simp only [ll1, ll2, ll3, ll4, lls_len, lls2_len, markL_len]); omega) | apply lk_prev)); done) | ((try apply within_sub); apply Ints.within; (with_reducible repeat (first | assumption | apply Ints.app)); done) | (apply Lists.within; (with_reducible repeat (first | assumption | apply Lists.app)); done) | (apply within_sl; (with_reducible repeat (first | assumption | (apply lk_last; (try simp only [ll1, ll2, ll3, ll4, lls_len, lls2_len, markL_len]); omega) | apply lk_prev)); done)))) | exact Within.mono ‹Within _ (Value.func _ _ _)› (by (try simp only [ll1, ll2, ll3, ll4, lls_len, lls2_len, markL_len]); omega) | (apply Within.agg4 <;> (first | exact .prim rfl | (apply within_ptr; (with_reducible repeat (first | assumption | (apply lk_last; (try simp only [ll1, ll2, ll3, ll4, lls_len, lls2_len, markL_len]); omega) | apply lk_prev)); done) | (apply within_sl; (with_reducible repeat (first | assumption | (apply lk_last; (try simp only [ll1, ll2, ll3, ll4, lls_len, lls2_len, markL_len]); omega) | apply lk_prev)); done) | ((try apply within_sub); apply Ints.within; (with_reducible repeat (first | assumption | apply Ints.app)); done) | (apply Lists.within; (with_reducible repeat (first | assumption | apply Lists.app)); done) | (apply within_sl; (with_reducible repeat (first | assumption | (apply lk_last; (try simp only [ll1, ll2, ll3, ll4, lls_len, lls2_len, markL_len]); omega) | apply lk_prev)); done))) | (apply Within.agg3 <;> (first | exact .prim rfl | (apply within_ptr; (with_reducible repeat (first | assumption | (apply lk_last; (try simp only [ll1, ll2, ll3, ll4, lls_len, lls2_len, markL_len]); omega) | apply lk_prev)); done) | (apply within_sl; (with_reducible repeat (first | assumption | (apply lk_last; (try simp only [ll1, ll2, ll3, ll4, lls_len, lls2_len, markL_len]); omega) | apply lk_prev)); done) | ((try apply within_sub); apply Ints.within; (with_reducible repeat (first | assumption | apply Ints.app)); done) | (apply Lists.within; (with_reducible repeat (first | assumption | apply Lists.app)); done) | (apply within_sl; (with_reducible repeat (first | assumption | (apply lk_last; (try simp only [ll1, ll2, ll3, ll4, lls_len, lls2_len, markL_len]); omega) | apply lk_prev)); done))) | (apply Within.agg2 <;> (first | exact .prim rfl | (apply within_ptr; (with_reducible repeat (first | assumption | (apply lk_last; (try simp only [ll1, ll2, ll3, ll4, lls_len, lls2_len, markL_len]); omega) | apply lk_prev)); done) | (apply within_sl; (with_reducible repeat (first | assumption | (apply lk_last; (try simp only [ll1, ll2, ll3, ll4, lls_len, lls2_len, markL_len]); omega) | apply lk_prev)); done) | ((try apply within_sub); apply Ints.within; (with_reducible repeat (first | assumption | apply Ints.app)); done) | (apply Lists.within; (with_reducible repeat (first | assumption | apply Lists.app)); done) | (apply within_sl; (with_reducible repeat (first | assumption | (apply lk_last; (try simp only [ll1, ll2, ll3, ll4, lls_len, lls2_len, markL_len]); omega) | apply lk_prev)); done)))) ?_
        first | refine d_indexI rfl Try.underlying32 ty2 (by conv => lhs; whnf) (by first | ((with_reducible repeat (first | assumption | apply Ints.app)); done) | repeat (first | with_reducible assumption | exact ints_nil | exact Ints.own (by with_reducible repeat (first | assumption | (apply lk_last; (try simp only [ll1, ll2, ll3, ll4, lls_len, lls2_len, markL_len]); omega) | apply lk_prev)) (by first | rfl | exact upto_len | assumption | exact map_len | exact List.length_set | (rw [List.length_set]; assumption)) | exact Ints.tail (by with_reducible repeat (first | assumption | (apply lk_last; (try simp only [ll1, ll2, ll3, ll4, lls_len, lls2_len, markL_len]); omega) | apply lk_prev)) (by first | rfl | exact upto_len | assumption | exact map_len | exact List.length_set | (rw [List.length_set]; assumption)) | with_reducible apply Ints.app | (refine Ints.sub (by with_reducible repeat (first | assumption | apply Ints.app)) (by omega) (by omega) (by omega)))) (by conv => lhs; whnf) (by omega) (fun p3 hp3 => ?_) | refine d_indexZ rfl Try.underlying32 ty2 (by conv => lhs; whnf) (by first | ((with_reducible repeat (first | assumption | apply Ints.app)); done) | repeat (first | with_reducible assumption | exact ints_nil | exact Ints.own (by with_reducible repeat (first | assumption | (apply lk_last; (try simp only [ll1, ll2, ll3, ll4, lls_len, lls2_len, markL_len]); omega) | apply lk_prev)) (by first | rfl | exact upto_len | assumption | exact map_len | exact List.length_set | (rw [List.length_set]; assumption)) | exact Ints.tail (by with_reducible repeat (first | assumption | (apply lk_last; (try simp only [ll1, ll2, ll3, ll4, lls_len, lls2_len, markL_len]); omega) | apply lk_prev)) (by first | rfl | exact upto_len | assumption | exact map_len | exact List.length_set | (rw [List.length_set]; assumption)) | with_reducible apply Ints.app | (refine Ints.sub (by with_reducible repeat (first | assumption | apply Ints.app)) (by omega) (by omega) (by omega)))) (by conv => lhs; whnf) (by omega) (by omega) (fun p3 hp3 => ?_)
        refine d_do rfl (o_loadI Try.underlying2 rfl (by conv => lhs; whnf) hp3 (by first | ((with_reducible repeat (first | assumption | apply Ints.app)); done) | repeat (first | with_reducible assumption | exact ints_nil | exact Ints.own (by with_reducible repeat (first | assumption | (apply lk_last; (try simp only [ll1, ll2, ll3, ll4, lls_len, lls2_len, markL_len]); omega) | apply lk_prev)) (by first | rfl | exact upto_len | assumption | exact map_len | exact List.length_set | (rw [List.length_set]; assumption)) | exact Ints.tail (by with_reducible repeat (first | assumption | (apply lk_last; (try simp only [ll1, ll2, ll3, ll4, lls_len, lls2_len, markL_len]); omega) | apply lk_prev)) (by first | rfl | exact upto_len | assumption | exact map_len | exact List.length_set | (rw [List.length_set]; assumption)) | with_reducible apply Ints.app | (refine Ints.sub (by with_reducible repeat (first | assumption | apply Ints.app)) (by omega) (by omega) (by omega)))) (by omega) ⟨rfl, rfl⟩) (by first | exact .prim rfl | exact within_func0 | (apply within_ptr; (with_reducible repeat (first | assumption | (apply lk_last; (try simp only [ll1, ll2, ll3, ll4, lls_len, lls2_len, markL_len]); omega) | apply lk_prev)); done) | (apply within_sl; (with_reducible repeat (first | assumption | (apply lk_last; (try simp only [ll1, ll2, ll3, ll4, lls_len, lls2_len, markL_len]); omega) | apply lk_prev)); done) | ((try apply within_sub); apply Ints.within; (with_reducible repeat (first | assumption | apply Ints.app)); done) | (apply Lists.within; (with_reducible repeat (first | assumption | apply Lists.app)); done) | exact within_nilw | exact within_nilb | (apply within_tup2 <;> first | exact .prim rfl | (apply within_sl; (with_reducible repeat (first | assumption | (apply lk_last; (try simp only [ll1, ll2, ll3, ll4, lls_len, lls2_len, markL_len]); omega) | apply lk_prev)); done) | (apply Within.agg2 <;> (first | exact .prim rfl | (apply within_ptr; (with_reducible repeat (first | assumption | (apply lk_last; (try simp only [ll1, ll2, ll3, ll4, lls_len, lls2_len, markL_len]); omega) | apply lk_prev)); done) | (apply within_sl; (with_reducible repeat (first | assumption | (apply lk_last; (try simp only [ll1, ll2, ll3, ll4, lls_len, lls2_len, markL_len]); omega) | apply lk_prev)); done) | ((try apply within_sub); apply Ints.within; (with_reducible repeat (first | assumption | apply Ints.app)); done) | (apply Lists.within; (with_reducible repeat (first | assumption | apply Lists.app)); done) | (apply within_sl; (with_reducible repeat (first | assumption | (apply lk_last; (try simp only [ll1, ll2, ll3, ll4, lls_len, lls2_len, markL_len]); omega) | apply lk_prev)); done)))) | exact Within.mono ‹Within _ (Value.func _ _ _)› (by (try simp only [ll1, ll2, ll3, ll4, lls_len, lls2_len, markL_len]); omega) | (apply Within.agg4 <;> (first | exact .prim rfl | (apply within_ptr; (with_reducible repeat (first | assumption | (apply lk_last; (try simp only [ll1, ll2, ll3, ll4, lls_len, lls2_len, markL_len]); omega) | apply lk_prev)); done) | (apply within_sl; (with_reducible repeat (first | assumption | (apply lk_last; (try simp only [ll1, ll2, ll3, ll4, lls_len, lls2_len, markL_len]); omega) | apply lk_prev)); done) | ((try apply within_sub); apply Ints.within; (with_reducible repeat (first | assumption | apply Ints.app)); done) | (apply Lists.within; (with_reducible repeat (first | assumption | apply Lists.app)); done) | (apply within_sl; (with_reducible repeat (first | assumption | (apply lk_last; (try simp only [ll1, ll2, ll3, ll4, lls_len, lls2_len, markL_len]); omega) | apply lk_prev)); done))) | (apply Within.agg3 <;> (first | exact .prim rfl | (apply within_ptr; (with_reducible repeat (first | assumption | (apply lk_last; (try simp only [ll1, ll2, ll3, ll4, lls_len, lls2_len, markL_len]); omega) | apply lk_prev)); done) | (apply within_sl; (with_reducible repeat (first | assumption | (apply lk_last; (try simp only [ll1, ll2, ll3, ll4, lls_len, lls2_len, markL_len]); omega) | apply lk_prev)); done) | ((try apply within_sub); apply Ints.within; (with_reducible repeat (first | assumption | apply Ints.app)); done) | (apply Lists.within; (with_reducible repeat (first | assumption | apply Lists.app)); done) | (apply within_sl; (with_reducible repeat (first | assumption | (apply lk_last; (try simp only [ll1, ll2, ll3, ll4, lls_len, lls2_len, markL_len]); omega) | apply lk_prev)); done))) | (apply Within.agg2 <;> (first | exact .prim rfl | (apply within_ptr; (with_reducible repeat (first | assumption | (apply lk_last; (try simp only [ll1, ll2, ll3, ll4, lls_len, lls2_len, markL_len]); omega) | apply lk_prev)); done) | (apply within_sl; (with_reducible repeat (first | assumption | (apply lk_last; (try simp only [ll1, ll2, ll3, ll4, lls_len, lls2_len, markL_len]); omega) | apply lk_prev)); done) | ((try apply within_sub); apply Ints.within; (with_reducible repeat (first | assumption | apply Ints.app)); done) | (apply Lists.within; (with_reducible repeat (first | assumption | apply Lists.app)); done) | (apply within_sl; (with_reducible repeat (first | assumption | (apply lk_last; (try simp only [ll1, ll2, ll3, ll4, lls_len, lls2_len, markL_len]); omega) | apply lk_prev)); done)))) ?_
        refine d_do rfl (o_move (by conv => lhs; whnf) ⟨rfl, rfl⟩) (by first | exact .prim rfl | exact within_func0 | (apply within_ptr; (with_reducible repeat (first | assumption | (apply lk_last; (try simp only [ll1, ll2, ll3, ll4, lls_len, lls2_len, markL_len]); omega) | apply lk_prev)); done) | (apply within_sl; (with_reducible repeat (first | assumption | (apply lk_last; (try simp only [ll1, ll2, ll3, ll4, lls_len, lls2_len, markL_len]); omega) | apply lk_prev)); done) | ((try apply within_sub); apply Ints.within; (with_reducible repeat (first | assumption | apply Ints.app)); done) | (apply Lists.within; (with_reducible repeat (first | assumption | apply Lists.app)); done) | exact within_nilw | exact within_nilb | (apply within_tup2 <;> first | exact .prim rfl | (apply within_sl; (with_reducible repeat (first | assumption | (apply lk_last; (try simp only [ll1, ll2, ll3, ll4, lls_len, lls2_len, markL_len]); omega) | apply lk_prev)); done) | (apply Within.agg2 <;> (first | exact .prim rfl | (apply within_ptr; (with_reducible repeat (first | assumption | (apply lk_last; (try simp only [ll1, ll2, ll3, ll4, lls_len, lls2_len, markL_len]); omega) | apply lk_prev)); done) | (apply within_sl; (with_reducible repeat (first | assumption | (apply lk_last; (try simp only [ll1, ll2, ll3, ll4, lls_len, lls2_len, markL_len]); omega) | apply lk_prev)); done) | ((try apply within_sub); apply Ints.within; (with_reducible repeat (first | assumption | apply Ints.app)); done) | (apply Lists.within; (with_reducible repeat (first | assumption | apply Lists.app)); done) | (apply within_sl; (with_reducible repeat (first | assumption | (apply lk_last; (try simp only [ll1, ll2, ll3, ll4, lls_len, lls2_len, markL_len]); omega) | apply lk_prev)); done)))) | exact Within.mono ‹Within _ (Value.func _ _ _)› (by (try simp only [ll1, ll2, ll3, ll4, lls_len, lls2_len, markL_len]); omega) | (apply Within.agg4 <;> (first | exact .prim rfl | (apply within_ptr; (with_reducible repeat (first | assumption | (apply lk_last; (try simp only [ll1, ll2, ll3, ll4, lls_len, lls2_len, markL_len]); omega) | apply lk_prev)); done) | (apply within_sl; (with_reducible repeat (first | assumption | (apply lk_last; (try simp only [ll1, ll2, ll3, ll4, lls_len, lls2_len, markL_len]); omega) | apply lk_prev)); done) | ((try apply within_sub); apply Ints.within; (with_reducible repeat (first | assumption | apply Ints.app)); done) | (apply Lists.within; (with_reducible repeat (first | assumption | apply Lists.app)); done) | (apply within_sl; (with_reducible repeat (first | assumption | (apply lk_last; (try simp only [ll1, ll2, ll3, ll4, lls_len, lls2_len, markL_len]); omega) | apply lk_prev)); done))) | (apply Within.agg3 <;> (first | exact .prim rfl | (apply within_ptr; (with_reducible repeat (first | assumption | (apply lk_last; (try simp only [ll1, ll2, ll3, ll4, lls_len, lls2_len, markL_len]); omega) | apply lk_prev)); done) | (apply within_sl; (with_reducible repeat (first | assumption | (apply lk_last; (try simp only [ll1, ll2, ll3, ll4, lls_len, lls2_len, markL_len]); omega) | apply lk_prev)); done) | ((try apply within_sub); apply Ints.within; (with_reducible repeat (first | assumption | apply Ints.app)); done) | (apply Lists.within; (with_reducible repeat (first | assumption | apply Lists.app)); done) | (apply within_sl; (with_reducible repeat (first | assumption | (apply lk_last; (try simp only [ll1, ll2, ll3, ll4, lls_len, lls2_len, markL_len]); omega) | apply lk_prev)); done))) | (apply Within.agg2 <;> (first | exact .prim rfl | (apply within_ptr; (with_reducible repeat (first | assumption | (apply lk_last; (try simp only [ll1, ll2, ll3, ll4, lls_len, lls2_len, markL_len]); omega) | apply lk_prev)); done) | (apply within_sl; (with_reducible repeat (first | assumption | (apply lk_last; (try simp only [ll1, ll2, ll3, ll4, lls_len, lls2_len, markL_len]); omega) | apply lk_prev)); done) | ((try apply within_sub); apply Ints.within; (with_reducible repeat (first | assumption | apply Ints.app)); done) | (apply Lists.within; (with_reducible repeat (first | assumption | apply Lists.app)); done) | (apply within_sl; (with_reducible repeat (first | assumption | (apply lk_last; (try simp only [ll1, ll2, ll3, ll4, lls_len, lls2_len, markL_len]); omega) | apply lk_prev)); done)))) ?_
        refine d_do rfl (o_move (by conv => lhs; whnf) ⟨rfl, rfl⟩) (by first | exact .prim rfl | exact within_func0 | (apply within_ptr; (with_reducible repeat (first | assumption | (apply lk_last; (try simp only [ll1, ll2, ll3, ll4, lls_len, lls2_len, markL_len]); omega) | apply lk_prev)); done) | (apply within_sl; (with_reducible repeat (first | assumption | (apply lk_last; (try simp only [ll1, ll2, ll3, ll4, lls_len, lls2_len, markL_len]); omega) | apply lk_prev)); done) | ((try apply within_sub); apply Ints.within; (with_reducible repeat (first | assumption | apply Ints.app)); done) | (apply Lists.within; (with_reducible repeat (first | assumption | apply Lists.app)); done) | exact within_nilw | exact within_nilb | (apply within_tup2 <;> first | exact .prim rfl | (apply within_sl; (with_reducible repeat (first | assumption | (apply lk_last; (try simp only [ll1, ll2, ll3, ll4, lls_len, lls2_len, markL_len]); omega) | apply lk_prev)); done) | (apply Within.agg2 <;> (first | exact .prim rfl | (apply within_ptr; (with_reducible repeat (first | assumption | (apply lk_last; (try simp only [ll1, ll2, ll3, ll4, lls_len, lls2_len, markL_len]); omega) | apply lk_prev)); done) | (apply within_sl; (with_reducible repeat (first | assumption | (apply lk_last; (try simp only [ll1, ll2, ll3, ll4, lls_len, lls2_len, markL_len]); omega) | apply lk_prev)); done) | ((try apply within_sub); apply Ints.within; (with_reducible repeat (first | assumption | apply Ints.app)); done) | (apply Lists.within; (with_reducible repeat (first | assumption | apply Lists.app)); done) | (apply within_sl; (with_reducible repeat (first | assumption | (apply lk_last; (try simp only [ll1, ll2, ll3, ll4, lls_len, lls2_len, markL_len]); omega) | apply lk_prev)); done)))) | exact Within.mono ‹Within _ (Value.func _ _ _)› (by (try simp only [ll1, ll2, ll3, ll4, lls_len, lls2_len, markL_len]); omega) | (apply Within.agg4 <;> (first | exact .prim rfl | (apply within_ptr; (with_reducible repeat (first | assumption | (apply lk_last; (try simp only [ll1, ll2, ll3, ll4, lls_len, lls2_len, markL_len]); omega) | apply lk_prev)); done) | (apply within_sl; (with_reducible repeat (first | assumption | (apply lk_last; (try simp only [ll1, ll2, ll3, ll4, lls_len, lls2_len, markL_len]); omega) | apply lk_prev)); done) | ((try apply within_sub); apply Ints.within; (with_reducible repeat (first | assumption | apply Ints.app)); done) | (apply Lists.within; (with_reducible repeat (first | assumption | apply Lists.app)); done) | (apply within_sl; (with_reducible repeat (first | assumption | (apply lk_last; (try simp only [ll1, ll2, ll3, ll4, lls_len, lls2_len, markL_len]); omega) | apply lk_prev)); done))) | (apply Within.agg3 <;> (first | exact .prim rfl | (apply within_ptr; (with_reducible repeat (first | assumption | (apply lk_last; (try simp only [ll1, ll2, ll3, ll4, lls_len, lls2_len, markL_len]); omega) | apply lk_prev)); done) | (apply within_sl; (with_reducible repeat (first | assumption | (apply lk_last; (try simp only [ll1, ll2, ll3, ll4, lls_len, lls2_len, markL_len]); omega) | apply lk_prev)); done) | ((try apply within_sub); apply Ints.within; (with_reducible repeat (first | assumption | apply Ints.app)); done) | (apply Lists.within; (with_reducible repeat (first | assumption | apply Lists.app)); done) | (apply within_sl; (with_reducible repeat (first | assumption | (apply lk_last; (try simp only [ll1, ll2, ll3, ll4, lls_len, lls2_len, markL_len]); omega) | apply lk_prev)); done))) | (apply Within.agg2 <;> (first | exact .prim rfl | (apply within_ptr; (with_reducible repeat (first | assumption | (apply lk_last; (try simp only [ll1, ll2, ll3, ll4, lls_len, lls2_len, markL_len]); omega) | apply lk_prev)); done) | (apply within_sl; (with_reducible repeat (first | assumption | (apply lk_last; (try simp only [ll1, ll2, ll3, ll4, lls_len, lls2_len, markL_len]); omega) | apply lk_prev)); done) | ((try apply within_sub); apply Ints.within; (with_reducible repeat (first | assumption | apply Ints.app)); done) | (apply Lists.within; (with_reducible repeat (first | assumption | apply Lists.app)); done) | (apply within_sl; (with_reducible repeat (first | assumption | (apply lk_last; (try simp only [ll1, ll2, ll3, ll4, lls_len, lls2_len, markL_len]); omega) | apply lk_prev)); done)))) ?_
        first | refine d_indexI rfl Try.underlying32 ty2 (by conv => lhs; whnf) (by first | ((with_reducible repeat (first | assumption | apply Ints.app)); done) | repeat (first | with_reducible assumption | exact ints_nil | exact Ints.own (by with_reducible repeat (first | assumption | (apply lk_last; (try simp only [ll1, ll2, ll3, ll4, lls_len, lls2_len, markL_len]); omega) | apply lk_prev)) (by first | rfl | exact upto_len | assumption | exact map_len | exact List.length_set | (rw [List.length_set]; assumption)) | exact Ints.tail (by with_reducible repeat (first | assumption | (apply lk_last; (try simp only [ll1, ll2, ll3, ll4, lls_len, lls2_len, markL_len]); omega) | apply lk_prev)) (by first | rfl | exact upto_len | assumption | exact map_len | exact List.length_set | (rw [List.length_set]; assumption)) | with_reducible apply Ints.app | (refine Ints.sub (by with_reducible repeat (first | assumption | apply Ints.app)) (by omega) (by omega) (by omega)))) (by conv => lhs; whnf) (by omega) (fun p4 hp4 => ?_) | refine d_indexZ rfl Try.underlying32 ty2 (by conv => lhs; whnf) (by first | ((with_reducible repeat (first | assumption | apply Ints.app)); done) | repeat (first | with_reducible assumption | exact ints_nil | exact Ints.own (by with_reducible repeat (first | assumption | (apply lk_last; (try simp only [ll1, ll2, ll3, ll4, lls_len, lls2_len, markL_len]); omega) | apply lk_prev)) (by first | rfl | exact upto_len | assumption | exact map_len | exact List.length_set | (rw [List.length_set]; assumption)) | exact Ints.tail (by with_reducible repeat (first | assumption | (apply lk_last; (try simp only [ll1, ll2, ll3, ll4, lls_len, lls2_len, markL_len]); omega) | apply lk_prev)) (by first | rfl | exact upto_len | assumption | exact map_len | exact List.length_set | (rw [List.length_set]; assumption)) | with_reducible apply Ints.app | (refine Ints.sub (by with_reducible repeat (first | assumption | apply Ints.app)) (by omega) (by omega) (by omega)))) (by conv => lhs; whnf) (by omega) (by omega) (fun p4 hp4 => ?_)
        refine d_do rfl (o_loadI Try.underlying2 rfl (by conv => lhs; whnf) hp4 (by first | ((with_reducible repeat (first | assumption | apply Ints.app)); done) | repeat (first | with_reducible assumption | exact ints_nil | exact Ints.own (by with_reducible repeat (first | assumption | (apply lk_last; (try simp only [ll1, ll2, ll3, ll4, lls_len, lls2_len, markL_len]); omega) | apply lk_prev)) (by first | rfl | exact upto_len | assumption | exact map_len | exact List.length_set | (rw [List.length_set]; assumption)) | exact Ints.tail (by with_reducible repeat (first | assumption | (apply lk_last; (try simp only [ll1, ll2, ll3, ll4, lls_len, lls2_len, markL_len]); omega) | apply lk_prev)) (by first | rfl | exact upto_len | assumption | exact map_len | exact List.length_set | (rw [List.length_set]; assumption)) | with_reducible apply Ints.app | (refine Ints.sub (by with_reducible repeat (first | assumption | apply Ints.app)) (by omega) (by omega) (by omega)))) (by omega) ⟨rfl, rfl⟩) (by first | exact .prim rfl | exact within_func0 | (apply within_ptr; (with_reducible repeat (first | assumption | (apply lk_last; (try simp only [ll1, ll2, ll3, ll4, lls_len, lls2_len, markL_len]); omega) | apply lk_prev)); done) | (apply within_sl; (with_reducible repeat (first | assumption | (apply lk_last; (try simp only [ll1, ll2, ll3, ll4, lls_len, lls2_len, markL_len]); omega) | apply lk_prev)); done) | ((try apply within_sub); apply Ints.within; (with_reducible repeat (first | assumption | apply Ints.app)); done) | (apply Lists.within; (with_reducible repeat (first | assumption | apply Lists.app)); done) | exact within_nilw | exact within_nilb | (apply within_tup2 <;> first | exact .prim rfl | (apply within_sl; (with_reducible repeat (first | assumption | (apply lk_last; (try simp only [ll1, ll2, ll3, ll4, lls_len, lls2_len, markL_len]); omega) | apply lk_prev)); done) | (apply Within.agg2 <;> (first | exact .prim rfl | (apply within_ptr; (with_reducible repeat (first | assumption | (apply lk_last; (try simp only [ll1, ll2, ll3, ll4, lls_len, lls2_len, markL_len]); omega) | apply lk_prev)); done) | (apply within_sl; (with_reducible repeat (first | assumption | (apply lk_last; (try simp only [ll1, ll2, ll3, ll4, lls_len, lls2_len, markL_len]); omega) | apply lk_prev)); done) | ((try apply within_sub); apply Ints.within; (with_reducible repeat (first | assumption | apply Ints.app)); done) | (apply Lists.within; (with_reducible repeat (first | assumption | apply Lists.app)); done) | (apply within_sl; (with_reducible repeat (first | assumption | (apply lk_last; (try simp only [ll1, ll2, ll3, ll4, lls_len, lls2_len, markL_len]); omega) | apply lk_prev)); done)))) | exact Within.mono ‹Within _ (Value.func _ _ _)› (by (try simp only [ll1, ll2, ll3, ll4, lls_len, lls2_len, markL_len]); omega) | (apply Within.agg4 <;> (first | exact .prim rfl | (apply within_ptr; (with_reducible repeat (first | assumption | (apply lk_last; (try simp only [ll1, ll2, ll3, ll4, lls_len, lls2_len, markL_len]); omega) | apply lk_prev)); done) | (apply within_sl; (with_reducible repeat (first | assumption | (apply lk_last; (try simp only [ll1, ll2, ll3, ll4, lls_len, lls2_len, markL_len]); omega) | apply lk_prev)); done) | ((try apply within_sub); apply Ints.within; (with_reducible repeat (first | assumption | apply Ints.app)); done) | (apply Lists.within; (with_reducible repeat (first | assumption | apply Lists.app)); done) | (apply within_sl; (with_reducible repeat (first | assumption | (apply lk_last; (try simp only [ll1, ll2, ll3, ll4, lls_len, lls2_len, markL_len]); omega) | apply lk_prev)); done))) | (apply Within.agg3 <;> (first | exact .prim rfl | (apply within_ptr; (with_reducible repeat (first | assumption | (apply lk_last; (try simp only [ll1, ll2, ll3, ll4, lls_len, lls2_len, markL_len]); omega) | apply lk_prev)); done) | (apply within_sl; (with_reducible repeat (first | assumption | (apply lk_last; (try simp only [ll1, ll2, ll3, ll4, lls_len, lls2_len, markL_len]); omega) | apply lk_prev)); done) | ((try apply within_sub); apply Ints.within; (with_reducible repeat (first | assumption | apply Ints.app)); done) | (apply Lists.within; (with_reducible repeat (first | assumption | apply Lists.app)); done) | (apply within_sl; (with_reducible repeat (first | assumption | (apply lk_last; (try simp only [ll1, ll2, ll3, ll4, lls_len, lls2_len, markL_len]); omega) | apply lk_prev)); done))) | (apply Within.agg2 <;> (first | exact .prim rfl | (apply within_ptr; (with_reducible repeat (first | assumption | (apply lk_last; (try simp only [ll1, ll2, ll3, ll4, lls_len, lls2_len, markL_len]); omega) | apply lk_prev)); done) | (apply within_sl; (with_reducible repeat (first | assumption | (apply lk_last; (try simp only [ll1, ll2, ll3, ll4, lls_len, lls2_len, markL_len]); omega) | apply lk_prev)); done) | ((try apply within_sub); apply Ints.within; (with_reducible repeat (first | assumption | apply Ints.app)); done) | (apply Lists.within; (with_reducible repeat (first | assumption | apply Lists.app)); done) | (apply within_sl; (with_reducible repeat (first | assumption | (apply lk_last; (try simp only [ll1, ll2, ll3, ll4, lls_len, lls2_len, markL_len]); omega) | apply lk_prev)); done)))) ?_
        refine d_neq rfl (by conv => lhs; whnf) (by conv => lhs; whnf) (fun c5 => ?_) (fun c5 => ?_)
        ·
          refine d_end ?_
          refine awp_condT (by conv => lhs; whnf) ?_
          refine awp_seq ?_
          refine awp_region rfl ?_
          refine a_do rfl (o_assign (by conv => lhs; whnf) ?_)
          refine a_end ?_
          refine awp_ret ?_
          refine ⟨.inl rfl, [_], ⟨ares_tmp (by conv => lhs; whnf), trivial⟩, ?_⟩
          exact ⟨congrArg Value.bool (by first | (rw [decide_eq_true]; exact eq_take_full (by omega) (by omega) ha) | (rw [decide_eq_false]; first | exact ne_of_getD ‹_› | exact ne_of_length ‹_›)), Grown.refl _⟩
        ·
          refine d_end ?_
          refine awp_condF (by conv => lhs; whnf) ?_
          refine awp_skip ?_
          refine awp_region rfl ?_
          refine a_do rfl (o_move (by conv => lhs; whnf) ?_)
          refine a_do rfl (o_add (by conv => lhs; whnf) (by conv => lhs; whnf) (by omega) (by omega) ?_)
          refine a_do rfl (o_assign (by conv => lhs; whnf) ?_)
          refine a_end ?_
          refine ⟨s + 1, ⟨Slots.mk ⟨?_, ?_, ?_, trivial⟩, ?_, ?_⟩, ?_⟩
          all_goals first | rfl | omega | exact ⟨by omega, eq_take_step (by omega) (by omega) ha ‹_›⟩
      ·
        refine a_end ?_
        refine awp_condF (by conv => lhs; whnf) ?_
        refine awp_exit ?_
        refine awp_seq ?_
        refine awp_region rfl ?_
        refine a_do rfl (o_assign (by conv => lhs; whnf) ?_)
        refine a_end ?_
        refine awp_ret ?_
        refine ⟨.inl rfl, [_], ⟨ares_tmp (by conv => lhs; whnf), trivial⟩, ?_⟩
        exact ⟨congrArg Value.bool (by first | (rw [decide_eq_true]; exact eq_take_full (by omega) (by omega) ha) | (rw [decide_eq_false]; first | exact ne_of_getD ‹_› | exact ne_of_length ‹_›)), Grown.refl _⟩

set_option maxRecDepth 10000 in
theorem szInt64S_ret (left : Int) (xs : List Int) (v : Value) (h : AHeap) (hv : Ints h v xs) (hl : xs.length ≤ 9223372036854775807) (h0 : 0 ≤ left) (h1 : left ≤ 1048576) : Ret Try.prog 56 [v, i64 left] h (i64 (szL left xs.length)) h := by
  refine ret_of (.prim rfl) ?_
  refine tri_of_body Try.func56 rfl (by kernel_rfl) (by show 2 ≤ 12; decide) ?_
  refine awp_seq ?_
  refine awp_region rfl ?_
  refine a_do rfl (o_assign (by conv => lhs; whnf) ?_)
  refine a_end ?_
  refine awp_seq ?_
  refine awp_region rfl ?_
  refine a_do rfl (o_move (by conv => lhs; whnf) ?_)
  refine a_do rfl (o_move (by conv => lhs; whnf) ?_)
  refine a_do rfl (o_lenI Try.underlying32 (by conv => lhs; whnf) (by first | ((with_reducible repeat (first | assumption | apply Ints.app)); done) | repeat (first | with_reducible assumption | exact ints_nil | exact Ints.own (by with_reducible repeat (first | assumption | (apply lk_last; (try simp only [ll1, ll2, ll3, ll4, lls_len, lls2_len, markL_len]); omega) | apply lk_prev)) (by first | rfl | exact upto_len | assumption | exact map_len | exact List.length_set | (rw [List.length_set]; assumption)) | exact Ints.tail (by with_reducible repeat (first | assumption | (apply lk_last; (try simp only [ll1, ll2, ll3, ll4, lls_len, lls2_len, markL_len]); omega) | apply lk_prev)) (by first | rfl | exact upto_len | assumption | exact map_len | exact List.length_set | (rw [List.length_set]; assumption)) | with_reducible apply Ints.app | (refine Ints.sub (by with_reducible repeat (first | assumption | apply Ints.app)) (by omega) (by omega) (by omega)))) ?_)
  refine a_do rfl (o_sub (by conv => lhs; whnf) (by conv => lhs; whnf) (by omega) (by omega) ?_)
  refine a_do rfl (o_assign (by conv => lhs; whnf) ?_)
  refine a_end ?_
  refine awp_seq ?_
  refine awp_seq ?_
  refine awp_region rfl ?_
  refine a_do rfl (o_move (by conv => lhs; whnf) ?_)
  refine a_do rfl (o_lss (by conv => lhs; whnf) (by conv => lhs; whnf) (fun c1 => ?_) (fun c1 => ?_))
  ·
    refine a_end ?_
    refine awp_condT (by conv => lhs; whnf) ?_
    refine awp_seq ?_
    refine awp_region rfl ?_
    refine a_do rfl (o_assign (by conv => lhs; whnf) ?_)
    refine a_end ?_
    refine awp_ret ?_
    refine ⟨.inl rfl, [_], ⟨ares_tmp (by conv => lhs; whnf), trivial⟩, ?_⟩
    exact ⟨congrArg i64 (by simp [szL, *]), Grown.refl _⟩
  ·
    refine a_end ?_
    refine awp_condF (by conv => lhs; whnf) ?_
    refine awp_skip ?_
    refine awp_seq ?_
    refine awp_region rfl ?_
    refine a_do rfl (o_move (by conv => lhs; whnf) ?_)
    refine a_do rfl (o_assign (by conv => lhs; whnf) ?_)
    refine a_end ?_
    refine awp_ret ?_
    refine ⟨.inl rfl, [_], ⟨ares_tmp (by conv => lhs; whnf), trivial⟩, ?_⟩
    exact ⟨congrArg i64 (by simp [szL, *]), Grown.refl _⟩

set_option maxRecDepth 10000 in
theorem toInt64S_ret (xs : List Int) (v : Value) (h : AHeap) (hv : Ints h v xs) (hl : xs.length ≤ 1073741824) : RetN Try.prog 23 [v] h (fun k => sl k xs.length) (lst xs) := by
  refine ret1_of (o := lst xs) (V := fun k => sl k xs.length) (fun _ _ => .slice) (.slice (by omega)) (by simp [lst, isPrim]) ?_
  refine tri_of_body Try.func23 rfl (by kernel_rfl) (by show 1 ≤ 22; decide) ?_
  refine awp_seq ?_
  refine awp_region rfl ?_
  refine a_do rfl (o_assign (by conv => lhs; whnf) ?_)
  refine a_end ?_
  refine awp_seq ?_
  refine awp_region rfl ?_
  refine a_do rfl (o_move (by conv => lhs; whnf) ?_)
  refine a_do rfl (o_lenI Try.underlying32 (by conv => lhs; whnf) (by first | ((with_reducible repeat (first | assumption | apply Ints.app)); done) | repeat (first | with_reducible assumption | exact ints_nil | exact Ints.own (by with_reducible repeat (first | assumption | (apply lk_last; (try simp only [ll1, ll2, ll3, ll4, lls_len, lls2_len, markL_len]); omega) | apply lk_prev)) (by first | rfl | exact upto_len | assumption | exact map_len | exact List.length_set | (rw [List.length_set]; assumption)) | exact Ints.tail (by with_reducible repeat (first | assumption | (apply lk_last; (try simp only [ll1, ll2, ll3, ll4, lls_len, lls2_len, markL_len]); omega) | apply lk_prev)) (by first | rfl | exact upto_len | assumption | exact map_len | exact List.length_set | (rw [List.length_set]; assumption)) | with_reducible apply Ints.app | (refine Ints.sub (by with_reducible repeat (first | assumption | apply Ints.app)) (by omega) (by omega) (by omega)))) ?_)
  first | refine a_do rfl (o_makeI Try.underlying32 ty2 (by conv => lhs; whnf) (by conv => lhs; whnf) (by omega) (by omega) (fun k1 hk1 => ?_)) | refine a_do rfl (o_makeZ Try.underlying32 ty2 (by conv => lhs; whnf) (by conv => lhs; whnf) (by omega) (by omega) (fun k1 hk1 => ?_))
  try simp at hk1
  refine a_do rfl (o_assign (by conv => lhs; whnf) ?_)
  refine a_end ?_
  refine awp_seq ?_
  refine awp_seq ?_
  refine awp_region rfl ?_
  refine a_do rfl (o_assign (by conv => lhs; whnf) ?_)
  refine a_end ?_
  refine awp_block ?_
  refine awp_loop (σ := Nat) (fun s env1 h1 => Slots env1 [(0, v), (3, sl k1 xs.length), (4, i64 s)] ∧ h1 = h ++ [lst (xs.take s ++ List.replicate (xs.length - s) 0)] ∧ s ≤ xs.length) (fun s => xs.length - s) 0 ?_ ?_
  · refine ⟨Slots.mk ⟨?_, ?_, ?_, trivial⟩, ?_, ?_⟩
    all_goals first | rfl | simp
  · intro s env1 h1 hI1
    obtain ⟨⟨e1, rfl⟩, rfl, hs⟩ := hI1
    have hfl := fill_len (xs := xs) (k := s) rfl hs
    have hI := Ints.new (h := h) hk1 hfl
    refine awp_seq ?_
    refine awp_seq ?_
    refine awp_region rfl ?_
    refine a_do rfl (o_move (by conv => lhs; whnf) ?_)
    refine a_do rfl (o_move (by conv => lhs; whnf) ?_)
    refine a_do rfl (o_lenI Try.underlying32 (by conv => lhs; whnf) (by first | ((with_reducible repeat (first | assumption | apply Ints.app)); done) | repeat (first | with_reducible assumption | exact ints_nil | exact Ints.own (by with_reducible repeat (first | assumption | (apply lk_last; (try simp only [ll1, ll2, ll3, ll4, lls_len, lls2_len, markL_len]); omega) | apply lk_prev)) (by first | rfl | exact upto_len | assumption | exact map_len | exact List.length_set | (rw [List.length_set]; assumption)) | exact Ints.tail (by with_reducible repeat (first | assumption | (apply lk_last; (try simp only [ll1, ll2, ll3, ll4, lls_len, lls2_len, markL_len]); omega) | apply lk_prev)) (by first | rfl | exact upto_len | assumption | exact map_len | exact List.length_set | (rw [List.length_set]; assumption)) | with_reducible apply Ints.app | (refine Ints.sub (by with_reducible repeat (first | assumption | apply Ints.app)) (by omega) (by omega) (by omega)))) ?_)
    refine a_do rfl (o_lss (by conv => lhs; whnf) (by conv => lhs; whnf) (fun c2 => ?_) (fun c2 => ?_))
    ·
      refine a_end ?_
      refine awp_condT (by conv => lhs; whnf) ?_
      refine awp_skip ?_
      refine awp_seq ?_
      refine awp_block ?_
      refine awp_region rfl ?_
      refine a_do rfl (o_move (by conv => lhs; whnf) ?_)
      refine a_do rfl (o_move (by conv => lhs; whnf) ?_)
      refine a_do rfl (o_move (by conv => lhs; whnf) ?_)
      refine a_do rfl (o_move (by conv => lhs; whnf) ?_)
      first | refine a_do rfl (o_indexI Try.underlying32 ty2 (by conv => lhs; whnf) (by first | ((with_reducible repeat (first | assumption | apply Ints.app)); done) | repeat (first | with_reducible assumption | exact ints_nil | exact Ints.own (by with_reducible repeat (first | assumption | (apply lk_last; (try simp only [ll1, ll2, ll3, ll4, lls_len, lls2_len, markL_len]); omega) | apply lk_prev)) (by first | rfl | exact upto_len | assumption | exact map_len | exact List.length_set | (rw [List.length_set]; assumption)) | exact Ints.tail (by with_reducible repeat (first | assumption | (apply lk_last; (try simp only [ll1, ll2, ll3, ll4, lls_len, lls2_len, markL_len]); omega) | apply lk_prev)) (by first | rfl | exact upto_len | assumption | exact map_len | exact List.length_set | (rw [List.length_set]; assumption)) | with_reducible apply Ints.app | (refine Ints.sub (by with_reducible repeat (first | assumption | apply Ints.app)) (by omega) (by omega) (by omega)))) (by conv => lhs; whnf) (by omega) (fun p3 hp3 => ?_)) | refine a_do rfl (o_indexZ Try.underlying32 ty2 (by conv => lhs; whnf) (by first | ((with_reducible repeat (first | assumption | apply Ints.app)); done) | repeat (first | with_reducible assumption | exact ints_nil | exact Ints.own (by with_reducible repeat (first | assumption | (apply lk_last; (try simp only [ll1, ll2, ll3, ll4, lls_len, lls2_len, markL_len]); omega) | apply lk_prev)) (by first | rfl | exact upto_len | assumption | exact map_len | exact List.length_set | (rw [List.length_set]; assumption)) | exact Ints.tail (by with_reducible repeat (first | assumption | (apply lk_last; (try simp only [ll1, ll2, ll3, ll4, lls_len, lls2_len, markL_len]); omega) | apply lk_prev)) (by first | rfl | exact upto_len | assumption | exact map_len | exact List.length_set | (rw [List.length_set]; assumption)) | with_reducible apply Ints.app | (refine Ints.sub (by with_reducible repeat (first | assumption | apply Ints.app)) (by omega) (by omega) (by omega)))) (by conv => lhs; whnf) (by omega) (by omega) (fun p3 hp3 => ?_))
      refine a_do rfl (o_loadI Try.underlying2 rfl (by conv => lhs; whnf) hp3 (by first | ((with_reducible repeat (first | assumption | apply Ints.app)); done) | repeat (first | with_reducible assumption | exact ints_nil | exact Ints.own (by with_reducible repeat (first | assumption | (apply lk_last; (try simp only [ll1, ll2, ll3, ll4, lls_len, lls2_len, markL_len]); omega) | apply lk_prev)) (by first | rfl | exact upto_len | assumption | exact map_len | exact List.length_set | (rw [List.length_set]; assumption)) | exact Ints.tail (by with_reducible repeat (first | assumption | (apply lk_last; (try simp only [ll1, ll2, ll3, ll4, lls_len, lls2_len, markL_len]); omega) | apply lk_prev)) (by first | rfl | exact upto_len | assumption | exact map_len | exact List.length_set | (rw [List.length_set]; assumption)) | with_reducible apply Ints.app | (refine Ints.sub (by with_reducible repeat (first | assumption | apply Ints.app)) (by omega) (by omega) (by omega)))) (by omega) ?_)
      first | refine a_do rfl (o_indexI Try.underlying32 ty2 (by conv => lhs; whnf) (by first | ((with_reducible repeat (first | assumption | apply Ints.app)); done) | repeat (first | with_reducible assumption | exact ints_nil | exact Ints.own (by with_reducible repeat (first | assumption | (apply lk_last; (try simp only [ll1, ll2, ll3, ll4, lls_len, lls2_len, markL_len]); omega) | apply lk_prev)) (by first | rfl | exact upto_len | assumption | exact map_len | exact List.length_set | (rw [List.length_set]; assumption)) | exact Ints.tail (by with_reducible repeat (first | assumption | (apply lk_last; (try simp only [ll1, ll2, ll3, ll4, lls_len, lls2_len, markL_len]); omega) | apply lk_prev)) (by first | rfl | exact upto_len | assumption | exact map_len | exact List.length_set | (rw [List.length_set]; assumption)) | with_reducible apply Ints.app | (refine Ints.sub (by with_reducible repeat (first | assumption | apply Ints.app)) (by omega) (by omega) (by omega)))) (by conv => lhs; whnf) (by omega) (fun p4 hp4 => ?_)) | refine a_do rfl (o_indexZ Try.underlying32 ty2 (by conv => lhs; whnf) (by first | ((with_reducible repeat (first | assumption | apply Ints.app)); done) | repeat (first | with_reducible assumption | exact ints_nil | exact Ints.own (by with_reducible repeat (first | assumption | (apply lk_last; (try simp only [ll1, ll2, ll3, ll4, lls_len, lls2_len, markL_len]); omega) | apply lk_prev)) (by first | rfl | exact upto_len | assumption | exact map_len | exact List.length_set | (rw [List.length_set]; assumption)) | exact Ints.tail (by with_reducible repeat (first | assumption | (apply lk_last; (try simp only [ll1, ll2, ll3, ll4, lls_len, lls2_len, markL_len]); omega) | apply lk_prev)) (by first | rfl | exact upto_len | assumption | exact map_len | exact List.length_set | (rw [List.length_set]; assumption)) | with_reducible apply Ints.app | (refine Ints.sub (by with_reducible repeat (first | assumption | apply Ints.app)) (by omega) (by omega) (by omega)))) (by conv => lhs; whnf) (by omega) (by omega) (fun p4 hp4 => ?_))
      refine a_do rfl (o_storeI ty2 (by conv => lhs; whnf) hp4 (by with_reducible repeat (first | assumption | (apply lk_last; (try simp only [ll1, ll2, ll3, ll4, lls_len, lls2_len, markL_len]); omega) | apply lk_prev)) (by first | rfl | omega | (simp; done) | (simp; omega)) (by omega) (by conv => lhs; whnf) (by with_reducible repeat (first | (apply set_last; (try simp only [ll1, ll2, ll3, ll4, lls_len, lls2_len, markL_len]); omega) | (apply set_step; (try simp only [ll1, ll2, ll3, ll4, lls_len, lls2_len, markL_len]); omega) | exact rfl)) ?_)
      refine a_end ?_
      refine awp_region rfl ?_
      refine a_do rfl (o_move (by conv => lhs; whnf) ?_)
      refine a_do rfl (o_add (by conv => lhs; whnf) (by conv => lhs; whnf) (by omega) (by omega) ?_)
      refine a_do rfl (o_assign (by conv => lhs; whnf) ?_)
      refine a_end ?_
      refine ⟨s + 1, ⟨Slots.mk ⟨?_, ?_, ?_, trivial⟩, ?_, ?_⟩, ?_⟩
      all_goals first | rfl | omega | (rw [fill_step rfl (by omega)])
    ·
      refine a_end ?_
      refine awp_condF (by conv => lhs; whnf) ?_
      refine awp_exit ?_
      refine awp_seq ?_
      refine awp_region rfl ?_
      refine a_do rfl (o_move (by conv => lhs; whnf) ?_)
      refine a_do rfl (o_assign (by conv => lhs; whnf) ?_)
      refine a_end ?_
      refine awp_ret ?_
      refine ⟨.inl rfl, [_], ⟨ares_tmp (by conv => lhs; whnf), trivial⟩, ?_⟩
      exact ⟨k1, rfl, .push (.refl _) _, by rw [fill_full rfl (by omega)]; exact lk_last hk1, by omega⟩

set_option maxRecDepth 10000 in
theorem markInt64S_ret (c : Int) (k n : Nat) (xs : List Int) (h : AHeap) (ho : h[k]? = some (lst xs)) (hn : xs.length = n) (hl : xs.length ≤ 1073741824) (hc : 0 ≤ c ∧ c ≤ 1073741824) : Ret Try.prog 30 [sl k n, i64 c] h (i64 (c + n)) (h.set k (lst (upto c n))) := by
  subst hn
  have hk := (List.getElem?_eq_some_iff.1 ho).1
  refine retm_of (by simp) (.prim rfl) (fun cl => cl.set (by simp [lst, isPrim])) ?_
  refine tri_of_body Try.func30 rfl (by kernel_rfl) (by show 2 ≤ 19; decide) ?_
  refine awp_seq ?_
  refine awp_region rfl ?_
  refine a_do rfl (o_assign (by conv => lhs; whnf) ?_)
  refine a_end ?_
  refine awp_seq ?_
  refine awp_seq ?_
  refine awp_region rfl ?_
  refine a_do rfl (o_assign (by conv => lhs; whnf) ?_)
  refine a_end ?_
  refine awp_block ?_
  refine awp_loop (σ := Nat) (fun s env1 h1 => Slots env1 [(0, sl k xs.length), (1, i64 (c + s)), (5, i64 s)] ∧ h1 = h.set k (lst (upto c s ++ xs.drop s)) ∧ s ≤ xs.length) (fun s => xs.length - s) 0 ?_ ?_
  · refine ⟨Slots.mk ⟨?_, ?_, ?_, trivial⟩, ?_, ?_⟩
    all_goals first | rfl | exact congrArg i64 (show c = c + ((0 : Nat) : Int) by simp) | (rw [upto_zero, List.nil_append, List.drop_zero, set_same ho]; done) | (simp; done)
  · intro s env1 h1 hI1
    obtain ⟨⟨e1, rfl⟩, rfl, hs⟩ := hI1
    have hlk := lk_set (o := lst (upto c s ++ xs.drop s)) hk
    have hI : Ints (h.set k (lst (upto c s ++ xs.drop s))) (sl k xs.length) (upto c s ++ xs.drop s) := Ints.own hlk (by simp [upto_len]; omega)
    have hll : (upto c s ++ xs.drop s).length = xs.length := by simp [upto_len]; omega
    refine awp_seq ?_
    refine awp_seq ?_
    refine awp_region rfl ?_
    refine a_do rfl (o_move (by conv => lhs; whnf) ?_)
    refine a_do rfl (o_move (by conv => lhs; whnf) ?_)
    refine a_do rfl (o_lenI Try.underlying32 (by conv => lhs; whnf) (by first | ((with_reducible repeat (first | assumption | apply Ints.app)); done) | repeat (first | with_reducible assumption | exact ints_nil | exact Ints.own (by with_reducible repeat (first | assumption | (apply lk_last; (try simp only [ll1, ll2, ll3, ll4, lls_len, lls2_len, markL_len]); omega) | apply lk_prev)) (by first | rfl | exact upto_len | assumption | exact map_len | exact List.length_set | (rw [List.length_set]; assumption)) | exact Ints.tail (by with_reducible repeat (first | assumption | (apply lk_last; (try simp only [ll1, ll2, ll3, ll4, lls_len, lls2_len, markL_len]); omega) | apply lk_prev)) (by first | rfl | exact upto_len | assumption | exact map_len | exact List.length_set | (rw [List.length_set]; assumption)) | with_reducible apply Ints.app | (refine Ints.sub (by with_reducible repeat (first | assumption | apply Ints.app)) (by omega) (by omega) (by omega)))) ?_)
    refine a_do rfl (o_lss (by conv => lhs; whnf) (by conv => lhs; whnf) (fun c1 => ?_) (fun c1 => ?_))
    ·
      refine a_end ?_
      refine awp_condT (by conv => lhs; whnf) ?_
      refine awp_skip ?_
      refine awp_seq ?_
      refine awp_block ?_
      refine awp_seq ?_
      refine awp_region rfl ?_
      refine a_do rfl (o_move (by conv => lhs; whnf) ?_)
      refine a_do rfl (o_move (by conv => lhs; whnf) ?_)
      refine a_do rfl (o_move (by conv => lhs; whnf) ?_)
      first | refine a_do rfl (o_indexI Try.underlying32 ty2 (by conv => lhs; whnf) (by first | ((with_reducible repeat (first | assumption | apply Ints.app)); done) | repeat (first | with_reducible assumption | exact ints_nil | exact Ints.own (by with_reducible repeat (first | assumption | (apply lk_last; (try simp only [ll1, ll2, ll3, ll4, lls_len, lls2_len, markL_len]); omega) | apply lk_prev)) (by first | rfl | exact upto_len | assumption | exact map_len | exact List.length_set | (rw [List.length_set]; assumption)) | exact Ints.tail (by with_reducible repeat (first | assumption | (apply lk_last; (try simp only [ll1, ll2, ll3, ll4, lls_len, lls2_len, markL_len]); omega) | apply lk_prev)) (by first | rfl | exact upto_len | assumption | exact map_len | exact List.length_set | (rw [List.length_set]; assumption)) | with_reducible apply Ints.app | (refine Ints.sub (by with_reducible repeat (first | assumption | apply Ints.app)) (by omega) (by omega) (by omega)))) (by conv => lhs; whnf) (by omega) (fun p2 hp2 => ?_)) | refine a_do rfl (o_indexZ Try.underlying32 ty2 (by conv => lhs; whnf) (by first | ((with_reducible repeat (first | assumption | apply Ints.app)); done) | repeat (first | with_reducible assumption | exact ints_nil | exact Ints.own (by with_reducible repeat (first | assumption | (apply lk_last; (try simp only [ll1, ll2, ll3, ll4, lls_len, lls2_len, markL_len]); omega) | apply lk_prev)) (by first | rfl | exact upto_len | assumption | exact map_len | exact List.length_set | (rw [List.length_set]; assumption)) | exact Ints.tail (by with_reducible repeat (first | assumption | (apply lk_last; (try simp only [ll1, ll2, ll3, ll4, lls_len, lls2_len, markL_len]); omega) | apply lk_prev)) (by first | rfl | exact upto_len | assumption | exact map_len | exact List.length_set | (rw [List.length_set]; assumption)) | with_reducible apply Ints.app | (refine Ints.sub (by with_reducible repeat (first | assumption | apply Ints.app)) (by omega) (by omega) (by omega)))) (by conv => lhs; whnf) (by omega) (by omega) (fun p2 hp2 => ?_))
      refine a_do rfl (o_storeI ty2 (by conv => lhs; whnf) hp2 (by with_reducible repeat (first | assumption | (apply lk_last; (try simp only [ll1, ll2, ll3, ll4, lls_len, lls2_len, markL_len]); omega) | apply lk_prev)) (by first | rfl | omega | (simp; done) | (simp; omega)) (by omega) (by conv => lhs; whnf) (by with_reducible repeat (first | (apply set_last; (try simp only [ll1, ll2, ll3, ll4, lls_len, lls2_len, markL_len]); omega) | (apply set_step; (try simp only [ll1, ll2, ll3, ll4, lls_len, lls2_len, markL_len]); omega) | exact rfl)) ?_)
      refine a_end ?_
      refine awp_region rfl ?_
      refine a_do rfl (o_move (by conv => lhs; whnf) ?_)
      refine a_do rfl (o_add (by conv => lhs; whnf) (by conv => lhs; whnf) (by omega) (by omega) ?_)
      refine a_do rfl (o_assign (by conv => lhs; whnf) ?_)
      refine a_end ?_
      refine awp_region rfl ?_
      refine a_do rfl (o_move (by conv => lhs; whnf) ?_)
      refine a_do rfl (o_add (by conv => lhs; whnf) (by conv => lhs; whnf) (by omega) (by omega) ?_)
      refine a_do rfl (o_assign (by conv => lhs; whnf) ?_)
      refine a_end ?_
      refine ⟨s + 1, ⟨Slots.mk ⟨?_, ?_, ?_, trivial⟩, ?_, ?_⟩, ?_⟩
      all_goals first | rfl | omega | exact congrArg i64 (by omega) | (rw [set_set, upto_step (by omega)])
    ·
      refine a_end ?_
      refine awp_condF (by conv => lhs; whnf) ?_
      refine awp_exit ?_
      refine awp_seq ?_
      refine awp_region rfl ?_
      refine a_do rfl (o_move (by conv => lhs; whnf) ?_)
      refine a_do rfl (o_assign (by conv => lhs; whnf) ?_)
      refine a_end ?_
      refine awp_ret ?_
      refine ⟨.inl rfl, [_], ⟨ares_tmp (by conv => lhs; whnf), trivial⟩, ?_⟩
      exact ⟨congrArg i64 (by omega), by rw [upto_done (by omega)]; exact Grown.refl _⟩

set_option maxRecDepth 10000 in
theorem markNil_ret (c : Int) (h : AHeap) (hc : 0 ≤ c ∧ c ≤ 1073741824) : Ret Try.prog 30 [.slice none 0 0, i64 c] h (i64 c) h := by
  refine ret_of (.prim rfl) ?_
  have hv : Ints h (.slice none 0 0) [] := .inl ⟨rfl, rfl⟩
  refine tri_of_body Try.func30 rfl (by kernel_rfl) (by show 2 ≤ 19; decide) ?_
  refine awp_seq ?_
  refine awp_region rfl ?_
  refine a_do rfl (o_assign (by conv => lhs; whnf) ?_)
  refine a_end ?_
  refine awp_seq ?_
  refine awp_seq ?_
  refine awp_region rfl ?_
  refine a_do rfl (o_assign (by conv => lhs; whnf) ?_)
  refine a_end ?_
  refine awp_block ?_
  refine awp_loop (σ := Nat) (fun s env1 h1 => Slots env1 [(0, .slice none 0 0), (1, i64 c), (5, i64 0)] ∧ h1 = h ∧ True) (fun s => 0) 0 ?_ ?_
  · refine ⟨Slots.mk ⟨?_, ?_, ?_, trivial⟩, ?_, ?_⟩
    all_goals first | rfl | trivial
  · intro s env1 h1 hI1
    obtain ⟨⟨e1, rfl⟩, rfl, -⟩ := hI1
    refine awp_seq ?_
    refine awp_seq ?_
    refine awp_region rfl ?_
    refine a_do rfl (o_move (by conv => lhs; whnf) ?_)
    refine a_do rfl (o_move (by conv => lhs; whnf) ?_)
    refine a_do rfl (o_lenI Try.underlying32 (by conv => lhs; whnf) (by first | ((with_reducible repeat (first | assumption | apply Ints.app)); done) | repeat (first | with_reducible assumption | exact ints_nil | exact Ints.own (by with_reducible repeat (first | assumption | (apply lk_last; (try simp only [ll1, ll2, ll3, ll4, lls_len, lls2_len, markL_len]); omega) | apply lk_prev)) (by first | rfl | exact upto_len | assumption | exact map_len | exact List.length_set | (rw [List.length_set]; assumption)) | exact Ints.tail (by with_reducible repeat (first | assumption | (apply lk_last; (try simp only [ll1, ll2, ll3, ll4, lls_len, lls2_len, markL_len]); omega) | apply lk_prev)) (by first | rfl | exact upto_len | assumption | exact map_len | exact List.length_set | (rw [List.length_set]; assumption)) | with_reducible apply Ints.app | (refine Ints.sub (by with_reducible repeat (first | assumption | apply Ints.app)) (by omega) (by omega) (by omega)))) ?_)
    refine a_do rfl (o_lss (by conv => lhs; whnf) (by conv => lhs; whnf) (fun c1 => ?_) (fun c1 => ?_))
    ·
      simp at c1
    ·
      refine a_end ?_
      refine awp_condF (by conv => lhs; whnf) ?_
      refine awp_exit ?_
      refine awp_seq ?_
      refine awp_region rfl ?_
      refine a_do rfl (o_move (by conv => lhs; whnf) ?_)
      refine a_do rfl (o_assign (by conv => lhs; whnf) ?_)
      refine a_end ?_
      refine awp_ret ?_
      refine ⟨.inl rfl, [_], ⟨ares_tmp (by conv => lhs; whnf), trivial⟩, ?_⟩
      exact ⟨rfl, Grown.refl _⟩

set_option maxRecDepth 10000 in
theorem heldInt64S_ret (c : Int) (xs : List Int) (v : Value) (h : AHeap) (hv : Ints h v xs) (hl : xs.length ≤ 1073741824) (hc : 0 ≤ c ∧ c ≤ 1073741824) : Ret Try.prog 31 [v, i64 c] h (i64 (held c xs)) h := by
  refine ret_of (.prim rfl) ?_
  refine tri_of_body Try.func31 rfl (by kernel_rfl) (by show 2 ≤ 21; decide) ?_
  refine awp_seq ?_
  refine awp_region rfl ?_
  refine a_do rfl (o_assign (by conv => lhs; whnf) ?_)
  refine a_end ?_
  refine awp_seq ?_
  refine awp_seq ?_
  refine awp_region rfl ?_
  refine a_do rfl (o_assign (by conv => lhs; whnf) ?_)
  refine a_end ?_
  refine awp_block ?_
  refine awp_loop (σ := Nat) (fun s env1 h1 => Slots env1 [(0, v), (1, i64 (c + s)), (5, i64 s)] ∧ h1 = h ∧ s ≤ xs.length ∧ xs.take s = upto c s) (fun s => xs.length - s) 0 ?_ ?_
  · refine ⟨Slots.mk ⟨?_, ?_, ?_, trivial⟩, ?_, ?_⟩
    all_goals first | rfl | exact congrArg i64 (show c = c + ((0 : Nat) : Int) by simp) | exact ⟨by omega, rfl⟩ | (simp; done)
  · intro s env1 h1 hI1
    obtain ⟨⟨e1, rfl⟩, rfl, ⟨hs, ha⟩⟩ := hI1
    refine awp_seq ?_
    refine awp_seq ?_
    refine awp_region rfl ?_
    refine a_do rfl (o_move (by conv => lhs; whnf) ?_)
    refine a_do rfl (o_move (by conv => lhs; whnf) ?_)
    refine a_do rfl (o_lenI Try.underlying32 (by conv => lhs; whnf) (by first | ((with_reducible repeat (first | assumption | apply Ints.app)); done) | repeat (first | with_reducible assumption | exact ints_nil | exact Ints.own (by with_reducible repeat (first | assumption | (apply lk_last; (try simp only [ll1, ll2, ll3, ll4, lls_len, lls2_len, markL_len]); omega) | apply lk_prev)) (by first | rfl | exact upto_len | assumption | exact map_len | exact List.length_set | (rw [List.length_set]; assumption)) | exact Ints.tail (by with_reducible repeat (first | assumption | (apply lk_last; (try simp only [ll1, ll2, ll3, ll4, lls_len, lls2_len, markL_len]); omega) | apply lk_prev)) (by first | rfl | exact upto_len | assumption | exact map_len | exact List.length_set | (rw [List.length_set]; assumption)) | with_reducible apply Ints.app | (refine Ints.sub (by with_reducible repeat (first | assumption | apply Ints.app)) (by omega) (by omega) (by omega)))) ?_)
    refine a_do rfl (o_lss (by conv => lhs; whnf) (by conv => lhs; whnf) (fun c1 => ?_) (fun c1 => ?_))
    ·
      refine a_end ?_
      refine awp_condT (by conv => lhs; whnf) ?_
      refine awp_skip ?_
      refine awp_seq ?_
      refine awp_block ?_
      refine awp_seq ?_
      refine awp_seq ?_
      refine awp_region rfl ?_
      refine a_do rfl (o_move (by conv => lhs; whnf) ?_)
      refine a_do rfl (o_move (by conv => lhs; whnf) ?_)
      first | refine a_do rfl (o_indexI Try.underlying32 ty2 (by conv => lhs; whnf) (by first | ((with_reducible repeat (first | assumption | apply Ints.app)); done) | repeat (first | with_reducible assumption | exact ints_nil | exact Ints.own (by with_reducible repeat (first | assumption | (apply lk_last; (try simp only [ll1, ll2, ll3, ll4, lls_len, lls2_len, markL_len]); omega) | apply lk_prev)) (by first | rfl | exact upto_len | assumption | exact map_len | exact List.length_set | (rw [List.length_set]; assumption)) | exact Ints.tail (by with_reducible repeat (first | assumption | (apply lk_last; (try simp only [ll1, ll2, ll3, ll4, lls_len, lls2_len, markL_len]); omega) | apply lk_prev)) (by first | rfl | exact upto_len | assumption | exact map_len | exact List.length_set | (rw [List.length_set]; assumption)) | with_reducible apply Ints.app | (refine Ints.sub (by with_reducible repeat (first | assumption | apply Ints.app)) (by omega) (by omega) (by omega)))) (by conv => lhs; whnf) (by omega) (fun p2 hp2 => ?_)) | refine a_do rfl (o_indexZ Try.underlying32 ty2 (by conv => lhs; whnf) (by first | ((with_reducible repeat (first | assumption | apply Ints.app)); done) | repeat (first | with_reducible assumption | exact ints_nil | exact Ints.own (by with_reducible repeat (first | assumption | (apply lk_last; (try simp only [ll1, ll2, ll3, ll4, lls_len, lls2_len, markL_len]); omega) | apply lk_prev)) (by first | rfl | exact upto_len | assumption | exact map_len | exact List.length_set | (rw [List.length_set]; assumption)) | exact Ints.tail (by with_reducible repeat (first | assumption | (apply lk_last; (try simp only [ll1, ll2, ll3, ll4, lls_len, lls2_len, markL_len]); omega) | apply lk_prev)) (by first | rfl | exact upto_len | assumption | exact map_len | exact List.length_set | (rw [List.length_set]; assumption)) | with_reducible apply Ints.app | (refine Ints.sub (by with_reducible repeat (first | assumption | apply Ints.app)) (by omega) (by omega) (by omega)))) (by conv => lhs; whnf) (by omega) (by omega) (fun p2 hp2 => ?_))
      refine a_do rfl (o_loadI Try.underlying2 rfl (by conv => lhs; whnf) hp2 (by first | ((with_reducible repeat (first | assumption | apply Ints.app)); done) | repeat (first | with_reducible assumption | exact ints_nil | exact Ints.own (by with_reducible repeat (first | assumption | (apply lk_last; (try simp only [ll1, ll2, ll3, ll4, lls_len, lls2_len, markL_len]); omega) | apply lk_prev)) (by first | rfl | exact upto_len | assumption | exact map_len | exact List.length_set | (rw [List.length_set]; assumption)) | exact Ints.tail (by with_reducible repeat (first | assumption | (apply lk_last; (try simp only [ll1, ll2, ll3, ll4, lls_len, lls2_len, markL_len]); omega) | apply lk_prev)) (by first | rfl | exact upto_len | assumption | exact map_len | exact List.length_set | (rw [List.length_set]; assumption)) | with_reducible apply Ints.app | (refine Ints.sub (by with_reducible repeat (first | assumption | apply Ints.app)) (by omega) (by omega) (by omega)))) (by omega) ?_)
      refine a_do rfl (o_move (by conv => lhs; whnf) ?_)
      refine a_do rfl (o_neq (by conv => lhs; whnf) (by conv => lhs; whnf) (fun c3 => ?_) (fun c3 => ?_))
      ·
        refine a_end ?_
        refine awp_condT (by conv => lhs; whnf) ?_
        refine awp_seq ?_
        refine awp_region rfl ?_
        refine a_do rfl (o_assign (by conv => lhs; whnf) ?_)
        refine a_end ?_
        refine awp_ret ?_
        refine ⟨.inl rfl, [_], ⟨ares_tmp (by conv => lhs; whnf), trivial⟩, ?_⟩
        exact ⟨congrArg i64 (by first | exact held_no (s := s) (by omega) (by omega) | exact held_yes ha (by omega)), (by first | ((repeat (first | with_reducible exact Grown.refl _ | with_reducible apply Grown.push)); done) | repeat (first | exact Grown.refl _ | refine Grown.push ?_ _))⟩
      ·
        refine a_end ?_
        refine awp_condF (by conv => lhs; whnf) ?_
        refine awp_skip ?_
        refine awp_region rfl ?_
        refine a_do rfl (o_move (by conv => lhs; whnf) ?_)
        refine a_do rfl (o_add (by conv => lhs; whnf) (by conv => lhs; whnf) (by omega) (by omega) ?_)
        refine a_do rfl (o_assign (by conv => lhs; whnf) ?_)
        refine a_end ?_
        refine awp_region rfl ?_
        refine a_do rfl (o_move (by conv => lhs; whnf) ?_)
        refine a_do rfl (o_add (by conv => lhs; whnf) (by conv => lhs; whnf) (by omega) (by omega) ?_)
        refine a_do rfl (o_assign (by conv => lhs; whnf) ?_)
        refine a_end ?_
        refine ⟨s + 1, ⟨Slots.mk ⟨?_, ?_, ?_, trivial⟩, ?_, ?_⟩, ?_⟩
        all_goals first | rfl | omega | exact congrArg i64 (by omega) | exact ⟨by omega, upto_take (by omega) ha (by omega)⟩
    ·
      refine a_end ?_
      refine awp_condF (by conv => lhs; whnf) ?_
      refine awp_exit ?_
      refine awp_seq ?_
      refine awp_region rfl ?_
      refine a_do rfl (o_move (by conv => lhs; whnf) ?_)
      refine a_do rfl (o_assign (by conv => lhs; whnf) ?_)
      refine a_end ?_
      refine awp_ret ?_
      refine ⟨.inl rfl, [_], ⟨ares_tmp (by conv => lhs; whnf), trivial⟩, ?_⟩
      exact ⟨congrArg i64 (by first | exact held_no (s := s) (by omega) (by omega) | exact held_yes ha (by omega)), (by first | ((repeat (first | with_reducible exact Grown.refl _ | with_reducible apply Grown.push)); done) | repeat (first | exact Grown.refl _ | refine Grown.push ?_ _))⟩

theorem heldU_ret (c : Int) (n : Nat) (v : Value) (h : AHeap) (hv : Ints h v (upto c n)) (hl : n ≤ 1073741824) (hc : 0 ≤ c ∧ c ≤ 1073741824) : Ret Try.prog 31 [v, i64 c] h (i64 (c + n)) h := by
  have hr := heldInt64S_ret c (upto c n) v h hv (by rw [upto_len]; exact hl) hc
  rw [held_upto] at hr
  exact hr

theorem heldNil_ret (c : Int) (h : AHeap) (hc : 0 ≤ c ∧ c ≤ 1073741824) : Ret Try.prog 31 [.slice none 0 0, i64 c] h (i64 c) h := by
  have hr := heldInt64S_ret c [] (.slice none 0 0) h (.inl ⟨rfl, rfl⟩) (by simp) hc
  simpa [held, upto] using hr

set_option maxRecDepth 10000 in
theorem counting_ret (n : Int) (h : AHeap) (hn : 0 ≤ n ∧ n ≤ 1000000) : RetN Try.prog 90 [i64 n] h (fun k => sl k n.toNat) (lst (cntL n.toNat)) := by
  refine ret1_of (o := lst (cntL n.toNat)) (V := fun k => sl k n.toNat) (fun _ _ => .slice) (.slice (by omega)) lst_prim ?_
  refine tri_of_body Try.func90 rfl (by kernel_rfl) (by show 1 ≤ 16; decide) ?_
  refine awp_seq ?_
  refine awp_region rfl ?_
  refine a_do rfl (o_assign (by conv => lhs; whnf) ?_)
  refine a_end ?_
  refine awp_seq ?_
  refine awp_region rfl ?_
  refine a_do rfl (o_buildI0 Try.underlying32 ty2 (fun k1 hk1 => ?_))
  try simp at hk1
  refine a_do rfl (o_assign (by conv => lhs; whnf) ?_)
  refine a_end ?_
  refine awp_seq ?_
  refine awp_seq ?_
  refine awp_region rfl ?_
  refine a_do rfl (o_move (by conv => lhs; whnf) ?_)
  refine a_do rfl (o_move (by conv => lhs; whnf) ?_)
  refine a_end ?_
  refine awp_block ?_
  refine awp_loop (σ := Nat) (fun s env1 h1 => Slots env1 [(3, sl k1 s), (6, i64 n), (7, i64 s)] ∧ Grown (h ++ [lst (cntL s)]) h1 ∧ (s : Int) ≤ n) (fun s => n.toNat - s) 0 ?_ ?_
  · refine ⟨Slots.mk ⟨?_, ?_, ?_, trivial⟩, ?_, ?_⟩
    all_goals first | rfl | exact Grown.refl _ | omega | (simp; done)
  · intro s env1 h1 hI1
    obtain ⟨⟨e1, rfl⟩, ⟨gs, rfl⟩, hs⟩ := hI1
    have hml : (cntL s).length = s := cntL_len
    refine awp_seq ?_
    refine awp_region rfl ?_
    refine a_do rfl (o_lss (by conv => lhs; whnf) (by conv => lhs; whnf) (fun c2 => ?_) (fun c2 => ?_))
    ·
      refine a_end ?_
      refine awp_seq ?_
      refine awp_condT (by conv => lhs; whnf) ?_
      refine awp_skip ?_
      refine awp_seq ?_
      refine awp_block ?_
      refine awp_seq ?_
      refine awp_region rfl ?_
      refine a_do rfl (o_move (by conv => lhs; whnf) ?_)
      refine a_do rfl (o_assign (by conv => lhs; whnf) ?_)
      refine a_end ?_
      refine awp_region rfl ?_
      refine a_do rfl (o_move (by conv => lhs; whnf) ?_)
      refine a_do rfl (o_move (by conv => lhs; whnf) ?_)
      refine a_do rfl (o_buildI1 Try.underlying32 ty2 (by conv => lhs; whnf) (fun k3 hk3 => ?_))
      try simp at hk3
      refine a_do rfl (o_appendI Try.underlying32 ty2 (by conv => lhs; whnf) (by with_reducible repeat (first | assumption | (apply lk_last; (try simp only [ll1, ll2, ll3, ll4, lls_len, lls2_len, markL_len]); omega) | apply lk_prev)) (by first | rfl | omega | (simp; done) | (simp; omega)) (by conv => lhs; whnf) (by first | ((with_reducible repeat (first | assumption | apply Ints.app)); done) | exact Ints.own (by with_reducible repeat (first | assumption | (apply lk_last; (try simp only [ll1, ll2, ll3, ll4, lls_len, lls2_len, markL_len]); omega) | apply lk_prev)) (by first | rfl | exact upto_len | assumption | exact map_len | exact List.length_set | (rw [List.length_set]; assumption))) (by first | omega | (simp; done) | (simp; omega)) (by with_reducible repeat (first | (apply set_last; (try simp only [ll1, ll2, ll3, ll4, lls_len, lls2_len, markL_len]); omega) | (apply set_step; (try simp only [ll1, ll2, ll3, ll4, lls_len, lls2_len, markL_len]); omega) | exact rfl)) ?_)
      refine a_do rfl (o_assign (by conv => lhs; whnf) ?_)
      refine a_end ?_
      refine awp_region rfl ?_
      refine a_do rfl (o_add (by conv => lhs; whnf) (by conv => lhs; whnf) (by omega) (by omega) ?_)
      refine a_do rfl (o_move (by conv => lhs; whnf) ?_)
      refine a_end ?_
      refine ⟨s + 1, ⟨Slots.mk ⟨?_, ?_, ?_, trivial⟩, ?_, ?_⟩, ?_⟩
      all_goals first | rfl | omega | exact congrArg i64 (by omega) | (first | ((repeat (first | with_reducible exact Grown.refl _ | (rw [show cntL (s + 1) = cntL s ++ [(s : Int)] from (map_step (f := fun (i : Nat) => (i : Int))).symm]; exact Grown.refl _) | with_reducible apply Grown.push)); done) | repeat (first | exact Grown.refl _ | (rw [show cntL (s + 1) = cntL s ++ [(s : Int)] from (map_step (f := fun (i : Nat) => (i : Int))).symm]; exact Grown.refl _) | refine Grown.push ?_ _))
    ·
      refine a_end ?_
      refine awp_seq ?_
      refine awp_condF (by conv => lhs; whnf) ?_
      refine awp_exit ?_
      refine awp_seq ?_
      refine awp_region rfl ?_
      refine a_do rfl (o_move (by conv => lhs; whnf) ?_)
      refine a_do rfl (o_assign (by conv => lhs; whnf) ?_)
      refine a_end ?_
      refine awp_ret ?_
      refine ⟨.inl rfl, [_], ⟨ares_tmp (by conv => lhs; whnf), trivial⟩, ?_⟩
      obtain rfl : s = n.toNat := (by omega); exact ⟨k1, rfl, (by first | ((repeat (first | with_reducible exact Grown.refl _ | with_reducible apply Grown.push)); done) | repeat (first | exact Grown.refl _ | refine Grown.push ?_ _)), (by first | ((with_reducible repeat (first | assumption | (apply lk_last; (try simp only [ll1, ll2, ll3, ll4, lls_len, lls2_len, markL_len]); omega) | apply lk_prev)); done) | repeat (first | assumption | exact lk_last (by (try simp only [ll1, ll2, ll3, ll4, lls_len, lls2_len, markL_len]); omega) | apply lk_prev)), by omega⟩

set_option maxRecDepth 10000 in
theorem indexFunc_ret (F : FuncId) (caps : Array Value) (g : Int → Bool) (ys : List Int) (v : Value) (h : AHeap) (hv : Ints h v ys) (hl : ys.length ≤ 1073741824) (hcl : ∀ (k : Nat) (H : AHeap), Grown h H → k < ys.length → Ret Try.prog F (i64 (ys.getD k 0) :: caps.toList) H (.bool (g (ys.getD k 0))) H) : Ret Try.prog 103 [v, .func (.func F) #[] caps] h (i64 (idxTo g ys ys.length)) h := by
  refine ret_of (.prim rfl) ?_
  refine tri_of_body Try.func103 rfl (by kernel_rfl) (by show 2 ≤ 19; decide) ?_
  refine awp_seq ?_
  refine awp_region rfl ?_
  refine a_do rfl (o_assign (by conv => lhs; whnf) ?_)
  refine a_end ?_
  refine awp_seq ?_
  refine awp_seq ?_
  refine awp_region rfl ?_
  refine a_do rfl (o_move (by conv => lhs; whnf) ?_)
  refine a_do rfl (o_lenI Try.underlying32 (by conv => lhs; whnf) (by first | ((with_reducible repeat (first | assumption | apply Ints.app)); done) | repeat (first | with_reducible assumption | exact ints_nil | exact Ints.own (by with_reducible repeat (first | assumption | (apply lk_last; (try simp only [ll1, ll2, ll3, ll4, lls_len, lls2_len, markL_len]); omega) | apply lk_prev)) (by first | rfl | exact upto_len | assumption | exact map_len | exact List.length_set | (rw [List.length_set]; assumption)) | exact Ints.tail (by with_reducible repeat (first | assumption | (apply lk_last; (try simp only [ll1, ll2, ll3, ll4, lls_len, lls2_len, markL_len]); omega) | apply lk_prev)) (by first | rfl | exact upto_len | assumption | exact map_len | exact List.length_set | (rw [List.length_set]; assumption)) | with_reducible apply Ints.app | (refine Ints.sub (by with_reducible repeat (first | assumption | apply Ints.app)) (by omega) (by omega) (by omega)))) ?_)
  refine a_do rfl (o_move (by conv => lhs; whnf) ?_)
  refine a_end ?_
  refine awp_block ?_
  refine awp_loop (σ := Nat) (fun s env1 h1 => Slots env1 [(0, v), (1, .func (.func F) #[] caps), (7, i64 ys.length), (8, i64 s)] ∧ h1 = h ∧ s ≤ ys.length ∧ idxTo g ys s = -1) (fun s => ys.length - s) 0 ?_ ?_
  · refine ⟨Slots.mk ⟨?_, ?_, ?_, ?_, trivial⟩, ?_, ?_⟩
    all_goals first | rfl | omega | exact ⟨by omega, rfl⟩ | (simp; done)
  · intro s env1 h1 hI1
    obtain ⟨⟨e1, rfl⟩, rfl, ⟨hs, ha⟩⟩ := hI1
    refine awp_seq ?_
    refine awp_region rfl ?_
    refine a_do rfl (o_lss (by conv => lhs; whnf) (by conv => lhs; whnf) (fun c1 => ?_) (fun c1 => ?_))
    ·
      refine a_end ?_
      refine awp_seq ?_
      refine awp_condT (by conv => lhs; whnf) ?_
      refine awp_skip ?_
      refine awp_seq ?_
      refine awp_block ?_
      refine awp_seq ?_
      refine awp_region rfl ?_
      refine a_do rfl (o_move (by conv => lhs; whnf) ?_)
      refine a_do rfl (o_assign (by conv => lhs; whnf) ?_)
      refine a_end ?_
      refine awp_seq ?_
      refine awp_region rfl ?_
      refine a_do rfl (o_move (by conv => lhs; whnf) ?_)
      refine a_do rfl (o_move (by conv => lhs; whnf) ?_)
      refine a_do rfl (o_move (by conv => lhs; whnf) ?_)
      first | refine a_do rfl (o_indexI Try.underlying32 ty2 (by conv => lhs; whnf) (by first | ((with_reducible repeat (first | assumption | apply Ints.app)); done) | repeat (first | with_reducible assumption | exact ints_nil | exact Ints.own (by with_reducible repeat (first | assumption | (apply lk_last; (try simp only [ll1, ll2, ll3, ll4, lls_len, lls2_len, markL_len]); omega) | apply lk_prev)) (by first | rfl | exact upto_len | assumption | exact map_len | exact List.length_set | (rw [List.length_set]; assumption)) | exact Ints.tail (by with_reducible repeat (first | assumption | (apply lk_last; (try simp only [ll1, ll2, ll3, ll4, lls_len, lls2_len, markL_len]); omega) | apply lk_prev)) (by first | rfl | exact upto_len | assumption | exact map_len | exact List.length_set | (rw [List.length_set]; assumption)) | with_reducible apply Ints.app | (refine Ints.sub (by with_reducible repeat (first | assumption | apply Ints.app)) (by omega) (by omega) (by omega)))) (by conv => lhs; whnf) (by omega) (fun p2 hp2 => ?_)) | refine a_do rfl (o_indexZ Try.underlying32 ty2 (by conv => lhs; whnf) (by first | ((with_reducible repeat (first | assumption | apply Ints.app)); done) | repeat (first | with_reducible assumption | exact ints_nil | exact Ints.own (by with_reducible repeat (first | assumption | (apply lk_last; (try simp only [ll1, ll2, ll3, ll4, lls_len, lls2_len, markL_len]); omega) | apply lk_prev)) (by first | rfl | exact upto_len | assumption | exact map_len | exact List.length_set | (rw [List.length_set]; assumption)) | exact Ints.tail (by with_reducible repeat (first | assumption | (apply lk_last; (try simp only [ll1, ll2, ll3, ll4, lls_len, lls2_len, markL_len]); omega) | apply lk_prev)) (by first | rfl | exact upto_len | assumption | exact map_len | exact List.length_set | (rw [List.length_set]; assumption)) | with_reducible apply Ints.app | (refine Ints.sub (by with_reducible repeat (first | assumption | apply Ints.app)) (by omega) (by omega) (by omega)))) (by conv => lhs; whnf) (by omega) (by omega) (fun p2 hp2 => ?_))
      refine a_do rfl (o_loadI Try.underlying2 rfl (by conv => lhs; whnf) hp2 (by first | ((with_reducible repeat (first | assumption | apply Ints.app)); done) | repeat (first | with_reducible assumption | exact ints_nil | exact Ints.own (by with_reducible repeat (first | assumption | (apply lk_last; (try simp only [ll1, ll2, ll3, ll4, lls_len, lls2_len, markL_len]); omega) | apply lk_prev)) (by first | rfl | exact upto_len | assumption | exact map_len | exact List.length_set | (rw [List.length_set]; assumption)) | exact Ints.tail (by with_reducible repeat (first | assumption | (apply lk_last; (try simp only [ll1, ll2, ll3, ll4, lls_len, lls2_len, markL_len]); omega) | apply lk_prev)) (by first | rfl | exact upto_len | assumption | exact map_len | exact List.length_set | (rw [List.length_set]; assumption)) | with_reducible apply Ints.app | (refine Ints.sub (by with_reducible repeat (first | assumption | apply Ints.app)) (by omega) (by omega) (by omega)))) (by omega) ?_)
      refine a_do rfl (o_callV (by conv => lhs; whnf) (lmap_cons (by conv => lhs; whnf) lmap_nil) rfl (Ret.toB (hcl s _ (Grown.refl _) (by omega)) (fun c3 => ?_) (fun c3 => ?_)))
      ·
        have he9 := idxTo_some ha c3 ys.length (by omega)
        refine a_end ?_
        refine awp_condT (by conv => lhs; whnf) ?_
        refine awp_seq ?_
        refine awp_region rfl ?_
        refine a_do rfl (o_move (by conv => lhs; whnf) ?_)
        refine a_do rfl (o_assign (by conv => lhs; whnf) ?_)
        refine a_end ?_
        refine awp_ret ?_
        refine ⟨.inl rfl, [_], ⟨ares_tmp (by conv => lhs; whnf), trivial⟩, ?_⟩
        exact ⟨by first | exact congrArg i64 he9.symm | (obtain rfl : s = ys.length := (by omega); exact congrArg i64 ha.symm), (by first | ((repeat (first | with_reducible exact Grown.refl _ | with_reducible apply Grown.push)); done) | repeat (first | exact Grown.refl _ | refine Grown.push ?_ _))⟩
      ·
        have he9 := idxTo_none ha c3
        refine a_end ?_
        refine awp_condF (by conv => lhs; whnf) ?_
        refine awp_skip ?_
        refine awp_region rfl ?_
        refine a_do rfl (o_add (by conv => lhs; whnf) (by conv => lhs; whnf) (by omega) (by omega) ?_)
        refine a_do rfl (o_move (by conv => lhs; whnf) ?_)
        refine a_end ?_
        refine ⟨s + 1, ⟨Slots.mk ⟨?_, ?_, ?_, ?_, trivial⟩, ?_, ?_⟩, ?_⟩
        all_goals first | rfl | omega | exact congrArg i64 (by omega) | exact ⟨by omega, he9⟩
    ·
      refine a_end ?_
      refine awp_seq ?_
      refine awp_condF (by conv => lhs; whnf) ?_
      refine awp_exit ?_
      refine awp_seq ?_
      refine awp_region rfl ?_
      refine a_do rfl (o_assign (by conv => lhs; whnf) ?_)
      refine a_end ?_
      refine awp_ret ?_
      refine ⟨.inl rfl, [_], ⟨ares_tmp (by conv => lhs; whnf), trivial⟩, ?_⟩
      exact ⟨by first | exact congrArg i64 he9.symm | (obtain rfl : s = ys.length := (by omega); exact congrArg i64 ha.symm), (by first | ((repeat (first | with_reducible exact Grown.refl _ | with_reducible apply Grown.push)); done) | repeat (first | exact Grown.refl _ | refine Grown.push ?_ _))⟩

set_option maxRecDepth 10000 in
theorem szGame_ret (left : Int) (p q : Int) (xs ys : List Int) (v w : Value) (h : AHeap) (hv : Ints h v xs) (hw : Ints h w ys) (hl : xs.length ≤ 9223372036854775807) (hl2 : ys.length ≤ 9223372036854775807) (hleft : 0 ≤ left ∧ left ≤ 1048576) : Ret Try.prog 43 [.agg #[i64 p, i64 q, v, w], i64 left] h (i64 (szG2 left xs.length ys.length)) h := by
  refine ret_of (.prim rfl) ?_
  refine tri_of_body Try.func43 rfl (by kernel_rfl) (by show 2 ≤ 18; decide) ?_
  refine awp_seq ?_
  refine awp_region rfl ?_
  refine a_do rfl (o_boxN (n := 4) (by conv => lhs; whnf) (by exact (rfl : _ = [_, _, _, _])) (by rfl) (fun k2 hk2 => ?_))
  try simp at hk2
  refine a_do rfl (o_assign (by conv => lhs; whnf) ?_)
  refine a_end ?_
  refine awp_seq ?_
  refine awp_region rfl ?_
  refine a_do rfl (o_fieldAddr Try.underlying53 rfl ty32 (by conv => lhs; whnf) (by with_reducible repeat (first | assumption | (apply lk_last; (try simp only [ll1, ll2, ll3, ll4, lls_len, lls2_len, markL_len]); omega) | apply lk_prev)) (by rfl) ?_)
  refine a_do rfl (o_load Try.underlying32 rfl (by conv => lhs; whnf) (by with_reducible repeat (first | assumption | (apply lk_last; (try simp only [ll1, ll2, ll3, ll4, lls_len, lls2_len, markL_len]); omega) | apply lk_prev)) (by rfl) (by rfl) ?_)
  refine a_do rfl (o_move (by conv => lhs; whnf) ?_)
  refine a_do rfl (o_callF (lmap_cons (by conv => lhs; whnf) (lmap_cons (by conv => lhs; whnf) lmap_nil)) (Ret.to (szInt64S_ret _ _ _ _ (by first | ((with_reducible repeat (first | assumption | apply Ints.app)); done) | repeat (first | with_reducible assumption | exact ints_nil | exact Ints.own (by with_reducible repeat (first | assumption | (apply lk_last; (try simp only [ll1, ll2, ll3, ll4, lls_len, lls2_len, markL_len]); omega) | apply lk_prev)) (by first | rfl | exact upto_len | assumption | exact map_len | exact List.length_set | (rw [List.length_set]; assumption)) | exact Ints.tail (by with_reducible repeat (first | assumption | (apply lk_last; (try simp only [ll1, ll2, ll3, ll4, lls_len, lls2_len, markL_len]); omega) | apply lk_prev)) (by first | rfl | exact upto_len | assumption | exact map_len | exact List.length_set | (rw [List.length_set]; assumption)) | with_reducible apply Ints.app | (refine Ints.sub (by with_reducible repeat (first | assumption | apply Ints.app)) (by omega) (by omega) (by omega)))) (by omega) (by omega) (by omega)) ?_))
  refine a_do rfl (o_assign (by conv => lhs; whnf) ?_)
  refine a_end ?_
  refine awp_seq ?_
  refine awp_seq ?_
  refine awp_region rfl ?_
  refine a_do rfl (o_move (by conv => lhs; whnf) ?_)
  refine a_do rfl (o_lss (by conv => lhs; whnf) (by conv => lhs; whnf) (fun c3 => ?_) (fun c3 => ?_))
  ·
    have hz9 : (-1 : Int) = szG2 left xs.length ys.length := by rw [szG2, if_pos c3]
    refine a_end ?_
    refine awp_condT (by conv => lhs; whnf) ?_
    refine awp_seq ?_
    refine awp_region rfl ?_
    refine a_do rfl (o_assign (by conv => lhs; whnf) ?_)
    refine a_end ?_
    refine awp_ret ?_
    refine ⟨.inl rfl, [_], ⟨ares_tmp (by conv => lhs; whnf), trivial⟩, ?_⟩
    exact ⟨congrArg i64 hz9, (by first | ((repeat (first | with_reducible exact Grown.refl _ | with_reducible apply Grown.push)); done) | repeat (first | exact Grown.refl _ | refine Grown.push ?_ _))⟩
  ·
    have hz := szL_spec c3
    refine a_end ?_
    refine awp_condF (by conv => lhs; whnf) ?_
    refine awp_skip ?_
    refine awp_seq ?_
    refine awp_region rfl ?_
    refine a_do rfl (o_fieldAddr Try.underlying53 rfl ty32 (by conv => lhs; whnf) (by with_reducible repeat (first | assumption | (apply lk_last; (try simp only [ll1, ll2, ll3, ll4, lls_len, lls2_len, markL_len]); omega) | apply lk_prev)) (by rfl) ?_)
    refine a_do rfl (o_load Try.underlying32 rfl (by conv => lhs; whnf) (by with_reducible repeat (first | assumption | (apply lk_last; (try simp only [ll1, ll2, ll3, ll4, lls_len, lls2_len, markL_len]); omega) | apply lk_prev)) (by rfl) (by rfl) ?_)
    refine a_do rfl (o_move (by conv => lhs; whnf) ?_)
    refine a_do rfl (o_callF (lmap_cons (by conv => lhs; whnf) (lmap_cons (by conv => lhs; whnf) lmap_nil)) (Ret.to (szInt64S_ret _ _ _ _ (by first | ((with_reducible repeat (first | assumption | apply Ints.app)); done) | repeat (first | with_reducible assumption | exact ints_nil | exact Ints.own (by with_reducible repeat (first | assumption | (apply lk_last; (try simp only [ll1, ll2, ll3, ll4, lls_len, lls2_len, markL_len]); omega) | apply lk_prev)) (by first | rfl | exact upto_len | assumption | exact map_len | exact List.length_set | (rw [List.length_set]; assumption)) | exact Ints.tail (by with_reducible repeat (first | assumption | (apply lk_last; (try simp only [ll1, ll2, ll3, ll4, lls_len, lls2_len, markL_len]); omega) | apply lk_prev)) (by first | rfl | exact upto_len | assumption | exact map_len | exact List.length_set | (rw [List.length_set]; assumption)) | with_reducible apply Ints.app | (refine Ints.sub (by with_reducible repeat (first | assumption | apply Ints.app)) (by omega) (by omega) (by omega)))) (by omega) (by omega) (by omega)) ?_))
    refine a_do rfl (o_assign (by conv => lhs; whnf) ?_)
    refine a_end ?_
    refine awp_seq ?_
    refine awp_seq ?_
    refine awp_region rfl ?_
    refine a_do rfl (o_move (by conv => lhs; whnf) ?_)
    refine a_do rfl (o_lss (by conv => lhs; whnf) (by conv => lhs; whnf) (fun c4 => ?_) (fun c4 => ?_))
    ·
      have hz9 : (-1 : Int) = szG2 left xs.length ys.length := by rw [szG2, if_neg (by omega), if_pos c4]
      refine a_end ?_
      refine awp_condT (by conv => lhs; whnf) ?_
      refine awp_seq ?_
      refine awp_region rfl ?_
      refine a_do rfl (o_assign (by conv => lhs; whnf) ?_)
      refine a_end ?_
      refine awp_ret ?_
      refine ⟨.inl rfl, [_], ⟨ares_tmp (by conv => lhs; whnf), trivial⟩, ?_⟩
      exact ⟨congrArg i64 hz9, (by first | ((repeat (first | with_reducible exact Grown.refl _ | with_reducible apply Grown.push)); done) | repeat (first | exact Grown.refl _ | refine Grown.push ?_ _))⟩
    ·
      have hz9 : szL (szL left xs.length) ys.length = szG2 left xs.length ys.length := by rw [szG2, if_neg (by omega), if_neg c4]
      refine a_end ?_
      refine awp_condF (by conv => lhs; whnf) ?_
      refine awp_skip ?_
      refine awp_seq ?_
      refine awp_region rfl ?_
      refine a_do rfl (o_move (by conv => lhs; whnf) ?_)
      refine a_do rfl (o_assign (by conv => lhs; whnf) ?_)
      refine a_end ?_
      refine awp_ret ?_
      refine ⟨.inl rfl, [_], ⟨ares_tmp (by conv => lhs; whnf), trivial⟩, ?_⟩
      exact ⟨congrArg i64 hz9, (by first | ((repeat (first | with_reducible exact Grown.refl _ | with_reducible apply Grown.push)); done) | repeat (first | exact Grown.refl _ | refine Grown.push ?_ _))⟩

set_option maxRecDepth 10000 in
theorem toGame_ret (p q : Int) (xs ys : List Int) (v w : Value) (h : AHeap) (hv : Ints h v xs) (hw : Ints h w ys) (hl : xs.length ≤ 1073741824) (hl2 : ys.length ≤ 1073741824) : RetG Try.prog 45 [.agg #[i64 p, i64 q, v, w]] h (gv p q xs.length ys.length) (fun _ => lgs xs ys) := by
  refine retgG_of ?_
  refine tri_of_body Try.func45 rfl (by kernel_rfl) (by show 1 ≤ 19; decide) ?_
  refine awp_seq ?_
  refine awp_region rfl ?_
  refine a_do rfl (o_boxN (n := 4) (by conv => lhs; whnf) (by exact (rfl : _ = [_, _, _, _])) (by rfl) (fun k2 hk2 => ?_))
  try simp at hk2
  refine a_do rfl (o_allocN (n := 4) ty55 rfl (by exact (rfl : _ = [_, _, _, _])) (by rfl) (fun k3 hk3 => ?_))
  try simp at hk3
  refine a_end ?_
  refine awp_seq ?_
  refine awp_region rfl ?_
  refine a_do rfl (o_allocN (n := 4) ty55 rfl (by exact (rfl : _ = [_, _, _, _])) (by rfl) (fun k4 hk4 => ?_))
  try simp at hk4
  refine a_end ?_
  refine awp_seq ?_
  refine awp_region rfl ?_
  refine a_do rfl (o_fieldAddr Try.underlying53 rfl ty2 (by conv => lhs; whnf) (by with_reducible repeat (first | assumption | (apply lk_last; (try simp only [ll1, ll2, ll3, ll4, lls_len, lls2_len, markL_len]); omega) | apply lk_prev)) (by rfl) ?_)
  refine a_do rfl (o_load Try.underlying2 rfl (by conv => lhs; whnf) (by with_reducible repeat (first | assumption | (apply lk_last; (try simp only [ll1, ll2, ll3, ll4, lls_len, lls2_len, markL_len]); omega) | apply lk_prev)) (by rfl) (by rfl) ?_)
  refine a_do rfl (o_fieldAddr Try.underlying55 rfl ty2 (by conv => lhs; whnf) (by with_reducible repeat (first | assumption | (apply lk_last; (try simp only [ll1, ll2, ll3, ll4, lls_len, lls2_len, markL_len]); omega) | apply lk_prev)) (by rfl) ?_)
  refine a_do rfl (o_storeV ty2 (by conv => lhs; whnf) (by with_reducible repeat (first | assumption | (apply lk_last; (try simp only [ll1, ll2, ll3, ll4, lls_len, lls2_len, markL_len]); omega) | apply lk_prev)) (by rfl) (by rfl) (by rfl) (by conv => lhs; whnf) (by rfl) (by rfl) (by first | exact (rfl : _ = [_]) | exact (rfl : _ = [_, _]) | exact (rfl : _ = [_, _, _]) | exact (rfl : _ = [_, _, _, _]) | rfl) (by with_reducible repeat (first | (apply set_last; (try simp only [ll1, ll2, ll3, ll4, lls_len, lls2_len, markL_len]); omega) | (apply set_step; (try simp only [ll1, ll2, ll3, ll4, lls_len, lls2_len, markL_len]); omega) | exact rfl)) ?_)
  refine a_end ?_
  refine awp_seq ?_
  refine awp_region rfl ?_
  refine a_do rfl (o_fieldAddr Try.underlying53 rfl ty2 (by conv => lhs; whnf) (by with_reducible repeat (first | assumption | (apply lk_last; (try simp only [ll1, ll2, ll3, ll4, lls_len, lls2_len, markL_len]); omega) | apply lk_prev)) (by rfl) ?_)
  refine a_do rfl (o_load Try.underlying2 rfl (by conv => lhs; whnf) (by with_reducible repeat (first | assumption | (apply lk_last; (try simp only [ll1, ll2, ll3, ll4, lls_len, lls2_len, markL_len]); omega) | apply lk_prev)) (by rfl) (by rfl) ?_)
  refine a_do rfl (o_fieldAddr Try.underlying55 rfl ty2 (by conv => lhs; whnf) (by with_reducible repeat (first | assumption | (apply lk_last; (try simp only [ll1, ll2, ll3, ll4, lls_len, lls2_len, markL_len]); omega) | apply lk_prev)) (by rfl) ?_)
  refine a_do rfl (o_storeV ty2 (by conv => lhs; whnf) (by with_reducible repeat (first | assumption | (apply lk_last; (try simp only [ll1, ll2, ll3, ll4, lls_len, lls2_len, markL_len]); omega) | apply lk_prev)) (by rfl) (by rfl) (by rfl) (by conv => lhs; whnf) (by rfl) (by rfl) (by first | exact (rfl : _ = [_]) | exact (rfl : _ = [_, _]) | exact (rfl : _ = [_, _, _]) | exact (rfl : _ = [_, _, _, _]) | rfl) (by with_reducible repeat (first | (apply set_last; (try simp only [ll1, ll2, ll3, ll4, lls_len, lls2_len, markL_len]); omega) | (apply set_step; (try simp only [ll1, ll2, ll3, ll4, lls_len, lls2_len, markL_len]); omega) | exact rfl)) ?_)
  refine a_end ?_
  refine awp_seq ?_
  refine awp_region rfl ?_
  refine a_do rfl (o_fieldAddr Try.underlying53 rfl ty32 (by conv => lhs; whnf) (by with_reducible repeat (first | assumption | (apply lk_last; (try simp only [ll1, ll2, ll3, ll4, lls_len, lls2_len, markL_len]); omega) | apply lk_prev)) (by rfl) ?_)
  refine a_do rfl (o_load Try.underlying32 rfl (by conv => lhs; whnf) (by with_reducible repeat (first | assumption | (apply lk_last; (try simp only [ll1, ll2, ll3, ll4, lls_len, lls2_len, markL_len]); omega) | apply lk_prev)) (by rfl) (by rfl) ?_)
  refine a_do rfl (o_callF (lmap_cons (by conv => lhs; whnf) lmap_nil) (RetN.toN (toInt64S_ret _ _ _ (by first | ((with_reducible repeat (first | assumption | apply Ints.app)); done) | repeat (first | with_reducible assumption | exact ints_nil | exact Ints.own (by with_reducible repeat (first | assumption | (apply lk_last; (try simp only [ll1, ll2, ll3, ll4, lls_len, lls2_len, markL_len]); omega) | apply lk_prev)) (by first | rfl | exact upto_len | assumption | exact map_len | exact List.length_set | (rw [List.length_set]; assumption)) | exact Ints.tail (by with_reducible repeat (first | assumption | (apply lk_last; (try simp only [ll1, ll2, ll3, ll4, lls_len, lls2_len, markL_len]); omega) | apply lk_prev)) (by first | rfl | exact upto_len | assumption | exact map_len | exact List.length_set | (rw [List.length_set]; assumption)) | with_reducible apply Ints.app | (refine Ints.sub (by with_reducible repeat (first | assumption | apply Ints.app)) (by omega) (by omega) (by omega)))) (by omega)) (fun k5 hk5 hgk5 => ?_)))
  try simp at hk5
  refine a_do rfl (o_fieldAddr Try.underlying55 rfl ty32 (by conv => lhs; whnf) (by with_reducible repeat (first | assumption | (apply lk_last; (try simp only [ll1, ll2, ll3, ll4, lls_len, lls2_len, markL_len]); omega) | apply lk_prev)) (by rfl) ?_)
  refine a_do rfl (o_storeV ty32 (by conv => lhs; whnf) (by with_reducible repeat (first | assumption | (apply lk_last; (try simp only [ll1, ll2, ll3, ll4, lls_len, lls2_len, markL_len]); omega) | apply lk_prev)) (by rfl) (by rfl) (by rfl) (by conv => lhs; whnf) (by rfl) (by rfl) (by first | exact (rfl : _ = [_]) | exact (rfl : _ = [_, _]) | exact (rfl : _ = [_, _, _]) | exact (rfl : _ = [_, _, _, _]) | rfl) (by with_reducible repeat (first | (apply set_last; (try simp only [ll1, ll2, ll3, ll4, lls_len, lls2_len, markL_len]); omega) | (apply set_step; (try simp only [ll1, ll2, ll3, ll4, lls_len, lls2_len, markL_len]); omega) | exact rfl)) ?_)
  refine a_end ?_
  refine awp_seq ?_
  refine awp_region rfl ?_
  refine a_do rfl (o_fieldAddr Try.underlying53 rfl ty32 (by conv => lhs; whnf) (by with_reducible repeat (first | assumption | (apply lk_last; (try simp only [ll1, ll2, ll3, ll4, lls_len, lls2_len, markL_len]); omega) | apply lk_prev)) (by rfl) ?_)
  refine a_do rfl (o_load Try.underlying32 rfl (by conv => lhs; whnf) (by with_reducible repeat (first | assumption | (apply lk_last; (try simp only [ll1, ll2, ll3, ll4, lls_len, lls2_len, markL_len]); omega) | apply lk_prev)) (by rfl) (by rfl) ?_)
  refine a_do rfl (o_callF (lmap_cons (by conv => lhs; whnf) lmap_nil) (RetN.toN (toInt64S_ret _ _ _ (by first | ((with_reducible repeat (first | assumption | apply Ints.app)); done) | repeat (first | with_reducible assumption | exact ints_nil | exact Ints.own (by with_reducible repeat (first | assumption | (apply lk_last; (try simp only [ll1, ll2, ll3, ll4, lls_len, lls2_len, markL_len]); omega) | apply lk_prev)) (by first | rfl | exact upto_len | assumption | exact map_len | exact List.length_set | (rw [List.length_set]; assumption)) | exact Ints.tail (by with_reducible repeat (first | assumption | (apply lk_last; (try simp only [ll1, ll2, ll3, ll4, lls_len, lls2_len, markL_len]); omega) | apply lk_prev)) (by first | rfl | exact upto_len | assumption | exact map_len | exact List.length_set | (rw [List.length_set]; assumption)) | with_reducible apply Ints.app | (refine Ints.sub (by with_reducible repeat (first | assumption | apply Ints.app)) (by omega) (by omega) (by omega)))) (by omega)) (fun k6 hk6 hgk6 => ?_)))
  try simp at hk6
  refine a_do rfl (o_fieldAddr Try.underlying55 rfl ty32 (by conv => lhs; whnf) (by with_reducible repeat (first | assumption | (apply lk_last; (try simp only [ll1, ll2, ll3, ll4, lls_len, lls2_len, markL_len]); omega) | apply lk_prev)) (by rfl) ?_)
  refine a_do rfl (o_storeV ty32 (by conv => lhs; whnf) (by with_reducible repeat (first | assumption | (apply lk_last; (try simp only [ll1, ll2, ll3, ll4, lls_len, lls2_len, markL_len]); omega) | apply lk_prev)) (by rfl) (by rfl) (by rfl) (by conv => lhs; whnf) (by rfl) (by rfl) (by first | exact (rfl : _ = [_]) | exact (rfl : _ = [_, _]) | exact (rfl : _ = [_, _, _]) | exact (rfl : _ = [_, _, _, _]) | rfl) (by with_reducible repeat (first | (apply set_last; (try simp only [ll1, ll2, ll3, ll4, lls_len, lls2_len, markL_len]); omega) | (apply set_step; (try simp only [ll1, ll2, ll3, ll4, lls_len, lls2_len, markL_len]); omega) | exact rfl)) ?_)
  refine a_end ?_
  refine awp_seq ?_
  refine awp_region rfl ?_
  refine a_do rfl (o_loadAgg Try.underlying55 rfl ty55 (by conv => lhs; whnf) (by with_reducible repeat (first | assumption | (apply lk_last; (try simp only [ll1, ll2, ll3, ll4, lls_len, lls2_len, markL_len]); omega) | apply lk_prev)) (by rfl) (by exact (rfl : _ = [_, _, _, _])) (by rfl) ?_)
  refine a_do rfl (o_storeVAgg ty55 (by conv => lhs; whnf) (by with_reducible repeat (first | assumption | (apply lk_last; (try simp only [ll1, ll2, ll3, ll4, lls_len, lls2_len, markL_len]); omega) | apply lk_prev)) (by rfl) (by rfl) (by rfl) (by conv => lhs; whnf) (by rfl) (by rfl) (by first | rfl | exact one2 (by assumption)) (by first | exact (rfl : _ = [_]) | exact (rfl : _ = [_, _]) | exact (rfl : _ = [_, _, _]) | exact (rfl : _ = [_, _, _, _]) | rfl) (by with_reducible repeat (first | (apply set_last; (try simp only [ll1, ll2, ll3, ll4, lls_len, lls2_len, markL_len]); omega) | (apply set_step; (try simp only [ll1, ll2, ll3, ll4, lls_len, lls2_len, markL_len]); omega) | exact rfl)) ?_)
  refine a_end ?_
  refine awp_ret ?_
  refine ⟨.inl rfl, [_], ⟨ares_cellAgg (by conv => lhs; whnf) (by with_reducible repeat (first | assumption | (apply lk_last; (try simp only [ll1, ll2, ll3, ll4, lls_len, lls2_len, markL_len]); omega) | apply lk_prev)) (by rfl) Try.underlying55 rfl ty55 (by exact (rfl : _ = [_, _, _, _])) (by rfl), trivial⟩, ?_⟩
  have e10 : k6 = k5 + 1 := (by omega); subst e10; exact ⟨_, _, _, regroupG, by simp only [ll1, ll2, ll3]; omega, rfl⟩

set_option maxRecDepth 10000 in
theorem eqGame_ret (p q p2 q2 : Int) (xs ys xs2 ys2 : List Int) (v w v2 w2 : Value) (h : AHeap) (hv : Ints h v xs) (hw : Ints h w ys) (hv2 : Ints h v2 xs2) (hw2 : Ints h w2 ys2) (hl : xs.length ≤ 1073741824) (hl2 : ys.length ≤ 1073741824) : Ret Try.prog 47 [.agg #[i64 p, i64 q, v, w], .agg #[i64 p2, i64 q2, v2, w2]] h (.bool (decide (p = p2) && decide (q = q2) && decide (xs = xs2) && decide (ys = ys2))) h := by
  refine ret_of (.prim rfl) ?_
  refine tri_of_body Try.func47 rfl (by kernel_rfl) (by show 2 ≤ 27; decide) ?_
  refine awp_seq ?_
  refine awp_region rfl ?_
  refine a_do rfl (o_boxN (n := 4) (by conv => lhs; whnf) (by exact (rfl : _ = [_, _, _, _])) (by rfl) (fun k2 hk2 => ?_))
  try simp at hk2
  refine a_do rfl (o_boxN (n := 4) (by conv => lhs; whnf) (by exact (rfl : _ = [_, _, _, _])) (by rfl) (fun k4 hk4 => ?_))
  try simp at hk4
  refine a_do rfl (o_assign (by conv => lhs; whnf) ?_)
  refine a_end ?_
  refine awp_seq ?_
  refine awp_seq ?_
  refine awp_region rfl ?_
  refine a_do rfl (o_fieldAddr Try.underlying55 rfl ty2 (by conv => lhs; whnf) (by with_reducible repeat (first | assumption | (apply lk_last; (try simp only [ll1, ll2, ll3, ll4, lls_len, lls2_len, markL_len]); omega) | apply lk_prev)) (by rfl) ?_)
  refine a_do rfl (o_load Try.underlying2 rfl (by conv => lhs; whnf) (by with_reducible repeat (first | assumption | (apply lk_last; (try simp only [ll1, ll2, ll3, ll4, lls_len, lls2_len, markL_len]); omega) | apply lk_prev)) (by rfl) (by rfl) ?_)
  refine a_do rfl (o_fieldAddr Try.underlying55 rfl ty2 (by conv => lhs; whnf) (by with_reducible repeat (first | assumption | (apply lk_last; (try simp only [ll1, ll2, ll3, ll4, lls_len, lls2_len, markL_len]); omega) | apply lk_prev)) (by rfl) ?_)
  refine a_do rfl (o_load Try.underlying2 rfl (by conv => lhs; whnf) (by with_reducible repeat (first | assumption | (apply lk_last; (try simp only [ll1, ll2, ll3, ll4, lls_len, lls2_len, markL_len]); omega) | apply lk_prev)) (by rfl) (by rfl) ?_)
  refine a_do rfl (o_neq (by conv => lhs; whnf) (by conv => lhs; whnf) (fun c5 => ?_) (fun c5 => ?_))
  ·
    refine a_end ?_
    refine awp_condT (by conv => lhs; whnf) ?_
    refine awp_seq ?_
    refine awp_region rfl ?_
    refine a_do rfl (o_assign (by conv => lhs; whnf) ?_)
    refine a_end ?_
    refine awp_ret ?_
    refine ⟨.inl rfl, [_], ⟨ares_tmp (by conv => lhs; whnf), trivial⟩, ?_⟩
    exact ⟨congrArg Value.bool (by simp_all), (by first | ((repeat (first | with_reducible exact Grown.refl _ | with_reducible apply Grown.push)); done) | repeat (first | exact Grown.refl _ | refine Grown.push ?_ _))⟩
  ·
    refine a_end ?_
    refine awp_condF (by conv => lhs; whnf) ?_
    refine awp_skip ?_
    refine awp_seq ?_
    refine awp_seq ?_
    refine awp_region rfl ?_
    refine a_do rfl (o_fieldAddr Try.underlying55 rfl ty2 (by conv => lhs; whnf) (by with_reducible repeat (first | assumption | (apply lk_last; (try simp only [ll1, ll2, ll3, ll4, lls_len, lls2_len, markL_len]); omega) | apply lk_prev)) (by rfl) ?_)
    refine a_do rfl (o_load Try.underlying2 rfl (by conv => lhs; whnf) (by with_reducible repeat (first | assumption | (apply lk_last; (try simp only [ll1, ll2, ll3, ll4, lls_len, lls2_len, markL_len]); omega) | apply lk_prev)) (by rfl) (by rfl) ?_)
    refine a_do rfl (o_fieldAddr Try.underlying55 rfl ty2 (by conv => lhs; whnf) (by with_reducible repeat (first | assumption | (apply lk_last; (try simp only [ll1, ll2, ll3, ll4, lls_len, lls2_len, markL_len]); omega) | apply lk_prev)) (by rfl) ?_)
    refine a_do rfl (o_load Try.underlying2 rfl (by conv => lhs; whnf) (by with_reducible repeat (first | assumption | (apply lk_last; (try simp only [ll1, ll2, ll3, ll4, lls_len, lls2_len, markL_len]); omega) | apply lk_prev)) (by rfl) (by rfl) ?_)
    refine a_do rfl (o_neq (by conv => lhs; whnf) (by conv => lhs; whnf) (fun c6 => ?_) (fun c6 => ?_))
    ·
      refine a_end ?_
      refine awp_condT (by conv => lhs; whnf) ?_
      refine awp_seq ?_
      refine awp_region rfl ?_
      refine a_do rfl (o_assign (by conv => lhs; whnf) ?_)
      refine a_end ?_
      refine awp_ret ?_
      refine ⟨.inl rfl, [_], ⟨ares_tmp (by conv => lhs; whnf), trivial⟩, ?_⟩
      exact ⟨congrArg Value.bool (by simp_all), (by first | ((repeat (first | with_reducible exact Grown.refl _ | with_reducible apply Grown.push)); done) | repeat (first | exact Grown.refl _ | refine Grown.push ?_ _))⟩
    ·
      refine a_end ?_
      refine awp_condF (by conv => lhs; whnf) ?_
      refine awp_skip ?_
      refine awp_seq ?_
      refine awp_seq ?_
      refine awp_region rfl ?_
      refine a_do rfl (o_fieldAddr Try.underlying55 rfl ty32 (by conv => lhs; whnf) (by with_reducible repeat (first | assumption | (apply lk_last; (try simp only [ll1, ll2, ll3, ll4, lls_len, lls2_len, markL_len]); omega) | apply lk_prev)) (by rfl) ?_)
      refine a_do rfl (o_load Try.underlying32 rfl (by conv => lhs; whnf) (by with_reducible repeat (first | assumption | (apply lk_last; (try simp only [ll1, ll2, ll3, ll4, lls_len, lls2_len, markL_len]); omega) | apply lk_prev)) (by rfl) (by rfl) ?_)
      refine a_do rfl (o_fieldAddr Try.underlying55 rfl ty32 (by conv => lhs; whnf) (by with_reducible repeat (first | assumption | (apply lk_last; (try simp only [ll1, ll2, ll3, ll4, lls_len, lls2_len, markL_len]); omega) | apply lk_prev)) (by rfl) ?_)
      refine a_do rfl (o_load Try.underlying32 rfl (by conv => lhs; whnf) (by with_reducible repeat (first | assumption | (apply lk_last; (try simp only [ll1, ll2, ll3, ll4, lls_len, lls2_len, markL_len]); omega) | apply lk_prev)) (by rfl) (by rfl) ?_)
      refine a_do rfl (o_callF (lmap_cons (by conv => lhs; whnf) (lmap_cons (by conv => lhs; whnf) lmap_nil)) (Ret.toB (eqInt64S_ret _ _ _ _ _ (by first | ((with_reducible repeat (first | assumption | apply Ints.app)); done) | repeat (first | with_reducible assumption | exact ints_nil | exact Ints.own (by with_reducible repeat (first | assumption | (apply lk_last; (try simp only [ll1, ll2, ll3, ll4, lls_len, lls2_len, markL_len]); omega) | apply lk_prev)) (by first | rfl | exact upto_len | assumption | exact map_len | exact List.length_set | (rw [List.length_set]; assumption)) | exact Ints.tail (by with_reducible repeat (first | assumption | (apply lk_last; (try simp only [ll1, ll2, ll3, ll4, lls_len, lls2_len, markL_len]); omega) | apply lk_prev)) (by first | rfl | exact upto_len | assumption | exact map_len | exact List.length_set | (rw [List.length_set]; assumption)) | with_reducible apply Ints.app | (refine Ints.sub (by with_reducible repeat (first | assumption | apply Ints.app)) (by omega) (by omega) (by omega)))) (by first | ((with_reducible repeat (first | assumption | apply Ints.app)); done) | repeat (first | with_reducible assumption | exact ints_nil | exact Ints.own (by with_reducible repeat (first | assumption | (apply lk_last; (try simp only [ll1, ll2, ll3, ll4, lls_len, lls2_len, markL_len]); omega) | apply lk_prev)) (by first | rfl | exact upto_len | assumption | exact map_len | exact List.length_set | (rw [List.length_set]; assumption)) | exact Ints.tail (by with_reducible repeat (first | assumption | (apply lk_last; (try simp only [ll1, ll2, ll3, ll4, lls_len, lls2_len, markL_len]); omega) | apply lk_prev)) (by first | rfl | exact upto_len | assumption | exact map_len | exact List.length_set | (rw [List.length_set]; assumption)) | with_reducible apply Ints.app | (refine Ints.sub (by with_reducible repeat (first | assumption | apply Ints.app)) (by omega) (by omega) (by omega)))) (by first | omega | (simp; done))) (fun c7 => ?_) (fun c7 => ?_)))
      ·
        refine a_do rfl (o_notT (by conv => lhs; whnf) ?_)
        refine a_end ?_
        refine awp_condF (by conv => lhs; whnf) ?_
        refine awp_skip ?_
        refine awp_seq ?_
        refine awp_seq ?_
        refine awp_region rfl ?_
        refine a_do rfl (o_fieldAddr Try.underlying55 rfl ty32 (by conv => lhs; whnf) (by with_reducible repeat (first | assumption | (apply lk_last; (try simp only [ll1, ll2, ll3, ll4, lls_len, lls2_len, markL_len]); omega) | apply lk_prev)) (by rfl) ?_)
        refine a_do rfl (o_load Try.underlying32 rfl (by conv => lhs; whnf) (by with_reducible repeat (first | assumption | (apply lk_last; (try simp only [ll1, ll2, ll3, ll4, lls_len, lls2_len, markL_len]); omega) | apply lk_prev)) (by rfl) (by rfl) ?_)
        refine a_do rfl (o_fieldAddr Try.underlying55 rfl ty32 (by conv => lhs; whnf) (by with_reducible repeat (first | assumption | (apply lk_last; (try simp only [ll1, ll2, ll3, ll4, lls_len, lls2_len, markL_len]); omega) | apply lk_prev)) (by rfl) ?_)
        refine a_do rfl (o_load Try.underlying32 rfl (by conv => lhs; whnf) (by with_reducible repeat (first | assumption | (apply lk_last; (try simp only [ll1, ll2, ll3, ll4, lls_len, lls2_len, markL_len]); omega) | apply lk_prev)) (by rfl) (by rfl) ?_)
        refine a_do rfl (o_callF (lmap_cons (by conv => lhs; whnf) (lmap_cons (by conv => lhs; whnf) lmap_nil)) (Ret.toB (eqInt64S_ret _ _ _ _ _ (by first | ((with_reducible repeat (first | assumption | apply Ints.app)); done) | repeat (first | with_reducible assumption | exact ints_nil | exact Ints.own (by with_reducible repeat (first | assumption | (apply lk_last; (try simp only [ll1, ll2, ll3, ll4, lls_len, lls2_len, markL_len]); omega) | apply lk_prev)) (by first | rfl | exact upto_len | assumption | exact map_len | exact List.length_set | (rw [List.length_set]; assumption)) | exact Ints.tail (by with_reducible repeat (first | assumption | (apply lk_last; (try simp only [ll1, ll2, ll3, ll4, lls_len, lls2_len, markL_len]); omega) | apply lk_prev)) (by first | rfl | exact upto_len | assumption | exact map_len | exact List.length_set | (rw [List.length_set]; assumption)) | with_reducible apply Ints.app | (refine Ints.sub (by with_reducible repeat (first | assumption | apply Ints.app)) (by omega) (by omega) (by omega)))) (by first | ((with_reducible repeat (first | assumption | apply Ints.app)); done) | repeat (first | with_reducible assumption | exact ints_nil | exact Ints.own (by with_reducible repeat (first | assumption | (apply lk_last; (try simp only [ll1, ll2, ll3, ll4, lls_len, lls2_len, markL_len]); omega) | apply lk_prev)) (by first | rfl | exact upto_len | assumption | exact map_len | exact List.length_set | (rw [List.length_set]; assumption)) | exact Ints.tail (by with_reducible repeat (first | assumption | (apply lk_last; (try simp only [ll1, ll2, ll3, ll4, lls_len, lls2_len, markL_len]); omega) | apply lk_prev)) (by first | rfl | exact upto_len | assumption | exact map_len | exact List.length_set | (rw [List.length_set]; assumption)) | with_reducible apply Ints.app | (refine Ints.sub (by with_reducible repeat (first | assumption | apply Ints.app)) (by omega) (by omega) (by omega)))) (by first | omega | (simp; done))) (fun c8 => ?_) (fun c8 => ?_)))
        ·
          refine a_do rfl (o_notT (by conv => lhs; whnf) ?_)
          refine a_end ?_
          refine awp_condF (by conv => lhs; whnf) ?_
          refine awp_skip ?_
          refine awp_seq ?_
          refine awp_region rfl ?_
          refine a_do rfl (o_assign (by conv => lhs; whnf) ?_)
          refine a_end ?_
          refine awp_ret ?_
          refine ⟨.inl rfl, [_], ⟨ares_tmp (by conv => lhs; whnf), trivial⟩, ?_⟩
          exact ⟨congrArg Value.bool (by simp_all), (by first | ((repeat (first | with_reducible exact Grown.refl _ | with_reducible apply Grown.push)); done) | repeat (first | exact Grown.refl _ | refine Grown.push ?_ _))⟩
        ·
          refine a_do rfl (o_notF (by conv => lhs; whnf) ?_)
          refine a_end ?_
          refine awp_condT (by conv => lhs; whnf) ?_
          refine awp_seq ?_
          refine awp_region rfl ?_
          refine a_do rfl (o_assign (by conv => lhs; whnf) ?_)
          refine a_end ?_
          refine awp_ret ?_
          refine ⟨.inl rfl, [_], ⟨ares_tmp (by conv => lhs; whnf), trivial⟩, ?_⟩
          exact ⟨congrArg Value.bool (by simp_all), (by first | ((repeat (first | with_reducible exact Grown.refl _ | with_reducible apply Grown.push)); done) | repeat (first | exact Grown.refl _ | refine Grown.push ?_ _))⟩
      ·
        refine a_do rfl (o_notF (by conv => lhs; whnf) ?_)
        refine a_end ?_
        refine awp_condT (by conv => lhs; whnf) ?_
        refine awp_seq ?_
        refine awp_region rfl ?_
        refine a_do rfl (o_assign (by conv => lhs; whnf) ?_)
        refine a_end ?_
        refine awp_ret ?_
        refine ⟨.inl rfl, [_], ⟨ares_tmp (by conv => lhs; whnf), trivial⟩, ?_⟩
        exact ⟨congrArg Value.bool (by simp_all), (by first | ((repeat (first | with_reducible exact Grown.refl _ | with_reducible apply Grown.push)); done) | repeat (first | exact Grown.refl _ | refine Grown.push ?_ _))⟩

set_option maxRecDepth 10000 in
theorem markGame_ret (c p q : Int) (k k2 n m : Nat) (xs ys : List Int) (h : AHeap) (ho : h[k]? = some (lst xs)) (ho2 : h[k2]? = some (lst ys)) (hn : xs.length = n) (hm : ys.length = m) (hne : k ≠ k2) (hc : 0 ≤ c ∧ c ≤ 10000000) (hln : n ≤ 1048576) (hlm : m ≤ 1048576) : Ret Try.prog 48 [.agg #[i64 p, i64 q, sl k n, sl k2 m], i64 c] h (i64 (c + n + m)) ((h.set k (lst (upto c n))).set k2 (lst (upto (c + n) m))) := by
  have hk := (List.getElem?_eq_some_iff.1 ho).1
  have hk2 := (List.getElem?_eq_some_iff.1 ho2).1
  have ho3 : (h.set k (lst (upto c n)))[k2]? = some (lst ys) := by rw [List.getElem?_set_ne hne]; exact ho2
  refine retm_of (by simp) (.prim rfl) (fun cl => (cl.set lst_prim).set lst_prim) ?_
  refine tri_of_body Try.func48 rfl (by kernel_rfl) (by show 2 ≤ 14; decide) ?_
  refine awp_seq ?_
  refine awp_region rfl ?_
  refine a_do rfl (o_boxN (n := 4) (by conv => lhs; whnf) (by exact (rfl : _ = [_, _, _, _])) (by rfl) (fun k2 hk2 => ?_))
  try simp at hk2
  refine a_do rfl (o_assign (by conv => lhs; whnf) ?_)
  refine a_end ?_
  refine awp_seq ?_
  refine awp_region rfl ?_
  refine a_do rfl (o_fieldAddr Try.underlying55 rfl ty32 (by conv => lhs; whnf) (by with_reducible repeat (first | assumption | (apply lk_last; (try simp only [ll1, ll2, ll3, ll4, lls_len, lls2_len, markL_len]); omega) | apply lk_prev)) (by rfl) ?_)
  refine a_do rfl (o_load Try.underlying32 rfl (by conv => lhs; whnf) (by with_reducible repeat (first | assumption | (apply lk_last; (try simp only [ll1, ll2, ll3, ll4, lls_len, lls2_len, markL_len]); omega) | apply lk_prev)) (by rfl) (by rfl) ?_)
  refine a_do rfl (o_move (by conv => lhs; whnf) ?_)
  refine a_do rfl (o_callF (lmap_cons (by conv => lhs; whnf) (lmap_cons (by conv => lhs; whnf) lmap_nil)) (Ret.to (Ret.heap (markInt64S_ret _ _ _ _ _ (by first | ((with_reducible repeat (first | assumption | (apply lk_last; (try simp only [ll1, ll2, ll3, ll4, lls_len, lls2_len, markL_len]); omega) | apply lk_prev)); done) | repeat (first | assumption | exact lk_last (by (try simp only [ll1, ll2, ll3, ll4, lls_len, lls2_len, markL_len]); omega) | apply lk_prev)) (by first | rfl | exact upto_len | assumption | exact map_len | exact List.length_set | (rw [List.length_set]; assumption)) (by omega) (by omega)) (by with_reducible repeat (first | (apply set_last; (try simp only [ll1, ll2, ll3, ll4, lls_len, lls2_len, markL_len]); omega) | (apply set_step; (try simp only [ll1, ll2, ll3, ll4, lls_len, lls2_len, markL_len]); omega) | exact rfl))) ?_))
  refine a_do rfl (o_assign (by conv => lhs; whnf) ?_)
  refine a_end ?_
  refine awp_seq ?_
  refine awp_region rfl ?_
  refine a_do rfl (o_fieldAddr Try.underlying55 rfl ty32 (by conv => lhs; whnf) (by with_reducible repeat (first | assumption | (apply lk_last; (try simp only [ll1, ll2, ll3, ll4, lls_len, lls2_len, markL_len]); omega) | apply lk_prev)) (by rfl) ?_)
  refine a_do rfl (o_load Try.underlying32 rfl (by conv => lhs; whnf) (by with_reducible repeat (first | assumption | (apply lk_last; (try simp only [ll1, ll2, ll3, ll4, lls_len, lls2_len, markL_len]); omega) | apply lk_prev)) (by rfl) (by rfl) ?_)
  refine a_do rfl (o_move (by conv => lhs; whnf) ?_)
  refine a_do rfl (o_callF (lmap_cons (by conv => lhs; whnf) (lmap_cons (by conv => lhs; whnf) lmap_nil)) (Ret.to (Ret.heap (markInt64S_ret _ _ _ _ _ (by first | ((with_reducible repeat (first | assumption | (apply lk_last; (try simp only [ll1, ll2, ll3, ll4, lls_len, lls2_len, markL_len]); omega) | apply lk_prev)); done) | repeat (first | assumption | exact lk_last (by (try simp only [ll1, ll2, ll3, ll4, lls_len, lls2_len, markL_len]); omega) | apply lk_prev)) (by first | rfl | exact upto_len | assumption | exact map_len | exact List.length_set | (rw [List.length_set]; assumption)) (by omega) (by omega)) (by with_reducible repeat (first | (apply set_last; (try simp only [ll1, ll2, ll3, ll4, lls_len, lls2_len, markL_len]); omega) | (apply set_step; (try simp only [ll1, ll2, ll3, ll4, lls_len, lls2_len, markL_len]); omega) | exact rfl))) ?_))
  refine a_do rfl (o_assign (by conv => lhs; whnf) ?_)
  refine a_end ?_
  refine awp_seq ?_
  refine awp_region rfl ?_
  refine a_do rfl (o_move (by conv => lhs; whnf) ?_)
  refine a_do rfl (o_assign (by conv => lhs; whnf) ?_)
  refine a_end ?_
  refine awp_ret ?_
  refine ⟨.inl rfl, [_], ⟨ares_tmp (by conv => lhs; whnf), trivial⟩, ?_⟩
  exact ⟨rfl, (by first | ((repeat (first | with_reducible exact Grown.refl _ | with_reducible apply Grown.push)); done) | repeat (first | exact Grown.refl _ | refine Grown.push ?_ _))⟩

set_option maxRecDepth 10000 in
theorem heldGame_ret (c p q : Int) (n m : Nat) (v w : Value) (h : AHeap) (hv : Ints h v (upto c n)) (hw : Ints h w (upto (c + n) m)) (hc : 0 ≤ c ∧ c ≤ 10000000) (hln : n ≤ 1048576) (hlm : m ≤ 1048576) : Ret Try.prog 49 [.agg #[i64 p, i64 q, v, w], i64 c] h (i64 (c + n + m)) h := by
  refine ret_of (.prim rfl) ?_
  refine tri_of_body Try.func49 rfl (by kernel_rfl) (by show 2 ≤ 18; decide) ?_
  refine awp_seq ?_
  refine awp_region rfl ?_
  refine a_do rfl (o_boxN (n := 4) (by conv => lhs; whnf) (by exact (rfl : _ = [_, _, _, _])) (by rfl) (fun k2 hk2 => ?_))
  try simp at hk2
  refine a_do rfl (o_assign (by conv => lhs; whnf) ?_)
  refine a_end ?_
  refine awp_seq ?_
  refine awp_region rfl ?_
  refine a_do rfl (o_fieldAddr Try.underlying55 rfl ty32 (by conv => lhs; whnf) (by with_reducible repeat (first | assumption | (apply lk_last; (try simp only [ll1, ll2, ll3, ll4, lls_len, lls2_len, markL_len]); omega) | apply lk_prev)) (by rfl) ?_)
  refine a_do rfl (o_load Try.underlying32 rfl (by conv => lhs; whnf) (by with_reducible repeat (first | assumption | (apply lk_last; (try simp only [ll1, ll2, ll3, ll4, lls_len, lls2_len, markL_len]); omega) | apply lk_prev)) (by rfl) (by rfl) ?_)
  refine a_do rfl (o_move (by conv => lhs; whnf) ?_)
  refine a_do rfl (o_callF (lmap_cons (by conv => lhs; whnf) (lmap_cons (by conv => lhs; whnf) lmap_nil)) (Ret.to (heldU_ret _ _ _ _ (by first | ((with_reducible repeat (first | assumption | apply Ints.app)); done) | repeat (first | with_reducible assumption | exact ints_nil | exact Ints.own (by with_reducible repeat (first | assumption | (apply lk_last; (try simp only [ll1, ll2, ll3, ll4, lls_len, lls2_len, markL_len]); omega) | apply lk_prev)) (by first | rfl | exact upto_len | assumption | exact map_len | exact List.length_set | (rw [List.length_set]; assumption)) | exact Ints.tail (by with_reducible repeat (first | assumption | (apply lk_last; (try simp only [ll1, ll2, ll3, ll4, lls_len, lls2_len, markL_len]); omega) | apply lk_prev)) (by first | rfl | exact upto_len | assumption | exact map_len | exact List.length_set | (rw [List.length_set]; assumption)) | with_reducible apply Ints.app | (refine Ints.sub (by with_reducible repeat (first | assumption | apply Ints.app)) (by omega) (by omega) (by omega)))) (by omega) (by omega)) ?_))
  refine a_do rfl (o_assign (by conv => lhs; whnf) ?_)
  refine a_end ?_
  refine awp_seq ?_
  refine awp_seq ?_
  refine awp_region rfl ?_
  refine a_do rfl (o_move (by conv => lhs; whnf) ?_)
  refine a_do rfl (o_lss (by conv => lhs; whnf) (by conv => lhs; whnf) (fun c3 => ?_) (fun c3 => ?_))
  ·
    exfalso; omega
  ·
    refine a_end ?_
    refine awp_condF (by conv => lhs; whnf) ?_
    refine awp_skip ?_
    refine awp_seq ?_
    refine awp_region rfl ?_
    refine a_do rfl (o_fieldAddr Try.underlying55 rfl ty32 (by conv => lhs; whnf) (by with_reducible repeat (first | assumption | (apply lk_last; (try simp only [ll1, ll2, ll3, ll4, lls_len, lls2_len, markL_len]); omega) | apply lk_prev)) (by rfl) ?_)
    refine a_do rfl (o_load Try.underlying32 rfl (by conv => lhs; whnf) (by with_reducible repeat (first | assumption | (apply lk_last; (try simp only [ll1, ll2, ll3, ll4, lls_len, lls2_len, markL_len]); omega) | apply lk_prev)) (by rfl) (by rfl) ?_)
    refine a_do rfl (o_move (by conv => lhs; whnf) ?_)
    refine a_do rfl (o_callF (lmap_cons (by conv => lhs; whnf) (lmap_cons (by conv => lhs; whnf) lmap_nil)) (Ret.to (heldU_ret _ _ _ _ (by first | ((with_reducible repeat (first | assumption | apply Ints.app)); done) | repeat (first | with_reducible assumption | exact ints_nil | exact Ints.own (by with_reducible repeat (first | assumption | (apply lk_last; (try simp only [ll1, ll2, ll3, ll4, lls_len, lls2_len, markL_len]); omega) | apply lk_prev)) (by first | rfl | exact upto_len | assumption | exact map_len | exact List.length_set | (rw [List.length_set]; assumption)) | exact Ints.tail (by with_reducible repeat (first | assumption | (apply lk_last; (try simp only [ll1, ll2, ll3, ll4, lls_len, lls2_len, markL_len]); omega) | apply lk_prev)) (by first | rfl | exact upto_len | assumption | exact map_len | exact List.length_set | (rw [List.length_set]; assumption)) | with_reducible apply Ints.app | (refine Ints.sub (by with_reducible repeat (first | assumption | apply Ints.app)) (by omega) (by omega) (by omega)))) (by omega) (by omega)) ?_))
    refine a_do rfl (o_assign (by conv => lhs; whnf) ?_)
    refine a_end ?_
    refine awp_seq ?_
    refine awp_seq ?_
    refine awp_region rfl ?_
    refine a_do rfl (o_move (by conv => lhs; whnf) ?_)
    refine a_do rfl (o_lss (by conv => lhs; whnf) (by conv => lhs; whnf) (fun c4 => ?_) (fun c4 => ?_))
    ·
      exfalso; omega
    ·
      refine a_end ?_
      refine awp_condF (by conv => lhs; whnf) ?_
      refine awp_skip ?_
      refine awp_seq ?_
      refine awp_region rfl ?_
      refine a_do rfl (o_move (by conv => lhs; whnf) ?_)
      refine a_do rfl (o_assign (by conv => lhs; whnf) ?_)
      refine a_end ?_
      refine awp_ret ?_
      refine ⟨.inl rfl, [_], ⟨ares_tmp (by conv => lhs; whnf), trivial⟩, ?_⟩
      exact ⟨rfl, (by first | ((repeat (first | with_reducible exact Grown.refl _ | with_reducible apply Grown.push)); done) | repeat (first | exact Grown.refl _ | refine Grown.push ?_ _))⟩

set_option maxRecDepth 10000 in
theorem markGN_ret (c p q : Int) (h : AHeap) (hc : 0 ≤ c ∧ c ≤ 10000000) : Ret Try.prog 48 [.agg #[i64 p, i64 q, .slice none 0 0, .slice none 0 0], i64 c] h (i64 c) h := by
  refine ret_of (.prim rfl) ?_
  refine tri_of_body Try.func48 rfl (by kernel_rfl) (by show 2 ≤ 14; decide) ?_
  refine awp_seq ?_
  refine awp_region rfl ?_
  refine a_do rfl (o_boxN (n := 4) (by conv => lhs; whnf) (by exact (rfl : _ = [_, _, _, _])) (by rfl) (fun k2 hk2 => ?_))
  try simp at hk2
  refine a_do rfl (o_assign (by conv => lhs; whnf) ?_)
  refine a_end ?_
  refine awp_seq ?_
  refine awp_region rfl ?_
  refine a_do rfl (o_fieldAddr Try.underlying55 rfl ty32 (by conv => lhs; whnf) (by with_reducible repeat (first | assumption | (apply lk_last; (try simp only [ll1, ll2, ll3, ll4, lls_len, lls2_len, markL_len]); omega) | apply lk_prev)) (by rfl) ?_)
  refine a_do rfl (o_load Try.underlying32 rfl (by conv => lhs; whnf) (by with_reducible repeat (first | assumption | (apply lk_last; (try simp only [ll1, ll2, ll3, ll4, lls_len, lls2_len, markL_len]); omega) | apply lk_prev)) (by rfl) (by rfl) ?_)
  refine a_do rfl (o_move (by conv => lhs; whnf) ?_)
  refine a_do rfl (o_callF (lmap_cons (by conv => lhs; whnf) (lmap_cons (by conv => lhs; whnf) lmap_nil)) (Ret.to (markNil_ret _ _ (by omega)) ?_))
  refine a_do rfl (o_assign (by conv => lhs; whnf) ?_)
  refine a_end ?_
  refine awp_seq ?_
  refine awp_region rfl ?_
  refine a_do rfl (o_fieldAddr Try.underlying55 rfl ty32 (by conv => lhs; whnf) (by with_reducible repeat (first | assumption | (apply lk_last; (try simp only [ll1, ll2, ll3, ll4, lls_len, lls2_len, markL_len]); omega) | apply lk_prev)) (by rfl) ?_)
  refine a_do rfl (o_load Try.underlying32 rfl (by conv => lhs; whnf) (by with_reducible repeat (first | assumption | (apply lk_last; (try simp only [ll1, ll2, ll3, ll4, lls_len, lls2_len, markL_len]); omega) | apply lk_prev)) (by rfl) (by rfl) ?_)
  refine a_do rfl (o_move (by conv => lhs; whnf) ?_)
  refine a_do rfl (o_callF (lmap_cons (by conv => lhs; whnf) (lmap_cons (by conv => lhs; whnf) lmap_nil)) (Ret.to (markNil_ret _ _ (by omega)) ?_))
  refine a_do rfl (o_assign (by conv => lhs; whnf) ?_)
  refine a_end ?_
  refine awp_seq ?_
  refine awp_region rfl ?_
  refine a_do rfl (o_move (by conv => lhs; whnf) ?_)
  refine a_do rfl (o_assign (by conv => lhs; whnf) ?_)
  refine a_end ?_
  refine awp_ret ?_
  refine ⟨.inl rfl, [_], ⟨ares_tmp (by conv => lhs; whnf), trivial⟩, ?_⟩
  exact ⟨rfl, (by first | ((repeat (first | with_reducible exact Grown.refl _ | with_reducible apply Grown.push)); done) | repeat (first | exact Grown.refl _ | refine Grown.push ?_ _))⟩

set_option maxRecDepth 10000 in
theorem heldGN_ret (c p q : Int) (h : AHeap) (hc : 0 ≤ c ∧ c ≤ 10000000) : Ret Try.prog 49 [.agg #[i64 p, i64 q, .slice none 0 0, .slice none 0 0], i64 c] h (i64 c) h := by
  refine ret_of (.prim rfl) ?_
  refine tri_of_body Try.func49 rfl (by kernel_rfl) (by show 2 ≤ 18; decide) ?_
  refine awp_seq ?_
  refine awp_region rfl ?_
  refine a_do rfl (o_boxN (n := 4) (by conv => lhs; whnf) (by exact (rfl : _ = [_, _, _, _])) (by rfl) (fun k2 hk2 => ?_))
  try simp at hk2
  refine a_do rfl (o_assign (by conv => lhs; whnf) ?_)
  refine a_end ?_
  refine awp_seq ?_
  refine awp_region rfl ?_
  refine a_do rfl (o_fieldAddr Try.underlying55 rfl ty32 (by conv => lhs; whnf) (by with_reducible repeat (first | assumption | (apply lk_last; (try simp only [ll1, ll2, ll3, ll4, lls_len, lls2_len, markL_len]); omega) | apply lk_prev)) (by rfl) ?_)
  refine a_do rfl (o_load Try.underlying32 rfl (by conv => lhs; whnf) (by with_reducible repeat (first | assumption | (apply lk_last; (try simp only [ll1, ll2, ll3, ll4, lls_len, lls2_len, markL_len]); omega) | apply lk_prev)) (by rfl) (by rfl) ?_)
  refine a_do rfl (o_move (by conv => lhs; whnf) ?_)
  refine a_do rfl (o_callF (lmap_cons (by conv => lhs; whnf) (lmap_cons (by conv => lhs; whnf) lmap_nil)) (Ret.to (heldNil_ret _ _ (by omega)) ?_))
  refine a_do rfl (o_assign (by conv => lhs; whnf) ?_)
  refine a_end ?_
  refine awp_seq ?_
  refine awp_seq ?_
  refine awp_region rfl ?_
  refine a_do rfl (o_move (by conv => lhs; whnf) ?_)
  refine a_do rfl (o_lss (by conv => lhs; whnf) (by conv => lhs; whnf) (fun c3 => ?_) (fun c3 => ?_))
  ·
    exfalso; omega
  ·
    refine a_end ?_
    refine awp_condF (by conv => lhs; whnf) ?_
    refine awp_skip ?_
    refine awp_seq ?_
    refine awp_region rfl ?_
    refine a_do rfl (o_fieldAddr Try.underlying55 rfl ty32 (by conv => lhs; whnf) (by with_reducible repeat (first | assumption | (apply lk_last; (try simp only [ll1, ll2, ll3, ll4, lls_len, lls2_len, markL_len]); omega) | apply lk_prev)) (by rfl) ?_)
    refine a_do rfl (o_load Try.underlying32 rfl (by conv => lhs; whnf) (by with_reducible repeat (first | assumption | (apply lk_last; (try simp only [ll1, ll2, ll3, ll4, lls_len, lls2_len, markL_len]); omega) | apply lk_prev)) (by rfl) (by rfl) ?_)
    refine a_do rfl (o_move (by conv => lhs; whnf) ?_)
    refine a_do rfl (o_callF (lmap_cons (by conv => lhs; whnf) (lmap_cons (by conv => lhs; whnf) lmap_nil)) (Ret.to (heldNil_ret _ _ (by omega)) ?_))
    refine a_do rfl (o_assign (by conv => lhs; whnf) ?_)
    refine a_end ?_
    refine awp_seq ?_
    refine awp_seq ?_
    refine awp_region rfl ?_
    refine a_do rfl (o_move (by conv => lhs; whnf) ?_)
    refine a_do rfl (o_lss (by conv => lhs; whnf) (by conv => lhs; whnf) (fun c4 => ?_) (fun c4 => ?_))
    ·
      exfalso; omega
    ·
      refine a_end ?_
      refine awp_condF (by conv => lhs; whnf) ?_
      refine awp_skip ?_
      refine awp_seq ?_
      refine awp_region rfl ?_
      refine a_do rfl (o_move (by conv => lhs; whnf) ?_)
      refine a_do rfl (o_assign (by conv => lhs; whnf) ?_)
      refine a_end ?_
      refine awp_ret ?_
      refine ⟨.inl rfl, [_], ⟨ares_tmp (by conv => lhs; whnf), trivial⟩, ?_⟩
      exact ⟨rfl, (by first | ((repeat (first | with_reducible exact Grown.refl _ | with_reducible apply Grown.push)); done) | repeat (first | exact Grown.refl _ | refine Grown.push ?_ _))⟩

set_option maxRecDepth 10000 in
theorem isSide_ret (n : Int) (h : AHeap) : Ret Try.prog 112 [i64 n] h (.bool (decide (1 ≤ n ∧ n ≤ 6))) h := by
  refine ret_of (.prim rfl) ?_
  refine tri_of_body Try.func112 rfl (by kernel_rfl) (by show 1 ≤ 5; decide) ?_
  refine awp_seq ?_
  refine awp_region rfl ?_
  refine a_do rfl (o_assign (by conv => lhs; whnf) ?_)
  refine a_end ?_
  refine awp_seq ?_
  refine awp_region rfl ?_
  refine a_do rfl (o_move (by conv => lhs; whnf) ?_)
  refine a_do rfl (o_callF (lmap_cons (by conv => lhs; whnf) (lmap_cons (by conv => lhs; whnf) (lmap_cons (by conv => lhs; whnf) lmap_nil))) (Ret.toB (within_ret _ _ _ _) (fun c1 => ?_) (fun c1 => ?_)))
  ·
    refine a_do rfl (o_assign (by conv => lhs; whnf) ?_)
    refine a_end ?_
    refine awp_ret ?_
    refine ⟨.inl rfl, [_], ⟨ares_tmp (by conv => lhs; whnf), trivial⟩, ?_⟩
    exact ⟨by first | rfl | (simp only [packR_one, *]; done) | (simp only [packR_one, *]; rfl) | (simp [*]; done) | (simp_all; done), (by first | ((repeat (first | with_reducible exact Grown.refl _ | with_reducible apply Grown.push)); done) | repeat (first | exact Grown.refl _ | refine Grown.push ?_ _))⟩
  ·
    refine a_do rfl (o_assign (by conv => lhs; whnf) ?_)
    refine a_end ?_
    refine awp_ret ?_
    refine ⟨.inl rfl, [_], ⟨ares_tmp (by conv => lhs; whnf), trivial⟩, ?_⟩
    exact ⟨by first | rfl | (simp only [packR_one, *]; done) | (simp only [packR_one, *]; rfl) | (simp [*]; done) | (simp_all; done), (by first | ((repeat (first | with_reducible exact Grown.refl _ | with_reducible apply Grown.push)); done) | repeat (first | exact Grown.refl _ | refine Grown.push ?_ _))⟩

set_option maxRecDepth 10000 in
theorem isGains_ret (p q : Int) (xs : List Int) (v : Value) (h : AHeap) (hv : Ints h v xs) (hl : xs.length ≤ 1073741824) (hp : 1 ≤ p ∧ p ≤ 6) (hq : 1 ≤ q ∧ q ≤ 6) : Ret Try.prog 113 [v, i64 p, i64 q] h (.bool (gainB (p * q) xs)) h := by
  refine ret_of (.prim rfl) ?_
  have hpq := mul_bound (p := p) (q := q) (a := 6) (b := 6) (by omega) (by omega)
  refine tri_of_body Try.func113 rfl (by kernel_rfl) (by show 3 ≤ 15; decide) ?_
  refine awp_seq ?_
  refine awp_region rfl ?_
  refine a_do rfl (o_assign (by conv => lhs; whnf) ?_)
  refine a_end ?_
  refine awp_seq ?_
  refine awp_region rfl ?_
  refine a_do rfl (o_move (by conv => lhs; whnf) ?_)
  refine a_do rfl (o_move (by conv => lhs; whnf) ?_)
  refine a_do rfl (o_move (by conv => lhs; whnf) ?_)
  refine a_do rfl (o_mul (by conv => lhs; whnf) (by conv => lhs; whnf) (by omega) (by omega) ?_)
  refine a_do rfl (o_move (by conv => lhs; whnf) ?_)
  refine a_do rfl (o_move (by conv => lhs; whnf) ?_)
  refine a_do rfl (o_mul (by conv => lhs; whnf) (by conv => lhs; whnf) (by omega) (by omega) ?_)
  refine a_do rfl (o_callF (lmap_cons (by conv => lhs; whnf) (lmap_cons (by conv => lhs; whnf) (lmap_cons (by conv => lhs; whnf) (lmap_cons (by conv => lhs; whnf) (lmap_cons (by conv => lhs; whnf) lmap_nil))))) (Ret.toB (areMany_ret _ _ _ _ _ _ _ (by first | ((with_reducible repeat (first | assumption | apply Ints.app)); done) | repeat (first | with_reducible assumption | exact ints_nil | exact Ints.own (by with_reducible repeat (first | assumption | (apply lk_last; (try simp only [ll1, ll2, ll3, ll4, lls_len, lls2_len, markL_len]); omega) | apply lk_prev)) (by first | rfl | exact upto_len | assumption | exact map_len | exact List.length_set | (rw [List.length_set]; assumption)) | exact Ints.tail (by with_reducible repeat (first | assumption | (apply lk_last; (try simp only [ll1, ll2, ll3, ll4, lls_len, lls2_len, markL_len]); omega) | apply lk_prev)) (by first | rfl | exact upto_len | assumption | exact map_len | exact List.length_set | (rw [List.length_set]; assumption)) | with_reducible apply Ints.app | (refine Ints.sub (by with_reducible repeat (first | assumption | apply Ints.app)) (by omega) (by omega) (by omega)))) (by omega)) (fun c1 => ?_) (fun c1 => ?_)))
  ·
    refine a_do rfl (o_assign (by conv => lhs; whnf) ?_)
    refine a_end ?_
    refine awp_ret ?_
    refine ⟨.inl rfl, [_], ⟨ares_tmp (by conv => lhs; whnf), trivial⟩, ?_⟩
    exact ⟨by first | rfl | (simp only [packR_one, gainB, *]; done) | (simp_all [gainB]; done), (by first | ((repeat (first | with_reducible exact Grown.refl _ | with_reducible apply Grown.push)); done) | repeat (first | exact Grown.refl _ | refine Grown.push ?_ _))⟩
  ·
    refine a_do rfl (o_assign (by conv => lhs; whnf) ?_)
    refine a_end ?_
    refine awp_ret ?_
    refine ⟨.inl rfl, [_], ⟨ares_tmp (by conv => lhs; whnf), trivial⟩, ?_⟩
    exact ⟨by first | rfl | (simp only [packR_one, gainB, *]; done) | (simp_all [gainB]; done), (by first | ((repeat (first | with_reducible exact Grown.refl _ | with_reducible apply Grown.push)); done) | repeat (first | exact Grown.refl _ | refine Grown.push ?_ _))⟩

set_option maxRecDepth 10000 in
theorem implValidGame_ret (p q : Int) (xs ys : List Int) (v w : Value) (h : AHeap) (hv : Ints h v xs) (hw : Ints h w ys) (hl : xs.length ≤ 1073741824) (hl2 : ys.length ≤ 1073741824) : Ret Try.prog 86 [.agg #[i64 p, i64 q, v, w]] h (.bool (validG p q xs ys)) h := by
  refine ret_of (.prim rfl) ?_
  refine tri_of_body Try.func86 rfl (by kernel_rfl) (by show 1 ≤ 29; decide) ?_
  refine awp_seq ?_
  refine awp_region rfl ?_
  refine a_do rfl (o_boxN (n := 4) (by conv => lhs; whnf) (by exact (rfl : _ = [_, _, _, _])) (by rfl) (fun k2 hk2 => ?_))
  try simp at hk2
  refine a_do rfl (o_assign (by conv => lhs; whnf) ?_)
  refine a_end ?_
  refine awp_seq ?_
  refine awp_region rfl ?_
  refine a_do rfl (o_fieldAddr Try.underlying55 rfl ty2 (by conv => lhs; whnf) (by with_reducible repeat (first | assumption | (apply lk_last; (try simp only [ll1, ll2, ll3, ll4, lls_len, lls2_len, markL_len]); omega) | apply lk_prev)) (by rfl) ?_)
  refine a_do rfl (o_load Try.underlying2 rfl (by conv => lhs; whnf) (by with_reducible repeat (first | assumption | (apply lk_last; (try simp only [ll1, ll2, ll3, ll4, lls_len, lls2_len, markL_len]); omega) | apply lk_prev)) (by rfl) (by rfl) ?_)
  refine a_do rfl (o_callF (lmap_cons (by conv => lhs; whnf) lmap_nil) (Ret.toB (isSide_ret _ _) (fun c3 => ?_) (fun c3 => ?_)))
  ·
    have hp := of_decide_eq_true c3
    refine a_do rfl (o_move (by conv => lhs; whnf) ?_)
    refine a_do rfl (o_fieldAddr Try.underlying55 rfl ty2 (by conv => lhs; whnf) (by with_reducible repeat (first | assumption | (apply lk_last; (try simp only [ll1, ll2, ll3, ll4, lls_len, lls2_len, markL_len]); omega) | apply lk_prev)) (by rfl) ?_)
    refine a_do rfl (o_load Try.underlying2 rfl (by conv => lhs; whnf) (by with_reducible repeat (first | assumption | (apply lk_last; (try simp only [ll1, ll2, ll3, ll4, lls_len, lls2_len, markL_len]); omega) | apply lk_prev)) (by rfl) (by rfl) ?_)
    refine a_do rfl (o_callF (lmap_cons (by conv => lhs; whnf) lmap_nil) (Ret.toB (isSide_ret _ _) (fun c4 => ?_) (fun c4 => ?_)))
    ·
      have hq := of_decide_eq_true c4
      refine a_do rfl (o_pickT (by conv => lhs; whnf) (by conv => lhs; whnf) ?_)
      refine a_do rfl (o_move (by conv => lhs; whnf) ?_)
      refine a_do rfl (o_fieldAddr Try.underlying55 rfl ty32 (by conv => lhs; whnf) (by with_reducible repeat (first | assumption | (apply lk_last; (try simp only [ll1, ll2, ll3, ll4, lls_len, lls2_len, markL_len]); omega) | apply lk_prev)) (by rfl) ?_)
      refine a_do rfl (o_load Try.underlying32 rfl (by conv => lhs; whnf) (by with_reducible repeat (first | assumption | (apply lk_last; (try simp only [ll1, ll2, ll3, ll4, lls_len, lls2_len, markL_len]); omega) | apply lk_prev)) (by rfl) (by rfl) ?_)
      refine a_do rfl (o_fieldAddr Try.underlying55 rfl ty2 (by conv => lhs; whnf) (by with_reducible repeat (first | assumption | (apply lk_last; (try simp only [ll1, ll2, ll3, ll4, lls_len, lls2_len, markL_len]); omega) | apply lk_prev)) (by rfl) ?_)
      refine a_do rfl (o_load Try.underlying2 rfl (by conv => lhs; whnf) (by with_reducible repeat (first | assumption | (apply lk_last; (try simp only [ll1, ll2, ll3, ll4, lls_len, lls2_len, markL_len]); omega) | apply lk_prev)) (by rfl) (by rfl) ?_)
      refine a_do rfl (o_fieldAddr Try.underlying55 rfl ty2 (by conv => lhs; whnf) (by with_reducible repeat (first | assumption | (apply lk_last; (try simp only [ll1, ll2, ll3, ll4, lls_len, lls2_len, markL_len]); omega) | apply lk_prev)) (by rfl) ?_)
      refine a_do rfl (o_load Try.underlying2 rfl (by conv => lhs; whnf) (by with_reducible repeat (first | assumption | (apply lk_last; (try simp only [ll1, ll2, ll3, ll4, lls_len, lls2_len, markL_len]); omega) | apply lk_prev)) (by rfl) (by rfl) ?_)
      refine a_do rfl (o_callF (lmap_cons (by conv => lhs; whnf) (lmap_cons (by conv => lhs; whnf) (lmap_cons (by conv => lhs; whnf) lmap_nil))) (Ret.toB (isGains_ret _ _ _ _ _ (by first | ((with_reducible repeat (first | assumption | apply Ints.app)); done) | repeat (first | with_reducible assumption | exact ints_nil | exact Ints.own (by with_reducible repeat (first | assumption | (apply lk_last; (try simp only [ll1, ll2, ll3, ll4, lls_len, lls2_len, markL_len]); omega) | apply lk_prev)) (by first | rfl | exact upto_len | assumption | exact map_len | exact List.length_set | (rw [List.length_set]; assumption)) | exact Ints.tail (by with_reducible repeat (first | assumption | (apply lk_last; (try simp only [ll1, ll2, ll3, ll4, lls_len, lls2_len, markL_len]); omega) | apply lk_prev)) (by first | rfl | exact upto_len | assumption | exact map_len | exact List.length_set | (rw [List.length_set]; assumption)) | with_reducible apply Ints.app | (refine Ints.sub (by with_reducible repeat (first | assumption | apply Ints.app)) (by omega) (by omega) (by omega)))) (by omega) (by omega) (by omega)) (fun c5 => ?_) (fun c5 => ?_)))
      ·
        refine a_do rfl (o_pickT (by conv => lhs; whnf) (by conv => lhs; whnf) ?_)
        refine a_do rfl (o_move (by conv => lhs; whnf) ?_)
        refine a_do rfl (o_fieldAddr Try.underlying55 rfl ty32 (by conv => lhs; whnf) (by with_reducible repeat (first | assumption | (apply lk_last; (try simp only [ll1, ll2, ll3, ll4, lls_len, lls2_len, markL_len]); omega) | apply lk_prev)) (by rfl) ?_)
        refine a_do rfl (o_load Try.underlying32 rfl (by conv => lhs; whnf) (by with_reducible repeat (first | assumption | (apply lk_last; (try simp only [ll1, ll2, ll3, ll4, lls_len, lls2_len, markL_len]); omega) | apply lk_prev)) (by rfl) (by rfl) ?_)
        refine a_do rfl (o_fieldAddr Try.underlying55 rfl ty2 (by conv => lhs; whnf) (by with_reducible repeat (first | assumption | (apply lk_last; (try simp only [ll1, ll2, ll3, ll4, lls_len, lls2_len, markL_len]); omega) | apply lk_prev)) (by rfl) ?_)
        refine a_do rfl (o_load Try.underlying2 rfl (by conv => lhs; whnf) (by with_reducible repeat (first | assumption | (apply lk_last; (try simp only [ll1, ll2, ll3, ll4, lls_len, lls2_len, markL_len]); omega) | apply lk_prev)) (by rfl) (by rfl) ?_)
        refine a_do rfl (o_fieldAddr Try.underlying55 rfl ty2 (by conv => lhs; whnf) (by with_reducible repeat (first | assumption | (apply lk_last; (try simp only [ll1, ll2, ll3, ll4, lls_len, lls2_len, markL_len]); omega) | apply lk_prev)) (by rfl) ?_)
        refine a_do rfl (o_load Try.underlying2 rfl (by conv => lhs; whnf) (by with_reducible repeat (first | assumption | (apply lk_last; (try simp only [ll1, ll2, ll3, ll4, lls_len, lls2_len, markL_len]); omega) | apply lk_prev)) (by rfl) (by rfl) ?_)
        refine a_do rfl (o_callF (lmap_cons (by conv => lhs; whnf) (lmap_cons (by conv => lhs; whnf) (lmap_cons (by conv => lhs; whnf) lmap_nil))) (Ret.toB (isGains_ret _ _ _ _ _ (by first | ((with_reducible repeat (first | assumption | apply Ints.app)); done) | repeat (first | with_reducible assumption | exact ints_nil | exact Ints.own (by with_reducible repeat (first | assumption | (apply lk_last; (try simp only [ll1, ll2, ll3, ll4, lls_len, lls2_len, markL_len]); omega) | apply lk_prev)) (by first | rfl | exact upto_len | assumption | exact map_len | exact List.length_set | (rw [List.length_set]; assumption)) | exact Ints.tail (by with_reducible repeat (first | assumption | (apply lk_last; (try simp only [ll1, ll2, ll3, ll4, lls_len, lls2_len, markL_len]); omega) | apply lk_prev)) (by first | rfl | exact upto_len | assumption | exact map_len | exact List.length_set | (rw [List.length_set]; assumption)) | with_reducible apply Ints.app | (refine Ints.sub (by with_reducible repeat (first | assumption | apply Ints.app)) (by omega) (by omega) (by omega)))) (by omega) (by omega) (by omega)) (fun c6 => ?_) (fun c6 => ?_)))
        ·
          refine a_do rfl (o_pickT (by conv => lhs; whnf) (by conv => lhs; whnf) ?_)
          refine a_do rfl (o_assign (by conv => lhs; whnf) ?_)
          refine a_end ?_
          refine awp_ret ?_
          refine ⟨.inl rfl, [_], ⟨ares_tmp (by conv => lhs; whnf), trivial⟩, ?_⟩
          exact ⟨congrArg Value.bool (by first | (simp_all [validG]; done) | (rw [validG, ‹decide (1 ≤ p ∧ p ≤ 6) = false›]; rfl) | (rw [validG, ‹decide (1 ≤ q ∧ q ≤ 6) = false›]; simp)), (by first | ((repeat (first | with_reducible exact Grown.refl _ | with_reducible apply Grown.push)); done) | repeat (first | exact Grown.refl _ | refine Grown.push ?_ _))⟩
        ·
          refine a_do rfl (o_pickT (by conv => lhs; whnf) (by conv => lhs; whnf) ?_)
          refine a_do rfl (o_assign (by conv => lhs; whnf) ?_)
          refine a_end ?_
          refine awp_ret ?_
          refine ⟨.inl rfl, [_], ⟨ares_tmp (by conv => lhs; whnf), trivial⟩, ?_⟩
          exact ⟨congrArg Value.bool (by first | (simp_all [validG]; done) | (rw [validG, ‹decide (1 ≤ p ∧ p ≤ 6) = false›]; rfl) | (rw [validG, ‹decide (1 ≤ q ∧ q ≤ 6) = false›]; simp)), (by first | ((repeat (first | with_reducible exact Grown.refl _ | with_reducible apply Grown.push)); done) | repeat (first | exact Grown.refl _ | refine Grown.push ?_ _))⟩
      ·
        refine a_do rfl (o_pickT (by conv => lhs; whnf) (by conv => lhs; whnf) ?_)
        refine a_do rfl (o_move (by conv => lhs; whnf) ?_)
        refine a_no rfl ?_
        refine a_no rfl ?_
        refine a_no rfl ?_
        refine a_no rfl ?_
        refine a_no rfl ?_
        refine a_no rfl ?_
        refine a_no rfl ?_
        refine a_do rfl (o_pickF (by conv => lhs; whnf) (by conv => lhs; whnf) ?_)
        refine a_do rfl (o_assign (by conv => lhs; whnf) ?_)
        refine a_end ?_
        refine awp_ret ?_
        refine ⟨.inl rfl, [_], ⟨ares_tmp (by conv => lhs; whnf), trivial⟩, ?_⟩
        exact ⟨congrArg Value.bool (by first | (simp_all [validG]; done) | (rw [validG, ‹decide (1 ≤ p ∧ p ≤ 6) = false›]; rfl) | (rw [validG, ‹decide (1 ≤ q ∧ q ≤ 6) = false›]; simp)), (by first | ((repeat (first | with_reducible exact Grown.refl _ | with_reducible apply Grown.push)); done) | repeat (first | exact Grown.refl _ | refine Grown.push ?_ _))⟩
    ·
      refine a_do rfl (o_pickT (by conv => lhs; whnf) (by conv => lhs; whnf) ?_)
      refine a_do rfl (o_move (by conv => lhs; whnf) ?_)
      refine a_no rfl ?_
      refine a_no rfl ?_
      refine a_no rfl ?_
      refine a_no rfl ?_
      refine a_no rfl ?_
      refine a_no rfl ?_
      refine a_no rfl ?_
      refine a_do rfl (o_pickF (by conv => lhs; whnf) (by conv => lhs; whnf) ?_)
      refine a_do rfl (o_move (by conv => lhs; whnf) ?_)
      refine a_no rfl ?_
      refine a_no rfl ?_
      refine a_no rfl ?_
      refine a_no rfl ?_
      refine a_no rfl ?_
      refine a_no rfl ?_
      refine a_no rfl ?_
      refine a_do rfl (o_pickF (by conv => lhs; whnf) (by conv => lhs; whnf) ?_)
      refine a_do rfl (o_assign (by conv => lhs; whnf) ?_)
      refine a_end ?_
      refine awp_ret ?_
      refine ⟨.inl rfl, [_], ⟨ares_tmp (by conv => lhs; whnf), trivial⟩, ?_⟩
      exact ⟨congrArg Value.bool (by first | (simp_all [validG]; done) | (rw [validG, ‹decide (1 ≤ p ∧ p ≤ 6) = false›]; rfl) | (rw [validG, ‹decide (1 ≤ q ∧ q ≤ 6) = false›]; simp)), (by first | ((repeat (first | with_reducible exact Grown.refl _ | with_reducible apply Grown.push)); done) | repeat (first | exact Grown.refl _ | refine Grown.push ?_ _))⟩
  ·
    refine a_do rfl (o_move (by conv => lhs; whnf) ?_)
    refine a_no rfl ?_
    refine a_no rfl ?_
    refine a_no rfl ?_
    refine a_do rfl (o_pickF (by conv => lhs; whnf) (by conv => lhs; whnf) ?_)
    refine a_do rfl (o_move (by conv => lhs; whnf) ?_)
    refine a_no rfl ?_
    refine a_no rfl ?_
    refine a_no rfl ?_
    refine a_no rfl ?_
    refine a_no rfl ?_
    refine a_no rfl ?_
    refine a_no rfl ?_
    refine a_do rfl (o_pickF (by conv => lhs; whnf) (by conv => lhs; whnf) ?_)
    refine a_do rfl (o_move (by conv => lhs; whnf) ?_)
    refine a_no rfl ?_
    refine a_no rfl ?_
    refine a_no rfl ?_
    refine a_no rfl ?_
    refine a_no rfl ?_
    refine a_no rfl ?_
    refine a_no rfl ?_
    refine a_do rfl (o_pickF (by conv => lhs; whnf) (by conv => lhs; whnf) ?_)
    refine a_do rfl (o_assign (by conv => lhs; whnf) ?_)
    refine a_end ?_
    refine awp_ret ?_
    refine ⟨.inl rfl, [_], ⟨ares_tmp (by conv => lhs; whnf), trivial⟩, ?_⟩
    exact ⟨congrArg Value.bool (by first | (simp_all [validG]; done) | (rw [validG, ‹decide (1 ≤ p ∧ p ≤ 6) = false›]; rfl) | (rw [validG, ‹decide (1 ≤ q ∧ q ≤ 6) = false›]; simp)), (by first | ((repeat (first | with_reducible exact Grown.refl _ | with_reducible apply Grown.push)); done) | repeat (first | exact Grown.refl _ | refine Grown.push ?_ _))⟩

set_option maxRecDepth 10000 in
theorem l02Gains_ret (n : Int) (xs : List Int) (v : Value) (h : AHeap) (hv : Ints h v xs) (hl : xs.length ≤ 1073741824) : Ret Try.prog 111 [v, i64 n] h (.bool (gainB n xs)) h := by
  refine ret_of (.prim rfl) ?_
  refine tri_of_body Try.func111 rfl (by kernel_rfl) (by show 2 ≤ 22; decide) ?_
  refine awp_seq ?_
  refine awp_region rfl ?_
  refine a_do rfl (o_assign (by conv => lhs; whnf) ?_)
  refine a_end ?_
  refine awp_seq ?_
  refine awp_seq ?_
  refine awp_region rfl ?_
  refine a_do rfl (o_assign (by conv => lhs; whnf) ?_)
  refine a_end ?_
  refine awp_block ?_
  refine awp_loop (σ := Nat) (fun s env1 h1 => Slots env1 [(0, v), (1, i64 n), (5, i64 s)] ∧ h1 = h ∧ s ≤ xs.length ∧ (xs.take s).all (fun x => decide (-1000 ≤ x ∧ x ≤ 1000)) = true) (fun s => xs.length - s) 0 ?_ ?_
  · refine ⟨Slots.mk ⟨?_, ?_, ?_, trivial⟩, ?_, ?_⟩
    all_goals first | rfl | (simp; done) | exact ⟨by omega, rfl⟩
  · intro s env1 h1 hI1
    obtain ⟨⟨e1, rfl⟩, hkeep, ⟨hs, ha⟩⟩ := hI1
    obtain rfl := hkeep.symm
    refine awp_seq ?_
    refine awp_seq ?_
    refine awp_region rfl ?_
    refine a_do rfl (o_move (by conv => lhs; whnf) ?_)
    refine a_do rfl (o_move (by conv => lhs; whnf) ?_)
    refine a_do rfl (o_lenI Try.underlying32 (by conv => lhs; whnf) (by first | ((with_reducible repeat (first | assumption | apply Ints.app)); done) | repeat (first | with_reducible assumption | exact ints_nil | exact Ints.own (by with_reducible repeat (first | assumption | (apply lk_last; (try simp only [ll1, ll2, ll3, ll4, lls_len, lls2_len, markL_len]); omega) | apply lk_prev)) (by first | rfl | exact upto_len | assumption | exact map_len | exact List.length_set | (rw [List.length_set]; assumption)) | exact Ints.tail (by with_reducible repeat (first | assumption | (apply lk_last; (try simp only [ll1, ll2, ll3, ll4, lls_len, lls2_len, markL_len]); omega) | apply lk_prev)) (by first | rfl | exact upto_len | assumption | exact map_len | exact List.length_set | (rw [List.length_set]; assumption)) | with_reducible apply Ints.app | (refine Ints.sub (by with_reducible repeat (first | assumption | apply Ints.app)) (by omega) (by omega) (by omega)))) ?_)
    refine a_do rfl (o_lss (by conv => lhs; whnf) (by conv => lhs; whnf) (fun c1 => ?_) (fun c1 => ?_))
    ·
      refine a_end ?_
      refine awp_condT (by conv => lhs; whnf) ?_
      refine awp_skip ?_
      refine awp_seq ?_
      refine awp_block ?_
      refine awp_seq ?_
      refine awp_region rfl ?_
      refine a_do rfl (o_move (by conv => lhs; whnf) ?_)
      refine a_do rfl (o_move (by conv => lhs; whnf) ?_)
      first | refine a_do rfl (o_indexI Try.underlying32 ty2 (by conv => lhs; whnf) (by first | ((with_reducible repeat (first | assumption | apply Ints.app)); done) | repeat (first | with_reducible assumption | exact ints_nil | exact Ints.own (by with_reducible repeat (first | assumption | (apply lk_last; (try simp only [ll1, ll2, ll3, ll4, lls_len, lls2_len, markL_len]); omega) | apply lk_prev)) (by first | rfl | exact upto_len | assumption | exact map_len | exact List.length_set | (rw [List.length_set]; assumption)) | exact Ints.tail (by with_reducible repeat (first | assumption | (apply lk_last; (try simp only [ll1, ll2, ll3, ll4, lls_len, lls2_len, markL_len]); omega) | apply lk_prev)) (by first | rfl | exact upto_len | assumption | exact map_len | exact List.length_set | (rw [List.length_set]; assumption)) | with_reducible apply Ints.app | (refine Ints.sub (by with_reducible repeat (first | assumption | apply Ints.app)) (by omega) (by omega) (by omega)))) (by conv => lhs; whnf) (by omega) (fun p2 hp2 => ?_)) | refine a_do rfl (o_indexZ Try.underlying32 ty2 (by conv => lhs; whnf) (by first | ((with_reducible repeat (first | assumption | apply Ints.app)); done) | repeat (first | with_reducible assumption | exact ints_nil | exact Ints.own (by with_reducible repeat (first | assumption | (apply lk_last; (try simp only [ll1, ll2, ll3, ll4, lls_len, lls2_len, markL_len]); omega) | apply lk_prev)) (by first | rfl | exact upto_len | assumption | exact map_len | exact List.length_set | (rw [List.length_set]; assumption)) | exact Ints.tail (by with_reducible repeat (first | assumption | (apply lk_last; (try simp only [ll1, ll2, ll3, ll4, lls_len, lls2_len, markL_len]); omega) | apply lk_prev)) (by first | rfl | exact upto_len | assumption | exact map_len | exact List.length_set | (rw [List.length_set]; assumption)) | with_reducible apply Ints.app | (refine Ints.sub (by with_reducible repeat (first | assumption | apply Ints.app)) (by omega) (by omega) (by omega)))) (by conv => lhs; whnf) (by omega) (by omega) (fun p2 hp2 => ?_))
      refine a_do rfl (o_loadI Try.underlying2 rfl (by conv => lhs; whnf) hp2 (by first | ((with_reducible repeat (first | assumption | apply Ints.app)); done) | repeat (first | with_reducible assumption | exact ints_nil | exact Ints.own (by with_reducible repeat (first | assumption | (apply lk_last; (try simp only [ll1, ll2, ll3, ll4, lls_len, lls2_len, markL_len]); omega) | apply lk_prev)) (by first | rfl | exact upto_len | assumption | exact map_len | exact List.length_set | (rw [List.length_set]; assumption)) | exact Ints.tail (by with_reducible repeat (first | assumption | (apply lk_last; (try simp only [ll1, ll2, ll3, ll4, lls_len, lls2_len, markL_len]); omega) | apply lk_prev)) (by first | rfl | exact upto_len | assumption | exact map_len | exact List.length_set | (rw [List.length_set]; assumption)) | with_reducible apply Ints.app | (refine Ints.sub (by with_reducible repeat (first | assumption | apply Ints.app)) (by omega) (by omega) (by omega)))) (by omega) ?_)
      refine a_do rfl (o_callF (lmap_cons (by conv => lhs; whnf) (lmap_cons (by conv => lhs; whnf) (lmap_cons (by conv => lhs; whnf) lmap_nil))) (Ret.toB (l00In_ret _ _ _ _) (fun c3 => ?_) (fun c3 => ?_)))
      ·
        refine a_do rfl (o_notT (by conv => lhs; whnf) ?_)
        refine a_end ?_
        refine awp_condF (by conv => lhs; whnf) ?_
        refine awp_skip ?_
        refine awp_region rfl ?_
        refine a_do rfl (o_move (by conv => lhs; whnf) ?_)
        refine a_do rfl (o_add (by conv => lhs; whnf) (by conv => lhs; whnf) (by omega) (by omega) ?_)
        refine a_do rfl (o_assign (by conv => lhs; whnf) ?_)
        refine a_end ?_
        refine ⟨s + 1, ⟨Slots.mk ⟨?_, ?_, ?_, trivial⟩, ?_, ?_⟩, ?_⟩
        all_goals first | rfl | omega | exact congrArg i64 (by omega) | exact ⟨by omega, all_take_step (by omega) ha ‹_›⟩
      ·
        refine a_do rfl (o_notF (by conv => lhs; whnf) ?_)
        refine a_end ?_
        refine awp_condT (by conv => lhs; whnf) ?_
        refine awp_seq ?_
        refine awp_region rfl ?_
        refine a_do rfl (o_assign (by conv => lhs; whnf) ?_)
        refine a_end ?_
        refine awp_ret ?_
        refine ⟨.inl rfl, [_], ⟨ares_tmp (by conv => lhs; whnf), trivial⟩, ?_⟩
        exact ⟨congrArg Value.bool (by rw [← gain_2]; first | (rw [all_take_full (by omega) ha, decide_eq_true ‹(xs.length : Int) = n›]; rfl) | (rw [all_take_full (by omega) ha, decide_eq_false ‹¬ (xs.length : Int) = n›]; rfl) | (rw [all_false (k := s) (by omega) ‹_›]; rfl)), (by first | ((repeat (first | with_reducible exact Grown.refl _ | with_reducible apply Grown.push)); done) | repeat (first | exact Grown.refl _ | refine Grown.push ?_ _))⟩
    ·
      refine a_end ?_
      refine awp_condF (by conv => lhs; whnf) ?_
      refine awp_exit ?_
      refine awp_seq ?_
      refine awp_region rfl ?_
      refine a_do rfl (o_move (by conv => lhs; whnf) ?_)
      refine a_do rfl (o_lenI Try.underlying32 (by conv => lhs; whnf) (by first | ((with_reducible repeat (first | assumption | apply Ints.app)); done) | repeat (first | with_reducible assumption | exact ints_nil | exact Ints.own (by with_reducible repeat (first | assumption | (apply lk_last; (try simp only [ll1, ll2, ll3, ll4, lls_len, lls2_len, markL_len]); omega) | apply lk_prev)) (by first | rfl | exact upto_len | assumption | exact map_len | exact List.length_set | (rw [List.length_set]; assumption)) | exact Ints.tail (by with_reducible repeat (first | assumption | (apply lk_last; (try simp only [ll1, ll2, ll3, ll4, lls_len, lls2_len, markL_len]); omega) | apply lk_prev)) (by first | rfl | exact upto_len | assumption | exact map_len | exact List.length_set | (rw [List.length_set]; assumption)) | with_reducible apply Ints.app | (refine Ints.sub (by with_reducible repeat (first | assumption | apply Ints.app)) (by omega) (by omega) (by omega)))) ?_)
      refine a_do rfl (o_move (by conv => lhs; whnf) ?_)
      refine a_do rfl (o_eql (by conv => lhs; whnf) (by conv => lhs; whnf) (fun c4 => ?_) (fun c4 => ?_))
      ·
        refine a_do rfl (o_assign (by conv => lhs; whnf) ?_)
        refine a_end ?_
        refine awp_ret ?_
        refine ⟨.inl rfl, [_], ⟨ares_tmp (by conv => lhs; whnf), trivial⟩, ?_⟩
        exact ⟨congrArg Value.bool (by rw [← gain_2]; first | (rw [all_take_full (by omega) ha, decide_eq_true ‹(xs.length : Int) = n›]; rfl) | (rw [all_take_full (by omega) ha, decide_eq_false ‹¬ (xs.length : Int) = n›]; rfl) | (rw [all_false (k := s) (by omega) ‹_›]; rfl)), (by first | ((repeat (first | with_reducible exact Grown.refl _ | with_reducible apply Grown.push)); done) | repeat (first | exact Grown.refl _ | refine Grown.push ?_ _))⟩
      ·
        refine a_do rfl (o_assign (by conv => lhs; whnf) ?_)
        refine a_end ?_
        refine awp_ret ?_
        refine ⟨.inl rfl, [_], ⟨ares_tmp (by conv => lhs; whnf), trivial⟩, ?_⟩
        exact ⟨congrArg Value.bool (by rw [← gain_2]; first | (rw [all_take_full (by omega) ha, decide_eq_true ‹(xs.length : Int) = n›]; rfl) | (rw [all_take_full (by omega) ha, decide_eq_false ‹¬ (xs.length : Int) = n›]; rfl) | (rw [all_false (k := s) (by omega) ‹_›]; rfl)), (by first | ((repeat (first | with_reducible exact Grown.refl _ | with_reducible apply Grown.push)); done) | repeat (first | exact Grown.refl _ | refine Grown.push ?_ _))⟩

end Go.Am
