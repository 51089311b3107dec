/-
  What the functions that the law FnExactSplitOne calls answer, each over an abstract heap, for every input.
-/
import Derived.Test.YtfnopalingnilaaAmG4
import Derived.Test.YtfnopalingnilaaProg
import Derived.KernelRfl
namespace Go.Am
open Go.Proofs
set_option linter.unusedSimpArgs false
set_option linter.unusedVariables false
theorem Try_mixed : Try.prog.follows .mixedOrders = true := by kernel_rfl
theorem ty2 : InfoIs Try.prog 2 (i64 0) 1 8 := by unfold InfoIs; kernel_rfl
theorem ty22 : InfoIs Try.prog 22 (.slice none 0 0) 1 24 := by unfold InfoIs; kernel_rfl
theorem ty91 : InfoIs Try.prog 91 (.agg #[.slice none 0 0, .slice none 0 0]) 2 48 := by unfold InfoIs; kernel_rfl
theorem ty92 : InfoIs Try.prog 92 (.agg #[i64 0, i64 0]) 2 16 := by unfold InfoIs; kernel_rfl

set_option maxRecDepth 10000 in
theorem within_ret (n lo hi : Int) (h : AHeap) : Ret Try.prog 66 [i64 n, i64 lo, i64 hi] h (.bool (decide (lo ≤ n ∧ n ≤ hi))) h := by
  refine ret_of (.prim rfl) ?_
  refine tri_of_body Try.func66 rfl (by kernel_rfl) (by show 3 ≤ 15; decide) ?_
  refine awp_seq ?_
  refine awp_region rfl ?_
  refine a_do rfl (o_assign (by conv => lhs; whnf) ?_)
  refine a_end ?_
  refine awp_seq ?_
  refine awp_region rfl ?_
  refine a_do rfl (o_move (by conv => lhs; whnf) ?_)
  refine a_do rfl (o_move (by conv => lhs; whnf) ?_)
  refine a_do rfl (o_geq (by conv => lhs; whnf) (by conv => lhs; whnf) (fun c1 => ?_) (fun c1 => ?_))
  ·
    refine a_do rfl (o_move (by conv => lhs; whnf) ?_)
    refine a_do rfl (o_move (by conv => lhs; whnf) ?_)
    refine a_do rfl (o_move (by conv => lhs; whnf) ?_)
    refine a_do rfl (o_leq (by conv => lhs; whnf) (by conv => lhs; whnf) (fun c2 => ?_) (fun c2 => ?_))
    ·
      refine a_do rfl (o_pickT (by conv => lhs; whnf) (by conv => lhs; whnf) ?_)
      refine a_do rfl (o_assign (by conv => lhs; whnf) ?_)
      refine a_end ?_
      refine awp_ret ?_
      refine ⟨.inl rfl, [_], ⟨ares_tmp (by conv => lhs; whnf), trivial⟩, ?_⟩
      exact ⟨by first | rfl | (simp only [packR_one, *]; done) | (simp only [packR_one, *]; rfl) | (simp [*]; done) | (simp_all; done), (by first | ((repeat (first | with_reducible exact Grown.refl _ | with_reducible apply Grown.push)); done) | repeat (first | exact Grown.refl _ | refine Grown.push ?_ _))⟩
    ·
      refine a_do rfl (o_pickT (by conv => lhs; whnf) (by conv => lhs; whnf) ?_)
      refine a_do rfl (o_assign (by conv => lhs; whnf) ?_)
      refine a_end ?_
      refine awp_ret ?_
      refine ⟨.inl rfl, [_], ⟨ares_tmp (by conv => lhs; whnf), trivial⟩, ?_⟩
      exact ⟨by first | rfl | (simp only [packR_one, *]; done) | (simp only [packR_one, *]; rfl) | (simp [*]; done) | (simp_all; done), (by first | ((repeat (first | with_reducible exact Grown.refl _ | with_reducible apply Grown.push)); done) | repeat (first | exact Grown.refl _ | refine Grown.push ?_ _))⟩
  ·
    refine a_do rfl (o_move (by conv => lhs; whnf) ?_)
    refine a_no rfl ?_
    refine a_no rfl ?_
    refine a_no rfl ?_
    refine a_do rfl (o_pickF (by conv => lhs; whnf) (by conv => lhs; whnf) ?_)
    refine a_do rfl (o_assign (by conv => lhs; whnf) ?_)
    refine a_end ?_
    refine awp_ret ?_
    refine ⟨.inl rfl, [_], ⟨ares_tmp (by conv => lhs; whnf), trivial⟩, ?_⟩
    exact ⟨by first | rfl | (simp only [packR_one, *]; done) | (simp only [packR_one, *]; rfl) | (simp [*]; done) | (simp_all; done), (by first | ((repeat (first | with_reducible exact Grown.refl _ | with_reducible apply Grown.push)); done) | repeat (first | exact Grown.refl _ | refine Grown.push ?_ _))⟩

set_option maxRecDepth 10000 in
theorem l00In_ret (n lo hi : Int) (h : AHeap) : Ret Try.prog 48 [i64 n, i64 lo, i64 hi] h (.bool (decide (lo ≤ n ∧ n ≤ hi))) h := by
  refine ret_of (.prim rfl) ?_
  refine tri_of_body Try.func48 rfl (by kernel_rfl) (by show 3 ≤ 15; decide) ?_
  refine awp_seq ?_
  refine awp_region rfl ?_
  refine a_do rfl (o_assign (by conv => lhs; whnf) ?_)
  refine a_end ?_
  refine awp_seq ?_
  refine awp_region rfl ?_
  refine a_do rfl (o_move (by conv => lhs; whnf) ?_)
  refine a_do rfl (o_move (by conv => lhs; whnf) ?_)
  refine a_do rfl (o_geq (by conv => lhs; whnf) (by conv => lhs; whnf) (fun c1 => ?_) (fun c1 => ?_))
  ·
    refine a_do rfl (o_move (by conv => lhs; whnf) ?_)
    refine a_do rfl (o_move (by conv => lhs; whnf) ?_)
    refine a_do rfl (o_move (by conv => lhs; whnf) ?_)
    refine a_do rfl (o_leq (by conv => lhs; whnf) (by conv => lhs; whnf) (fun c2 => ?_) (fun c2 => ?_))
    ·
      refine a_do rfl (o_pickT (by conv => lhs; whnf) (by conv => lhs; whnf) ?_)
      refine a_do rfl (o_assign (by conv => lhs; whnf) ?_)
      refine a_end ?_
      refine awp_ret ?_
      refine ⟨.inl rfl, [_], ⟨ares_tmp (by conv => lhs; whnf), trivial⟩, ?_⟩
      exact ⟨by first | rfl | (simp only [packR_one, *]; done) | (simp only [packR_one, *]; rfl) | (simp [*]; done) | (simp_all; done), (by first | ((repeat (first | with_reducible exact Grown.refl _ | with_reducible apply Grown.push)); done) | repeat (first | exact Grown.refl _ | refine Grown.push ?_ _))⟩
    ·
      refine a_do rfl (o_pickT (by conv => lhs; whnf) (by conv => lhs; whnf) ?_)
      refine a_do rfl (o_assign (by conv => lhs; whnf) ?_)
      refine a_end ?_
      refine awp_ret ?_
      refine ⟨.inl rfl, [_], ⟨ares_tmp (by conv => lhs; whnf), trivial⟩, ?_⟩
      exact ⟨by first | rfl | (simp only [packR_one, *]; done) | (simp only [packR_one, *]; rfl) | (simp [*]; done) | (simp_all; done), (by first | ((repeat (first | with_reducible exact Grown.refl _ | with_reducible apply Grown.push)); done) | repeat (first | exact Grown.refl _ | refine Grown.push ?_ _))⟩
  ·
    refine a_do rfl (o_move (by conv => lhs; whnf) ?_)
    refine a_no rfl ?_
    refine a_no rfl ?_
    refine a_no rfl ?_
    refine a_do rfl (o_pickF (by conv => lhs; whnf) (by conv => lhs; whnf) ?_)
    refine a_do rfl (o_assign (by conv => lhs; whnf) ?_)
    refine a_end ?_
    refine awp_ret ?_
    refine ⟨.inl rfl, [_], ⟨ares_tmp (by conv => lhs; whnf), trivial⟩, ?_⟩
    exact ⟨by first | rfl | (simp only [packR_one, *]; done) | (simp only [packR_one, *]; rfl) | (simp [*]; done) | (simp_all; done), (by first | ((repeat (first | with_reducible exact Grown.refl _ | with_reducible apply Grown.push)); done) | repeat (first | exact Grown.refl _ | refine Grown.push ?_ _))⟩

set_option maxRecDepth 10000 in
theorem areWithin_ret (lo hi : Int) (xs : List Int) (v : Value) (h : AHeap) (hv : Ints h v xs) (hl : xs.length ≤ 1073741824) : Ret Try.prog 89 [v, i64 lo, i64 hi] h (.bool (xs.all fun n => decide (lo ≤ n ∧ n ≤ hi))) h := by
  refine ret_of (.prim rfl) ?_
  refine tri_of_body Try.func89 rfl (by kernel_rfl) (by show 3 ≤ 21; decide) ?_
  refine awp_seq ?_
  refine awp_region rfl ?_
  refine a_do rfl (o_assign (by conv => lhs; whnf) ?_)
  refine a_end ?_
  refine awp_seq ?_
  refine awp_seq ?_
  refine awp_region rfl ?_
  refine a_do rfl (o_move (by conv => lhs; whnf) ?_)
  refine a_do rfl (o_lenI Try.underlying22 (by conv => lhs; whnf) (by first | ((with_reducible repeat (first | assumption | apply Ints.app)); done) | repeat (first | with_reducible assumption | exact ints_nil | exact Ints.own (by with_reducible repeat (first | assumption | (apply lk_last; (try simp only [ll1, ll2, ll3, ll4, lls_len, lls2_len, markL_len, rls_len, markR_len]); first | done | omega) | apply lk_prev)) (by first | rfl | exact upto_len | assumption | exact map_len | exact List.length_set | (rw [List.length_set]; assumption)) | exact Ints.tail (by with_reducible repeat (first | assumption | (apply lk_last; (try simp only [ll1, ll2, ll3, ll4, lls_len, lls2_len, markL_len, rls_len, markR_len]); first | done | omega) | apply lk_prev)) (by first | rfl | exact upto_len | assumption | exact map_len | exact List.length_set | (rw [List.length_set]; assumption)) | with_reducible apply Ints.app | (refine Ints.sub (by with_reducible repeat (first | assumption | apply Ints.app)) (by omega) (by omega) (by omega)))) ?_)
  refine a_do rfl (o_move (by conv => lhs; whnf) ?_)
  refine a_end ?_
  refine awp_block ?_
  refine awp_loop (σ := Nat) (fun s env1 h1 => Slots env1 [(1, i64 lo), (2, i64 hi), (9, v), (10, i64 xs.length), (11, i64 s)] ∧ h1 = h ∧ s ≤ xs.length ∧ (xs.take s).all (fun n => decide (lo ≤ n ∧ n ≤ hi)) = true) (fun s => xs.length - s) 0 ?_ ?_
  · refine ⟨Slots.mk ⟨?_, ?_, ?_, ?_, ?_, trivial⟩, ?_, ?_⟩
    all_goals first | rfl | simp
  · intro s env1 h1 hI1
    obtain ⟨⟨e1, rfl⟩, rfl, ⟨hs, ha⟩⟩ := hI1
    refine awp_seq ?_
    refine awp_region rfl ?_
    refine a_do rfl (o_lss (by conv => lhs; whnf) (by conv => lhs; whnf) (fun c1 => ?_) (fun c1 => ?_))
    ·
      refine a_end ?_
      refine awp_seq ?_
      refine awp_condT (by conv => lhs; whnf) ?_
      refine awp_skip ?_
      refine awp_seq ?_
      refine awp_block ?_
      refine awp_seq ?_
      refine awp_region rfl ?_
      first | refine a_do rfl (o_indexI Try.underlying22 ty2 (by conv => lhs; whnf) (by first | ((with_reducible repeat (first | assumption | apply Ints.app)); done) | repeat (first | with_reducible assumption | exact ints_nil | exact Ints.own (by with_reducible repeat (first | assumption | (apply lk_last; (try simp only [ll1, ll2, ll3, ll4, lls_len, lls2_len, markL_len, rls_len, markR_len]); first | done | omega) | apply lk_prev)) (by first | rfl | exact upto_len | assumption | exact map_len | exact List.length_set | (rw [List.length_set]; assumption)) | exact Ints.tail (by with_reducible repeat (first | assumption | (apply lk_last; (try simp only [ll1, ll2, ll3, ll4, lls_len, lls2_len, markL_len, rls_len, markR_len]); first | done | omega) | apply lk_prev)) (by first | rfl | exact upto_len | assumption | exact map_len | exact List.length_set | (rw [List.length_set]; assumption)) | with_reducible apply Ints.app | (refine Ints.sub (by with_reducible repeat (first | assumption | apply Ints.app)) (by omega) (by omega) (by omega)))) (by conv => lhs; whnf) (by omega) (fun p2 hp2 => ?_)) | refine a_do rfl (o_indexZ Try.underlying22 ty2 (by conv => lhs; whnf) (by first | ((with_reducible repeat (first | assumption | apply Ints.app)); done) | repeat (first | with_reducible assumption | exact ints_nil | exact Ints.own (by with_reducible repeat (first | assumption | (apply lk_last; (try simp only [ll1, ll2, ll3, ll4, lls_len, lls2_len, markL_len, rls_len, markR_len]); first | done | omega) | apply lk_prev)) (by first | rfl | exact upto_len | assumption | exact map_len | exact List.length_set | (rw [List.length_set]; assumption)) | exact Ints.tail (by with_reducible repeat (first | assumption | (apply lk_last; (try simp only [ll1, ll2, ll3, ll4, lls_len, lls2_len, markL_len, rls_len, markR_len]); first | done | omega) | apply lk_prev)) (by first | rfl | exact upto_len | assumption | exact map_len | exact List.length_set | (rw [List.length_set]; assumption)) | with_reducible apply Ints.app | (refine Ints.sub (by with_reducible repeat (first | assumption | apply Ints.app)) (by omega) (by omega) (by omega)))) (by conv => lhs; whnf) (by omega) (by omega) (fun p2 hp2 => ?_))
      refine a_do rfl (o_loadI Try.underlying2 rfl (by conv => lhs; whnf) hp2 (by first | ((with_reducible repeat (first | assumption | apply Ints.app)); done) | repeat (first | with_reducible assumption | exact ints_nil | exact Ints.own (by with_reducible repeat (first | assumption | (apply lk_last; (try simp only [ll1, ll2, ll3, ll4, lls_len, lls2_len, markL_len, rls_len, markR_len]); first | done | omega) | apply lk_prev)) (by first | rfl | exact upto_len | assumption | exact map_len | exact List.length_set | (rw [List.length_set]; assumption)) | exact Ints.tail (by with_reducible repeat (first | assumption | (apply lk_last; (try simp only [ll1, ll2, ll3, ll4, lls_len, lls2_len, markL_len, rls_len, markR_len]); first | done | omega) | apply lk_prev)) (by first | rfl | exact upto_len | assumption | exact map_len | exact List.length_set | (rw [List.length_set]; assumption)) | with_reducible apply Ints.app | (refine Ints.sub (by with_reducible repeat (first | assumption | apply Ints.app)) (by omega) (by omega) (by omega)))) (by omega) ?_)
      refine a_do rfl (o_assign (by conv => lhs; whnf) ?_)
      refine a_end ?_
      refine awp_seq ?_
      refine awp_region rfl ?_
      refine a_do rfl (o_move (by conv => lhs; whnf) ?_)
      refine a_do rfl (o_move (by conv => lhs; whnf) ?_)
      refine a_do rfl (o_move (by conv => lhs; whnf) ?_)
      refine a_do rfl (o_callF (lmap_cons (by conv => lhs; whnf) (lmap_cons (by conv => lhs; whnf) (lmap_cons (by conv => lhs; whnf) lmap_nil))) (Ret.toB (within_ret _ _ _ _) (fun c3 => ?_) (fun c3 => ?_)))
      ·
        refine a_do rfl (o_notT (by conv => lhs; whnf) ?_)
        refine a_end ?_
        refine awp_condF (by conv => lhs; whnf) ?_
        refine awp_skip ?_
        refine awp_region rfl ?_
        refine a_do rfl (o_add (by conv => lhs; whnf) (by conv => lhs; whnf) (by omega) (by omega) ?_)
        refine a_do rfl (o_move (by conv => lhs; whnf) ?_)
        refine a_end ?_
        refine ⟨s + 1, ⟨Slots.mk ⟨?_, ?_, ?_, ?_, ?_, trivial⟩, ?_, ?_⟩, ?_⟩
        all_goals first | rfl | omega | exact ⟨by omega, all_take_step (by omega) ha ‹_›⟩
      ·
        refine a_do rfl (o_notF (by conv => lhs; whnf) ?_)
        refine a_end ?_
        refine awp_condT (by conv => lhs; whnf) ?_
        refine awp_seq ?_
        refine awp_region rfl ?_
        refine a_do rfl (o_assign (by conv => lhs; whnf) ?_)
        refine a_end ?_
        refine awp_ret ?_
        refine ⟨.inl rfl, [_], ⟨ares_tmp (by conv => lhs; whnf), trivial⟩, ?_⟩
        exact ⟨congrArg Value.bool (by first | (rw [all_take_full (by omega) ha]) | (rw [all_false (k := s) (by omega) ‹_›])), Grown.refl _⟩
    ·
      refine a_end ?_
      refine awp_seq ?_
      refine awp_condF (by conv => lhs; whnf) ?_
      refine awp_exit ?_
      refine awp_seq ?_
      refine awp_region rfl ?_
      refine a_do rfl (o_assign (by conv => lhs; whnf) ?_)
      refine a_end ?_
      refine awp_ret ?_
      refine ⟨.inl rfl, [_], ⟨ares_tmp (by conv => lhs; whnf), trivial⟩, ?_⟩
      exact ⟨congrArg Value.bool (by first | (rw [all_take_full (by omega) ha]) | (rw [all_false (k := s) (by omega) ‹_›])), Grown.refl _⟩

set_option maxRecDepth 10000 in
theorem areMany_ret (a b lo hi : Int) (xs : List Int) (v : Value) (h : AHeap) (hv : Ints h v xs) (hl : xs.length ≤ 1073741824) : Ret Try.prog 67 [v, i64 a, i64 b, i64 lo, i64 hi] h (.bool (decide (a ≤ xs.length ∧ xs.length ≤ b) && xs.all fun n => decide (lo ≤ n ∧ n ≤ hi))) h := by
  refine ret_of (.prim rfl) ?_
  refine tri_of_body Try.func67 rfl (by kernel_rfl) (by show 5 ≤ 22; decide) ?_
  refine awp_seq ?_
  refine awp_region rfl ?_
  refine a_do rfl (o_assign (by conv => lhs; whnf) ?_)
  refine a_end ?_
  refine awp_seq ?_
  refine awp_region rfl ?_
  refine a_do rfl (o_move (by conv => lhs; whnf) ?_)
  refine a_do rfl (o_lenI Try.underlying22 (by conv => lhs; whnf) (by first | ((with_reducible repeat (first | assumption | apply Ints.app)); done) | repeat (first | with_reducible assumption | exact ints_nil | exact Ints.own (by with_reducible repeat (first | assumption | (apply lk_last; (try simp only [ll1, ll2, ll3, ll4, lls_len, lls2_len, markL_len, rls_len, markR_len]); first | done | omega) | apply lk_prev)) (by first | rfl | exact upto_len | assumption | exact map_len | exact List.length_set | (rw [List.length_set]; assumption)) | exact Ints.tail (by with_reducible repeat (first | assumption | (apply lk_last; (try simp only [ll1, ll2, ll3, ll4, lls_len, lls2_len, markL_len, rls_len, markR_len]); first | done | omega) | apply lk_prev)) (by first | rfl | exact upto_len | assumption | exact map_len | exact List.length_set | (rw [List.length_set]; assumption)) | with_reducible apply Ints.app | (refine Ints.sub (by with_reducible repeat (first | assumption | apply Ints.app)) (by omega) (by omega) (by omega)))) ?_)
  refine a_do rfl (o_move (by conv => lhs; whnf) ?_)
  refine a_do rfl (o_move (by conv => lhs; whnf) ?_)
  refine a_do rfl (o_callF (lmap_cons (by conv => lhs; whnf) (lmap_cons (by conv => lhs; whnf) (lmap_cons (by conv => lhs; whnf) lmap_nil))) (Ret.toB (within_ret _ _ _ _) (fun c1 => ?_) (fun c1 => ?_)))
  ·
    refine a_do rfl (o_move (by conv => lhs; whnf) ?_)
    refine a_do rfl (o_move (by conv => lhs; whnf) ?_)
    refine a_do rfl (o_move (by conv => lhs; whnf) ?_)
    refine a_do rfl (o_move (by conv => lhs; whnf) ?_)
    refine a_do rfl (o_callF (lmap_cons (by conv => lhs; whnf) (lmap_cons (by conv => lhs; whnf) (lmap_cons (by conv => lhs; whnf) lmap_nil))) (Ret.toB (areWithin_ret _ _ _ _ _ (by first | ((with_reducible repeat (first | assumption | apply Ints.app)); done) | repeat (first | with_reducible assumption | exact ints_nil | exact Ints.own (by with_reducible repeat (first | assumption | (apply lk_last; (try simp only [ll1, ll2, ll3, ll4, lls_len, lls2_len, markL_len, rls_len, markR_len]); first | done | omega) | apply lk_prev)) (by first | rfl | exact upto_len | assumption | exact map_len | exact List.length_set | (rw [List.length_set]; assumption)) | exact Ints.tail (by with_reducible repeat (first | assumption | (apply lk_last; (try simp only [ll1, ll2, ll3, ll4, lls_len, lls2_len, markL_len, rls_len, markR_len]); first | done | omega) | apply lk_prev)) (by first | rfl | exact upto_len | assumption | exact map_len | exact List.length_set | (rw [List.length_set]; assumption)) | with_reducible apply Ints.app | (refine Ints.sub (by with_reducible repeat (first | assumption | apply Ints.app)) (by omega) (by omega) (by omega)))) (by omega)) (fun c2 => ?_) (fun c2 => ?_)))
    ·
      refine a_do rfl (o_pickT (by conv => lhs; whnf) (by conv => lhs; whnf) ?_)
      refine a_do rfl (o_assign (by conv => lhs; whnf) ?_)
      refine a_end ?_
      refine awp_ret ?_
      refine ⟨.inl rfl, [_], ⟨ares_tmp (by conv => lhs; whnf), trivial⟩, ?_⟩
      exact ⟨by first | rfl | (simp only [packR_one, *]; done) | (simp only [packR_one, *]; rfl) | (simp [*]; done) | (simp_all; done), (by first | ((repeat (first | with_reducible exact Grown.refl _ | with_reducible apply Grown.push)); done) | repeat (first | exact Grown.refl _ | refine Grown.push ?_ _))⟩
    ·
      refine a_do rfl (o_pickT (by conv => lhs; whnf) (by conv => lhs; whnf) ?_)
      refine a_do rfl (o_assign (by conv => lhs; whnf) ?_)
      refine a_end ?_
      refine awp_ret ?_
      refine ⟨.inl rfl, [_], ⟨ares_tmp (by conv => lhs; whnf), trivial⟩, ?_⟩
      exact ⟨by first | rfl | (simp only [packR_one, *]; done) | (simp only [packR_one, *]; rfl) | (simp [*]; done) | (simp_all; done), (by first | ((repeat (first | with_reducible exact Grown.refl _ | with_reducible apply Grown.push)); done) | repeat (first | exact Grown.refl _ | refine Grown.push ?_ _))⟩
  ·
    refine a_do rfl (o_move (by conv => lhs; whnf) ?_)
    refine a_no rfl ?_
    refine a_no rfl ?_
    refine a_no rfl ?_
    refine a_no rfl ?_
    refine a_do rfl (o_pickF (by conv => lhs; whnf) (by conv => lhs; whnf) ?_)
    refine a_do rfl (o_assign (by conv => lhs; whnf) ?_)
    refine a_end ?_
    refine awp_ret ?_
    refine ⟨.inl rfl, [_], ⟨ares_tmp (by conv => lhs; whnf), trivial⟩, ?_⟩
    exact ⟨by first | rfl | (simp only [packR_one, *]; done) | (simp only [packR_one, *]; rfl) | (simp [*]; done) | (simp_all; done), (by first | ((repeat (first | with_reducible exact Grown.refl _ | with_reducible apply Grown.push)); done) | repeat (first | exact Grown.refl _ | refine Grown.push ?_ _))⟩

set_option maxRecDepth 10000 in
theorem l04Worths_ret (n : Int) (xs : List Int) (v : Value) (h : AHeap) (hv : Ints h v xs) (hl : xs.length ≤ 1073741824) : Ret Try.prog 70 [v, i64 n] h (.bool (xs.all (fun n => decide (0 ≤ n ∧ n ≤ 1000)) && decide ((xs.length : Int) = n))) h := by
  refine ret_of (.prim rfl) ?_
  refine tri_of_body Try.func70 rfl (by kernel_rfl) (by show 2 ≤ 22; decide) ?_
  refine awp_seq ?_
  refine awp_region rfl ?_
  refine a_do rfl (o_assign (by conv => lhs; whnf) ?_)
  refine a_end ?_
  refine awp_seq ?_
  refine awp_seq ?_
  refine awp_region rfl ?_
  refine a_do rfl (o_assign (by conv => lhs; whnf) ?_)
  refine a_end ?_
  refine awp_block ?_
  refine awp_loop (σ := Nat) (fun s env1 h1 => Slots env1 [(0, v), (1, i64 n), (5, i64 s)] ∧ h1 = h ∧ s ≤ xs.length ∧ (xs.take s).all (fun n => decide (0 ≤ n ∧ n ≤ 1000)) = true) (fun s => xs.length - s) 0 ?_ ?_
  · refine ⟨Slots.mk ⟨?_, ?_, ?_, trivial⟩, ?_, ?_⟩
    all_goals first | rfl | simp
  · intro s env1 h1 hI1
    obtain ⟨⟨e1, rfl⟩, rfl, ⟨hs, ha⟩⟩ := hI1
    refine awp_seq ?_
    refine awp_seq ?_
    refine awp_region rfl ?_
    refine a_do rfl (o_move (by conv => lhs; whnf) ?_)
    refine a_do rfl (o_move (by conv => lhs; whnf) ?_)
    refine a_do rfl (o_lenI Try.underlying22 (by conv => lhs; whnf) (by first | ((with_reducible repeat (first | assumption | apply Ints.app)); done) | repeat (first | with_reducible assumption | exact ints_nil | exact Ints.own (by with_reducible repeat (first | assumption | (apply lk_last; (try simp only [ll1, ll2, ll3, ll4, lls_len, lls2_len, markL_len, rls_len, markR_len]); first | done | omega) | apply lk_prev)) (by first | rfl | exact upto_len | assumption | exact map_len | exact List.length_set | (rw [List.length_set]; assumption)) | exact Ints.tail (by with_reducible repeat (first | assumption | (apply lk_last; (try simp only [ll1, ll2, ll3, ll4, lls_len, lls2_len, markL_len, rls_len, markR_len]); first | done | omega) | apply lk_prev)) (by first | rfl | exact upto_len | assumption | exact map_len | exact List.length_set | (rw [List.length_set]; assumption)) | with_reducible apply Ints.app | (refine Ints.sub (by with_reducible repeat (first | assumption | apply Ints.app)) (by omega) (by omega) (by omega)))) ?_)
    refine a_do rfl (o_lss (by conv => lhs; whnf) (by conv => lhs; whnf) (fun c1 => ?_) (fun c1 => ?_))
    ·
      refine a_end ?_
      refine awp_condT (by conv => lhs; whnf) ?_
      refine awp_skip ?_
      refine awp_seq ?_
      refine awp_block ?_
      refine awp_seq ?_
      refine awp_region rfl ?_
      refine a_do rfl (o_move (by conv => lhs; whnf) ?_)
      refine a_do rfl (o_move (by conv => lhs; whnf) ?_)
      first | refine a_do rfl (o_indexI Try.underlying22 ty2 (by conv => lhs; whnf) (by first | ((with_reducible repeat (first | assumption | apply Ints.app)); done) | repeat (first | with_reducible assumption | exact ints_nil | exact Ints.own (by with_reducible repeat (first | assumption | (apply lk_last; (try simp only [ll1, ll2, ll3, ll4, lls_len, lls2_len, markL_len, rls_len, markR_len]); first | done | omega) | apply lk_prev)) (by first | rfl | exact upto_len | assumption | exact map_len | exact List.length_set | (rw [List.length_set]; assumption)) | exact Ints.tail (by with_reducible repeat (first | assumption | (apply lk_last; (try simp only [ll1, ll2, ll3, ll4, lls_len, lls2_len, markL_len, rls_len, markR_len]); first | done | omega) | apply lk_prev)) (by first | rfl | exact upto_len | assumption | exact map_len | exact List.length_set | (rw [List.length_set]; assumption)) | with_reducible apply Ints.app | (refine Ints.sub (by with_reducible repeat (first | assumption | apply Ints.app)) (by omega) (by omega) (by omega)))) (by conv => lhs; whnf) (by omega) (fun p2 hp2 => ?_)) | refine a_do rfl (o_indexZ Try.underlying22 ty2 (by conv => lhs; whnf) (by first | ((with_reducible repeat (first | assumption | apply Ints.app)); done) | repeat (first | with_reducible assumption | exact ints_nil | exact Ints.own (by with_reducible repeat (first | assumption | (apply lk_last; (try simp only [ll1, ll2, ll3, ll4, lls_len, lls2_len, markL_len, rls_len, markR_len]); first | done | omega) | apply lk_prev)) (by first | rfl | exact upto_len | assumption | exact map_len | exact List.length_set | (rw [List.length_set]; assumption)) | exact Ints.tail (by with_reducible repeat (first | assumption | (apply lk_last; (try simp only [ll1, ll2, ll3, ll4, lls_len, lls2_len, markL_len, rls_len, markR_len]); first | done | omega) | apply lk_prev)) (by first | rfl | exact upto_len | assumption | exact map_len | exact List.length_set | (rw [List.length_set]; assumption)) | with_reducible apply Ints.app | (refine Ints.sub (by with_reducible repeat (first | assumption | apply Ints.app)) (by omega) (by omega) (by omega)))) (by conv => lhs; whnf) (by omega) (by omega) (fun p2 hp2 => ?_))
      refine a_do rfl (o_loadI Try.underlying2 rfl (by conv => lhs; whnf) hp2 (by first | ((with_reducible repeat (first | assumption | apply Ints.app)); done) | repeat (first | with_reducible assumption | exact ints_nil | exact Ints.own (by with_reducible repeat (first | assumption | (apply lk_last; (try simp only [ll1, ll2, ll3, ll4, lls_len, lls2_len, markL_len, rls_len, markR_len]); first | done | omega) | apply lk_prev)) (by first | rfl | exact upto_len | assumption | exact map_len | exact List.length_set | (rw [List.length_set]; assumption)) | exact Ints.tail (by with_reducible repeat (first | assumption | (apply lk_last; (try simp only [ll1, ll2, ll3, ll4, lls_len, lls2_len, markL_len, rls_len, markR_len]); first | done | omega) | apply lk_prev)) (by first | rfl | exact upto_len | assumption | exact map_len | exact List.length_set | (rw [List.length_set]; assumption)) | with_reducible apply Ints.app | (refine Ints.sub (by with_reducible repeat (first | assumption | apply Ints.app)) (by omega) (by omega) (by omega)))) (by omega) ?_)
      refine a_do rfl (o_callF (lmap_cons (by conv => lhs; whnf) (lmap_cons (by conv => lhs; whnf) (lmap_cons (by conv => lhs; whnf) lmap_nil))) (Ret.toB (l00In_ret _ _ _ _) (fun c3 => ?_) (fun c3 => ?_)))
      ·
        refine a_do rfl (o_notT (by conv => lhs; whnf) ?_)
        refine a_end ?_
        refine awp_condF (by conv => lhs; whnf) ?_
        refine awp_skip ?_
        refine awp_region rfl ?_
        refine a_do rfl (o_move (by conv => lhs; whnf) ?_)
        refine a_do rfl (o_add (by conv => lhs; whnf) (by conv => lhs; whnf) (by omega) (by omega) ?_)
        refine a_do rfl (o_assign (by conv => lhs; whnf) ?_)
        refine a_end ?_
        refine ⟨s + 1, ⟨Slots.mk ⟨?_, ?_, ?_, trivial⟩, ?_, ?_⟩, ?_⟩
        all_goals first | rfl | omega | exact ⟨by omega, all_take_step (by omega) ha ‹_›⟩
      ·
        refine a_do rfl (o_notF (by conv => lhs; whnf) ?_)
        refine a_end ?_
        refine awp_condT (by conv => lhs; whnf) ?_
        refine awp_seq ?_
        refine awp_region rfl ?_
        refine a_do rfl (o_assign (by conv => lhs; whnf) ?_)
        refine a_end ?_
        refine awp_ret ?_
        refine ⟨.inl rfl, [_], ⟨ares_tmp (by conv => lhs; whnf), trivial⟩, ?_⟩
        exact ⟨congrArg Value.bool (by first | (rw [all_take_full (by omega) ha]; simp [*]) | (rw [all_false (k := s) (by omega) ‹_›]; rfl)), Grown.refl _⟩
    ·
      refine a_end ?_
      refine awp_condF (by conv => lhs; whnf) ?_
      refine awp_exit ?_
      refine awp_seq ?_
      refine awp_region rfl ?_
      refine a_do rfl (o_move (by conv => lhs; whnf) ?_)
      refine a_do rfl (o_lenI Try.underlying22 (by conv => lhs; whnf) (by first | ((with_reducible repeat (first | assumption | apply Ints.app)); done) | repeat (first | with_reducible assumption | exact ints_nil | exact Ints.own (by with_reducible repeat (first | assumption | (apply lk_last; (try simp only [ll1, ll2, ll3, ll4, lls_len, lls2_len, markL_len, rls_len, markR_len]); first | done | omega) | apply lk_prev)) (by first | rfl | exact upto_len | assumption | exact map_len | exact List.length_set | (rw [List.length_set]; assumption)) | exact Ints.tail (by with_reducible repeat (first | assumption | (apply lk_last; (try simp only [ll1, ll2, ll3, ll4, lls_len, lls2_len, markL_len, rls_len, markR_len]); first | done | omega) | apply lk_prev)) (by first | rfl | exact upto_len | assumption | exact map_len | exact List.length_set | (rw [List.length_set]; assumption)) | with_reducible apply Ints.app | (refine Ints.sub (by with_reducible repeat (first | assumption | apply Ints.app)) (by omega) (by omega) (by omega)))) ?_)
      refine a_do rfl (o_move (by conv => lhs; whnf) ?_)
      refine a_do rfl (o_eql (by conv => lhs; whnf) (by conv => lhs; whnf) (fun c4 => ?_) (fun c4 => ?_))
      ·
        refine a_do rfl (o_assign (by conv => lhs; whnf) ?_)
        refine a_end ?_
        refine awp_ret ?_
        refine ⟨.inl rfl, [_], ⟨ares_tmp (by conv => lhs; whnf), trivial⟩, ?_⟩
        exact ⟨congrArg Value.bool (by first | (rw [all_take_full (by omega) ha]; simp [*]) | (rw [all_false (k := s) (by omega) ‹_›]; rfl)), Grown.refl _⟩
      ·
        refine a_do rfl (o_assign (by conv => lhs; whnf) ?_)
        refine a_end ?_
        refine awp_ret ?_
        refine ⟨.inl rfl, [_], ⟨ares_tmp (by conv => lhs; whnf), trivial⟩, ?_⟩
        exact ⟨congrArg Value.bool (by first | (rw [all_take_full (by omega) ha]; simp [*]) | (rw [all_false (k := s) (by omega) ‹_›]; rfl)), Grown.refl _⟩

set_option maxRecDepth 10000 in
theorem eqInt64S_ret (xs ys : List Int) (v w : Value) (h : AHeap) (hv : Ints h v xs) (hw : Ints h w ys) (hl : xs.length ≤ 1073741824) : Ret Try.prog 16 [v, w] h (.bool (decide (xs = ys))) h := by
  refine ret_of (.prim rfl) ?_
  refine tri_of_body Try.func16 rfl (by kernel_rfl) (by show 2 ≤ 26; decide) ?_
  refine awp_seq ?_
  refine awp_region rfl ?_
  refine a_do rfl (o_assign (by conv => lhs; whnf) ?_)
  refine a_end ?_
  refine awp_seq ?_
  refine awp_seq ?_
  refine awp_region rfl ?_
  refine a_do rfl (o_move (by conv => lhs; whnf) ?_)
  refine a_do rfl (o_lenI Try.underlying22 (by conv => lhs; whnf) (by first | ((with_reducible repeat (first | assumption | apply Ints.app)); done) | repeat (first | with_reducible assumption | exact ints_nil | exact Ints.own (by with_reducible repeat (first | assumption | (apply lk_last; (try simp only [ll1, ll2, ll3, ll4, lls_len, lls2_len, markL_len, rls_len, markR_len]); first | done | omega) | apply lk_prev)) (by first | rfl | exact upto_len | assumption | exact map_len | exact List.length_set | (rw [List.length_set]; assumption)) | exact Ints.tail (by with_reducible repeat (first | assumption | (apply lk_last; (try simp only [ll1, ll2, ll3, ll4, lls_len, lls2_len, markL_len, rls_len, markR_len]); first | done | omega) | apply lk_prev)) (by first | rfl | exact upto_len | assumption | exact map_len | exact List.length_set | (rw [List.length_set]; assumption)) | with_reducible apply Ints.app | (refine Ints.sub (by with_reducible repeat (first | assumption | apply Ints.app)) (by omega) (by omega) (by omega)))) ?_)
  refine a_do rfl (o_move (by conv => lhs; whnf) ?_)
  refine a_do rfl (o_lenI Try.underlying22 (by conv => lhs; whnf) (by first | ((with_reducible repeat (first | assumption | apply Ints.app)); done) | repeat (first | with_reducible assumption | exact ints_nil | exact Ints.own (by with_reducible repeat (first | assumption | (apply lk_last; (try simp only [ll1, ll2, ll3, ll4, lls_len, lls2_len, markL_len, rls_len, markR_len]); first | done | omega) | apply lk_prev)) (by first | rfl | exact upto_len | assumption | exact map_len | exact List.length_set | (rw [List.length_set]; assumption)) | exact Ints.tail (by with_reducible repeat (first | assumption | (apply lk_last; (try simp only [ll1, ll2, ll3, ll4, lls_len, lls2_len, markL_len, rls_len, markR_len]); first | done | omega) | apply lk_prev)) (by first | rfl | exact upto_len | assumption | exact map_len | exact List.length_set | (rw [List.length_set]; assumption)) | with_reducible apply Ints.app | (refine Ints.sub (by with_reducible repeat (first | assumption | apply Ints.app)) (by omega) (by omega) (by omega)))) ?_)
  refine a_do rfl (o_neq (by conv => lhs; whnf) (by conv => lhs; whnf) (fun c1 => ?_) (fun c1 => ?_))
  ·
    refine a_end ?_
    refine awp_condT (by conv => lhs; whnf) ?_
    refine awp_seq ?_
    refine awp_region rfl ?_
    refine a_do rfl (o_assign (by conv => lhs; whnf) ?_)
    refine a_end ?_
    refine awp_ret ?_
    refine ⟨.inl rfl, [_], ⟨ares_tmp (by conv => lhs; whnf), trivial⟩, ?_⟩
    exact ⟨congrArg Value.bool (by first | (rw [decide_eq_true]; exact eq_take_full (by omega) (by omega) ha) | (rw [decide_eq_false]; first | exact ne_of_getD ‹_› | exact ne_of_length ‹_›)), Grown.refl _⟩
  ·
    refine a_end ?_
    refine awp_condF (by conv => lhs; whnf) ?_
    refine awp_skip ?_
    refine awp_seq ?_
    refine awp_seq ?_
    refine awp_region rfl ?_
    refine a_do rfl (o_assign (by conv => lhs; whnf) ?_)
    refine a_end ?_
    refine awp_block ?_
    refine awp_loop (σ := Nat) (fun s env1 h1 => Slots env1 [(0, v), (1, w), (5, i64 s)] ∧ h1 = h ∧ s ≤ xs.length ∧ xs.take s = ys.take s) (fun s => xs.length - s) 0 ?_ ?_
    · refine ⟨Slots.mk ⟨?_, ?_, ?_, trivial⟩, ?_, ?_⟩
      all_goals first | rfl | simp
    · intro s env1 h1 hI1
      obtain ⟨⟨e1, rfl⟩, rfl, ⟨hs, ha⟩⟩ := hI1
      refine awp_seq ?_
      refine awp_seq ?_
      refine awp_region rfl ?_
      refine a_do rfl (o_move (by conv => lhs; whnf) ?_)
      refine a_do rfl (o_move (by conv => lhs; whnf) ?_)
      refine a_do rfl (o_lenI Try.underlying22 (by conv => lhs; whnf) (by first | ((with_reducible repeat (first | assumption | apply Ints.app)); done) | repeat (first | with_reducible assumption | exact ints_nil | exact Ints.own (by with_reducible repeat (first | assumption | (apply lk_last; (try simp only [ll1, ll2, ll3, ll4, lls_len, lls2_len, markL_len, rls_len, markR_len]); first | done | omega) | apply lk_prev)) (by first | rfl | exact upto_len | assumption | exact map_len | exact List.length_set | (rw [List.length_set]; assumption)) | exact Ints.tail (by with_reducible repeat (first | assumption | (apply lk_last; (try simp only [ll1, ll2, ll3, ll4, lls_len, lls2_len, markL_len, rls_len, markR_len]); first | done | omega) | apply lk_prev)) (by first | rfl | exact upto_len | assumption | exact map_len | exact List.length_set | (rw [List.length_set]; assumption)) | with_reducible apply Ints.app | (refine Ints.sub (by with_reducible repeat (first | assumption | apply Ints.app)) (by omega) (by omega) (by omega)))) ?_)
      refine a_do rfl (o_lss (by conv => lhs; whnf) (by conv => lhs; whnf) (fun c2 => ?_) (fun c2 => ?_))
      ·
        refine a_end ?_
        refine awp_condT (by conv => lhs; whnf) ?_
        refine awp_skip ?_
        refine awp_seq ?_
        refine awp_block ?_
        refine awp_seq ?_
        refine awp_draw Try_mixed (by kernel_rfl) rfl ?_
        refine d_do rfl (o_move (by conv => lhs; whnf) ⟨rfl, rfl⟩) (by first | exact .prim rfl | (apply within_sl; (with_reducible repeat (first | assumption | (apply lk_last; (try simp only [ll1, ll2, ll3, ll4, lls_len, lls2_len, markL_len, rls_len, markR_len]); first | done | omega) | apply lk_prev)); done) | ((try apply within_sub); apply Ints.within; (with_reducible repeat (first | assumption | apply Ints.app)); done) | (apply Lists.within; (with_reducible repeat (first | assumption | apply Lists.app)); done) | (apply Recs.within; (with_reducible repeat (first | assumption | apply Recs.app)); done) | (apply IsRec.within; (with_reducible repeat (first | assumption | apply IsRec.app)); done) | (apply Flts.within; (with_reducible repeat (first | assumption | apply Flts.app)); done) | (apply Byts.within; (with_reducible repeat (first | assumption | apply Byts.app)); done)) ?_
        refine d_do rfl (o_move (by conv => lhs; whnf) ⟨rfl, rfl⟩) (by exact .prim rfl) ?_
        first | refine d_indexI rfl Try.underlying22 ty2 (by conv => lhs; whnf) (by first | ((with_reducible repeat (first | assumption | apply Ints.app)); done) | repeat (first | with_reducible assumption | exact ints_nil | exact Ints.own (by with_reducible repeat (first | assumption | (apply lk_last; (try simp only [ll1, ll2, ll3, ll4, lls_len, lls2_len, markL_len, rls_len, markR_len]); first | done | omega) | apply lk_prev)) (by first | rfl | exact upto_len | assumption | exact map_len | exact List.length_set | (rw [List.length_set]; assumption)) | exact Ints.tail (by with_reducible repeat (first | assumption | (apply lk_last; (try simp only [ll1, ll2, ll3, ll4, lls_len, lls2_len, markL_len, rls_len, markR_len]); first | done | omega) | apply lk_prev)) (by first | rfl | exact upto_len | assumption | exact map_len | exact List.length_set | (rw [List.length_set]; assumption)) | with_reducible apply Ints.app | (refine Ints.sub (by with_reducible repeat (first | assumption | apply Ints.app)) (by omega) (by omega) (by omega)))) (by conv => lhs; whnf) (by omega) (fun p3 hp3 => ?_) | refine d_indexZ rfl Try.underlying22 ty2 (by conv => lhs; whnf) (by first | ((with_reducible repeat (first | assumption | apply Ints.app)); done) | repeat (first | with_reducible assumption | exact ints_nil | exact Ints.own (by with_reducible repeat (first | assumption | (apply lk_last; (try simp only [ll1, ll2, ll3, ll4, lls_len, lls2_len, markL_len, rls_len, markR_len]); first | done | omega) | apply lk_prev)) (by first | rfl | exact upto_len | assumption | exact map_len | exact List.length_set | (rw [List.length_set]; assumption)) | exact Ints.tail (by with_reducible repeat (first | assumption | (apply lk_last; (try simp only [ll1, ll2, ll3, ll4, lls_len, lls2_len, markL_len, rls_len, markR_len]); first | done | omega) | apply lk_prev)) (by first | rfl | exact upto_len | assumption | exact map_len | exact List.length_set | (rw [List.length_set]; assumption)) | with_reducible apply Ints.app | (refine Ints.sub (by with_reducible repeat (first | assumption | apply Ints.app)) (by omega) (by omega) (by omega)))) (by conv => lhs; whnf) (by omega) (by omega) (fun p3 hp3 => ?_)
        refine d_do rfl (o_loadI Try.underlying2 rfl (by conv => lhs; whnf) hp3 (by first | ((with_reducible repeat (first | assumption | apply Ints.app)); done) | repeat (first | with_reducible assumption | exact ints_nil | exact Ints.own (by with_reducible repeat (first | assumption | (apply lk_last; (try simp only [ll1, ll2, ll3, ll4, lls_len, lls2_len, markL_len, rls_len, markR_len]); first | done | omega) | apply lk_prev)) (by first | rfl | exact upto_len | assumption | exact map_len | exact List.length_set | (rw [List.length_set]; assumption)) | exact Ints.tail (by with_reducible repeat (first | assumption | (apply lk_last; (try simp only [ll1, ll2, ll3, ll4, lls_len, lls2_len, markL_len, rls_len, markR_len]); first | done | omega) | apply lk_prev)) (by first | rfl | exact upto_len | assumption | exact map_len | exact List.length_set | (rw [List.length_set]; assumption)) | with_reducible apply Ints.app | (refine Ints.sub (by with_reducible repeat (first | assumption | apply Ints.app)) (by omega) (by omega) (by omega)))) (by omega) ⟨rfl, rfl⟩) (by exact .prim rfl) ?_
        refine d_do rfl (o_move (by conv => lhs; whnf) ⟨rfl, rfl⟩) (by first | exact .prim rfl | (apply within_sl; (with_reducible repeat (first | assumption | (apply lk_last; (try simp only [ll1, ll2, ll3, ll4, lls_len, lls2_len, markL_len, rls_len, markR_len]); first | done | omega) | apply lk_prev)); done) | ((try apply within_sub); apply Ints.within; (with_reducible repeat (first | assumption | apply Ints.app)); done) | (apply Lists.within; (with_reducible repeat (first | assumption | apply Lists.app)); done) | (apply Recs.within; (with_reducible repeat (first | assumption | apply Recs.app)); done) | (apply IsRec.within; (with_reducible repeat (first | assumption | apply IsRec.app)); done) | (apply Flts.within; (with_reducible repeat (first | assumption | apply Flts.app)); done) | (apply Byts.within; (with_reducible repeat (first | assumption | apply Byts.app)); done)) ?_
        refine d_do rfl (o_move (by conv => lhs; whnf) ⟨rfl, rfl⟩) (by exact .prim rfl) ?_
        first | refine d_indexI rfl Try.underlying22 ty2 (by conv => lhs; whnf) (by first | ((with_reducible repeat (first | assumption | apply Ints.app)); done) | repeat (first | with_reducible assumption | exact ints_nil | exact Ints.own (by with_reducible repeat (first | assumption | (apply lk_last; (try simp only [ll1, ll2, ll3, ll4, lls_len, lls2_len, markL_len, rls_len, markR_len]); first | done | omega) | apply lk_prev)) (by first | rfl | exact upto_len | assumption | exact map_len | exact List.length_set | (rw [List.length_set]; assumption)) | exact Ints.tail (by with_reducible repeat (first | assumption | (apply lk_last; (try simp only [ll1, ll2, ll3, ll4, lls_len, lls2_len, markL_len, rls_len, markR_len]); first | done | omega) | apply lk_prev)) (by first | rfl | exact upto_len | assumption | exact map_len | exact List.length_set | (rw [List.length_set]; assumption)) | with_reducible apply Ints.app | (refine Ints.sub (by with_reducible repeat (first | assumption | apply Ints.app)) (by omega) (by omega) (by omega)))) (by conv => lhs; whnf) (by omega) (fun p4 hp4 => ?_) | refine d_indexZ rfl Try.underlying22 ty2 (by conv => lhs; whnf) (by first | ((with_reducible repeat (first | assumption | apply Ints.app)); done) | repeat (first | with_reducible assumption | exact ints_nil | exact Ints.own (by with_reducible repeat (first | assumption | (apply lk_last; (try simp only [ll1, ll2, ll3, ll4, lls_len, lls2_len, markL_len, rls_len, markR_len]); first | done | omega) | apply lk_prev)) (by first | rfl | exact upto_len | assumption | exact map_len | exact List.length_set | (rw [List.length_set]; assumption)) | exact Ints.tail (by with_reducible repeat (first | assumption | (apply lk_last; (try simp only [ll1, ll2, ll3, ll4, lls_len, lls2_len, markL_len, rls_len, markR_len]); first | done | omega) | apply lk_prev)) (by first | rfl | exact upto_len | assumption | exact map_len | exact List.length_set | (rw [List.length_set]; assumption)) | with_reducible apply Ints.app | (refine Ints.sub (by with_reducible repeat (first | assumption | apply Ints.app)) (by omega) (by omega) (by omega)))) (by conv => lhs; whnf) (by omega) (by omega) (fun p4 hp4 => ?_)
        refine d_do rfl (o_loadI Try.underlying2 rfl (by conv => lhs; whnf) hp4 (by first | ((with_reducible repeat (first | assumption | apply Ints.app)); done) | repeat (first | with_reducible assumption | exact ints_nil | exact Ints.own (by with_reducible repeat (first | assumption | (apply lk_last; (try simp only [ll1, ll2, ll3, ll4, lls_len, lls2_len, markL_len, rls_len, markR_len]); first | done | omega) | apply lk_prev)) (by first | rfl | exact upto_len | assumption | exact map_len | exact List.length_set | (rw [List.length_set]; assumption)) | exact Ints.tail (by with_reducible repeat (first | assumption | (apply lk_last; (try simp only [ll1, ll2, ll3, ll4, lls_len, lls2_len, markL_len, rls_len, markR_len]); first | done | omega) | apply lk_prev)) (by first | rfl | exact upto_len | assumption | exact map_len | exact List.length_set | (rw [List.length_set]; assumption)) | with_reducible apply Ints.app | (refine Ints.sub (by with_reducible repeat (first | assumption | apply Ints.app)) (by omega) (by omega) (by omega)))) (by omega) ⟨rfl, rfl⟩) (by exact .prim rfl) ?_
        refine d_neq rfl (by conv => lhs; whnf) (by conv => lhs; whnf) (fun c5 => ?_) (fun c5 => ?_)
        ·
          refine d_end ?_
          refine awp_condT (by conv => lhs; whnf) ?_
          refine awp_seq ?_
          refine awp_region rfl ?_
          refine a_do rfl (o_assign (by conv => lhs; whnf) ?_)
          refine a_end ?_
          refine awp_ret ?_
          refine ⟨.inl rfl, [_], ⟨ares_tmp (by conv => lhs; whnf), trivial⟩, ?_⟩
          exact ⟨congrArg Value.bool (by first | (rw [decide_eq_true]; exact eq_take_full (by omega) (by omega) ha) | (rw [decide_eq_false]; first | exact ne_of_getD ‹_› | exact ne_of_length ‹_›)), Grown.refl _⟩
        ·
          refine d_end ?_
          refine awp_condF (by conv => lhs; whnf) ?_
          refine awp_skip ?_
          refine awp_region rfl ?_
          refine a_do rfl (o_move (by conv => lhs; whnf) ?_)
          refine a_do rfl (o_add (by conv => lhs; whnf) (by conv => lhs; whnf) (by omega) (by omega) ?_)
          refine a_do rfl (o_assign (by conv => lhs; whnf) ?_)
          refine a_end ?_
          refine ⟨s + 1, ⟨Slots.mk ⟨?_, ?_, ?_, trivial⟩, ?_, ?_⟩, ?_⟩
          all_goals first | rfl | omega | exact ⟨by omega, eq_take_step (by omega) (by omega) ha ‹_›⟩
      ·
        refine a_end ?_
        refine awp_condF (by conv => lhs; whnf) ?_
        refine awp_exit ?_
        refine awp_seq ?_
        refine awp_region rfl ?_
        refine a_do rfl (o_assign (by conv => lhs; whnf) ?_)
        refine a_end ?_
        refine awp_ret ?_
        refine ⟨.inl rfl, [_], ⟨ares_tmp (by conv => lhs; whnf), trivial⟩, ?_⟩
        exact ⟨congrArg Value.bool (by first | (rw [decide_eq_true]; exact eq_take_full (by omega) (by omega) ha) | (rw [decide_eq_false]; first | exact ne_of_getD ‹_› | exact ne_of_length ‹_›)), Grown.refl _⟩

set_option maxRecDepth 10000 in
theorem toInt64S_ret (xs : List Int) (v : Value) (h : AHeap) (hv : Ints h v xs) (hl : xs.length ≤ 1073741824) : RetN Try.prog 11 [v] h (fun k => sl k xs.length) (lst xs) := by
  refine ret1_of (o := lst xs) (V := fun k => sl k xs.length) (fun _ _ => .slice) (.slice (by omega)) (by simp [lst, isPrim]) ?_
  refine tri_of_body Try.func11 rfl (by kernel_rfl) (by show 1 ≤ 22; decide) ?_
  refine awp_seq ?_
  refine awp_region rfl ?_
  refine a_do rfl (o_assign (by conv => lhs; whnf) ?_)
  refine a_end ?_
  refine awp_seq ?_
  refine awp_region rfl ?_
  refine a_do rfl (o_move (by conv => lhs; whnf) ?_)
  refine a_do rfl (o_lenI Try.underlying22 (by conv => lhs; whnf) (by first | ((with_reducible repeat (first | assumption | apply Ints.app)); done) | repeat (first | with_reducible assumption | exact ints_nil | exact Ints.own (by with_reducible repeat (first | assumption | (apply lk_last; (try simp only [ll1, ll2, ll3, ll4, lls_len, lls2_len, markL_len, rls_len, markR_len]); first | done | omega) | apply lk_prev)) (by first | rfl | exact upto_len | assumption | exact map_len | exact List.length_set | (rw [List.length_set]; assumption)) | exact Ints.tail (by with_reducible repeat (first | assumption | (apply lk_last; (try simp only [ll1, ll2, ll3, ll4, lls_len, lls2_len, markL_len, rls_len, markR_len]); first | done | omega) | apply lk_prev)) (by first | rfl | exact upto_len | assumption | exact map_len | exact List.length_set | (rw [List.length_set]; assumption)) | with_reducible apply Ints.app | (refine Ints.sub (by with_reducible repeat (first | assumption | apply Ints.app)) (by omega) (by omega) (by omega)))) ?_)
  first | refine a_do rfl (o_makeI Try.underlying22 ty2 (by conv => lhs; whnf) (by conv => lhs; whnf) (by omega) (by omega) (fun k1 hk1 => ?_)) | refine a_do rfl (o_makeZ Try.underlying22 ty2 (by conv => lhs; whnf) (by conv => lhs; whnf) (by omega) (by omega) (fun k1 hk1 => ?_))
  try simp at hk1
  refine a_do rfl (o_assign (by conv => lhs; whnf) ?_)
  refine a_end ?_
  refine awp_seq ?_
  refine awp_seq ?_
  refine awp_region rfl ?_
  refine a_do rfl (o_assign (by conv => lhs; whnf) ?_)
  refine a_end ?_
  refine awp_block ?_
  refine awp_loop (σ := Nat) (fun s env1 h1 => Slots env1 [(0, v), (3, sl k1 xs.length), (4, i64 s)] ∧ h1 = h ++ [lst (xs.take s ++ List.replicate (xs.length - s) 0)] ∧ s ≤ xs.length) (fun s => xs.length - s) 0 ?_ ?_
  · refine ⟨Slots.mk ⟨?_, ?_, ?_, trivial⟩, ?_, ?_⟩
    all_goals first | rfl | simp
  · intro s env1 h1 hI1
    obtain ⟨⟨e1, rfl⟩, rfl, hs⟩ := hI1
    have hfl := fill_len (xs := xs) (k := s) rfl hs
    have hI := Ints.new (h := h) hk1 hfl
    refine awp_seq ?_
    refine awp_seq ?_
    refine awp_region rfl ?_
    refine a_do rfl (o_move (by conv => lhs; whnf) ?_)
    refine a_do rfl (o_move (by conv => lhs; whnf) ?_)
    refine a_do rfl (o_lenI Try.underlying22 (by conv => lhs; whnf) (by first | ((with_reducible repeat (first | assumption | apply Ints.app)); done) | repeat (first | with_reducible assumption | exact ints_nil | exact Ints.own (by with_reducible repeat (first | assumption | (apply lk_last; (try simp only [ll1, ll2, ll3, ll4, lls_len, lls2_len, markL_len, rls_len, markR_len]); first | done | omega) | apply lk_prev)) (by first | rfl | exact upto_len | assumption | exact map_len | exact List.length_set | (rw [List.length_set]; assumption)) | exact Ints.tail (by with_reducible repeat (first | assumption | (apply lk_last; (try simp only [ll1, ll2, ll3, ll4, lls_len, lls2_len, markL_len, rls_len, markR_len]); first | done | omega) | apply lk_prev)) (by first | rfl | exact upto_len | assumption | exact map_len | exact List.length_set | (rw [List.length_set]; assumption)) | with_reducible apply Ints.app | (refine Ints.sub (by with_reducible repeat (first | assumption | apply Ints.app)) (by omega) (by omega) (by omega)))) ?_)
    refine a_do rfl (o_lss (by conv => lhs; whnf) (by conv => lhs; whnf) (fun c2 => ?_) (fun c2 => ?_))
    ·
      refine a_end ?_
      refine awp_condT (by conv => lhs; whnf) ?_
      refine awp_skip ?_
      refine awp_seq ?_
      refine awp_block ?_
      refine awp_region rfl ?_
      refine a_do rfl (o_move (by conv => lhs; whnf) ?_)
      refine a_do rfl (o_move (by conv => lhs; whnf) ?_)
      refine a_do rfl (o_move (by conv => lhs; whnf) ?_)
      refine a_do rfl (o_move (by conv => lhs; whnf) ?_)
      first | refine a_do rfl (o_indexI Try.underlying22 ty2 (by conv => lhs; whnf) (by first | ((with_reducible repeat (first | assumption | apply Ints.app)); done) | repeat (first | with_reducible assumption | exact ints_nil | exact Ints.own (by with_reducible repeat (first | assumption | (apply lk_last; (try simp only [ll1, ll2, ll3, ll4, lls_len, lls2_len, markL_len, rls_len, markR_len]); first | done | omega) | apply lk_prev)) (by first | rfl | exact upto_len | assumption | exact map_len | exact List.length_set | (rw [List.length_set]; assumption)) | exact Ints.tail (by with_reducible repeat (first | assumption | (apply lk_last; (try simp only [ll1, ll2, ll3, ll4, lls_len, lls2_len, markL_len, rls_len, markR_len]); first | done | omega) | apply lk_prev)) (by first | rfl | exact upto_len | assumption | exact map_len | exact List.length_set | (rw [List.length_set]; assumption)) | with_reducible apply Ints.app | (refine Ints.sub (by with_reducible repeat (first | assumption | apply Ints.app)) (by omega) (by omega) (by omega)))) (by conv => lhs; whnf) (by omega) (fun p3 hp3 => ?_)) | refine a_do rfl (o_indexZ Try.underlying22 ty2 (by conv => lhs; whnf) (by first | ((with_reducible repeat (first | assumption | apply Ints.app)); done) | repeat (first | with_reducible assumption | exact ints_nil | exact Ints.own (by with_reducible repeat (first | assumption | (apply lk_last; (try simp only [ll1, ll2, ll3, ll4, lls_len, lls2_len, markL_len, rls_len, markR_len]); first | done | omega) | apply lk_prev)) (by first | rfl | exact upto_len | assumption | exact map_len | exact List.length_set | (rw [List.length_set]; assumption)) | exact Ints.tail (by with_reducible repeat (first | assumption | (apply lk_last; (try simp only [ll1, ll2, ll3, ll4, lls_len, lls2_len, markL_len, rls_len, markR_len]); first | done | omega) | apply lk_prev)) (by first | rfl | exact upto_len | assumption | exact map_len | exact List.length_set | (rw [List.length_set]; assumption)) | with_reducible apply Ints.app | (refine Ints.sub (by with_reducible repeat (first | assumption | apply Ints.app)) (by omega) (by omega) (by omega)))) (by conv => lhs; whnf) (by omega) (by omega) (fun p3 hp3 => ?_))
      refine a_do rfl (o_loadI Try.underlying2 rfl (by conv => lhs; whnf) hp3 (by first | ((with_reducible repeat (first | assumption | apply Ints.app)); done) | repeat (first | with_reducible assumption | exact ints_nil | exact Ints.own (by with_reducible repeat (first | assumption | (apply lk_last; (try simp only [ll1, ll2, ll3, ll4, lls_len, lls2_len, markL_len, rls_len, markR_len]); first | done | omega) | apply lk_prev)) (by first | rfl | exact upto_len | assumption | exact map_len | exact List.length_set | (rw [List.length_set]; assumption)) | exact Ints.tail (by with_reducible repeat (first | assumption | (apply lk_last; (try simp only [ll1, ll2, ll3, ll4, lls_len, lls2_len, markL_len, rls_len, markR_len]); first | done | omega) | apply lk_prev)) (by first | rfl | exact upto_len | assumption | exact map_len | exact List.length_set | (rw [List.length_set]; assumption)) | with_reducible apply Ints.app | (refine Ints.sub (by with_reducible repeat (first | assumption | apply Ints.app)) (by omega) (by omega) (by omega)))) (by omega) ?_)
      first | refine a_do rfl (o_indexI Try.underlying22 ty2 (by conv => lhs; whnf) (by first | ((with_reducible repeat (first | assumption | apply Ints.app)); done) | repeat (first | with_reducible assumption | exact ints_nil | exact Ints.own (by with_reducible repeat (first | assumption | (apply lk_last; (try simp only [ll1, ll2, ll3, ll4, lls_len, lls2_len, markL_len, rls_len, markR_len]); first | done | omega) | apply lk_prev)) (by first | rfl | exact upto_len | assumption | exact map_len | exact List.length_set | (rw [List.length_set]; assumption)) | exact Ints.tail (by with_reducible repeat (first | assumption | (apply lk_last; (try simp only [ll1, ll2, ll3, ll4, lls_len, lls2_len, markL_len, rls_len, markR_len]); first | done | omega) | apply lk_prev)) (by first | rfl | exact upto_len | assumption | exact map_len | exact List.length_set | (rw [List.length_set]; assumption)) | with_reducible apply Ints.app | (refine Ints.sub (by with_reducible repeat (first | assumption | apply Ints.app)) (by omega) (by omega) (by omega)))) (by conv => lhs; whnf) (by omega) (fun p4 hp4 => ?_)) | refine a_do rfl (o_indexZ Try.underlying22 ty2 (by conv => lhs; whnf) (by first | ((with_reducible repeat (first | assumption | apply Ints.app)); done) | repeat (first | with_reducible assumption | exact ints_nil | exact Ints.own (by with_reducible repeat (first | assumption | (apply lk_last; (try simp only [ll1, ll2, ll3, ll4, lls_len, lls2_len, markL_len, rls_len, markR_len]); first | done | omega) | apply lk_prev)) (by first | rfl | exact upto_len | assumption | exact map_len | exact List.length_set | (rw [List.length_set]; assumption)) | exact Ints.tail (by with_reducible repeat (first | assumption | (apply lk_last; (try simp only [ll1, ll2, ll3, ll4, lls_len, lls2_len, markL_len, rls_len, markR_len]); first | done | omega) | apply lk_prev)) (by first | rfl | exact upto_len | assumption | exact map_len | exact List.length_set | (rw [List.length_set]; assumption)) | with_reducible apply Ints.app | (refine Ints.sub (by with_reducible repeat (first | assumption | apply Ints.app)) (by omega) (by omega) (by omega)))) (by conv => lhs; whnf) (by omega) (by omega) (fun p4 hp4 => ?_))
      refine a_do rfl (o_storeI ty2 (by conv => lhs; whnf) hp4 (by with_reducible repeat (first | assumption | (apply lk_last; (try simp only [ll1, ll2, ll3, ll4, lls_len, lls2_len, markL_len, rls_len, markR_len]); first | done | omega) | apply lk_prev)) (by first | rfl | omega | (simp; done) | (simp; omega)) (by omega) (by conv => lhs; whnf) (by with_reducible repeat (first | (apply set_last; (try simp only [ll1, ll2, ll3, ll4, lls_len, lls2_len, markL_len, rls_len, markR_len]); first | done | omega) | (apply set_step; (try simp only [ll1, ll2, ll3, ll4, lls_len, lls2_len, markL_len, rls_len, markR_len]); first | done | omega) | exact rfl)) ?_)
      refine a_end ?_
      refine awp_region rfl ?_
      refine a_do rfl (o_move (by conv => lhs; whnf) ?_)
      refine a_do rfl (o_add (by conv => lhs; whnf) (by conv => lhs; whnf) (by omega) (by omega) ?_)
      refine a_do rfl (o_assign (by conv => lhs; whnf) ?_)
      refine a_end ?_
      refine ⟨s + 1, ⟨Slots.mk ⟨?_, ?_, ?_, trivial⟩, ?_, ?_⟩, ?_⟩
      all_goals first | rfl | omega | (rw [fill_step rfl (by omega)])
    ·
      refine a_end ?_
      refine awp_condF (by conv => lhs; whnf) ?_
      refine awp_exit ?_
      refine awp_seq ?_
      refine awp_region rfl ?_
      refine a_do rfl (o_move (by conv => lhs; whnf) ?_)
      refine a_do rfl (o_assign (by conv => lhs; whnf) ?_)
      refine a_end ?_
      refine awp_ret ?_
      refine ⟨.inl rfl, [_], ⟨ares_tmp (by conv => lhs; whnf), trivial⟩, ?_⟩
      exact ⟨k1, rfl, .push (.refl _) _, by rw [fill_full rfl (by omega)]; exact lk_last hk1, by omega⟩

set_option maxRecDepth 10000 in
theorem sumOf_ret (xs : List Int) (v : Value) (h : AHeap) (hv : Ints h v xs) (hl : xs.length ≤ 1073741824) : Ret Try.prog 68 [v] h (i64 (sumW xs)) h := by
  refine ret_of (.prim rfl) ?_
  refine tri_of_body Try.func68 rfl (by kernel_rfl) (by show 1 ≤ 17; decide) ?_
  refine awp_seq ?_
  refine awp_region rfl ?_
  refine a_do rfl (o_assign (by conv => lhs; whnf) ?_)
  refine a_end ?_
  refine awp_seq ?_
  refine awp_region rfl ?_
  refine a_do rfl (o_assign (by conv => lhs; whnf) ?_)
  refine a_end ?_
  refine awp_seq ?_
  refine awp_seq ?_
  refine awp_region rfl ?_
  refine a_do rfl (o_move (by conv => lhs; whnf) ?_)
  refine a_do rfl (o_lenI Try.underlying22 (by conv => lhs; whnf) (by first | ((with_reducible repeat (first | assumption | apply Ints.app)); done) | repeat (first | with_reducible assumption | exact ints_nil | exact Ints.own (by with_reducible repeat (first | assumption | (apply lk_last; (try simp only [ll1, ll2, ll3, ll4, lls_len, lls2_len, markL_len, rls_len, markR_len]); first | done | omega) | apply lk_prev)) (by first | rfl | exact upto_len | assumption | exact map_len | exact List.length_set | (rw [List.length_set]; assumption)) | exact Ints.tail (by with_reducible repeat (first | assumption | (apply lk_last; (try simp only [ll1, ll2, ll3, ll4, lls_len, lls2_len, markL_len, rls_len, markR_len]); first | done | omega) | apply lk_prev)) (by first | rfl | exact upto_len | assumption | exact map_len | exact List.length_set | (rw [List.length_set]; assumption)) | with_reducible apply Ints.app | (refine Ints.sub (by with_reducible repeat (first | assumption | apply Ints.app)) (by omega) (by omega) (by omega)))) ?_)
  refine a_do rfl (o_move (by conv => lhs; whnf) ?_)
  refine a_end ?_
  refine awp_block ?_
  refine awp_loop (σ := Nat) (fun s env1 h1 => Slots env1 [(3, i64 (sumW (xs.take s))), (6, v), (7, i64 xs.length), (8, i64 s)] ∧ h1 = h ∧ s ≤ xs.length) (fun s => xs.length - s) 0 ?_ ?_
  · refine ⟨Slots.mk ⟨?_, ?_, ?_, ?_, trivial⟩, ?_, ?_⟩
    all_goals first | rfl | simp
  · intro s env1 h1 hI1
    obtain ⟨⟨e1, rfl⟩, rfl, hs⟩ := hI1
    refine awp_seq ?_
    refine awp_region rfl ?_
    refine a_do rfl (o_lss (by conv => lhs; whnf) (by conv => lhs; whnf) (fun c1 => ?_) (fun c1 => ?_))
    ·
      refine a_end ?_
      refine awp_seq ?_
      refine awp_condT (by conv => lhs; whnf) ?_
      refine awp_skip ?_
      refine awp_seq ?_
      refine awp_block ?_
      refine awp_seq ?_
      refine awp_region rfl ?_
      first | refine a_do rfl (o_indexI Try.underlying22 ty2 (by conv => lhs; whnf) (by first | ((with_reducible repeat (first | assumption | apply Ints.app)); done) | repeat (first | with_reducible assumption | exact ints_nil | exact Ints.own (by with_reducible repeat (first | assumption | (apply lk_last; (try simp only [ll1, ll2, ll3, ll4, lls_len, lls2_len, markL_len, rls_len, markR_len]); first | done | omega) | apply lk_prev)) (by first | rfl | exact upto_len | assumption | exact map_len | exact List.length_set | (rw [List.length_set]; assumption)) | exact Ints.tail (by with_reducible repeat (first | assumption | (apply lk_last; (try simp only [ll1, ll2, ll3, ll4, lls_len, lls2_len, markL_len, rls_len, markR_len]); first | done | omega) | apply lk_prev)) (by first | rfl | exact upto_len | assumption | exact map_len | exact List.length_set | (rw [List.length_set]; assumption)) | with_reducible apply Ints.app | (refine Ints.sub (by with_reducible repeat (first | assumption | apply Ints.app)) (by omega) (by omega) (by omega)))) (by conv => lhs; whnf) (by omega) (fun p2 hp2 => ?_)) | refine a_do rfl (o_indexZ Try.underlying22 ty2 (by conv => lhs; whnf) (by first | ((with_reducible repeat (first | assumption | apply Ints.app)); done) | repeat (first | with_reducible assumption | exact ints_nil | exact Ints.own (by with_reducible repeat (first | assumption | (apply lk_last; (try simp only [ll1, ll2, ll3, ll4, lls_len, lls2_len, markL_len, rls_len, markR_len]); first | done | omega) | apply lk_prev)) (by first | rfl | exact upto_len | assumption | exact map_len | exact List.length_set | (rw [List.length_set]; assumption)) | exact Ints.tail (by with_reducible repeat (first | assumption | (apply lk_last; (try simp only [ll1, ll2, ll3, ll4, lls_len, lls2_len, markL_len, rls_len, markR_len]); first | done | omega) | apply lk_prev)) (by first | rfl | exact upto_len | assumption | exact map_len | exact List.length_set | (rw [List.length_set]; assumption)) | with_reducible apply Ints.app | (refine Ints.sub (by with_reducible repeat (first | assumption | apply Ints.app)) (by omega) (by omega) (by omega)))) (by conv => lhs; whnf) (by omega) (by omega) (fun p2 hp2 => ?_))
      refine a_do rfl (o_loadI Try.underlying2 rfl (by conv => lhs; whnf) hp2 (by first | ((with_reducible repeat (first | assumption | apply Ints.app)); done) | repeat (first | with_reducible assumption | exact ints_nil | exact Ints.own (by with_reducible repeat (first | assumption | (apply lk_last; (try simp only [ll1, ll2, ll3, ll4, lls_len, lls2_len, markL_len, rls_len, markR_len]); first | done | omega) | apply lk_prev)) (by first | rfl | exact upto_len | assumption | exact map_len | exact List.length_set | (rw [List.length_set]; assumption)) | exact Ints.tail (by with_reducible repeat (first | assumption | (apply lk_last; (try simp only [ll1, ll2, ll3, ll4, lls_len, lls2_len, markL_len, rls_len, markR_len]); first | done | omega) | apply lk_prev)) (by first | rfl | exact upto_len | assumption | exact map_len | exact List.length_set | (rw [List.length_set]; assumption)) | with_reducible apply Ints.app | (refine Ints.sub (by with_reducible repeat (first | assumption | apply Ints.app)) (by omega) (by omega) (by omega)))) (by omega) ?_)
      refine a_do rfl (o_assign (by conv => lhs; whnf) ?_)
      refine a_end ?_
      refine awp_region rfl ?_
      refine a_do rfl (o_move (by conv => lhs; whnf) ?_)
      refine a_do rfl (o_move (by conv => lhs; whnf) ?_)
      refine a_do rfl (o_bin (by conv => lhs; whnf) (by conv => lhs; whnf) rfl ?_)
      refine a_do rfl (o_assign (by conv => lhs; whnf) ?_)
      refine a_end ?_
      refine awp_region rfl ?_
      refine a_do rfl (o_add (by conv => lhs; whnf) (by conv => lhs; whnf) (by omega) (by omega) ?_)
      refine a_do rfl (o_move (by conv => lhs; whnf) ?_)
      refine a_end ?_
      refine ⟨s + 1, ⟨Slots.mk ⟨?_, ?_, ?_, ?_, trivial⟩, ?_, ?_⟩, ?_⟩
      all_goals first | rfl | omega | exact congrArg i64 (by omega) | exact congrArg i64 (sumW_step (by omega))
    ·
      refine a_end ?_
      refine awp_seq ?_
      refine awp_condF (by conv => lhs; whnf) ?_
      refine awp_exit ?_
      refine awp_seq ?_
      refine awp_region rfl ?_
      refine a_do rfl (o_move (by conv => lhs; whnf) ?_)
      refine a_do rfl (o_assign (by conv => lhs; whnf) ?_)
      refine a_end ?_
      refine awp_ret ?_
      refine ⟨.inl rfl, [_], ⟨ares_tmp (by conv => lhs; whnf), trivial⟩, ?_⟩
      exact ⟨congrArg i64 (sumW_full (by omega)), Grown.refl _⟩

set_option maxRecDepth 10000 in
theorem l04Sum_ret (xs : List Int) (v : Value) (h : AHeap) (hv : Ints h v xs) (hl : xs.length ≤ 1073741824) : Ret Try.prog 71 [v] h (i64 (sumW xs)) h := by
  refine ret_of (.prim rfl) ?_
  refine tri_of_body Try.func71 rfl (by kernel_rfl) (by show 1 ≤ 18; decide) ?_
  refine awp_seq ?_
  refine awp_region rfl ?_
  refine a_do rfl (o_assign (by conv => lhs; whnf) ?_)
  refine a_end ?_
  refine awp_seq ?_
  refine awp_region rfl ?_
  refine a_do rfl (o_assign (by conv => lhs; whnf) ?_)
  refine a_end ?_
  refine awp_seq ?_
  refine awp_seq ?_
  refine awp_region rfl ?_
  refine a_do rfl (o_assign (by conv => lhs; whnf) ?_)
  refine a_end ?_
  refine awp_block ?_
  refine awp_loop (σ := Nat) (fun s env1 h1 => Slots env1 [(0, v), (3, i64 (sumW (xs.take s))), (4, i64 s)] ∧ h1 = h ∧ s ≤ xs.length) (fun s => xs.length - s) 0 ?_ ?_
  · refine ⟨Slots.mk ⟨?_, ?_, ?_, trivial⟩, ?_, ?_⟩
    all_goals first | rfl | simp
  · intro s env1 h1 hI1
    obtain ⟨⟨e1, rfl⟩, rfl, hs⟩ := hI1
    refine awp_seq ?_
    refine awp_seq ?_
    refine awp_region rfl ?_
    refine a_do rfl (o_move (by conv => lhs; whnf) ?_)
    refine a_do rfl (o_move (by conv => lhs; whnf) ?_)
    refine a_do rfl (o_lenI Try.underlying22 (by conv => lhs; whnf) (by first | ((with_reducible repeat (first | assumption | apply Ints.app)); done) | repeat (first | with_reducible assumption | exact ints_nil | exact Ints.own (by with_reducible repeat (first | assumption | (apply lk_last; (try simp only [ll1, ll2, ll3, ll4, lls_len, lls2_len, markL_len, rls_len, markR_len]); first | done | omega) | apply lk_prev)) (by first | rfl | exact upto_len | assumption | exact map_len | exact List.length_set | (rw [List.length_set]; assumption)) | exact Ints.tail (by with_reducible repeat (first | assumption | (apply lk_last; (try simp only [ll1, ll2, ll3, ll4, lls_len, lls2_len, markL_len, rls_len, markR_len]); first | done | omega) | apply lk_prev)) (by first | rfl | exact upto_len | assumption | exact map_len | exact List.length_set | (rw [List.length_set]; assumption)) | with_reducible apply Ints.app | (refine Ints.sub (by with_reducible repeat (first | assumption | apply Ints.app)) (by omega) (by omega) (by omega)))) ?_)
    refine a_do rfl (o_lss (by conv => lhs; whnf) (by conv => lhs; whnf) (fun c1 => ?_) (fun c1 => ?_))
    ·
      refine a_end ?_
      refine awp_condT (by conv => lhs; whnf) ?_
      refine awp_skip ?_
      refine awp_seq ?_
      refine awp_block ?_
      refine awp_region rfl ?_
      refine a_do rfl (o_move (by conv => lhs; whnf) ?_)
      refine a_do rfl (o_move (by conv => lhs; whnf) ?_)
      refine a_do rfl (o_move (by conv => lhs; whnf) ?_)
      first | refine a_do rfl (o_indexI Try.underlying22 ty2 (by conv => lhs; whnf) (by first | ((with_reducible repeat (first | assumption | apply Ints.app)); done) | repeat (first | with_reducible assumption | exact ints_nil | exact Ints.own (by with_reducible repeat (first | assumption | (apply lk_last; (try simp only [ll1, ll2, ll3, ll4, lls_len, lls2_len, markL_len, rls_len, markR_len]); first | done | omega) | apply lk_prev)) (by first | rfl | exact upto_len | assumption | exact map_len | exact List.length_set | (rw [List.length_set]; assumption)) | exact Ints.tail (by with_reducible repeat (first | assumption | (apply lk_last; (try simp only [ll1, ll2, ll3, ll4, lls_len, lls2_len, markL_len, rls_len, markR_len]); first | done | omega) | apply lk_prev)) (by first | rfl | exact upto_len | assumption | exact map_len | exact List.length_set | (rw [List.length_set]; assumption)) | with_reducible apply Ints.app | (refine Ints.sub (by with_reducible repeat (first | assumption | apply Ints.app)) (by omega) (by omega) (by omega)))) (by conv => lhs; whnf) (by omega) (fun p2 hp2 => ?_)) | refine a_do rfl (o_indexZ Try.underlying22 ty2 (by conv => lhs; whnf) (by first | ((with_reducible repeat (first | assumption | apply Ints.app)); done) | repeat (first | with_reducible assumption | exact ints_nil | exact Ints.own (by with_reducible repeat (first | assumption | (apply lk_last; (try simp only [ll1, ll2, ll3, ll4, lls_len, lls2_len, markL_len, rls_len, markR_len]); first | done | omega) | apply lk_prev)) (by first | rfl | exact upto_len | assumption | exact map_len | exact List.length_set | (rw [List.length_set]; assumption)) | exact Ints.tail (by with_reducible repeat (first | assumption | (apply lk_last; (try simp only [ll1, ll2, ll3, ll4, lls_len, lls2_len, markL_len, rls_len, markR_len]); first | done | omega) | apply lk_prev)) (by first | rfl | exact upto_len | assumption | exact map_len | exact List.length_set | (rw [List.length_set]; assumption)) | with_reducible apply Ints.app | (refine Ints.sub (by with_reducible repeat (first | assumption | apply Ints.app)) (by omega) (by omega) (by omega)))) (by conv => lhs; whnf) (by omega) (by omega) (fun p2 hp2 => ?_))
      refine a_do rfl (o_loadI Try.underlying2 rfl (by conv => lhs; whnf) hp2 (by first | ((with_reducible repeat (first | assumption | apply Ints.app)); done) | repeat (first | with_reducible assumption | exact ints_nil | exact Ints.own (by with_reducible repeat (first | assumption | (apply lk_last; (try simp only [ll1, ll2, ll3, ll4, lls_len, lls2_len, markL_len, rls_len, markR_len]); first | done | omega) | apply lk_prev)) (by first | rfl | exact upto_len | assumption | exact map_len | exact List.length_set | (rw [List.length_set]; assumption)) | exact Ints.tail (by with_reducible repeat (first | assumption | (apply lk_last; (try simp only [ll1, ll2, ll3, ll4, lls_len, lls2_len, markL_len, rls_len, markR_len]); first | done | omega) | apply lk_prev)) (by first | rfl | exact upto_len | assumption | exact map_len | exact List.length_set | (rw [List.length_set]; assumption)) | with_reducible apply Ints.app | (refine Ints.sub (by with_reducible repeat (first | assumption | apply Ints.app)) (by omega) (by omega) (by omega)))) (by omega) ?_)
      refine a_do rfl (o_bin (by conv => lhs; whnf) (by conv => lhs; whnf) rfl ?_)
      refine a_do rfl (o_assign (by conv => lhs; whnf) ?_)
      refine a_end ?_
      refine awp_region rfl ?_
      refine a_do rfl (o_move (by conv => lhs; whnf) ?_)
      refine a_do rfl (o_add (by conv => lhs; whnf) (by conv => lhs; whnf) (by omega) (by omega) ?_)
      refine a_do rfl (o_assign (by conv => lhs; whnf) ?_)
      refine a_end ?_
      refine ⟨s + 1, ⟨Slots.mk ⟨?_, ?_, ?_, trivial⟩, ?_, ?_⟩, ?_⟩
      all_goals first | rfl | omega | exact congrArg i64 (by omega) | exact congrArg i64 (sumW_step (by omega))
    ·
      refine a_end ?_
      refine awp_condF (by conv => lhs; whnf) ?_
      refine awp_exit ?_
      refine awp_seq ?_
      refine awp_region rfl ?_
      refine a_do rfl (o_move (by conv => lhs; whnf) ?_)
      refine a_do rfl (o_assign (by conv => lhs; whnf) ?_)
      refine a_end ?_
      refine awp_ret ?_
      refine ⟨.inl rfl, [_], ⟨ares_tmp (by conv => lhs; whnf), trivial⟩, ?_⟩
      exact ⟨congrArg i64 (sumW_full (by omega)), Grown.refl _⟩

set_option maxRecDepth 10000 in
theorem markInt64S_ret (c : Int) (k n : Nat) (xs : List Int) (h : AHeap) (ho : h[k]? = some (lst xs)) (hn : xs.length = n) (hl : xs.length ≤ 1073741824) (hc : 0 ≤ c ∧ c ≤ 1073741824) : Ret Try.prog 18 [sl k n, i64 c] h (i64 (c + n)) (h.set k (lst (upto c n))) := by
  subst hn
  have hk := (List.getElem?_eq_some_iff.1 ho).1
  refine retm_of (by simp) (.prim rfl) (fun cl => cl.set (by simp [lst, isPrim])) ?_
  refine tri_of_body Try.func18 rfl (by kernel_rfl) (by show 2 ≤ 19; decide) ?_
  refine awp_seq ?_
  refine awp_region rfl ?_
  refine a_do rfl (o_assign (by conv => lhs; whnf) ?_)
  refine a_end ?_
  refine awp_seq ?_
  refine awp_seq ?_
  refine awp_region rfl ?_
  refine a_do rfl (o_assign (by conv => lhs; whnf) ?_)
  refine a_end ?_
  refine awp_block ?_
  refine awp_loop (σ := Nat) (fun s env1 h1 => Slots env1 [(0, sl k xs.length), (1, i64 (c + s)), (5, i64 s)] ∧ h1 = h.set k (lst (upto c s ++ xs.drop s)) ∧ s ≤ xs.length) (fun s => xs.length - s) 0 ?_ ?_
  · refine ⟨Slots.mk ⟨?_, ?_, ?_, trivial⟩, ?_, ?_⟩
    all_goals first | rfl | exact congrArg i64 (show c = c + ((0 : Nat) : Int) by simp) | (rw [upto_zero, List.nil_append, List.drop_zero, set_same ho]; done) | (simp; done)
  · intro s env1 h1 hI1
    obtain ⟨⟨e1, rfl⟩, rfl, hs⟩ := hI1
    have hlk := lk_set (o := lst (upto c s ++ xs.drop s)) hk
    have hI : Ints (h.set k (lst (upto c s ++ xs.drop s))) (sl k xs.length) (upto c s ++ xs.drop s) := Ints.own hlk (by simp [upto_len]; omega)
    have hll : (upto c s ++ xs.drop s).length = xs.length := by simp [upto_len]; omega
    refine awp_seq ?_
    refine awp_seq ?_
    refine awp_region rfl ?_
    refine a_do rfl (o_move (by conv => lhs; whnf) ?_)
    refine a_do rfl (o_move (by conv => lhs; whnf) ?_)
    refine a_do rfl (o_lenI Try.underlying22 (by conv => lhs; whnf) (by first | ((with_reducible repeat (first | assumption | apply Ints.app)); done) | repeat (first | with_reducible assumption | exact ints_nil | exact Ints.own (by with_reducible repeat (first | assumption | (apply lk_last; (try simp only [ll1, ll2, ll3, ll4, lls_len, lls2_len, markL_len, rls_len, markR_len]); first | done | omega) | apply lk_prev)) (by first | rfl | exact upto_len | assumption | exact map_len | exact List.length_set | (rw [List.length_set]; assumption)) | exact Ints.tail (by with_reducible repeat (first | assumption | (apply lk_last; (try simp only [ll1, ll2, ll3, ll4, lls_len, lls2_len, markL_len, rls_len, markR_len]); first | done | omega) | apply lk_prev)) (by first | rfl | exact upto_len | assumption | exact map_len | exact List.length_set | (rw [List.length_set]; assumption)) | with_reducible apply Ints.app | (refine Ints.sub (by with_reducible repeat (first | assumption | apply Ints.app)) (by omega) (by omega) (by omega)))) ?_)
    refine a_do rfl (o_lss (by conv => lhs; whnf) (by conv => lhs; whnf) (fun c1 => ?_) (fun c1 => ?_))
    ·
      refine a_end ?_
      refine awp_condT (by conv => lhs; whnf) ?_
      refine awp_skip ?_
      refine awp_seq ?_
      refine awp_block ?_
      refine awp_seq ?_
      refine awp_region rfl ?_
      refine a_do rfl (o_move (by conv => lhs; whnf) ?_)
      refine a_do rfl (o_move (by conv => lhs; whnf) ?_)
      refine a_do rfl (o_move (by conv => lhs; whnf) ?_)
      first | refine a_do rfl (o_indexI Try.underlying22 ty2 (by conv => lhs; whnf) (by first | ((with_reducible repeat (first | assumption | apply Ints.app)); done) | repeat (first | with_reducible assumption | exact ints_nil | exact Ints.own (by with_reducible repeat (first | assumption | (apply lk_last; (try simp only [ll1, ll2, ll3, ll4, lls_len, lls2_len, markL_len, rls_len, markR_len]); first | done | omega) | apply lk_prev)) (by first | rfl | exact upto_len | assumption | exact map_len | exact List.length_set | (rw [List.length_set]; assumption)) | exact Ints.tail (by with_reducible repeat (first | assumption | (apply lk_last; (try simp only [ll1, ll2, ll3, ll4, lls_len, lls2_len, markL_len, rls_len, markR_len]); first | done | omega) | apply lk_prev)) (by first | rfl | exact upto_len | assumption | exact map_len | exact List.length_set | (rw [List.length_set]; assumption)) | with_reducible apply Ints.app | (refine Ints.sub (by with_reducible repeat (first | assumption | apply Ints.app)) (by omega) (by omega) (by omega)))) (by conv => lhs; whnf) (by omega) (fun p2 hp2 => ?_)) | refine a_do rfl (o_indexZ Try.underlying22 ty2 (by conv => lhs; whnf) (by first | ((with_reducible repeat (first | assumption | apply Ints.app)); done) | repeat (first | with_reducible assumption | exact ints_nil | exact Ints.own (by with_reducible repeat (first | assumption | (apply lk_last; (try simp only [ll1, ll2, ll3, ll4, lls_len, lls2_len, markL_len, rls_len, markR_len]); first | done | omega) | apply lk_prev)) (by first | rfl | exact upto_len | assumption | exact map_len | exact List.length_set | (rw [List.length_set]; assumption)) | exact Ints.tail (by with_reducible repeat (first | assumption | (apply lk_last; (try simp only [ll1, ll2, ll3, ll4, lls_len, lls2_len, markL_len, rls_len, markR_len]); first | done | omega) | apply lk_prev)) (by first | rfl | exact upto_len | assumption | exact map_len | exact List.length_set | (rw [List.length_set]; assumption)) | with_reducible apply Ints.app | (refine Ints.sub (by with_reducible repeat (first | assumption | apply Ints.app)) (by omega) (by omega) (by omega)))) (by conv => lhs; whnf) (by omega) (by omega) (fun p2 hp2 => ?_))
      refine a_do rfl (o_storeI ty2 (by conv => lhs; whnf) hp2 (by with_reducible repeat (first | assumption | (apply lk_last; (try simp only [ll1, ll2, ll3, ll4, lls_len, lls2_len, markL_len, rls_len, markR_len]); first | done | omega) | apply lk_prev)) (by first | rfl | omega | (simp; done) | (simp; omega)) (by omega) (by conv => lhs; whnf) (by with_reducible repeat (first | (apply set_last; (try simp only [ll1, ll2, ll3, ll4, lls_len, lls2_len, markL_len, rls_len, markR_len]); first | done | omega) | (apply set_step; (try simp only [ll1, ll2, ll3, ll4, lls_len, lls2_len, markL_len, rls_len, markR_len]); first | done | omega) | exact rfl)) ?_)
      refine a_end ?_
      refine awp_region rfl ?_
      refine a_do rfl (o_move (by conv => lhs; whnf) ?_)
      refine a_do rfl (o_add (by conv => lhs; whnf) (by conv => lhs; whnf) (by omega) (by omega) ?_)
      refine a_do rfl (o_assign (by conv => lhs; whnf) ?_)
      refine a_end ?_
      refine awp_region rfl ?_
      refine a_do rfl (o_move (by conv => lhs; whnf) ?_)
      refine a_do rfl (o_add (by conv => lhs; whnf) (by conv => lhs; whnf) (by omega) (by omega) ?_)
      refine a_do rfl (o_assign (by conv => lhs; whnf) ?_)
      refine a_end ?_
      refine ⟨s + 1, ⟨Slots.mk ⟨?_, ?_, ?_, trivial⟩, ?_, ?_⟩, ?_⟩
      all_goals first | rfl | omega | exact congrArg i64 (by omega) | (rw [set_set, upto_step (by omega)])
    ·
      refine a_end ?_
      refine awp_condF (by conv => lhs; whnf) ?_
      refine awp_exit ?_
      refine awp_seq ?_
      refine awp_region rfl ?_
      refine a_do rfl (o_move (by conv => lhs; whnf) ?_)
      refine a_do rfl (o_assign (by conv => lhs; whnf) ?_)
      refine a_end ?_
      refine awp_ret ?_
      refine ⟨.inl rfl, [_], ⟨ares_tmp (by conv => lhs; whnf), trivial⟩, ?_⟩
      exact ⟨congrArg i64 (by omega), by rw [upto_done (by omega)]; exact Grown.refl _⟩

set_option maxRecDepth 10000 in
theorem markNil_ret (c : Int) (h : AHeap) (hc : 0 ≤ c ∧ c ≤ 1073741824) : Ret Try.prog 18 [.slice none 0 0, i64 c] h (i64 c) h := by
  refine ret_of (.prim rfl) ?_
  have hv : Ints h (.slice none 0 0) [] := .inl ⟨rfl, rfl⟩
  refine tri_of_body Try.func18 rfl (by kernel_rfl) (by show 2 ≤ 19; decide) ?_
  refine awp_seq ?_
  refine awp_region rfl ?_
  refine a_do rfl (o_assign (by conv => lhs; whnf) ?_)
  refine a_end ?_
  refine awp_seq ?_
  refine awp_seq ?_
  refine awp_region rfl ?_
  refine a_do rfl (o_assign (by conv => lhs; whnf) ?_)
  refine a_end ?_
  refine awp_block ?_
  refine awp_loop (σ := Nat) (fun s env1 h1 => Slots env1 [(0, .slice none 0 0), (1, i64 c), (5, i64 0)] ∧ h1 = h ∧ True) (fun s => 0) 0 ?_ ?_
  · refine ⟨Slots.mk ⟨?_, ?_, ?_, trivial⟩, ?_, ?_⟩
    all_goals first | rfl | trivial
  · intro s env1 h1 hI1
    obtain ⟨⟨e1, rfl⟩, rfl, -⟩ := hI1
    refine awp_seq ?_
    refine awp_seq ?_
    refine awp_region rfl ?_
    refine a_do rfl (o_move (by conv => lhs; whnf) ?_)
    refine a_do rfl (o_move (by conv => lhs; whnf) ?_)
    refine a_do rfl (o_lenI Try.underlying22 (by conv => lhs; whnf) (by first | ((with_reducible repeat (first | assumption | apply Ints.app)); done) | repeat (first | with_reducible assumption | exact ints_nil | exact Ints.own (by with_reducible repeat (first | assumption | (apply lk_last; (try simp only [ll1, ll2, ll3, ll4, lls_len, lls2_len, markL_len, rls_len, markR_len]); first | done | omega) | apply lk_prev)) (by first | rfl | exact upto_len | assumption | exact map_len | exact List.length_set | (rw [List.length_set]; assumption)) | exact Ints.tail (by with_reducible repeat (first | assumption | (apply lk_last; (try simp only [ll1, ll2, ll3, ll4, lls_len, lls2_len, markL_len, rls_len, markR_len]); first | done | omega) | apply lk_prev)) (by first | rfl | exact upto_len | assumption | exact map_len | exact List.length_set | (rw [List.length_set]; assumption)) | with_reducible apply Ints.app | (refine Ints.sub (by with_reducible repeat (first | assumption | apply Ints.app)) (by omega) (by omega) (by omega)))) ?_)
    refine a_do rfl (o_lss (by conv => lhs; whnf) (by conv => lhs; whnf) (fun c1 => ?_) (fun c1 => ?_))
    ·
      simp at c1
    ·
      refine a_end ?_
      refine awp_condF (by conv => lhs; whnf) ?_
      refine awp_exit ?_
      refine awp_seq ?_
      refine awp_region rfl ?_
      refine a_do rfl (o_move (by conv => lhs; whnf) ?_)
      refine a_do rfl (o_assign (by conv => lhs; whnf) ?_)
      refine a_end ?_
      refine awp_ret ?_
      refine ⟨.inl rfl, [_], ⟨ares_tmp (by conv => lhs; whnf), trivial⟩, ?_⟩
      exact ⟨rfl, Grown.refl _⟩

set_option maxRecDepth 10000 in
theorem heldInt64S_ret (c : Int) (xs : List Int) (v : Value) (h : AHeap) (hv : Ints h v xs) (hl : xs.length ≤ 1073741824) (hc : 0 ≤ c ∧ c ≤ 1073741824) : Ret Try.prog 23 [v, i64 c] h (i64 (held c xs)) h := by
  refine ret_of (.prim rfl) ?_
  refine tri_of_body Try.func23 rfl (by kernel_rfl) (by show 2 ≤ 21; decide) ?_
  refine awp_seq ?_
  refine awp_region rfl ?_
  refine a_do rfl (o_assign (by conv => lhs; whnf) ?_)
  refine a_end ?_
  refine awp_seq ?_
  refine awp_seq ?_
  refine awp_region rfl ?_
  refine a_do rfl (o_assign (by conv => lhs; whnf) ?_)
  refine a_end ?_
  refine awp_block ?_
  refine awp_loop (σ := Nat) (fun s env1 h1 => Slots env1 [(0, v), (1, i64 (c + s)), (5, i64 s)] ∧ h1 = h ∧ s ≤ xs.length ∧ xs.take s = upto c s) (fun s => xs.length - s) 0 ?_ ?_
  · refine ⟨Slots.mk ⟨?_, ?_, ?_, trivial⟩, ?_, ?_⟩
    all_goals first | rfl | exact congrArg i64 (show c = c + ((0 : Nat) : Int) by simp) | exact ⟨by omega, rfl⟩ | (simp; done)
  · intro s env1 h1 hI1
    obtain ⟨⟨e1, rfl⟩, rfl, ⟨hs, ha⟩⟩ := hI1
    refine awp_seq ?_
    refine awp_seq ?_
    refine awp_region rfl ?_
    refine a_do rfl (o_move (by conv => lhs; whnf) ?_)
    refine a_do rfl (o_move (by conv => lhs; whnf) ?_)
    refine a_do rfl (o_lenI Try.underlying22 (by conv => lhs; whnf) (by first | ((with_reducible repeat (first | assumption | apply Ints.app)); done) | repeat (first | with_reducible assumption | exact ints_nil | exact Ints.own (by with_reducible repeat (first | assumption | (apply lk_last; (try simp only [ll1, ll2, ll3, ll4, lls_len, lls2_len, markL_len, rls_len, markR_len]); first | done | omega) | apply lk_prev)) (by first | rfl | exact upto_len | assumption | exact map_len | exact List.length_set | (rw [List.length_set]; assumption)) | exact Ints.tail (by with_reducible repeat (first | assumption | (apply lk_last; (try simp only [ll1, ll2, ll3, ll4, lls_len, lls2_len, markL_len, rls_len, markR_len]); first | done | omega) | apply lk_prev)) (by first | rfl | exact upto_len | assumption | exact map_len | exact List.length_set | (rw [List.length_set]; assumption)) | with_reducible apply Ints.app | (refine Ints.sub (by with_reducible repeat (first | assumption | apply Ints.app)) (by omega) (by omega) (by omega)))) ?_)
    refine a_do rfl (o_lss (by conv => lhs; whnf) (by conv => lhs; whnf) (fun c1 => ?_) (fun c1 => ?_))
    ·
      refine a_end ?_
      refine awp_condT (by conv => lhs; whnf) ?_
      refine awp_skip ?_
      refine awp_seq ?_
      refine awp_block ?_
      refine awp_seq ?_
      refine awp_seq ?_
      refine awp_region rfl ?_
      refine a_do rfl (o_move (by conv => lhs; whnf) ?_)
      refine a_do rfl (o_move (by conv => lhs; whnf) ?_)
      first | refine a_do rfl (o_indexI Try.underlying22 ty2 (by conv => lhs; whnf) (by first | ((with_reducible repeat (first | assumption | apply Ints.app)); done) | repeat (first | with_reducible assumption | exact ints_nil | exact Ints.own (by with_reducible repeat (first | assumption | (apply lk_last; (try simp only [ll1, ll2, ll3, ll4, lls_len, lls2_len, markL_len, rls_len, markR_len]); first | done | omega) | apply lk_prev)) (by first | rfl | exact upto_len | assumption | exact map_len | exact List.length_set | (rw [List.length_set]; assumption)) | exact Ints.tail (by with_reducible repeat (first | assumption | (apply lk_last; (try simp only [ll1, ll2, ll3, ll4, lls_len, lls2_len, markL_len, rls_len, markR_len]); first | done | omega) | apply lk_prev)) (by first | rfl | exact upto_len | assumption | exact map_len | exact List.length_set | (rw [List.length_set]; assumption)) | with_reducible apply Ints.app | (refine Ints.sub (by with_reducible repeat (first | assumption | apply Ints.app)) (by omega) (by omega) (by omega)))) (by conv => lhs; whnf) (by omega) (fun p2 hp2 => ?_)) | refine a_do rfl (o_indexZ Try.underlying22 ty2 (by conv => lhs; whnf) (by first | ((with_reducible repeat (first | assumption | apply Ints.app)); done) | repeat (first | with_reducible assumption | exact ints_nil | exact Ints.own (by with_reducible repeat (first | assumption | (apply lk_last; (try simp only [ll1, ll2, ll3, ll4, lls_len, lls2_len, markL_len, rls_len, markR_len]); first | done | omega) | apply lk_prev)) (by first | rfl | exact upto_len | assumption | exact map_len | exact List.length_set | (rw [List.length_set]; assumption)) | exact Ints.tail (by with_reducible repeat (first | assumption | (apply lk_last; (try simp only [ll1, ll2, ll3, ll4, lls_len, lls2_len, markL_len, rls_len, markR_len]); first | done | omega) | apply lk_prev)) (by first | rfl | exact upto_len | assumption | exact map_len | exact List.length_set | (rw [List.length_set]; assumption)) | with_reducible apply Ints.app | (refine Ints.sub (by with_reducible repeat (first | assumption | apply Ints.app)) (by omega) (by omega) (by omega)))) (by conv => lhs; whnf) (by omega) (by omega) (fun p2 hp2 => ?_))
      refine a_do rfl (o_loadI Try.underlying2 rfl (by conv => lhs; whnf) hp2 (by first | ((with_reducible repeat (first | assumption | apply Ints.app)); done) | repeat (first | with_reducible assumption | exact ints_nil | exact Ints.own (by with_reducible repeat (first | assumption | (apply lk_last; (try simp only [ll1, ll2, ll3, ll4, lls_len, lls2_len, markL_len, rls_len, markR_len]); first | done | omega) | apply lk_prev)) (by first | rfl | exact upto_len | assumption | exact map_len | exact List.length_set | (rw [List.length_set]; assumption)) | exact Ints.tail (by with_reducible repeat (first | assumption | (apply lk_last; (try simp only [ll1, ll2, ll3, ll4, lls_len, lls2_len, markL_len, rls_len, markR_len]); first | done | omega) | apply lk_prev)) (by first | rfl | exact upto_len | assumption | exact map_len | exact List.length_set | (rw [List.length_set]; assumption)) | with_reducible apply Ints.app | (refine Ints.sub (by with_reducible repeat (first | assumption | apply Ints.app)) (by omega) (by omega) (by omega)))) (by omega) ?_)
      refine a_do rfl (o_move (by conv => lhs; whnf) ?_)
      refine a_do rfl (o_neq (by conv => lhs; whnf) (by conv => lhs; whnf) (fun c3 => ?_) (fun c3 => ?_))
      ·
        refine a_end ?_
        refine awp_condT (by conv => lhs; whnf) ?_
        refine awp_seq ?_
        refine awp_region rfl ?_
        refine a_do rfl (o_assign (by conv => lhs; whnf) ?_)
        refine a_end ?_
        refine awp_ret ?_
        refine ⟨.inl rfl, [_], ⟨ares_tmp (by conv => lhs; whnf), trivial⟩, ?_⟩
        exact ⟨congrArg i64 (by first | exact held_no (s := s) (by omega) (by omega) | exact held_yes ha (by omega)), (by first | ((repeat (first | with_reducible exact Grown.refl _ | with_reducible apply Grown.push)); done) | repeat (first | exact Grown.refl _ | refine Grown.push ?_ _))⟩
      ·
        refine a_end ?_
        refine awp_condF (by conv => lhs; whnf) ?_
        refine awp_skip ?_
        refine awp_region rfl ?_
        refine a_do rfl (o_move (by conv => lhs; whnf) ?_)
        refine a_do rfl (o_add (by conv => lhs; whnf) (by conv => lhs; whnf) (by omega) (by omega) ?_)
        refine a_do rfl (o_assign (by conv => lhs; whnf) ?_)
        refine a_end ?_
        refine awp_region rfl ?_
        refine a_do rfl (o_move (by conv => lhs; whnf) ?_)
        refine a_do rfl (o_add (by conv => lhs; whnf) (by conv => lhs; whnf) (by omega) (by omega) ?_)
        refine a_do rfl (o_assign (by conv => lhs; whnf) ?_)
        refine a_end ?_
        refine ⟨s + 1, ⟨Slots.mk ⟨?_, ?_, ?_, trivial⟩, ?_, ?_⟩, ?_⟩
        all_goals first | rfl | omega | exact congrArg i64 (by omega) | exact ⟨by omega, upto_take (by omega) ha (by omega)⟩
    ·
      refine a_end ?_
      refine awp_condF (by conv => lhs; whnf) ?_
      refine awp_exit ?_
      refine awp_seq ?_
      refine awp_region rfl ?_
      refine a_do rfl (o_move (by conv => lhs; whnf) ?_)
      refine a_do rfl (o_assign (by conv => lhs; whnf) ?_)
      refine a_end ?_
      refine awp_ret ?_
      refine ⟨.inl rfl, [_], ⟨ares_tmp (by conv => lhs; whnf), trivial⟩, ?_⟩
      exact ⟨congrArg i64 (by first | exact held_no (s := s) (by omega) (by omega) | exact held_yes ha (by omega)), (by first | ((repeat (first | with_reducible exact Grown.refl _ | with_reducible apply Grown.push)); done) | repeat (first | exact Grown.refl _ | refine Grown.push ?_ _))⟩

theorem heldU_ret (c : Int) (n : Nat) (v : Value) (h : AHeap) (hv : Ints h v (upto c n)) (hl : n ≤ 1073741824) (hc : 0 ≤ c ∧ c ≤ 1073741824) : Ret Try.prog 23 [v, i64 c] h (i64 (c + n)) h := by
  have hr := heldInt64S_ret c (upto c n) v h hv (by rw [upto_len]; exact hl) hc
  rw [held_upto] at hr
  exact hr

theorem heldNil_ret (c : Int) (h : AHeap) (hc : 0 ≤ c ∧ c ≤ 1073741824) : Ret Try.prog 23 [.slice none 0 0, i64 c] h (i64 c) h := by
  have hr := heldInt64S_ret c [] (.slice none 0 0) h (.inl ⟨rfl, rfl⟩) (by simp) hc
  simpa [held, upto] using hr

set_option maxRecDepth 10000 in
theorem l00Max_ret (a b : Int) (h : AHeap) : Ret Try.prog 105 [i64 a, i64 b] h (i64 (max a b)) h := by
  refine ret_of (.prim rfl) ?_
  refine tri_of_body Try.func105 rfl (by kernel_rfl) (by show 2 ≤ 10; decide) ?_
  refine awp_seq ?_
  refine awp_region rfl ?_
  refine a_do rfl (o_assign (by conv => lhs; whnf) ?_)
  refine a_end ?_
  refine awp_seq ?_
  refine awp_seq ?_
  refine awp_region rfl ?_
  refine a_do rfl (o_move (by conv => lhs; whnf) ?_)
  refine a_do rfl (o_move (by conv => lhs; whnf) ?_)
  refine a_do rfl (o_gtr (by conv => lhs; whnf) (by conv => lhs; whnf) (fun c1 => ?_) (fun c1 => ?_))
  ·
    refine a_end ?_
    refine awp_condT (by conv => lhs; whnf) ?_
    refine awp_seq ?_
    refine awp_region rfl ?_
    refine a_do rfl (o_move (by conv => lhs; whnf) ?_)
    refine a_do rfl (o_assign (by conv => lhs; whnf) ?_)
    refine a_end ?_
    refine awp_ret ?_
    refine ⟨.inl rfl, [_], ⟨ares_tmp (by conv => lhs; whnf), trivial⟩, ?_⟩
    exact ⟨congrArg i64 (by omega), (by first | ((repeat (first | with_reducible exact Grown.refl _ | with_reducible apply Grown.push)); done) | repeat (first | exact Grown.refl _ | refine Grown.push ?_ _))⟩
  ·
    refine a_end ?_
    refine awp_condF (by conv => lhs; whnf) ?_
    refine awp_skip ?_
    refine awp_seq ?_
    refine awp_region rfl ?_
    refine a_do rfl (o_move (by conv => lhs; whnf) ?_)
    refine a_do rfl (o_assign (by conv => lhs; whnf) ?_)
    refine a_end ?_
    refine awp_ret ?_
    refine ⟨.inl rfl, [_], ⟨ares_tmp (by conv => lhs; whnf), trivial⟩, ?_⟩
    exact ⟨congrArg i64 (by omega), (by first | ((repeat (first | with_reducible exact Grown.refl _ | with_reducible apply Grown.push)); done) | repeat (first | exact Grown.refl _ | refine Grown.push ?_ _))⟩

set_option maxRecDepth 10000 in
theorem common_ret (a b : Nat) (h : AHeap) (ha : a ≤ 1000000000) (hb : b ≤ 1000000000) : Ret Try.prog 93 [i64 a, i64 b] h (i64 (Nat.gcd a b : Nat)) h := by
  refine ret_of (.prim rfl) ?_
  refine tri_of_body Try.func93 rfl (by kernel_rfl) (by show 2 ≤ 12; decide) ?_
  refine awp_seq ?_
  refine awp_region rfl ?_
  refine a_do rfl (o_assign (by conv => lhs; whnf) ?_)
  refine a_end ?_
  refine awp_seq ?_
  refine awp_block ?_
  refine awp_loop (σ := Nat × Nat) (fun ⟨c, d⟩ env1 h1 => Slots env1 [(0, i64 c), (1, i64 d)] ∧ h1 = h ∧ Nat.gcd c d = Nat.gcd a b ∧ c ≤ 1000000000 ∧ d ≤ 1000000000) (fun ⟨c, d⟩ => d) (a, b) ?_ ?_
  · refine ⟨Slots.mk ⟨?_, ?_, trivial⟩, ?_, ?_⟩
    all_goals first | rfl | exact ⟨rfl, ha, hb⟩
  · intro ⟨c, d⟩ env1 h1 hI1
    obtain ⟨⟨e1, rfl⟩, rfl, ⟨hg9, hc9, hd9⟩⟩ := hI1
    refine awp_seq ?_
    refine awp_seq ?_
    refine awp_region rfl ?_
    refine a_do rfl (o_move (by conv => lhs; whnf) ?_)
    refine a_do rfl (o_neq (by conv => lhs; whnf) (by conv => lhs; whnf) (fun c1 => ?_) (fun c1 => ?_))
    ·
      refine a_end ?_
      refine awp_condT (by conv => lhs; whnf) ?_
      refine awp_skip ?_
      refine awp_block ?_
      refine awp_draw Try_mixed (by kernel_rfl) rfl ?_
      refine d_do rfl (o_move (by conv => lhs; whnf) ⟨rfl, rfl⟩) (by exact .prim rfl) ?_
      refine d_do rfl (o_move (by conv => lhs; whnf) ⟨rfl, rfl⟩) (by exact .prim rfl) ?_
      refine d_do rfl (o_move (by conv => lhs; whnf) ⟨rfl, rfl⟩) (by exact .prim rfl) ?_
      refine d_do rfl (o_rem (by conv => lhs; whnf) (by conv => lhs; whnf) (by omega) (by omega) ⟨rfl, rfl⟩) (by exact .prim rfl) ?_
      refine d_do rfl (o_assign (by conv => lhs; whnf) ⟨rfl, rfl⟩) (by exact .prim rfl) ?_
      refine d_do rfl (o_assign (by conv => lhs; whnf) ⟨rfl, rfl⟩) (by exact .prim rfl) ?_
      refine d_end ?_
      refine ⟨(d, c % d), ⟨Slots.mk ⟨?_, ?_, trivial⟩, ?_, ?_⟩, ?_⟩
      all_goals first | rfl | exact congrArg i64 (Int.natCast_emod c d).symm | exact Nat.mod_lt _ (by omega) | exact ⟨by rw [← hg9, Nat.gcd_comm c d, Nat.gcd_rec d c, Nat.gcd_comm], hd9, Nat.le_trans (Nat.mod_le c d) hc9⟩
    ·
      refine a_end ?_
      refine awp_condF (by conv => lhs; whnf) ?_
      refine awp_exit ?_
      refine awp_seq ?_
      refine awp_region rfl ?_
      refine a_do rfl (o_move (by conv => lhs; whnf) ?_)
      refine a_do rfl (o_assign (by conv => lhs; whnf) ?_)
      refine a_end ?_
      refine awp_ret ?_
      refine ⟨.inl rfl, [_], ⟨ares_tmp (by conv => lhs; whnf), trivial⟩, ?_⟩
      obtain rfl : d = 0 := (by omega); rw [Nat.gcd_zero_right] at hg9; exact ⟨congrArg i64 (by rw [hg9]), (by first | ((repeat (first | with_reducible exact Grown.refl _ | with_reducible apply Grown.push)); done) | repeat (first | exact Grown.refl _ | refine Grown.push ?_ _))⟩

set_option maxRecDepth 10000 in
theorem absolute_ret (a : Nat) (h : AHeap) (ha : a ≤ 1000000000) : Ret Try.prog 94 [i64 a] h (i64 a) h := by
  refine ret_of (.prim rfl) ?_
  refine tri_of_body Try.func94 rfl (by kernel_rfl) (by show 1 ≤ 7; decide) ?_
  refine awp_seq ?_
  refine awp_region rfl ?_
  refine a_do rfl (o_assign (by conv => lhs; whnf) ?_)
  refine a_end ?_
  refine awp_seq ?_
  refine awp_region rfl ?_
  refine a_do rfl (o_move (by conv => lhs; whnf) ?_)
  refine a_do rfl (o_move (by conv => lhs; whnf) ?_)
  refine a_do rfl (o_neg (by conv => lhs; whnf) (by omega) (by omega) ?_)
  refine a_do rfl (o_max (by conv => lhs; whnf) (by conv => lhs; whnf) ?_)
  refine a_do rfl (o_assign (by conv => lhs; whnf) ?_)
  refine a_end ?_
  refine awp_ret ?_
  refine ⟨.inl rfl, [_], ⟨ares_tmp (by conv => lhs; whnf), trivial⟩, ?_⟩
  exact ⟨congrArg i64 (by omega), (by first | ((repeat (first | with_reducible exact Grown.refl _ | with_reducible apply Grown.push)); done) | repeat (first | exact Grown.refl _ | refine Grown.push ?_ _))⟩

set_option maxRecDepth 10000 in
theorem l02Gcd_ret (a b : Nat) (h : AHeap) (ha : a ≤ 1000000000) (hb : b ≤ 1000000000) : Ret Try.prog 91 [i64 a, i64 b] h (i64 (Nat.gcd a b : Nat)) h := by
  refine ret_of (.prim rfl) ?_
  refine tri_of_body Try.func91 rfl (by kernel_rfl) (by show 2 ≤ 17; decide) ?_
  refine awp_seq ?_
  refine awp_region rfl ?_
  refine a_do rfl (o_assign (by conv => lhs; whnf) ?_)
  refine a_end ?_
  refine awp_seq ?_
  refine awp_block ?_
  refine awp_loop (σ := Nat × Nat) (fun ⟨c, d⟩ env1 h1 => Slots env1 [(0, i64 c), (1, i64 d)] ∧ h1 = h ∧ Nat.gcd c d = Nat.gcd a b ∧ c ≤ 1000000000 ∧ d ≤ 1000000000) (fun ⟨c, d⟩ => d) (a, b) ?_ ?_
  · refine ⟨Slots.mk ⟨?_, ?_, trivial⟩, ?_, ?_⟩
    all_goals first | rfl | exact ⟨rfl, ha, hb⟩
  · intro ⟨c, d⟩ env1 h1 hI1
    obtain ⟨⟨e1, rfl⟩, rfl, ⟨hg9, hc9, hd9⟩⟩ := hI1
    refine awp_seq ?_
    refine awp_seq ?_
    refine awp_region rfl ?_
    refine a_do rfl (o_move (by conv => lhs; whnf) ?_)
    refine a_do rfl (o_neq (by conv => lhs; whnf) (by conv => lhs; whnf) (fun c1 => ?_) (fun c1 => ?_))
    ·
      refine a_end ?_
      refine awp_condT (by conv => lhs; whnf) ?_
      refine awp_skip ?_
      refine awp_block ?_
      refine awp_seq ?_
      refine awp_region rfl ?_
      refine a_do rfl (o_move (by conv => lhs; whnf) ?_)
      refine a_do rfl (o_move (by conv => lhs; whnf) ?_)
      refine a_do rfl (o_rem (by conv => lhs; whnf) (by conv => lhs; whnf) (by omega) (by omega) ?_)
      refine a_do rfl (o_assign (by conv => lhs; whnf) ?_)
      refine a_end ?_
      refine awp_seq ?_
      refine awp_region rfl ?_
      refine a_do rfl (o_move (by conv => lhs; whnf) ?_)
      refine a_do rfl (o_assign (by conv => lhs; whnf) ?_)
      refine a_end ?_
      refine awp_region rfl ?_
      refine a_do rfl (o_move (by conv => lhs; whnf) ?_)
      refine a_do rfl (o_assign (by conv => lhs; whnf) ?_)
      refine a_end ?_
      refine ⟨(d, c % d), ⟨Slots.mk ⟨?_, ?_, trivial⟩, ?_, ?_⟩, ?_⟩
      all_goals first | rfl | exact congrArg i64 (Int.natCast_emod c d).symm | exact Nat.mod_lt _ (by omega) | exact ⟨by rw [← hg9, Nat.gcd_comm c d, Nat.gcd_rec d c, Nat.gcd_comm], hd9, Nat.le_trans (Nat.mod_le c d) hc9⟩
    ·
      refine a_end ?_
      refine awp_condF (by conv => lhs; whnf) ?_
      refine awp_exit ?_
      refine awp_seq ?_
      refine awp_region rfl ?_
      refine a_do rfl (o_move (by conv => lhs; whnf) ?_)
      refine a_do rfl (o_move (by conv => lhs; whnf) ?_)
      refine a_do rfl (o_neg (by conv => lhs; whnf) (by omega) (by omega) ?_)
      refine a_do rfl (o_callF (lmap_cons (by conv => lhs; whnf) (lmap_cons (by conv => lhs; whnf) lmap_nil)) (Ret.to (l00Max_ret _ _ _) ?_))
      refine a_do rfl (o_assign (by conv => lhs; whnf) ?_)
      refine a_end ?_
      refine awp_ret ?_
      refine ⟨.inl rfl, [_], ⟨ares_tmp (by conv => lhs; whnf), trivial⟩, ?_⟩
      obtain rfl : d = 0 := (by omega); rw [Nat.gcd_zero_right] at hg9; exact ⟨congrArg i64 (by rw [← hg9]; omega), (by first | ((repeat (first | with_reducible exact Grown.refl _ | with_reducible apply Grown.push)); done) | repeat (first | exact Grown.refl _ | refine Grown.push ?_ _))⟩

set_option maxRecDepth 10000 in
theorem reduced_ret (a b : Nat) (h : AHeap) (ha : a ≤ 1000000000) (hb : 0 < b ∧ b ≤ 1000000000) : Ret Try.prog 77 [i64 a, i64 b] h (.tuple #[i64 ((a : Int) / (Nat.gcd a b : Nat)), i64 ((b : Int) / (Nat.gcd a b : Nat)), .bool true]) h := by
  refine ret_of (.tup3 (.prim rfl) (.prim rfl) (.prim rfl)) ?_
  have hgp : 0 < Nat.gcd a b := Nat.gcd_pos_of_pos_right a hb.1
  have hgl := Nat.gcd_le_right a hb.1
  refine tri_of_body Try.func77 rfl (by kernel_rfl) (by show 2 ≤ 25; decide) ?_
  refine awp_seq ?_
  refine awp_region rfl ?_
  refine a_do rfl (o_assign (by conv => lhs; whnf) ?_)
  refine a_do rfl (o_assign (by conv => lhs; whnf) ?_)
  refine a_do rfl (o_assign (by conv => lhs; whnf) ?_)
  refine a_end ?_
  refine awp_seq ?_
  refine awp_seq ?_
  refine awp_region rfl ?_
  refine a_do rfl (o_move (by conv => lhs; whnf) ?_)
  refine a_do rfl (o_eql (by conv => lhs; whnf) (by conv => lhs; whnf) (fun c1 => ?_) (fun c1 => ?_))
  ·
    exact absurd c1 (by omega)
  ·
    refine a_end ?_
    refine awp_condF (by conv => lhs; whnf) ?_
    refine awp_skip ?_
    refine awp_seq ?_
    refine awp_region rfl ?_
    refine a_do rfl (o_move (by conv => lhs; whnf) ?_)
    refine a_do rfl (o_callF (lmap_cons (by conv => lhs; whnf) lmap_nil) (Ret.to (absolute_ret _ _ (by omega)) ?_))
    refine a_do rfl (o_move (by conv => lhs; whnf) ?_)
    refine a_do rfl (o_callF (lmap_cons (by conv => lhs; whnf) lmap_nil) (Ret.to (absolute_ret _ _ (by omega)) ?_))
    refine a_do rfl (o_callF (lmap_cons (by conv => lhs; whnf) (lmap_cons (by conv => lhs; whnf) lmap_nil)) (Ret.to (common_ret _ _ _ (by omega) (by omega)) ?_))
    refine a_do rfl (o_assign (by conv => lhs; whnf) ?_)
    refine a_end ?_
    refine awp_seq ?_
    refine awp_seq ?_
    refine awp_region rfl ?_
    refine a_do rfl (o_move (by conv => lhs; whnf) ?_)
    refine a_do rfl (o_lss (by conv => lhs; whnf) (by conv => lhs; whnf) (fun c2 => ?_) (fun c2 => ?_))
    ·
      exact absurd c2 (by omega)
    ·
      refine a_end ?_
      refine awp_condF (by conv => lhs; whnf) ?_
      refine awp_skip ?_
      refine awp_seq ?_
      refine awp_draw Try_mixed (by kernel_rfl) rfl ?_
      refine d_do rfl (o_move (by conv => lhs; whnf) ⟨rfl, rfl⟩) (by exact .prim rfl) ?_
      refine d_do rfl (o_move (by conv => lhs; whnf) ⟨rfl, rfl⟩) (by exact .prim rfl) ?_
      refine d_do rfl (o_quo (by conv => lhs; whnf) (by conv => lhs; whnf) (by omega) (by omega) (by omega) ⟨rfl, rfl⟩) (by exact .prim rfl) ?_
      refine d_do rfl (o_move (by conv => lhs; whnf) ⟨rfl, rfl⟩) (by exact .prim rfl) ?_
      refine d_do rfl (o_move (by conv => lhs; whnf) ⟨rfl, rfl⟩) (by exact .prim rfl) ?_
      refine d_do rfl (o_quo (by conv => lhs; whnf) (by conv => lhs; whnf) (by omega) (by omega) (by omega) ⟨rfl, rfl⟩) (by exact .prim rfl) ?_
      refine d_do rfl (o_assign (by conv => lhs; whnf) ⟨rfl, rfl⟩) (by exact .prim rfl) ?_
      refine d_do rfl (o_assign (by conv => lhs; whnf) ⟨rfl, rfl⟩) (by exact .prim rfl) ?_
      refine d_do rfl (o_assign (by conv => lhs; whnf) ⟨rfl, rfl⟩) (by exact .prim rfl) ?_
      refine d_end ?_
      refine awp_ret ?_
      refine ⟨.inl rfl, [_, _, _], ⟨ares_tmp (by conv => lhs; whnf), ares_tmp (by conv => lhs; whnf), ares_tmp (by conv => lhs; whnf), trivial⟩, ?_⟩
      exact ⟨rfl, (by first | ((repeat (first | with_reducible exact Grown.refl _ | with_reducible apply Grown.push)); done) | repeat (first | exact Grown.refl _ | refine Grown.push ?_ _))⟩

set_option maxRecDepth 10000 in
theorem l02Least2_ret (a b : Nat) (h : AHeap) (ha : a ≤ 1000000000) (hb : 0 < b ∧ b ≤ 1000000000) : Ret Try.prog 73 [i64 a, i64 b] h (.tuple #[i64 ((a : Int) / (Nat.gcd a b : Nat)), i64 ((b : Int) / (Nat.gcd a b : Nat))]) h := by
  refine ret_of (within_tup2 (.prim rfl) (.prim rfl)) ?_
  have hgp : 0 < Nat.gcd a b := Nat.gcd_pos_of_pos_right a hb.1
  have hgl := Nat.gcd_le_right a hb.1
  refine tri_of_body Try.func73 rfl (by kernel_rfl) (by show 2 ≤ 22; decide) ?_
  refine awp_seq ?_
  refine awp_region rfl ?_
  refine a_do rfl (o_assign (by conv => lhs; whnf) ?_)
  refine a_do rfl (o_assign (by conv => lhs; whnf) ?_)
  refine a_end ?_
  refine awp_seq ?_
  refine awp_seq ?_
  refine awp_region rfl ?_
  refine a_do rfl (o_move (by conv => lhs; whnf) ?_)
  refine a_do rfl (o_lss (by conv => lhs; whnf) (by conv => lhs; whnf) (fun c1 => ?_) (fun c1 => ?_))
  ·
    exact absurd c1 (by omega)
  ·
    refine a_end ?_
    refine awp_condF (by conv => lhs; whnf) ?_
    refine awp_skip ?_
    refine awp_seq ?_
    refine awp_region rfl ?_
    refine a_do rfl (o_move (by conv => lhs; whnf) ?_)
    refine a_do rfl (o_move (by conv => lhs; whnf) ?_)
    refine a_do rfl (o_callF (lmap_cons (by conv => lhs; whnf) (lmap_cons (by conv => lhs; whnf) lmap_nil)) (Ret.to (l02Gcd_ret _ _ _ (by omega) (by omega)) ?_))
    refine a_do rfl (o_assign (by conv => lhs; whnf) ?_)
    refine a_end ?_
    refine awp_seq ?_
    refine awp_draw Try_mixed (by kernel_rfl) rfl ?_
    refine d_do rfl (o_move (by conv => lhs; whnf) ⟨rfl, rfl⟩) (by exact .prim rfl) ?_
    refine d_do rfl (o_move (by conv => lhs; whnf) ⟨rfl, rfl⟩) (by exact .prim rfl) ?_
    refine d_do rfl (o_quo (by conv => lhs; whnf) (by conv => lhs; whnf) (by omega) (by omega) (by omega) ⟨rfl, rfl⟩) (by exact .prim rfl) ?_
    refine d_do rfl (o_move (by conv => lhs; whnf) ⟨rfl, rfl⟩) (by exact .prim rfl) ?_
    refine d_do rfl (o_move (by conv => lhs; whnf) ⟨rfl, rfl⟩) (by exact .prim rfl) ?_
    refine d_do rfl (o_quo (by conv => lhs; whnf) (by conv => lhs; whnf) (by omega) (by omega) (by omega) ⟨rfl, rfl⟩) (by exact .prim rfl) ?_
    refine d_do rfl (o_assign (by conv => lhs; whnf) ⟨rfl, rfl⟩) (by exact .prim rfl) ?_
    refine d_do rfl (o_assign (by conv => lhs; whnf) ⟨rfl, rfl⟩) (by exact .prim rfl) ?_
    refine d_end ?_
    refine awp_ret ?_
    refine ⟨.inl rfl, [_, _], ⟨ares_tmp (by conv => lhs; whnf), ares_tmp (by conv => lhs; whnf), trivial⟩, ?_⟩
    exact ⟨rfl, (by first | ((repeat (first | with_reducible exact Grown.refl _ | with_reducible apply Grown.push)); done) | repeat (first | exact Grown.refl _ | refine Grown.push ?_ _))⟩

set_option maxRecDepth 10000 in
theorem l04Cheaper_ret (i k : Nat) (xs ys : List Int) (v w : Value) (h : AHeap) (hv : Ints h v xs) (hw : Ints h w ys) (hl : xs.length ≤ 8) (hl2 : ys.length = xs.length) (hbx : ∀ j, j < xs.length → 0 ≤ xs.getD j 0 ∧ xs.getD j 0 ≤ 1000) (hby : ∀ j, j < xs.length → 0 ≤ ys.getD j 0 ∧ ys.getD j 0 ≤ 1000) (hi : i < xs.length) (hk : k < xs.length) : Ret Try.prog 90 [v, w, i64 i, i64 k] h (.bool (chB xs ys i k)) h := by
  refine ret_of (.prim rfl) ?_
  have b1 := hbx i hi
  have b2 := hbx k hk
  have b3 := hby i hi
  have b4 := hby k hk
  have m1 : 0 ≤ xs.getD i 0 * ys.getD k 0 ∧ xs.getD i 0 * ys.getD k 0 ≤ 1000000 := ⟨Int.mul_nonneg b1.1 b4.1, Int.le_trans (Int.mul_le_mul b1.2 b4.2 b4.1 (by decide)) (by decide)⟩
  have m2 : 0 ≤ xs.getD k 0 * ys.getD i 0 ∧ xs.getD k 0 * ys.getD i 0 ≤ 1000000 := ⟨Int.mul_nonneg b2.1 b3.1, Int.le_trans (Int.mul_le_mul b2.2 b3.2 b3.1 (by decide)) (by decide)⟩
  refine tri_of_body Try.func90 rfl (by kernel_rfl) (by show 4 ≤ 52; decide) ?_
  refine awp_seq ?_
  refine awp_region rfl ?_
  refine a_do rfl (o_assign (by conv => lhs; whnf) ?_)
  refine a_end ?_
  refine awp_seq ?_
  refine awp_seq ?_
  refine awp_region rfl ?_
  refine a_do rfl (o_move (by conv => lhs; whnf) ?_)
  refine a_do rfl (o_move (by conv => lhs; whnf) ?_)
  first | refine a_do rfl (o_indexI Try.underlying22 ty2 (by conv => lhs; whnf) (by first | ((with_reducible repeat (first | assumption | apply Ints.app)); done) | repeat (first | with_reducible assumption | exact ints_nil | exact Ints.own (by with_reducible repeat (first | assumption | (apply lk_last; (try simp only [ll1, ll2, ll3, ll4, lls_len, lls2_len, markL_len, rls_len, markR_len]); first | done | omega) | apply lk_prev)) (by first | rfl | exact upto_len | assumption | exact map_len | exact List.length_set | (rw [List.length_set]; assumption)) | exact Ints.tail (by with_reducible repeat (first | assumption | (apply lk_last; (try simp only [ll1, ll2, ll3, ll4, lls_len, lls2_len, markL_len, rls_len, markR_len]); first | done | omega) | apply lk_prev)) (by first | rfl | exact upto_len | assumption | exact map_len | exact List.length_set | (rw [List.length_set]; assumption)) | with_reducible apply Ints.app | (refine Ints.sub (by with_reducible repeat (first | assumption | apply Ints.app)) (by omega) (by omega) (by omega)))) (by conv => lhs; whnf) (by omega) (fun p1 hp1 => ?_)) | refine a_do rfl (o_indexZ Try.underlying22 ty2 (by conv => lhs; whnf) (by first | ((with_reducible repeat (first | assumption | apply Ints.app)); done) | repeat (first | with_reducible assumption | exact ints_nil | exact Ints.own (by with_reducible repeat (first | assumption | (apply lk_last; (try simp only [ll1, ll2, ll3, ll4, lls_len, lls2_len, markL_len, rls_len, markR_len]); first | done | omega) | apply lk_prev)) (by first | rfl | exact upto_len | assumption | exact map_len | exact List.length_set | (rw [List.length_set]; assumption)) | exact Ints.tail (by with_reducible repeat (first | assumption | (apply lk_last; (try simp only [ll1, ll2, ll3, ll4, lls_len, lls2_len, markL_len, rls_len, markR_len]); first | done | omega) | apply lk_prev)) (by first | rfl | exact upto_len | assumption | exact map_len | exact List.length_set | (rw [List.length_set]; assumption)) | with_reducible apply Ints.app | (refine Ints.sub (by with_reducible repeat (first | assumption | apply Ints.app)) (by omega) (by omega) (by omega)))) (by conv => lhs; whnf) (by omega) (by omega) (fun p1 hp1 => ?_))
  refine a_do rfl (o_loadI Try.underlying2 rfl (by conv => lhs; whnf) hp1 (by first | ((with_reducible repeat (first | assumption | apply Ints.app)); done) | repeat (first | with_reducible assumption | exact ints_nil | exact Ints.own (by with_reducible repeat (first | assumption | (apply lk_last; (try simp only [ll1, ll2, ll3, ll4, lls_len, lls2_len, markL_len, rls_len, markR_len]); first | done | omega) | apply lk_prev)) (by first | rfl | exact upto_len | assumption | exact map_len | exact List.length_set | (rw [List.length_set]; assumption)) | exact Ints.tail (by with_reducible repeat (first | assumption | (apply lk_last; (try simp only [ll1, ll2, ll3, ll4, lls_len, lls2_len, markL_len, rls_len, markR_len]); first | done | omega) | apply lk_prev)) (by first | rfl | exact upto_len | assumption | exact map_len | exact List.length_set | (rw [List.length_set]; assumption)) | with_reducible apply Ints.app | (refine Ints.sub (by with_reducible repeat (first | assumption | apply Ints.app)) (by omega) (by omega) (by omega)))) (by omega) ?_)
  refine a_do rfl (o_eql (by conv => lhs; whnf) (by conv => lhs; whnf) (fun c2 => ?_) (fun c2 => ?_))
  ·
    refine a_do rfl (o_move (by conv => lhs; whnf) ?_)
    refine a_no rfl ?_
    refine a_no rfl ?_
    refine a_no rfl ?_
    refine a_no rfl ?_
    refine a_no rfl ?_
    refine a_do rfl (o_pickT (by conv => lhs; whnf) (by conv => lhs; whnf) ?_)
    refine a_end ?_
    refine awp_condT (by conv => lhs; whnf) ?_
    refine awp_seq ?_
    refine awp_region rfl ?_
    refine a_do rfl (o_move (by conv => lhs; whnf) ?_)
    refine a_do rfl (o_move (by conv => lhs; whnf) ?_)
    first | refine a_do rfl (o_indexI Try.underlying22 ty2 (by conv => lhs; whnf) (by first | ((with_reducible repeat (first | assumption | apply Ints.app)); done) | repeat (first | with_reducible assumption | exact ints_nil | exact Ints.own (by with_reducible repeat (first | assumption | (apply lk_last; (try simp only [ll1, ll2, ll3, ll4, lls_len, lls2_len, markL_len, rls_len, markR_len]); first | done | omega) | apply lk_prev)) (by first | rfl | exact upto_len | assumption | exact map_len | exact List.length_set | (rw [List.length_set]; assumption)) | exact Ints.tail (by with_reducible repeat (first | assumption | (apply lk_last; (try simp only [ll1, ll2, ll3, ll4, lls_len, lls2_len, markL_len, rls_len, markR_len]); first | done | omega) | apply lk_prev)) (by first | rfl | exact upto_len | assumption | exact map_len | exact List.length_set | (rw [List.length_set]; assumption)) | with_reducible apply Ints.app | (refine Ints.sub (by with_reducible repeat (first | assumption | apply Ints.app)) (by omega) (by omega) (by omega)))) (by conv => lhs; whnf) (by omega) (fun p3 hp3 => ?_)) | refine a_do rfl (o_indexZ Try.underlying22 ty2 (by conv => lhs; whnf) (by first | ((with_reducible repeat (first | assumption | apply Ints.app)); done) | repeat (first | with_reducible assumption | exact ints_nil | exact Ints.own (by with_reducible repeat (first | assumption | (apply lk_last; (try simp only [ll1, ll2, ll3, ll4, lls_len, lls2_len, markL_len, rls_len, markR_len]); first | done | omega) | apply lk_prev)) (by first | rfl | exact upto_len | assumption | exact map_len | exact List.length_set | (rw [List.length_set]; assumption)) | exact Ints.tail (by with_reducible repeat (first | assumption | (apply lk_last; (try simp only [ll1, ll2, ll3, ll4, lls_len, lls2_len, markL_len, rls_len, markR_len]); first | done | omega) | apply lk_prev)) (by first | rfl | exact upto_len | assumption | exact map_len | exact List.length_set | (rw [List.length_set]; assumption)) | with_reducible apply Ints.app | (refine Ints.sub (by with_reducible repeat (first | assumption | apply Ints.app)) (by omega) (by omega) (by omega)))) (by conv => lhs; whnf) (by omega) (by omega) (fun p3 hp3 => ?_))
    refine a_do rfl (o_loadI Try.underlying2 rfl (by conv => lhs; whnf) hp3 (by first | ((with_reducible repeat (first | assumption | apply Ints.app)); done) | repeat (first | with_reducible assumption | exact ints_nil | exact Ints.own (by with_reducible repeat (first | assumption | (apply lk_last; (try simp only [ll1, ll2, ll3, ll4, lls_len, lls2_len, markL_len, rls_len, markR_len]); first | done | omega) | apply lk_prev)) (by first | rfl | exact upto_len | assumption | exact map_len | exact List.length_set | (rw [List.length_set]; assumption)) | exact Ints.tail (by with_reducible repeat (first | assumption | (apply lk_last; (try simp only [ll1, ll2, ll3, ll4, lls_len, lls2_len, markL_len, rls_len, markR_len]); first | done | omega) | apply lk_prev)) (by first | rfl | exact upto_len | assumption | exact map_len | exact List.length_set | (rw [List.length_set]; assumption)) | with_reducible apply Ints.app | (refine Ints.sub (by with_reducible repeat (first | assumption | apply Ints.app)) (by omega) (by omega) (by omega)))) (by omega) ?_)
    refine a_do rfl (o_gtr (by conv => lhs; whnf) (by conv => lhs; whnf) (fun c4 => ?_) (fun c4 => ?_))
    ·
      refine a_do rfl (o_move (by conv => lhs; whnf) ?_)
      refine a_do rfl (o_move (by conv => lhs; whnf) ?_)
      refine a_do rfl (o_move (by conv => lhs; whnf) ?_)
      first | refine a_do rfl (o_indexI Try.underlying22 ty2 (by conv => lhs; whnf) (by first | ((with_reducible repeat (first | assumption | apply Ints.app)); done) | repeat (first | with_reducible assumption | exact ints_nil | exact Ints.own (by with_reducible repeat (first | assumption | (apply lk_last; (try simp only [ll1, ll2, ll3, ll4, lls_len, lls2_len, markL_len, rls_len, markR_len]); first | done | omega) | apply lk_prev)) (by first | rfl | exact upto_len | assumption | exact map_len | exact List.length_set | (rw [List.length_set]; assumption)) | exact Ints.tail (by with_reducible repeat (first | assumption | (apply lk_last; (try simp only [ll1, ll2, ll3, ll4, lls_len, lls2_len, markL_len, rls_len, markR_len]); first | done | omega) | apply lk_prev)) (by first | rfl | exact upto_len | assumption | exact map_len | exact List.length_set | (rw [List.length_set]; assumption)) | with_reducible apply Ints.app | (refine Ints.sub (by with_reducible repeat (first | assumption | apply Ints.app)) (by omega) (by omega) (by omega)))) (by conv => lhs; whnf) (by omega) (fun p5 hp5 => ?_)) | refine a_do rfl (o_indexZ Try.underlying22 ty2 (by conv => lhs; whnf) (by first | ((with_reducible repeat (first | assumption | apply Ints.app)); done) | repeat (first | with_reducible assumption | exact ints_nil | exact Ints.own (by with_reducible repeat (first | assumption | (apply lk_last; (try simp only [ll1, ll2, ll3, ll4, lls_len, lls2_len, markL_len, rls_len, markR_len]); first | done | omega) | apply lk_prev)) (by first | rfl | exact upto_len | assumption | exact map_len | exact List.length_set | (rw [List.length_set]; assumption)) | exact Ints.tail (by with_reducible repeat (first | assumption | (apply lk_last; (try simp only [ll1, ll2, ll3, ll4, lls_len, lls2_len, markL_len, rls_len, markR_len]); first | done | omega) | apply lk_prev)) (by first | rfl | exact upto_len | assumption | exact map_len | exact List.length_set | (rw [List.length_set]; assumption)) | with_reducible apply Ints.app | (refine Ints.sub (by with_reducible repeat (first | assumption | apply Ints.app)) (by omega) (by omega) (by omega)))) (by conv => lhs; whnf) (by omega) (by omega) (fun p5 hp5 => ?_))
      refine a_do rfl (o_loadI Try.underlying2 rfl (by conv => lhs; whnf) hp5 (by first | ((with_reducible repeat (first | assumption | apply Ints.app)); done) | repeat (first | with_reducible assumption | exact ints_nil | exact Ints.own (by with_reducible repeat (first | assumption | (apply lk_last; (try simp only [ll1, ll2, ll3, ll4, lls_len, lls2_len, markL_len, rls_len, markR_len]); first | done | omega) | apply lk_prev)) (by first | rfl | exact upto_len | assumption | exact map_len | exact List.length_set | (rw [List.length_set]; assumption)) | exact Ints.tail (by with_reducible repeat (first | assumption | (apply lk_last; (try simp only [ll1, ll2, ll3, ll4, lls_len, lls2_len, markL_len, rls_len, markR_len]); first | done | omega) | apply lk_prev)) (by first | rfl | exact upto_len | assumption | exact map_len | exact List.length_set | (rw [List.length_set]; assumption)) | with_reducible apply Ints.app | (refine Ints.sub (by with_reducible repeat (first | assumption | apply Ints.app)) (by omega) (by omega) (by omega)))) (by omega) ?_)
      refine a_do rfl (o_eql (by conv => lhs; whnf) (by conv => lhs; whnf) (fun c6 => ?_) (fun c6 => ?_))
      ·
        refine a_do rfl (o_pickT (by conv => lhs; whnf) (by conv => lhs; whnf) ?_)
        refine a_do rfl (o_assign (by conv => lhs; whnf) ?_)
        refine a_end ?_
        refine awp_ret ?_
        refine ⟨.inl rfl, [_], ⟨ares_tmp (by conv => lhs; whnf), trivial⟩, ?_⟩
        exact ⟨congrArg Value.bool (by unfold chB; simp only [Int.toNat_natCast]; split <;> first | (symm; apply decide_eq_true; omega) | (symm; apply decide_eq_false; omega) | (exfalso; omega)), (by first | ((repeat (first | with_reducible exact Grown.refl _ | with_reducible apply Grown.push)); done) | repeat (first | exact Grown.refl _ | refine Grown.push ?_ _))⟩
      ·
        refine a_do rfl (o_pickT (by conv => lhs; whnf) (by conv => lhs; whnf) ?_)
        refine a_do rfl (o_assign (by conv => lhs; whnf) ?_)
        refine a_end ?_
        refine awp_ret ?_
        refine ⟨.inl rfl, [_], ⟨ares_tmp (by conv => lhs; whnf), trivial⟩, ?_⟩
        exact ⟨congrArg Value.bool (by unfold chB; simp only [Int.toNat_natCast]; split <;> first | (symm; apply decide_eq_true; omega) | (symm; apply decide_eq_false; omega) | (exfalso; omega)), (by first | ((repeat (first | with_reducible exact Grown.refl _ | with_reducible apply Grown.push)); done) | repeat (first | exact Grown.refl _ | refine Grown.push ?_ _))⟩
    ·
      refine a_do rfl (o_move (by conv => lhs; whnf) ?_)
      refine a_no rfl ?_
      refine a_no rfl ?_
      refine a_no rfl ?_
      refine a_no rfl ?_
      refine a_no rfl ?_
      refine a_do rfl (o_pickF (by conv => lhs; whnf) (by conv => lhs; whnf) ?_)
      refine a_do rfl (o_assign (by conv => lhs; whnf) ?_)
      refine a_end ?_
      refine awp_ret ?_
      refine ⟨.inl rfl, [_], ⟨ares_tmp (by conv => lhs; whnf), trivial⟩, ?_⟩
      exact ⟨congrArg Value.bool (by unfold chB; simp only [Int.toNat_natCast]; split <;> first | (symm; apply decide_eq_true; omega) | (symm; apply decide_eq_false; omega) | (exfalso; omega)), (by first | ((repeat (first | with_reducible exact Grown.refl _ | with_reducible apply Grown.push)); done) | repeat (first | exact Grown.refl _ | refine Grown.push ?_ _))⟩
  ·
    refine a_do rfl (o_move (by conv => lhs; whnf) ?_)
    refine a_do rfl (o_move (by conv => lhs; whnf) ?_)
    refine a_do rfl (o_move (by conv => lhs; whnf) ?_)
    first | refine a_do rfl (o_indexI Try.underlying22 ty2 (by conv => lhs; whnf) (by first | ((with_reducible repeat (first | assumption | apply Ints.app)); done) | repeat (first | with_reducible assumption | exact ints_nil | exact Ints.own (by with_reducible repeat (first | assumption | (apply lk_last; (try simp only [ll1, ll2, ll3, ll4, lls_len, lls2_len, markL_len, rls_len, markR_len]); first | done | omega) | apply lk_prev)) (by first | rfl | exact upto_len | assumption | exact map_len | exact List.length_set | (rw [List.length_set]; assumption)) | exact Ints.tail (by with_reducible repeat (first | assumption | (apply lk_last; (try simp only [ll1, ll2, ll3, ll4, lls_len, lls2_len, markL_len, rls_len, markR_len]); first | done | omega) | apply lk_prev)) (by first | rfl | exact upto_len | assumption | exact map_len | exact List.length_set | (rw [List.length_set]; assumption)) | with_reducible apply Ints.app | (refine Ints.sub (by with_reducible repeat (first | assumption | apply Ints.app)) (by omega) (by omega) (by omega)))) (by conv => lhs; whnf) (by omega) (fun p7 hp7 => ?_)) | refine a_do rfl (o_indexZ Try.underlying22 ty2 (by conv => lhs; whnf) (by first | ((with_reducible repeat (first | assumption | apply Ints.app)); done) | repeat (first | with_reducible assumption | exact ints_nil | exact Ints.own (by with_reducible repeat (first | assumption | (apply lk_last; (try simp only [ll1, ll2, ll3, ll4, lls_len, lls2_len, markL_len, rls_len, markR_len]); first | done | omega) | apply lk_prev)) (by first | rfl | exact upto_len | assumption | exact map_len | exact List.length_set | (rw [List.length_set]; assumption)) | exact Ints.tail (by with_reducible repeat (first | assumption | (apply lk_last; (try simp only [ll1, ll2, ll3, ll4, lls_len, lls2_len, markL_len, rls_len, markR_len]); first | done | omega) | apply lk_prev)) (by first | rfl | exact upto_len | assumption | exact map_len | exact List.length_set | (rw [List.length_set]; assumption)) | with_reducible apply Ints.app | (refine Ints.sub (by with_reducible repeat (first | assumption | apply Ints.app)) (by omega) (by omega) (by omega)))) (by conv => lhs; whnf) (by omega) (by omega) (fun p7 hp7 => ?_))
    refine a_do rfl (o_loadI Try.underlying2 rfl (by conv => lhs; whnf) hp7 (by first | ((with_reducible repeat (first | assumption | apply Ints.app)); done) | repeat (first | with_reducible assumption | exact ints_nil | exact Ints.own (by with_reducible repeat (first | assumption | (apply lk_last; (try simp only [ll1, ll2, ll3, ll4, lls_len, lls2_len, markL_len, rls_len, markR_len]); first | done | omega) | apply lk_prev)) (by first | rfl | exact upto_len | assumption | exact map_len | exact List.length_set | (rw [List.length_set]; assumption)) | exact Ints.tail (by with_reducible repeat (first | assumption | (apply lk_last; (try simp only [ll1, ll2, ll3, ll4, lls_len, lls2_len, markL_len, rls_len, markR_len]); first | done | omega) | apply lk_prev)) (by first | rfl | exact upto_len | assumption | exact map_len | exact List.length_set | (rw [List.length_set]; assumption)) | with_reducible apply Ints.app | (refine Ints.sub (by with_reducible repeat (first | assumption | apply Ints.app)) (by omega) (by omega) (by omega)))) (by omega) ?_)
    refine a_do rfl (o_eql (by conv => lhs; whnf) (by conv => lhs; whnf) (fun c8 => ?_) (fun c8 => ?_))
    ·
      refine a_do rfl (o_pickF (by conv => lhs; whnf) (by conv => lhs; whnf) ?_)
      refine a_end ?_
      refine awp_condT (by conv => lhs; whnf) ?_
      refine awp_seq ?_
      refine awp_region rfl ?_
      refine a_do rfl (o_move (by conv => lhs; whnf) ?_)
      refine a_do rfl (o_move (by conv => lhs; whnf) ?_)
      first | refine a_do rfl (o_indexI Try.underlying22 ty2 (by conv => lhs; whnf) (by first | ((with_reducible repeat (first | assumption | apply Ints.app)); done) | repeat (first | with_reducible assumption | exact ints_nil | exact Ints.own (by with_reducible repeat (first | assumption | (apply lk_last; (try simp only [ll1, ll2, ll3, ll4, lls_len, lls2_len, markL_len, rls_len, markR_len]); first | done | omega) | apply lk_prev)) (by first | rfl | exact upto_len | assumption | exact map_len | exact List.length_set | (rw [List.length_set]; assumption)) | exact Ints.tail (by with_reducible repeat (first | assumption | (apply lk_last; (try simp only [ll1, ll2, ll3, ll4, lls_len, lls2_len, markL_len, rls_len, markR_len]); first | done | omega) | apply lk_prev)) (by first | rfl | exact upto_len | assumption | exact map_len | exact List.length_set | (rw [List.length_set]; assumption)) | with_reducible apply Ints.app | (refine Ints.sub (by with_reducible repeat (first | assumption | apply Ints.app)) (by omega) (by omega) (by omega)))) (by conv => lhs; whnf) (by omega) (fun p9 hp9 => ?_)) | refine a_do rfl (o_indexZ Try.underlying22 ty2 (by conv => lhs; whnf) (by first | ((with_reducible repeat (first | assumption | apply Ints.app)); done) | repeat (first | with_reducible assumption | exact ints_nil | exact Ints.own (by with_reducible repeat (first | assumption | (apply lk_last; (try simp only [ll1, ll2, ll3, ll4, lls_len, lls2_len, markL_len, rls_len, markR_len]); first | done | omega) | apply lk_prev)) (by first | rfl | exact upto_len | assumption | exact map_len | exact List.length_set | (rw [List.length_set]; assumption)) | exact Ints.tail (by with_reducible repeat (first | assumption | (apply lk_last; (try simp only [ll1, ll2, ll3, ll4, lls_len, lls2_len, markL_len, rls_len, markR_len]); first | done | omega) | apply lk_prev)) (by first | rfl | exact upto_len | assumption | exact map_len | exact List.length_set | (rw [List.length_set]; assumption)) | with_reducible apply Ints.app | (refine Ints.sub (by with_reducible repeat (first | assumption | apply Ints.app)) (by omega) (by omega) (by omega)))) (by conv => lhs; whnf) (by omega) (by omega) (fun p9 hp9 => ?_))
      refine a_do rfl (o_loadI Try.underlying2 rfl (by conv => lhs; whnf) hp9 (by first | ((with_reducible repeat (first | assumption | apply Ints.app)); done) | repeat (first | with_reducible assumption | exact ints_nil | exact Ints.own (by with_reducible repeat (first | assumption | (apply lk_last; (try simp only [ll1, ll2, ll3, ll4, lls_len, lls2_len, markL_len, rls_len, markR_len]); first | done | omega) | apply lk_prev)) (by first | rfl | exact upto_len | assumption | exact map_len | exact List.length_set | (rw [List.length_set]; assumption)) | exact Ints.tail (by with_reducible repeat (first | assumption | (apply lk_last; (try simp only [ll1, ll2, ll3, ll4, lls_len, lls2_len, markL_len, rls_len, markR_len]); first | done | omega) | apply lk_prev)) (by first | rfl | exact upto_len | assumption | exact map_len | exact List.length_set | (rw [List.length_set]; assumption)) | with_reducible apply Ints.app | (refine Ints.sub (by with_reducible repeat (first | assumption | apply Ints.app)) (by omega) (by omega) (by omega)))) (by omega) ?_)
      refine a_do rfl (o_gtr (by conv => lhs; whnf) (by conv => lhs; whnf) (fun c10 => ?_) (fun c10 => ?_))
      ·
        refine a_do rfl (o_move (by conv => lhs; whnf) ?_)
        refine a_do rfl (o_move (by conv => lhs; whnf) ?_)
        refine a_do rfl (o_move (by conv => lhs; whnf) ?_)
        first | refine a_do rfl (o_indexI Try.underlying22 ty2 (by conv => lhs; whnf) (by first | ((with_reducible repeat (first | assumption | apply Ints.app)); done) | repeat (first | with_reducible assumption | exact ints_nil | exact Ints.own (by with_reducible repeat (first | assumption | (apply lk_last; (try simp only [ll1, ll2, ll3, ll4, lls_len, lls2_len, markL_len, rls_len, markR_len]); first | done | omega) | apply lk_prev)) (by first | rfl | exact upto_len | assumption | exact map_len | exact List.length_set | (rw [List.length_set]; assumption)) | exact Ints.tail (by with_reducible repeat (first | assumption | (apply lk_last; (try simp only [ll1, ll2, ll3, ll4, lls_len, lls2_len, markL_len, rls_len, markR_len]); first | done | omega) | apply lk_prev)) (by first | rfl | exact upto_len | assumption | exact map_len | exact List.length_set | (rw [List.length_set]; assumption)) | with_reducible apply Ints.app | (refine Ints.sub (by with_reducible repeat (first | assumption | apply Ints.app)) (by omega) (by omega) (by omega)))) (by conv => lhs; whnf) (by omega) (fun p11 hp11 => ?_)) | refine a_do rfl (o_indexZ Try.underlying22 ty2 (by conv => lhs; whnf) (by first | ((with_reducible repeat (first | assumption | apply Ints.app)); done) | repeat (first | with_reducible assumption | exact ints_nil | exact Ints.own (by with_reducible repeat (first | assumption | (apply lk_last; (try simp only [ll1, ll2, ll3, ll4, lls_len, lls2_len, markL_len, rls_len, markR_len]); first | done | omega) | apply lk_prev)) (by first | rfl | exact upto_len | assumption | exact map_len | exact List.length_set | (rw [List.length_set]; assumption)) | exact Ints.tail (by with_reducible repeat (first | assumption | (apply lk_last; (try simp only [ll1, ll2, ll3, ll4, lls_len, lls2_len, markL_len, rls_len, markR_len]); first | done | omega) | apply lk_prev)) (by first | rfl | exact upto_len | assumption | exact map_len | exact List.length_set | (rw [List.length_set]; assumption)) | with_reducible apply Ints.app | (refine Ints.sub (by with_reducible repeat (first | assumption | apply Ints.app)) (by omega) (by omega) (by omega)))) (by conv => lhs; whnf) (by omega) (by omega) (fun p11 hp11 => ?_))
        refine a_do rfl (o_loadI Try.underlying2 rfl (by conv => lhs; whnf) hp11 (by first | ((with_reducible repeat (first | assumption | apply Ints.app)); done) | repeat (first | with_reducible assumption | exact ints_nil | exact Ints.own (by with_reducible repeat (first | assumption | (apply lk_last; (try simp only [ll1, ll2, ll3, ll4, lls_len, lls2_len, markL_len, rls_len, markR_len]); first | done | omega) | apply lk_prev)) (by first | rfl | exact upto_len | assumption | exact map_len | exact List.length_set | (rw [List.length_set]; assumption)) | exact Ints.tail (by with_reducible repeat (first | assumption | (apply lk_last; (try simp only [ll1, ll2, ll3, ll4, lls_len, lls2_len, markL_len, rls_len, markR_len]); first | done | omega) | apply lk_prev)) (by first | rfl | exact upto_len | assumption | exact map_len | exact List.length_set | (rw [List.length_set]; assumption)) | with_reducible apply Ints.app | (refine Ints.sub (by with_reducible repeat (first | assumption | apply Ints.app)) (by omega) (by omega) (by omega)))) (by omega) ?_)
        refine a_do rfl (o_eql (by conv => lhs; whnf) (by conv => lhs; whnf) (fun c12 => ?_) (fun c12 => ?_))
        ·
          refine a_do rfl (o_pickT (by conv => lhs; whnf) (by conv => lhs; whnf) ?_)
          refine a_do rfl (o_assign (by conv => lhs; whnf) ?_)
          refine a_end ?_
          refine awp_ret ?_
          refine ⟨.inl rfl, [_], ⟨ares_tmp (by conv => lhs; whnf), trivial⟩, ?_⟩
          exact ⟨congrArg Value.bool (by unfold chB; simp only [Int.toNat_natCast]; split <;> first | (symm; apply decide_eq_true; omega) | (symm; apply decide_eq_false; omega) | (exfalso; omega)), (by first | ((repeat (first | with_reducible exact Grown.refl _ | with_reducible apply Grown.push)); done) | repeat (first | exact Grown.refl _ | refine Grown.push ?_ _))⟩
        ·
          refine a_do rfl (o_pickT (by conv => lhs; whnf) (by conv => lhs; whnf) ?_)
          refine a_do rfl (o_assign (by conv => lhs; whnf) ?_)
          refine a_end ?_
          refine awp_ret ?_
          refine ⟨.inl rfl, [_], ⟨ares_tmp (by conv => lhs; whnf), trivial⟩, ?_⟩
          exact ⟨congrArg Value.bool (by unfold chB; simp only [Int.toNat_natCast]; split <;> first | (symm; apply decide_eq_true; omega) | (symm; apply decide_eq_false; omega) | (exfalso; omega)), (by first | ((repeat (first | with_reducible exact Grown.refl _ | with_reducible apply Grown.push)); done) | repeat (first | exact Grown.refl _ | refine Grown.push ?_ _))⟩
      ·
        refine a_do rfl (o_move (by conv => lhs; whnf) ?_)
        refine a_no rfl ?_
        refine a_no rfl ?_
        refine a_no rfl ?_
        refine a_no rfl ?_
        refine a_no rfl ?_
        refine a_do rfl (o_pickF (by conv => lhs; whnf) (by conv => lhs; whnf) ?_)
        refine a_do rfl (o_assign (by conv => lhs; whnf) ?_)
        refine a_end ?_
        refine awp_ret ?_
        refine ⟨.inl rfl, [_], ⟨ares_tmp (by conv => lhs; whnf), trivial⟩, ?_⟩
        exact ⟨congrArg Value.bool (by unfold chB; simp only [Int.toNat_natCast]; split <;> first | (symm; apply decide_eq_true; omega) | (symm; apply decide_eq_false; omega) | (exfalso; omega)), (by first | ((repeat (first | with_reducible exact Grown.refl _ | with_reducible apply Grown.push)); done) | repeat (first | exact Grown.refl _ | refine Grown.push ?_ _))⟩
    ·
      refine a_do rfl (o_pickF (by conv => lhs; whnf) (by conv => lhs; whnf) ?_)
      refine a_end ?_
      refine awp_condF (by conv => lhs; whnf) ?_
      refine awp_skip ?_
      refine awp_seq ?_
      refine awp_draw Try_mixed (by kernel_rfl) rfl ?_
      refine d_do rfl (o_move (by conv => lhs; whnf) ⟨rfl, rfl⟩) (by first | exact .prim rfl | (apply within_sl; (with_reducible repeat (first | assumption | (apply lk_last; (try simp only [ll1, ll2, ll3, ll4, lls_len, lls2_len, markL_len, rls_len, markR_len]); first | done | omega) | apply lk_prev)); done) | ((try apply within_sub); apply Ints.within; (with_reducible repeat (first | assumption | apply Ints.app)); done) | (apply Lists.within; (with_reducible repeat (first | assumption | apply Lists.app)); done) | (apply Recs.within; (with_reducible repeat (first | assumption | apply Recs.app)); done) | (apply IsRec.within; (with_reducible repeat (first | assumption | apply IsRec.app)); done) | (apply Flts.within; (with_reducible repeat (first | assumption | apply Flts.app)); done) | (apply Byts.within; (with_reducible repeat (first | assumption | apply Byts.app)); done)) ?_
      refine d_do rfl (o_move (by conv => lhs; whnf) ⟨rfl, rfl⟩) (by exact .prim rfl) ?_
      first | refine d_indexI rfl Try.underlying22 ty2 (by conv => lhs; whnf) (by first | ((with_reducible repeat (first | assumption | apply Ints.app)); done) | repeat (first | with_reducible assumption | exact ints_nil | exact Ints.own (by with_reducible repeat (first | assumption | (apply lk_last; (try simp only [ll1, ll2, ll3, ll4, lls_len, lls2_len, markL_len, rls_len, markR_len]); first | done | omega) | apply lk_prev)) (by first | rfl | exact upto_len | assumption | exact map_len | exact List.length_set | (rw [List.length_set]; assumption)) | exact Ints.tail (by with_reducible repeat (first | assumption | (apply lk_last; (try simp only [ll1, ll2, ll3, ll4, lls_len, lls2_len, markL_len, rls_len, markR_len]); first | done | omega) | apply lk_prev)) (by first | rfl | exact upto_len | assumption | exact map_len | exact List.length_set | (rw [List.length_set]; assumption)) | with_reducible apply Ints.app | (refine Ints.sub (by with_reducible repeat (first | assumption | apply Ints.app)) (by omega) (by omega) (by omega)))) (by conv => lhs; whnf) (by omega) (fun p13 hp13 => ?_) | refine d_indexZ rfl Try.underlying22 ty2 (by conv => lhs; whnf) (by first | ((with_reducible repeat (first | assumption | apply Ints.app)); done) | repeat (first | with_reducible assumption | exact ints_nil | exact Ints.own (by with_reducible repeat (first | assumption | (apply lk_last; (try simp only [ll1, ll2, ll3, ll4, lls_len, lls2_len, markL_len, rls_len, markR_len]); first | done | omega) | apply lk_prev)) (by first | rfl | exact upto_len | assumption | exact map_len | exact List.length_set | (rw [List.length_set]; assumption)) | exact Ints.tail (by with_reducible repeat (first | assumption | (apply lk_last; (try simp only [ll1, ll2, ll3, ll4, lls_len, lls2_len, markL_len, rls_len, markR_len]); first | done | omega) | apply lk_prev)) (by first | rfl | exact upto_len | assumption | exact map_len | exact List.length_set | (rw [List.length_set]; assumption)) | with_reducible apply Ints.app | (refine Ints.sub (by with_reducible repeat (first | assumption | apply Ints.app)) (by omega) (by omega) (by omega)))) (by conv => lhs; whnf) (by omega) (by omega) (fun p13 hp13 => ?_)
      refine d_do rfl (o_loadI Try.underlying2 rfl (by conv => lhs; whnf) hp13 (by first | ((with_reducible repeat (first | assumption | apply Ints.app)); done) | repeat (first | with_reducible assumption | exact ints_nil | exact Ints.own (by with_reducible repeat (first | assumption | (apply lk_last; (try simp only [ll1, ll2, ll3, ll4, lls_len, lls2_len, markL_len, rls_len, markR_len]); first | done | omega) | apply lk_prev)) (by first | rfl | exact upto_len | assumption | exact map_len | exact List.length_set | (rw [List.length_set]; assumption)) | exact Ints.tail (by with_reducible repeat (first | assumption | (apply lk_last; (try simp only [ll1, ll2, ll3, ll4, lls_len, lls2_len, markL_len, rls_len, markR_len]); first | done | omega) | apply lk_prev)) (by first | rfl | exact upto_len | assumption | exact map_len | exact List.length_set | (rw [List.length_set]; assumption)) | with_reducible apply Ints.app | (refine Ints.sub (by with_reducible repeat (first | assumption | apply Ints.app)) (by omega) (by omega) (by omega)))) (by omega) ⟨rfl, rfl⟩) (by exact .prim rfl) ?_
      refine d_do rfl (o_move (by conv => lhs; whnf) ⟨rfl, rfl⟩) (by first | exact .prim rfl | (apply within_sl; (with_reducible repeat (first | assumption | (apply lk_last; (try simp only [ll1, ll2, ll3, ll4, lls_len, lls2_len, markL_len, rls_len, markR_len]); first | done | omega) | apply lk_prev)); done) | ((try apply within_sub); apply Ints.within; (with_reducible repeat (first | assumption | apply Ints.app)); done) | (apply Lists.within; (with_reducible repeat (first | assumption | apply Lists.app)); done) | (apply Recs.within; (with_reducible repeat (first | assumption | apply Recs.app)); done) | (apply IsRec.within; (with_reducible repeat (first | assumption | apply IsRec.app)); done) | (apply Flts.within; (with_reducible repeat (first | assumption | apply Flts.app)); done) | (apply Byts.within; (with_reducible repeat (first | assumption | apply Byts.app)); done)) ?_
      refine d_do rfl (o_move (by conv => lhs; whnf) ⟨rfl, rfl⟩) (by exact .prim rfl) ?_
      first | refine d_indexI rfl Try.underlying22 ty2 (by conv => lhs; whnf) (by first | ((with_reducible repeat (first | assumption | apply Ints.app)); done) | repeat (first | with_reducible assumption | exact ints_nil | exact Ints.own (by with_reducible repeat (first | assumption | (apply lk_last; (try simp only [ll1, ll2, ll3, ll4, lls_len, lls2_len, markL_len, rls_len, markR_len]); first | done | omega) | apply lk_prev)) (by first | rfl | exact upto_len | assumption | exact map_len | exact List.length_set | (rw [List.length_set]; assumption)) | exact Ints.tail (by with_reducible repeat (first | assumption | (apply lk_last; (try simp only [ll1, ll2, ll3, ll4, lls_len, lls2_len, markL_len, rls_len, markR_len]); first | done | omega) | apply lk_prev)) (by first | rfl | exact upto_len | assumption | exact map_len | exact List.length_set | (rw [List.length_set]; assumption)) | with_reducible apply Ints.app | (refine Ints.sub (by with_reducible repeat (first | assumption | apply Ints.app)) (by omega) (by omega) (by omega)))) (by conv => lhs; whnf) (by omega) (fun p14 hp14 => ?_) | refine d_indexZ rfl Try.underlying22 ty2 (by conv => lhs; whnf) (by first | ((with_reducible repeat (first | assumption | apply Ints.app)); done) | repeat (first | with_reducible assumption | exact ints_nil | exact Ints.own (by with_reducible repeat (first | assumption | (apply lk_last; (try simp only [ll1, ll2, ll3, ll4, lls_len, lls2_len, markL_len, rls_len, markR_len]); first | done | omega) | apply lk_prev)) (by first | rfl | exact upto_len | assumption | exact map_len | exact List.length_set | (rw [List.length_set]; assumption)) | exact Ints.tail (by with_reducible repeat (first | assumption | (apply lk_last; (try simp only [ll1, ll2, ll3, ll4, lls_len, lls2_len, markL_len, rls_len, markR_len]); first | done | omega) | apply lk_prev)) (by first | rfl | exact upto_len | assumption | exact map_len | exact List.length_set | (rw [List.length_set]; assumption)) | with_reducible apply Ints.app | (refine Ints.sub (by with_reducible repeat (first | assumption | apply Ints.app)) (by omega) (by omega) (by omega)))) (by conv => lhs; whnf) (by omega) (by omega) (fun p14 hp14 => ?_)
      refine d_do rfl (o_loadI Try.underlying2 rfl (by conv => lhs; whnf) hp14 (by first | ((with_reducible repeat (first | assumption | apply Ints.app)); done) | repeat (first | with_reducible assumption | exact ints_nil | exact Ints.own (by with_reducible repeat (first | assumption | (apply lk_last; (try simp only [ll1, ll2, ll3, ll4, lls_len, lls2_len, markL_len, rls_len, markR_len]); first | done | omega) | apply lk_prev)) (by first | rfl | exact upto_len | assumption | exact map_len | exact List.length_set | (rw [List.length_set]; assumption)) | exact Ints.tail (by with_reducible repeat (first | assumption | (apply lk_last; (try simp only [ll1, ll2, ll3, ll4, lls_len, lls2_len, markL_len, rls_len, markR_len]); first | done | omega) | apply lk_prev)) (by first | rfl | exact upto_len | assumption | exact map_len | exact List.length_set | (rw [List.length_set]; assumption)) | with_reducible apply Ints.app | (refine Ints.sub (by with_reducible repeat (first | assumption | apply Ints.app)) (by omega) (by omega) (by omega)))) (by omega) ⟨rfl, rfl⟩) (by exact .prim rfl) ?_
      refine d_do rfl (o_mul (by conv => lhs; whnf) (by conv => lhs; whnf) (by omega) (by omega) ⟨rfl, rfl⟩) (by exact .prim rfl) ?_
      refine d_do rfl (o_move (by conv => lhs; whnf) ⟨rfl, rfl⟩) (by first | exact .prim rfl | (apply within_sl; (with_reducible repeat (first | assumption | (apply lk_last; (try simp only [ll1, ll2, ll3, ll4, lls_len, lls2_len, markL_len, rls_len, markR_len]); first | done | omega) | apply lk_prev)); done) | ((try apply within_sub); apply Ints.within; (with_reducible repeat (first | assumption | apply Ints.app)); done) | (apply Lists.within; (with_reducible repeat (first | assumption | apply Lists.app)); done) | (apply Recs.within; (with_reducible repeat (first | assumption | apply Recs.app)); done) | (apply IsRec.within; (with_reducible repeat (first | assumption | apply IsRec.app)); done) | (apply Flts.within; (with_reducible repeat (first | assumption | apply Flts.app)); done) | (apply Byts.within; (with_reducible repeat (first | assumption | apply Byts.app)); done)) ?_
      refine d_do rfl (o_move (by conv => lhs; whnf) ⟨rfl, rfl⟩) (by exact .prim rfl) ?_
      first | refine d_indexI rfl Try.underlying22 ty2 (by conv => lhs; whnf) (by first | ((with_reducible repeat (first | assumption | apply Ints.app)); done) | repeat (first | with_reducible assumption | exact ints_nil | exact Ints.own (by with_reducible repeat (first | assumption | (apply lk_last; (try simp only [ll1, ll2, ll3, ll4, lls_len, lls2_len, markL_len, rls_len, markR_len]); first | done | omega) | apply lk_prev)) (by first | rfl | exact upto_len | assumption | exact map_len | exact List.length_set | (rw [List.length_set]; assumption)) | exact Ints.tail (by with_reducible repeat (first | assumption | (apply lk_last; (try simp only [ll1, ll2, ll3, ll4, lls_len, lls2_len, markL_len, rls_len, markR_len]); first | done | omega) | apply lk_prev)) (by first | rfl | exact upto_len | assumption | exact map_len | exact List.length_set | (rw [List.length_set]; assumption)) | with_reducible apply Ints.app | (refine Ints.sub (by with_reducible repeat (first | assumption | apply Ints.app)) (by omega) (by omega) (by omega)))) (by conv => lhs; whnf) (by omega) (fun p15 hp15 => ?_) | refine d_indexZ rfl Try.underlying22 ty2 (by conv => lhs; whnf) (by first | ((with_reducible repeat (first | assumption | apply Ints.app)); done) | repeat (first | with_reducible assumption | exact ints_nil | exact Ints.own (by with_reducible repeat (first | assumption | (apply lk_last; (try simp only [ll1, ll2, ll3, ll4, lls_len, lls2_len, markL_len, rls_len, markR_len]); first | done | omega) | apply lk_prev)) (by first | rfl | exact upto_len | assumption | exact map_len | exact List.length_set | (rw [List.length_set]; assumption)) | exact Ints.tail (by with_reducible repeat (first | assumption | (apply lk_last; (try simp only [ll1, ll2, ll3, ll4, lls_len, lls2_len, markL_len, rls_len, markR_len]); first | done | omega) | apply lk_prev)) (by first | rfl | exact upto_len | assumption | exact map_len | exact List.length_set | (rw [List.length_set]; assumption)) | with_reducible apply Ints.app | (refine Ints.sub (by with_reducible repeat (first | assumption | apply Ints.app)) (by omega) (by omega) (by omega)))) (by conv => lhs; whnf) (by omega) (by omega) (fun p15 hp15 => ?_)
      refine d_do rfl (o_loadI Try.underlying2 rfl (by conv => lhs; whnf) hp15 (by first | ((with_reducible repeat (first | assumption | apply Ints.app)); done) | repeat (first | with_reducible assumption | exact ints_nil | exact Ints.own (by with_reducible repeat (first | assumption | (apply lk_last; (try simp only [ll1, ll2, ll3, ll4, lls_len, lls2_len, markL_len, rls_len, markR_len]); first | done | omega) | apply lk_prev)) (by first | rfl | exact upto_len | assumption | exact map_len | exact List.length_set | (rw [List.length_set]; assumption)) | exact Ints.tail (by with_reducible repeat (first | assumption | (apply lk_last; (try simp only [ll1, ll2, ll3, ll4, lls_len, lls2_len, markL_len, rls_len, markR_len]); first | done | omega) | apply lk_prev)) (by first | rfl | exact upto_len | assumption | exact map_len | exact List.length_set | (rw [List.length_set]; assumption)) | with_reducible apply Ints.app | (refine Ints.sub (by with_reducible repeat (first | assumption | apply Ints.app)) (by omega) (by omega) (by omega)))) (by omega) ⟨rfl, rfl⟩) (by exact .prim rfl) ?_
      refine d_do rfl (o_move (by conv => lhs; whnf) ⟨rfl, rfl⟩) (by first | exact .prim rfl | (apply within_sl; (with_reducible repeat (first | assumption | (apply lk_last; (try simp only [ll1, ll2, ll3, ll4, lls_len, lls2_len, markL_len, rls_len, markR_len]); first | done | omega) | apply lk_prev)); done) | ((try apply within_sub); apply Ints.within; (with_reducible repeat (first | assumption | apply Ints.app)); done) | (apply Lists.within; (with_reducible repeat (first | assumption | apply Lists.app)); done) | (apply Recs.within; (with_reducible repeat (first | assumption | apply Recs.app)); done) | (apply IsRec.within; (with_reducible repeat (first | assumption | apply IsRec.app)); done) | (apply Flts.within; (with_reducible repeat (first | assumption | apply Flts.app)); done) | (apply Byts.within; (with_reducible repeat (first | assumption | apply Byts.app)); done)) ?_
      refine d_do rfl (o_move (by conv => lhs; whnf) ⟨rfl, rfl⟩) (by exact .prim rfl) ?_
      first | refine d_indexI rfl Try.underlying22 ty2 (by conv => lhs; whnf) (by first | ((with_reducible repeat (first | assumption | apply Ints.app)); done) | repeat (first | with_reducible assumption | exact ints_nil | exact Ints.own (by with_reducible repeat (first | assumption | (apply lk_last; (try simp only [ll1, ll2, ll3, ll4, lls_len, lls2_len, markL_len, rls_len, markR_len]); first | done | omega) | apply lk_prev)) (by first | rfl | exact upto_len | assumption | exact map_len | exact List.length_set | (rw [List.length_set]; assumption)) | exact Ints.tail (by with_reducible repeat (first | assumption | (apply lk_last; (try simp only [ll1, ll2, ll3, ll4, lls_len, lls2_len, markL_len, rls_len, markR_len]); first | done | omega) | apply lk_prev)) (by first | rfl | exact upto_len | assumption | exact map_len | exact List.length_set | (rw [List.length_set]; assumption)) | with_reducible apply Ints.app | (refine Ints.sub (by with_reducible repeat (first | assumption | apply Ints.app)) (by omega) (by omega) (by omega)))) (by conv => lhs; whnf) (by omega) (fun p16 hp16 => ?_) | refine d_indexZ rfl Try.underlying22 ty2 (by conv => lhs; whnf) (by first | ((with_reducible repeat (first | assumption | apply Ints.app)); done) | repeat (first | with_reducible assumption | exact ints_nil | exact Ints.own (by with_reducible repeat (first | assumption | (apply lk_last; (try simp only [ll1, ll2, ll3, ll4, lls_len, lls2_len, markL_len, rls_len, markR_len]); first | done | omega) | apply lk_prev)) (by first | rfl | exact upto_len | assumption | exact map_len | exact List.length_set | (rw [List.length_set]; assumption)) | exact Ints.tail (by with_reducible repeat (first | assumption | (apply lk_last; (try simp only [ll1, ll2, ll3, ll4, lls_len, lls2_len, markL_len, rls_len, markR_len]); first | done | omega) | apply lk_prev)) (by first | rfl | exact upto_len | assumption | exact map_len | exact List.length_set | (rw [List.length_set]; assumption)) | with_reducible apply Ints.app | (refine Ints.sub (by with_reducible repeat (first | assumption | apply Ints.app)) (by omega) (by omega) (by omega)))) (by conv => lhs; whnf) (by omega) (by omega) (fun p16 hp16 => ?_)
      refine d_do rfl (o_loadI Try.underlying2 rfl (by conv => lhs; whnf) hp16 (by first | ((with_reducible repeat (first | assumption | apply Ints.app)); done) | repeat (first | with_reducible assumption | exact ints_nil | exact Ints.own (by with_reducible repeat (first | assumption | (apply lk_last; (try simp only [ll1, ll2, ll3, ll4, lls_len, lls2_len, markL_len, rls_len, markR_len]); first | done | omega) | apply lk_prev)) (by first | rfl | exact upto_len | assumption | exact map_len | exact List.length_set | (rw [List.length_set]; assumption)) | exact Ints.tail (by with_reducible repeat (first | assumption | (apply lk_last; (try simp only [ll1, ll2, ll3, ll4, lls_len, lls2_len, markL_len, rls_len, markR_len]); first | done | omega) | apply lk_prev)) (by first | rfl | exact upto_len | assumption | exact map_len | exact List.length_set | (rw [List.length_set]; assumption)) | with_reducible apply Ints.app | (refine Ints.sub (by with_reducible repeat (first | assumption | apply Ints.app)) (by omega) (by omega) (by omega)))) (by omega) ⟨rfl, rfl⟩) (by exact .prim rfl) ?_
      refine d_do rfl (o_mul (by conv => lhs; whnf) (by conv => lhs; whnf) (by omega) (by omega) ⟨rfl, rfl⟩) (by exact .prim rfl) ?_
      refine d_lss rfl (by conv => lhs; whnf) (by conv => lhs; whnf) (fun c17 => ?_) (fun c17 => ?_)
      ·
        refine d_do rfl (o_assign (by conv => lhs; whnf) ⟨rfl, rfl⟩) (by exact .prim rfl) ?_
        refine d_end ?_
        refine awp_ret ?_
        refine ⟨.inl rfl, [_], ⟨ares_tmp (by conv => lhs; whnf), trivial⟩, ?_⟩
        exact ⟨congrArg Value.bool (by unfold chB; simp only [Int.toNat_natCast]; split <;> first | (symm; apply decide_eq_true; omega) | (symm; apply decide_eq_false; omega) | (exfalso; omega)), (by first | ((repeat (first | with_reducible exact Grown.refl _ | with_reducible apply Grown.push)); done) | repeat (first | exact Grown.refl _ | refine Grown.push ?_ _))⟩
      ·
        refine d_do rfl (o_assign (by conv => lhs; whnf) ⟨rfl, rfl⟩) (by exact .prim rfl) ?_
        refine d_end ?_
        refine awp_ret ?_
        refine ⟨.inl rfl, [_], ⟨ares_tmp (by conv => lhs; whnf), trivial⟩, ?_⟩
        exact ⟨congrArg Value.bool (by unfold chB; simp only [Int.toNat_natCast]; split <;> first | (symm; apply decide_eq_true; omega) | (symm; apply decide_eq_false; omega) | (exfalso; omega)), (by first | ((repeat (first | with_reducible exact Grown.refl _ | with_reducible apply Grown.push)); done) | repeat (first | exact Grown.refl _ | refine Grown.push ?_ _))⟩

set_option maxRecDepth 10000 in
theorem l04Going_ret (fr : Int) (os xs ys : List Int) (u v w : Value) (h : AHeap) (hu : Ints h u os) (hv : Ints h v xs) (hw : Ints h w ys) (hl : xs.length ≤ 8) (hl2 : ys.length = xs.length) (hl3 : os.length = xs.length) (hbx : ∀ j, j < xs.length → 0 ≤ xs.getD j 0 ∧ xs.getD j 0 ≤ 1000) (hby : ∀ j, j < xs.length → 0 ≤ ys.getD j 0 ∧ ys.getD j 0 ≤ 1000) : Ret Try.prog 72 [u, v, w, i64 fr] h (i64 (goB os xs ys fr xs.length)) h := by
  refine ret_of (.prim rfl) ?_
  have hnn : ∀ i : Nat, i < xs.length → NN2 xs ys (i : Int) := fun i hi => ⟨by rw [Int.toNat_natCast]; exact (hbx i hi).1, by rw [Int.toNat_natCast]; exact (hby i hi).1⟩
  refine tri_of_body Try.func72 rfl (by kernel_rfl) (by show 4 ≤ 36; decide) ?_
  refine awp_seq ?_
  refine awp_region rfl ?_
  refine a_do rfl (o_assign (by conv => lhs; whnf) ?_)
  refine a_end ?_
  refine awp_seq ?_
  refine awp_region rfl ?_
  refine a_do rfl (o_assign (by conv => lhs; whnf) ?_)
  refine a_end ?_
  refine awp_seq ?_
  refine awp_seq ?_
  refine awp_region rfl ?_
  refine a_do rfl (o_assign (by conv => lhs; whnf) ?_)
  refine a_end ?_
  refine awp_block ?_
  refine awp_loop (σ := Nat) (fun s env1 h1 => Slots env1 [(0, u), (1, v), (2, w), (3, i64 fr), (9, i64 (goB os xs ys fr s)), (10, i64 s)] ∧ h1 = h ∧ s ≤ xs.length) (fun s => xs.length - s) 0 ?_ ?_
  · refine ⟨Slots.mk ⟨?_, ?_, ?_, ?_, ?_, ?_, trivial⟩, ?_, ?_⟩
    all_goals first | rfl | omega
  · intro s env1 h1 hI1
    obtain ⟨⟨e1, rfl⟩, rfl, hs⟩ := hI1
    refine awp_seq ?_
    refine awp_seq ?_
    refine awp_region rfl ?_
    refine a_do rfl (o_move (by conv => lhs; whnf) ?_)
    refine a_do rfl (o_move (by conv => lhs; whnf) ?_)
    refine a_do rfl (o_lenI Try.underlying22 (by conv => lhs; whnf) (by first | ((with_reducible repeat (first | assumption | apply Ints.app)); done) | repeat (first | with_reducible assumption | exact ints_nil | exact Ints.own (by with_reducible repeat (first | assumption | (apply lk_last; (try simp only [ll1, ll2, ll3, ll4, lls_len, lls2_len, markL_len, rls_len, markR_len]); first | done | omega) | apply lk_prev)) (by first | rfl | exact upto_len | assumption | exact map_len | exact List.length_set | (rw [List.length_set]; assumption)) | exact Ints.tail (by with_reducible repeat (first | assumption | (apply lk_last; (try simp only [ll1, ll2, ll3, ll4, lls_len, lls2_len, markL_len, rls_len, markR_len]); first | done | omega) | apply lk_prev)) (by first | rfl | exact upto_len | assumption | exact map_len | exact List.length_set | (rw [List.length_set]; assumption)) | with_reducible apply Ints.app | (refine Ints.sub (by with_reducible repeat (first | assumption | apply Ints.app)) (by omega) (by omega) (by omega)))) ?_)
    refine a_do rfl (o_lss (by conv => lhs; whnf) (by conv => lhs; whnf) (fun c1 => ?_) (fun c1 => ?_))
    ·
      refine a_end ?_
      refine awp_condT (by conv => lhs; whnf) ?_
      refine awp_skip ?_
      refine awp_seq ?_
      refine awp_block ?_
      refine awp_seq ?_
      refine awp_region rfl ?_
      have hsl : s < xs.length := (by omega)
      refine a_do rfl (o_move (by conv => lhs; whnf) ?_)
      refine a_do rfl (o_move (by conv => lhs; whnf) ?_)
      first | refine a_do rfl (o_indexI Try.underlying22 ty2 (by conv => lhs; whnf) (by first | ((with_reducible repeat (first | assumption | apply Ints.app)); done) | repeat (first | with_reducible assumption | exact ints_nil | exact Ints.own (by with_reducible repeat (first | assumption | (apply lk_last; (try simp only [ll1, ll2, ll3, ll4, lls_len, lls2_len, markL_len, rls_len, markR_len]); first | done | omega) | apply lk_prev)) (by first | rfl | exact upto_len | assumption | exact map_len | exact List.length_set | (rw [List.length_set]; assumption)) | exact Ints.tail (by with_reducible repeat (first | assumption | (apply lk_last; (try simp only [ll1, ll2, ll3, ll4, lls_len, lls2_len, markL_len, rls_len, markR_len]); first | done | omega) | apply lk_prev)) (by first | rfl | exact upto_len | assumption | exact map_len | exact List.length_set | (rw [List.length_set]; assumption)) | with_reducible apply Ints.app | (refine Ints.sub (by with_reducible repeat (first | assumption | apply Ints.app)) (by omega) (by omega) (by omega)))) (by conv => lhs; whnf) (by omega) (fun p2 hp2 => ?_)) | refine a_do rfl (o_indexZ Try.underlying22 ty2 (by conv => lhs; whnf) (by first | ((with_reducible repeat (first | assumption | apply Ints.app)); done) | repeat (first | with_reducible assumption | exact ints_nil | exact Ints.own (by with_reducible repeat (first | assumption | (apply lk_last; (try simp only [ll1, ll2, ll3, ll4, lls_len, lls2_len, markL_len, rls_len, markR_len]); first | done | omega) | apply lk_prev)) (by first | rfl | exact upto_len | assumption | exact map_len | exact List.length_set | (rw [List.length_set]; assumption)) | exact Ints.tail (by with_reducible repeat (first | assumption | (apply lk_last; (try simp only [ll1, ll2, ll3, ll4, lls_len, lls2_len, markL_len, rls_len, markR_len]); first | done | omega) | apply lk_prev)) (by first | rfl | exact upto_len | assumption | exact map_len | exact List.length_set | (rw [List.length_set]; assumption)) | with_reducible apply Ints.app | (refine Ints.sub (by with_reducible repeat (first | assumption | apply Ints.app)) (by omega) (by omega) (by omega)))) (by conv => lhs; whnf) (by omega) (by omega) (fun p2 hp2 => ?_))
      refine a_do rfl (o_loadI Try.underlying2 rfl (by conv => lhs; whnf) hp2 (by first | ((with_reducible repeat (first | assumption | apply Ints.app)); done) | repeat (first | with_reducible assumption | exact ints_nil | exact Ints.own (by with_reducible repeat (first | assumption | (apply lk_last; (try simp only [ll1, ll2, ll3, ll4, lls_len, lls2_len, markL_len, rls_len, markR_len]); first | done | omega) | apply lk_prev)) (by first | rfl | exact upto_len | assumption | exact map_len | exact List.length_set | (rw [List.length_set]; assumption)) | exact Ints.tail (by with_reducible repeat (first | assumption | (apply lk_last; (try simp only [ll1, ll2, ll3, ll4, lls_len, lls2_len, markL_len, rls_len, markR_len]); first | done | omega) | apply lk_prev)) (by first | rfl | exact upto_len | assumption | exact map_len | exact List.length_set | (rw [List.length_set]; assumption)) | with_reducible apply Ints.app | (refine Ints.sub (by with_reducible repeat (first | assumption | apply Ints.app)) (by omega) (by omega) (by omega)))) (by omega) ?_)
      refine a_do rfl (o_move (by conv => lhs; whnf) ?_)
      refine a_do rfl (o_eql (by conv => lhs; whnf) (by conv => lhs; whnf) (fun c3 => ?_) (fun c3 => ?_))
      ·
        have hc5 := c3
        refine a_do rfl (o_move (by conv => lhs; whnf) ?_)
        refine a_do rfl (o_move (by conv => lhs; whnf) ?_)
        refine a_do rfl (o_lss (by conv => lhs; whnf) (by conv => lhs; whnf) (fun c4 => ?_) (fun c4 => ?_))
        ·
          have hgs : goB os xs ys fr (s + 1) = (s : Int) := (by rw [goB, if_pos ⟨hc5, .inl c4⟩])
          refine a_do rfl (o_move (by conv => lhs; whnf) ?_)
          refine a_no rfl ?_
          refine a_no rfl ?_
          refine a_no rfl ?_
          refine a_no rfl ?_
          refine a_no rfl ?_
          refine a_do rfl (o_pickT (by conv => lhs; whnf) (by conv => lhs; whnf) ?_)
          refine a_do rfl (o_pickT (by conv => lhs; whnf) (by conv => lhs; whnf) ?_)
          refine a_end ?_
          refine awp_condT (by conv => lhs; whnf) ?_
          refine awp_region rfl ?_
          refine a_do rfl (o_move (by conv => lhs; whnf) ?_)
          refine a_do rfl (o_assign (by conv => lhs; whnf) ?_)
          refine a_end ?_
          refine awp_region rfl ?_
          refine a_do rfl (o_move (by conv => lhs; whnf) ?_)
          refine a_do rfl (o_add (by conv => lhs; whnf) (by conv => lhs; whnf) (by omega) (by omega) ?_)
          refine a_do rfl (o_assign (by conv => lhs; whnf) ?_)
          refine a_end ?_
          refine ⟨s + 1, ⟨Slots.mk ⟨?_, ?_, ?_, ?_, ?_, ?_, trivial⟩, ?_, ?_⟩, ?_⟩
          all_goals first | rfl | omega | exact congrArg i64 (by omega) | exact (congrArg i64 hgs).symm
        ·
          have hc8 := c4
          obtain ⟨b9, hb9, e9, -⟩ := (goB_inv (ow := os) (fr := fr) hnn s hs).resolve_left (fun e8 => hc8 (by rw [e8.1]; decide))
          refine a_do rfl (o_move (by conv => lhs; whnf) ?_)
          refine a_do rfl (o_move (by conv => lhs; whnf) ?_)
          refine a_do rfl (o_move (by conv => lhs; whnf) ?_)
          refine a_do rfl (o_move (by conv => lhs; whnf) ?_)
          refine a_do rfl (o_move (by conv => lhs; whnf) ?_)
          refine a_do rfl (o_callF (lmap_cons (by conv => lhs; whnf) (lmap_cons (by conv => lhs; whnf) (lmap_cons (by conv => lhs; whnf) (lmap_cons (by conv => lhs; whnf) lmap_nil)))) (Ret.toB (by rw [e9]; exact l04Cheaper_ret s b9 xs ys v w _ (by first | ((with_reducible repeat (first | assumption | apply Ints.app)); done) | repeat (first | with_reducible assumption | exact ints_nil | exact Ints.own (by with_reducible repeat (first | assumption | (apply lk_last; (try simp only [ll1, ll2, ll3, ll4, lls_len, lls2_len, markL_len, rls_len, markR_len]); first | done | omega) | apply lk_prev)) (by first | rfl | exact upto_len | assumption | exact map_len | exact List.length_set | (rw [List.length_set]; assumption)) | exact Ints.tail (by with_reducible repeat (first | assumption | (apply lk_last; (try simp only [ll1, ll2, ll3, ll4, lls_len, lls2_len, markL_len, rls_len, markR_len]); first | done | omega) | apply lk_prev)) (by first | rfl | exact upto_len | assumption | exact map_len | exact List.length_set | (rw [List.length_set]; assumption)) | with_reducible apply Ints.app | (refine Ints.sub (by with_reducible repeat (first | assumption | apply Ints.app)) (by omega) (by omega) (by omega)))) (by first | ((with_reducible repeat (first | assumption | apply Ints.app)); done) | repeat (first | with_reducible assumption | exact ints_nil | exact Ints.own (by with_reducible repeat (first | assumption | (apply lk_last; (try simp only [ll1, ll2, ll3, ll4, lls_len, lls2_len, markL_len, rls_len, markR_len]); first | done | omega) | apply lk_prev)) (by first | rfl | exact upto_len | assumption | exact map_len | exact List.length_set | (rw [List.length_set]; assumption)) | exact Ints.tail (by with_reducible repeat (first | assumption | (apply lk_last; (try simp only [ll1, ll2, ll3, ll4, lls_len, lls2_len, markL_len, rls_len, markR_len]); first | done | omega) | apply lk_prev)) (by first | rfl | exact upto_len | assumption | exact map_len | exact List.length_set | (rw [List.length_set]; assumption)) | with_reducible apply Ints.app | (refine Ints.sub (by with_reducible repeat (first | assumption | apply Ints.app)) (by omega) (by omega) (by omega)))) (by assumption) (by omega) hbx hby (by omega) (by omega)) (fun c5 => ?_) (fun c5 => ?_)))
          ·
            have hgs : goB os xs ys fr (s + 1) = (s : Int) := (by rw [goB, if_pos ⟨hc5, .inr (by rw [e9]; exact c5)⟩])
            refine a_do rfl (o_pickF (by conv => lhs; whnf) (by conv => lhs; whnf) ?_)
            refine a_do rfl (o_pickT (by conv => lhs; whnf) (by conv => lhs; whnf) ?_)
            refine a_end ?_
            refine awp_condT (by conv => lhs; whnf) ?_
            refine awp_region rfl ?_
            refine a_do rfl (o_move (by conv => lhs; whnf) ?_)
            refine a_do rfl (o_assign (by conv => lhs; whnf) ?_)
            refine a_end ?_
            refine awp_region rfl ?_
            refine a_do rfl (o_move (by conv => lhs; whnf) ?_)
            refine a_do rfl (o_add (by conv => lhs; whnf) (by conv => lhs; whnf) (by omega) (by omega) ?_)
            refine a_do rfl (o_assign (by conv => lhs; whnf) ?_)
            refine a_end ?_
            refine ⟨s + 1, ⟨Slots.mk ⟨?_, ?_, ?_, ?_, ?_, ?_, trivial⟩, ?_, ?_⟩, ?_⟩
            all_goals first | rfl | omega | exact congrArg i64 (by omega) | exact (congrArg i64 hgs).symm
          ·
            have hgs : goB os xs ys fr (s + 1) = (goB os xs ys fr s) := (by rw [goB, if_neg (fun e7 => e7.2.elim hc8 (fun e6 => by rw [e9, c5] at e6; cases e6))])
            refine a_do rfl (o_pickF (by conv => lhs; whnf) (by conv => lhs; whnf) ?_)
            refine a_do rfl (o_pickT (by conv => lhs; whnf) (by conv => lhs; whnf) ?_)
            refine a_end ?_
            refine awp_condF (by conv => lhs; whnf) ?_
            refine awp_skip ?_
            refine awp_region rfl ?_
            refine a_do rfl (o_move (by conv => lhs; whnf) ?_)
            refine a_do rfl (o_add (by conv => lhs; whnf) (by conv => lhs; whnf) (by omega) (by omega) ?_)
            refine a_do rfl (o_assign (by conv => lhs; whnf) ?_)
            refine a_end ?_
            refine ⟨s + 1, ⟨Slots.mk ⟨?_, ?_, ?_, ?_, ?_, ?_, trivial⟩, ?_, ?_⟩, ?_⟩
            all_goals first | rfl | omega | exact congrArg i64 (by omega) | exact (congrArg i64 hgs).symm
      ·
        have hgs : goB os xs ys fr (s + 1) = (goB os xs ys fr s) := (by rw [goB, if_neg (fun e9 => c3 e9.1)])
        refine a_do rfl (o_move (by conv => lhs; whnf) ?_)
        refine a_no rfl ?_
        refine a_no rfl ?_
        refine a_no rfl ?_
        refine a_no rfl ?_
        refine a_no rfl ?_
        refine a_no rfl ?_
        refine a_no rfl ?_
        refine a_no rfl ?_
        refine a_no rfl ?_
        refine a_do rfl (o_pickF (by conv => lhs; whnf) (by conv => lhs; whnf) ?_)
        refine a_end ?_
        refine awp_condF (by conv => lhs; whnf) ?_
        refine awp_skip ?_
        refine awp_region rfl ?_
        refine a_do rfl (o_move (by conv => lhs; whnf) ?_)
        refine a_do rfl (o_add (by conv => lhs; whnf) (by conv => lhs; whnf) (by omega) (by omega) ?_)
        refine a_do rfl (o_assign (by conv => lhs; whnf) ?_)
        refine a_end ?_
        refine ⟨s + 1, ⟨Slots.mk ⟨?_, ?_, ?_, ?_, ?_, ?_, trivial⟩, ?_, ?_⟩, ?_⟩
        all_goals first | rfl | omega | exact congrArg i64 (by omega) | exact (congrArg i64 hgs).symm
    ·
      refine a_end ?_
      refine awp_condF (by conv => lhs; whnf) ?_
      refine awp_exit ?_
      refine awp_seq ?_
      refine awp_region rfl ?_
      refine a_do rfl (o_move (by conv => lhs; whnf) ?_)
      refine a_do rfl (o_assign (by conv => lhs; whnf) ?_)
      refine a_end ?_
      refine awp_ret ?_
      refine ⟨.inl rfl, [_], ⟨ares_tmp (by conv => lhs; whnf), trivial⟩, ?_⟩
      obtain rfl : s = xs.length := (by omega); exact ⟨rfl, (by first | ((repeat (first | with_reducible exact Grown.refl _ | with_reducible apply Grown.push)); done) | repeat (first | exact Grown.refl _ | refine Grown.push ?_ _))⟩

set_option maxRecDepth 10000 in
theorem compareNumbers_ret (a b : Int) (h : AHeap) : Ret Try.prog 76 [i64 a, i64 b] h (i64 (cmpZ a b)) h := by
  refine ret_of (.prim rfl) ?_
  refine tri_of_body Try.func76 rfl (by kernel_rfl) (by show 2 ≤ 13; decide) ?_
  refine awp_seq ?_
  refine awp_region rfl ?_
  refine a_do rfl (o_assign (by conv => lhs; whnf) ?_)
  refine a_end ?_
  refine awp_seq ?_
  refine awp_block ?_
  refine awp_seq ?_
  refine awp_region rfl ?_
  refine a_do rfl (o_move (by conv => lhs; whnf) ?_)
  refine a_do rfl (o_move (by conv => lhs; whnf) ?_)
  refine a_do rfl (o_lss (by conv => lhs; whnf) (by conv => lhs; whnf) (fun c1 => ?_) (fun c1 => ?_))
  ·
    refine a_do rfl (o_assign (by conv => lhs; whnf) ?_)
    refine a_end ?_
    refine awp_condT (by conv => lhs; whnf) ?_
    refine awp_seq ?_
    refine awp_region rfl ?_
    refine a_do rfl (o_assign (by conv => lhs; whnf) ?_)
    refine a_end ?_
    refine awp_ret ?_
    refine ⟨.inl rfl, [_], ⟨ares_tmp (by conv => lhs; whnf), trivial⟩, ?_⟩
    exact ⟨congrArg i64 (by unfold cmpZ; first | (rw [if_pos (by assumption)]; done) | (rw [if_neg (by omega), if_pos (by omega)]; done) | (rw [if_neg (by omega), if_neg (by omega)]; done)), (by first | ((repeat (first | with_reducible exact Grown.refl _ | with_reducible apply Grown.push)); done) | repeat (first | exact Grown.refl _ | refine Grown.push ?_ _))⟩
  ·
    refine a_do rfl (o_assign (by conv => lhs; whnf) ?_)
    refine a_end ?_
    refine awp_condF (by conv => lhs; whnf) ?_
    refine awp_seq ?_
    refine awp_region rfl ?_
    refine a_do rfl (o_move (by conv => lhs; whnf) ?_)
    refine a_do rfl (o_move (by conv => lhs; whnf) ?_)
    refine a_do rfl (o_gtr (by conv => lhs; whnf) (by conv => lhs; whnf) (fun c2 => ?_) (fun c2 => ?_))
    ·
      refine a_do rfl (o_assign (by conv => lhs; whnf) ?_)
      refine a_end ?_
      refine awp_condT (by conv => lhs; whnf) ?_
      refine awp_seq ?_
      refine awp_region rfl ?_
      refine a_do rfl (o_assign (by conv => lhs; whnf) ?_)
      refine a_end ?_
      refine awp_ret ?_
      refine ⟨.inl rfl, [_], ⟨ares_tmp (by conv => lhs; whnf), trivial⟩, ?_⟩
      exact ⟨congrArg i64 (by unfold cmpZ; first | (rw [if_pos (by assumption)]; done) | (rw [if_neg (by omega), if_pos (by omega)]; done) | (rw [if_neg (by omega), if_neg (by omega)]; done)), (by first | ((repeat (first | with_reducible exact Grown.refl _ | with_reducible apply Grown.push)); done) | repeat (first | exact Grown.refl _ | refine Grown.push ?_ _))⟩
    ·
      refine a_do rfl (o_assign (by conv => lhs; whnf) ?_)
      refine a_end ?_
      refine awp_condF (by conv => lhs; whnf) ?_
      refine awp_skip ?_
      refine awp_seq ?_
      refine awp_region rfl ?_
      refine a_do rfl (o_assign (by conv => lhs; whnf) ?_)
      refine a_end ?_
      refine awp_ret ?_
      refine ⟨.inl rfl, [_], ⟨ares_tmp (by conv => lhs; whnf), trivial⟩, ?_⟩
      exact ⟨congrArg i64 (by unfold cmpZ; first | (rw [if_pos (by assumption)]; done) | (rw [if_neg (by omega), if_pos (by omega)]; done) | (rw [if_neg (by omega), if_neg (by omega)]; done)), (by first | ((repeat (first | with_reducible exact Grown.refl _ | with_reducible apply Grown.push)); done) | repeat (first | exact Grown.refl _ | refine Grown.push ?_ _))⟩

set_option maxRecDepth 10000 in
theorem splitOne1_ret (i k : Nat) (ko kw : Nat) (xs ys : List Int) (v w : Value) (h : AHeap) (ho : h[ko]? = some ⟨[w], true, 1⟩) (hp : h[kw]? = some ⟨[v], true, 1⟩) (hv : Ints h v xs) (hw : Ints h w ys) (hl : xs.length ≤ 8) (hl2 : ys.length = xs.length) (hbx : ∀ j, j < xs.length → 0 ≤ xs.getD j 0 ∧ xs.getD j 0 ≤ 1000) (hby : ∀ j, j < xs.length → 0 ≤ ys.getD j 0 ∧ ys.getD j 0 ≤ 1000) (hi : i < xs.length) (hk : k < xs.length) : Ret Try.prog 75 [i64 i, i64 k, .pointer (some ⟨ko, 0, some 1⟩), .pointer (some ⟨kw, 0, some 1⟩)] h (i64 (cmpC xs ys i k)) h := by
  refine ret_of (.prim rfl) ?_
  have b1 := hbx i hi
  have b2 := hbx k hk
  have b3 := hby i hi
  have b4 := hby k hk
  have m1 : 0 ≤ xs.getD i 0 * ys.getD k 0 ∧ xs.getD i 0 * ys.getD k 0 ≤ 1000000 := ⟨Int.mul_nonneg b1.1 b4.1, Int.le_trans (Int.mul_le_mul b1.2 b4.2 b4.1 (by decide)) (by decide)⟩
  have m2 : 0 ≤ xs.getD k 0 * ys.getD i 0 ∧ xs.getD k 0 * ys.getD i 0 ≤ 1000000 := ⟨Int.mul_nonneg b2.1 b3.1, Int.le_trans (Int.mul_le_mul b2.2 b3.2 b3.1 (by decide)) (by decide)⟩
  refine tri_of_body Try.func75 rfl (by kernel_rfl) (by show 4 ≤ 51; decide) ?_
  refine awp_seq ?_
  refine awp_region rfl ?_
  refine a_do rfl (o_assign (by conv => lhs; whnf) ?_)
  refine a_end ?_
  refine awp_seq ?_
  refine awp_block ?_
  refine awp_seq ?_
  refine awp_region rfl ?_
  refine a_do rfl (o_load Try.underlying22 rfl (by conv => lhs; whnf) (by with_reducible repeat (first | assumption | (apply lk_last; (try simp only [ll1, ll2, ll3, ll4, lls_len, lls2_len, markL_len, rls_len, markR_len]); first | done | omega) | apply lk_prev)) (by rfl) (by rfl) ?_)
  refine a_do rfl (o_move (by conv => lhs; whnf) ?_)
  first | refine a_do rfl (o_indexI Try.underlying22 ty2 (by conv => lhs; whnf) (by first | ((with_reducible repeat (first | assumption | apply Ints.app)); done) | repeat (first | with_reducible assumption | exact ints_nil | exact Ints.own (by with_reducible repeat (first | assumption | (apply lk_last; (try simp only [ll1, ll2, ll3, ll4, lls_len, lls2_len, markL_len, rls_len, markR_len]); first | done | omega) | apply lk_prev)) (by first | rfl | exact upto_len | assumption | exact map_len | exact List.length_set | (rw [List.length_set]; assumption)) | exact Ints.tail (by with_reducible repeat (first | assumption | (apply lk_last; (try simp only [ll1, ll2, ll3, ll4, lls_len, lls2_len, markL_len, rls_len, markR_len]); first | done | omega) | apply lk_prev)) (by first | rfl | exact upto_len | assumption | exact map_len | exact List.length_set | (rw [List.length_set]; assumption)) | with_reducible apply Ints.app | (refine Ints.sub (by with_reducible repeat (first | assumption | apply Ints.app)) (by omega) (by omega) (by omega)))) (by conv => lhs; whnf) (by omega) (fun p1 hp1 => ?_)) | refine a_do rfl (o_indexZ Try.underlying22 ty2 (by conv => lhs; whnf) (by first | ((with_reducible repeat (first | assumption | apply Ints.app)); done) | repeat (first | with_reducible assumption | exact ints_nil | exact Ints.own (by with_reducible repeat (first | assumption | (apply lk_last; (try simp only [ll1, ll2, ll3, ll4, lls_len, lls2_len, markL_len, rls_len, markR_len]); first | done | omega) | apply lk_prev)) (by first | rfl | exact upto_len | assumption | exact map_len | exact List.length_set | (rw [List.length_set]; assumption)) | exact Ints.tail (by with_reducible repeat (first | assumption | (apply lk_last; (try simp only [ll1, ll2, ll3, ll4, lls_len, lls2_len, markL_len, rls_len, markR_len]); first | done | omega) | apply lk_prev)) (by first | rfl | exact upto_len | assumption | exact map_len | exact List.length_set | (rw [List.length_set]; assumption)) | with_reducible apply Ints.app | (refine Ints.sub (by with_reducible repeat (first | assumption | apply Ints.app)) (by omega) (by omega) (by omega)))) (by conv => lhs; whnf) (by omega) (by omega) (fun p1 hp1 => ?_))
  refine a_do rfl (o_loadI Try.underlying2 rfl (by conv => lhs; whnf) hp1 (by first | ((with_reducible repeat (first | assumption | apply Ints.app)); done) | repeat (first | with_reducible assumption | exact ints_nil | exact Ints.own (by with_reducible repeat (first | assumption | (apply lk_last; (try simp only [ll1, ll2, ll3, ll4, lls_len, lls2_len, markL_len, rls_len, markR_len]); first | done | omega) | apply lk_prev)) (by first | rfl | exact upto_len | assumption | exact map_len | exact List.length_set | (rw [List.length_set]; assumption)) | exact Ints.tail (by with_reducible repeat (first | assumption | (apply lk_last; (try simp only [ll1, ll2, ll3, ll4, lls_len, lls2_len, markL_len, rls_len, markR_len]); first | done | omega) | apply lk_prev)) (by first | rfl | exact upto_len | assumption | exact map_len | exact List.length_set | (rw [List.length_set]; assumption)) | with_reducible apply Ints.app | (refine Ints.sub (by with_reducible repeat (first | assumption | apply Ints.app)) (by omega) (by omega) (by omega)))) (by omega) ?_)
  refine a_do rfl (o_eql (by conv => lhs; whnf) (by conv => lhs; whnf) (fun c2 => ?_) (fun c2 => ?_))
  ·
    refine a_do rfl (o_move (by conv => lhs; whnf) ?_)
    refine a_do rfl (o_load Try.underlying22 rfl (by conv => lhs; whnf) (by with_reducible repeat (first | assumption | (apply lk_last; (try simp only [ll1, ll2, ll3, ll4, lls_len, lls2_len, markL_len, rls_len, markR_len]); first | done | omega) | apply lk_prev)) (by rfl) (by rfl) ?_)
    refine a_do rfl (o_move (by conv => lhs; whnf) ?_)
    first | refine a_do rfl (o_indexI Try.underlying22 ty2 (by conv => lhs; whnf) (by first | ((with_reducible repeat (first | assumption | apply Ints.app)); done) | repeat (first | with_reducible assumption | exact ints_nil | exact Ints.own (by with_reducible repeat (first | assumption | (apply lk_last; (try simp only [ll1, ll2, ll3, ll4, lls_len, lls2_len, markL_len, rls_len, markR_len]); first | done | omega) | apply lk_prev)) (by first | rfl | exact upto_len | assumption | exact map_len | exact List.length_set | (rw [List.length_set]; assumption)) | exact Ints.tail (by with_reducible repeat (first | assumption | (apply lk_last; (try simp only [ll1, ll2, ll3, ll4, lls_len, lls2_len, markL_len, rls_len, markR_len]); first | done | omega) | apply lk_prev)) (by first | rfl | exact upto_len | assumption | exact map_len | exact List.length_set | (rw [List.length_set]; assumption)) | with_reducible apply Ints.app | (refine Ints.sub (by with_reducible repeat (first | assumption | apply Ints.app)) (by omega) (by omega) (by omega)))) (by conv => lhs; whnf) (by omega) (fun p3 hp3 => ?_)) | refine a_do rfl (o_indexZ Try.underlying22 ty2 (by conv => lhs; whnf) (by first | ((with_reducible repeat (first | assumption | apply Ints.app)); done) | repeat (first | with_reducible assumption | exact ints_nil | exact Ints.own (by with_reducible repeat (first | assumption | (apply lk_last; (try simp only [ll1, ll2, ll3, ll4, lls_len, lls2_len, markL_len, rls_len, markR_len]); first | done | omega) | apply lk_prev)) (by first | rfl | exact upto_len | assumption | exact map_len | exact List.length_set | (rw [List.length_set]; assumption)) | exact Ints.tail (by with_reducible repeat (first | assumption | (apply lk_last; (try simp only [ll1, ll2, ll3, ll4, lls_len, lls2_len, markL_len, rls_len, markR_len]); first | done | omega) | apply lk_prev)) (by first | rfl | exact upto_len | assumption | exact map_len | exact List.length_set | (rw [List.length_set]; assumption)) | with_reducible apply Ints.app | (refine Ints.sub (by with_reducible repeat (first | assumption | apply Ints.app)) (by omega) (by omega) (by omega)))) (by conv => lhs; whnf) (by omega) (by omega) (fun p3 hp3 => ?_))
    refine a_do rfl (o_loadI Try.underlying2 rfl (by conv => lhs; whnf) hp3 (by first | ((with_reducible repeat (first | assumption | apply Ints.app)); done) | repeat (first | with_reducible assumption | exact ints_nil | exact Ints.own (by with_reducible repeat (first | assumption | (apply lk_last; (try simp only [ll1, ll2, ll3, ll4, lls_len, lls2_len, markL_len, rls_len, markR_len]); first | done | omega) | apply lk_prev)) (by first | rfl | exact upto_len | assumption | exact map_len | exact List.length_set | (rw [List.length_set]; assumption)) | exact Ints.tail (by with_reducible repeat (first | assumption | (apply lk_last; (try simp only [ll1, ll2, ll3, ll4, lls_len, lls2_len, markL_len, rls_len, markR_len]); first | done | omega) | apply lk_prev)) (by first | rfl | exact upto_len | assumption | exact map_len | exact List.length_set | (rw [List.length_set]; assumption)) | with_reducible apply Ints.app | (refine Ints.sub (by with_reducible repeat (first | assumption | apply Ints.app)) (by omega) (by omega) (by omega)))) (by omega) ?_)
    refine a_do rfl (o_eql (by conv => lhs; whnf) (by conv => lhs; whnf) (fun c4 => ?_) (fun c4 => ?_))
    ·
      refine a_do rfl (o_pickT (by conv => lhs; whnf) (by conv => lhs; whnf) ?_)
      refine a_do rfl (o_assign (by conv => lhs; whnf) ?_)
      refine a_end ?_
      refine awp_condT (by conv => lhs; whnf) ?_
      refine awp_seq ?_
      refine awp_region rfl ?_
      refine a_do rfl (o_assign (by conv => lhs; whnf) ?_)
      refine a_end ?_
      refine awp_ret ?_
      refine ⟨.inl rfl, [_], ⟨ares_tmp (by conv => lhs; whnf), trivial⟩, ?_⟩
      exact ⟨congrArg i64 (by unfold cmpC; simp only [Int.toNat_natCast]; first | (rw [if_pos (by constructor <;> assumption)]; done) | (rw [if_neg (by omega), if_pos (by assumption)]; done) | (rw [if_neg (by omega), if_neg (by omega), if_pos (by assumption)]; done) | (rw [if_neg (by omega), if_neg (by omega), if_neg (by omega)]; done)), (by first | ((repeat (first | with_reducible exact Grown.refl _ | with_reducible apply Grown.push)); done) | repeat (first | exact Grown.refl _ | refine Grown.push ?_ _))⟩
    ·
      refine a_do rfl (o_pickT (by conv => lhs; whnf) (by conv => lhs; whnf) ?_)
      refine a_do rfl (o_assign (by conv => lhs; whnf) ?_)
      refine a_end ?_
      refine awp_condF (by conv => lhs; whnf) ?_
      refine awp_seq ?_
      refine awp_region rfl ?_
      refine a_do rfl (o_load Try.underlying22 rfl (by conv => lhs; whnf) (by with_reducible repeat (first | assumption | (apply lk_last; (try simp only [ll1, ll2, ll3, ll4, lls_len, lls2_len, markL_len, rls_len, markR_len]); first | done | omega) | apply lk_prev)) (by rfl) (by rfl) ?_)
      refine a_do rfl (o_move (by conv => lhs; whnf) ?_)
      first | refine a_do rfl (o_indexI Try.underlying22 ty2 (by conv => lhs; whnf) (by first | ((with_reducible repeat (first | assumption | apply Ints.app)); done) | repeat (first | with_reducible assumption | exact ints_nil | exact Ints.own (by with_reducible repeat (first | assumption | (apply lk_last; (try simp only [ll1, ll2, ll3, ll4, lls_len, lls2_len, markL_len, rls_len, markR_len]); first | done | omega) | apply lk_prev)) (by first | rfl | exact upto_len | assumption | exact map_len | exact List.length_set | (rw [List.length_set]; assumption)) | exact Ints.tail (by with_reducible repeat (first | assumption | (apply lk_last; (try simp only [ll1, ll2, ll3, ll4, lls_len, lls2_len, markL_len, rls_len, markR_len]); first | done | omega) | apply lk_prev)) (by first | rfl | exact upto_len | assumption | exact map_len | exact List.length_set | (rw [List.length_set]; assumption)) | with_reducible apply Ints.app | (refine Ints.sub (by with_reducible repeat (first | assumption | apply Ints.app)) (by omega) (by omega) (by omega)))) (by conv => lhs; whnf) (by omega) (fun p5 hp5 => ?_)) | refine a_do rfl (o_indexZ Try.underlying22 ty2 (by conv => lhs; whnf) (by first | ((with_reducible repeat (first | assumption | apply Ints.app)); done) | repeat (first | with_reducible assumption | exact ints_nil | exact Ints.own (by with_reducible repeat (first | assumption | (apply lk_last; (try simp only [ll1, ll2, ll3, ll4, lls_len, lls2_len, markL_len, rls_len, markR_len]); first | done | omega) | apply lk_prev)) (by first | rfl | exact upto_len | assumption | exact map_len | exact List.length_set | (rw [List.length_set]; assumption)) | exact Ints.tail (by with_reducible repeat (first | assumption | (apply lk_last; (try simp only [ll1, ll2, ll3, ll4, lls_len, lls2_len, markL_len, rls_len, markR_len]); first | done | omega) | apply lk_prev)) (by first | rfl | exact upto_len | assumption | exact map_len | exact List.length_set | (rw [List.length_set]; assumption)) | with_reducible apply Ints.app | (refine Ints.sub (by with_reducible repeat (first | assumption | apply Ints.app)) (by omega) (by omega) (by omega)))) (by conv => lhs; whnf) (by omega) (by omega) (fun p5 hp5 => ?_))
      refine a_do rfl (o_loadI Try.underlying2 rfl (by conv => lhs; whnf) hp5 (by first | ((with_reducible repeat (first | assumption | apply Ints.app)); done) | repeat (first | with_reducible assumption | exact ints_nil | exact Ints.own (by with_reducible repeat (first | assumption | (apply lk_last; (try simp only [ll1, ll2, ll3, ll4, lls_len, lls2_len, markL_len, rls_len, markR_len]); first | done | omega) | apply lk_prev)) (by first | rfl | exact upto_len | assumption | exact map_len | exact List.length_set | (rw [List.length_set]; assumption)) | exact Ints.tail (by with_reducible repeat (first | assumption | (apply lk_last; (try simp only [ll1, ll2, ll3, ll4, lls_len, lls2_len, markL_len, rls_len, markR_len]); first | done | omega) | apply lk_prev)) (by first | rfl | exact upto_len | assumption | exact map_len | exact List.length_set | (rw [List.length_set]; assumption)) | with_reducible apply Ints.app | (refine Ints.sub (by with_reducible repeat (first | assumption | apply Ints.app)) (by omega) (by omega) (by omega)))) (by omega) ?_)
      refine a_do rfl (o_eql (by conv => lhs; whnf) (by conv => lhs; whnf) (fun c6 => ?_) (fun c6 => ?_))
      ·
        refine a_do rfl (o_assign (by conv => lhs; whnf) ?_)
        refine a_end ?_
        refine awp_condT (by conv => lhs; whnf) ?_
        refine awp_seq ?_
        refine awp_region rfl ?_
        refine a_do rfl (o_assign (by conv => lhs; whnf) ?_)
        refine a_end ?_
        refine awp_ret ?_
        refine ⟨.inl rfl, [_], ⟨ares_tmp (by conv => lhs; whnf), trivial⟩, ?_⟩
        exact ⟨congrArg i64 (by unfold cmpC; simp only [Int.toNat_natCast]; first | (rw [if_pos (by constructor <;> assumption)]; done) | (rw [if_neg (by omega), if_pos (by assumption)]; done) | (rw [if_neg (by omega), if_neg (by omega), if_pos (by assumption)]; done) | (rw [if_neg (by omega), if_neg (by omega), if_neg (by omega)]; done)), (by first | ((repeat (first | with_reducible exact Grown.refl _ | with_reducible apply Grown.push)); done) | repeat (first | exact Grown.refl _ | refine Grown.push ?_ _))⟩
      ·
        refine a_do rfl (o_assign (by conv => lhs; whnf) ?_)
        refine a_end ?_
        refine awp_condF (by conv => lhs; whnf) ?_
        refine awp_seq ?_
        refine awp_region rfl ?_
        refine a_do rfl (o_load Try.underlying22 rfl (by conv => lhs; whnf) (by with_reducible repeat (first | assumption | (apply lk_last; (try simp only [ll1, ll2, ll3, ll4, lls_len, lls2_len, markL_len, rls_len, markR_len]); first | done | omega) | apply lk_prev)) (by rfl) (by rfl) ?_)
        refine a_do rfl (o_move (by conv => lhs; whnf) ?_)
        first | refine a_do rfl (o_indexI Try.underlying22 ty2 (by conv => lhs; whnf) (by first | ((with_reducible repeat (first | assumption | apply Ints.app)); done) | repeat (first | with_reducible assumption | exact ints_nil | exact Ints.own (by with_reducible repeat (first | assumption | (apply lk_last; (try simp only [ll1, ll2, ll3, ll4, lls_len, lls2_len, markL_len, rls_len, markR_len]); first | done | omega) | apply lk_prev)) (by first | rfl | exact upto_len | assumption | exact map_len | exact List.length_set | (rw [List.length_set]; assumption)) | exact Ints.tail (by with_reducible repeat (first | assumption | (apply lk_last; (try simp only [ll1, ll2, ll3, ll4, lls_len, lls2_len, markL_len, rls_len, markR_len]); first | done | omega) | apply lk_prev)) (by first | rfl | exact upto_len | assumption | exact map_len | exact List.length_set | (rw [List.length_set]; assumption)) | with_reducible apply Ints.app | (refine Ints.sub (by with_reducible repeat (first | assumption | apply Ints.app)) (by omega) (by omega) (by omega)))) (by conv => lhs; whnf) (by omega) (fun p7 hp7 => ?_)) | refine a_do rfl (o_indexZ Try.underlying22 ty2 (by conv => lhs; whnf) (by first | ((with_reducible repeat (first | assumption | apply Ints.app)); done) | repeat (first | with_reducible assumption | exact ints_nil | exact Ints.own (by with_reducible repeat (first | assumption | (apply lk_last; (try simp only [ll1, ll2, ll3, ll4, lls_len, lls2_len, markL_len, rls_len, markR_len]); first | done | omega) | apply lk_prev)) (by first | rfl | exact upto_len | assumption | exact map_len | exact List.length_set | (rw [List.length_set]; assumption)) | exact Ints.tail (by with_reducible repeat (first | assumption | (apply lk_last; (try simp only [ll1, ll2, ll3, ll4, lls_len, lls2_len, markL_len, rls_len, markR_len]); first | done | omega) | apply lk_prev)) (by first | rfl | exact upto_len | assumption | exact map_len | exact List.length_set | (rw [List.length_set]; assumption)) | with_reducible apply Ints.app | (refine Ints.sub (by with_reducible repeat (first | assumption | apply Ints.app)) (by omega) (by omega) (by omega)))) (by conv => lhs; whnf) (by omega) (by omega) (fun p7 hp7 => ?_))
        refine a_do rfl (o_loadI Try.underlying2 rfl (by conv => lhs; whnf) hp7 (by first | ((with_reducible repeat (first | assumption | apply Ints.app)); done) | repeat (first | with_reducible assumption | exact ints_nil | exact Ints.own (by with_reducible repeat (first | assumption | (apply lk_last; (try simp only [ll1, ll2, ll3, ll4, lls_len, lls2_len, markL_len, rls_len, markR_len]); first | done | omega) | apply lk_prev)) (by first | rfl | exact upto_len | assumption | exact map_len | exact List.length_set | (rw [List.length_set]; assumption)) | exact Ints.tail (by with_reducible repeat (first | assumption | (apply lk_last; (try simp only [ll1, ll2, ll3, ll4, lls_len, lls2_len, markL_len, rls_len, markR_len]); first | done | omega) | apply lk_prev)) (by first | rfl | exact upto_len | assumption | exact map_len | exact List.length_set | (rw [List.length_set]; assumption)) | with_reducible apply Ints.app | (refine Ints.sub (by with_reducible repeat (first | assumption | apply Ints.app)) (by omega) (by omega) (by omega)))) (by omega) ?_)
        refine a_do rfl (o_eql (by conv => lhs; whnf) (by conv => lhs; whnf) (fun c8 => ?_) (fun c8 => ?_))
        ·
          refine a_do rfl (o_assign (by conv => lhs; whnf) ?_)
          refine a_end ?_
          refine awp_condT (by conv => lhs; whnf) ?_
          refine awp_seq ?_
          refine awp_region rfl ?_
          refine a_do rfl (o_assign (by conv => lhs; whnf) ?_)
          refine a_end ?_
          refine awp_ret ?_
          refine ⟨.inl rfl, [_], ⟨ares_tmp (by conv => lhs; whnf), trivial⟩, ?_⟩
          exact ⟨congrArg i64 (by unfold cmpC; simp only [Int.toNat_natCast]; first | (rw [if_pos (by constructor <;> assumption)]; done) | (rw [if_neg (by omega), if_pos (by assumption)]; done) | (rw [if_neg (by omega), if_neg (by omega), if_pos (by assumption)]; done) | (rw [if_neg (by omega), if_neg (by omega), if_neg (by omega)]; done)), (by first | ((repeat (first | with_reducible exact Grown.refl _ | with_reducible apply Grown.push)); done) | repeat (first | exact Grown.refl _ | refine Grown.push ?_ _))⟩
        ·
          refine a_do rfl (o_assign (by conv => lhs; whnf) ?_)
          refine a_end ?_
          refine awp_condF (by conv => lhs; whnf) ?_
          refine awp_skip ?_
          refine awp_seq ?_
          refine awp_draw Try_mixed (by kernel_rfl) rfl ?_
          refine d_do rfl (o_load Try.underlying22 rfl (by conv => lhs; whnf) (by with_reducible repeat (first | assumption | (apply lk_last; (try simp only [ll1, ll2, ll3, ll4, lls_len, lls2_len, markL_len, rls_len, markR_len]); first | done | omega) | apply lk_prev)) (by rfl) (by rfl) ⟨rfl, rfl⟩) (by first | exact .prim rfl | (apply within_sl; (with_reducible repeat (first | assumption | (apply lk_last; (try simp only [ll1, ll2, ll3, ll4, lls_len, lls2_len, markL_len, rls_len, markR_len]); first | done | omega) | apply lk_prev)); done) | ((try apply within_sub); apply Ints.within; (with_reducible repeat (first | assumption | apply Ints.app)); done) | (apply Lists.within; (with_reducible repeat (first | assumption | apply Lists.app)); done) | (apply Recs.within; (with_reducible repeat (first | assumption | apply Recs.app)); done) | (apply IsRec.within; (with_reducible repeat (first | assumption | apply IsRec.app)); done) | (apply Flts.within; (with_reducible repeat (first | assumption | apply Flts.app)); done) | (apply Byts.within; (with_reducible repeat (first | assumption | apply Byts.app)); done)) ?_
          refine d_do rfl (o_move (by conv => lhs; whnf) ⟨rfl, rfl⟩) (by exact .prim rfl) ?_
          first | refine d_indexI rfl Try.underlying22 ty2 (by conv => lhs; whnf) (by first | ((with_reducible repeat (first | assumption | apply Ints.app)); done) | repeat (first | with_reducible assumption | exact ints_nil | exact Ints.own (by with_reducible repeat (first | assumption | (apply lk_last; (try simp only [ll1, ll2, ll3, ll4, lls_len, lls2_len, markL_len, rls_len, markR_len]); first | done | omega) | apply lk_prev)) (by first | rfl | exact upto_len | assumption | exact map_len | exact List.length_set | (rw [List.length_set]; assumption)) | exact Ints.tail (by with_reducible repeat (first | assumption | (apply lk_last; (try simp only [ll1, ll2, ll3, ll4, lls_len, lls2_len, markL_len, rls_len, markR_len]); first | done | omega) | apply lk_prev)) (by first | rfl | exact upto_len | assumption | exact map_len | exact List.length_set | (rw [List.length_set]; assumption)) | with_reducible apply Ints.app | (refine Ints.sub (by with_reducible repeat (first | assumption | apply Ints.app)) (by omega) (by omega) (by omega)))) (by conv => lhs; whnf) (by omega) (fun p9 hp9 => ?_) | refine d_indexZ rfl Try.underlying22 ty2 (by conv => lhs; whnf) (by first | ((with_reducible repeat (first | assumption | apply Ints.app)); done) | repeat (first | with_reducible assumption | exact ints_nil | exact Ints.own (by with_reducible repeat (first | assumption | (apply lk_last; (try simp only [ll1, ll2, ll3, ll4, lls_len, lls2_len, markL_len, rls_len, markR_len]); first | done | omega) | apply lk_prev)) (by first | rfl | exact upto_len | assumption | exact map_len | exact List.length_set | (rw [List.length_set]; assumption)) | exact Ints.tail (by with_reducible repeat (first | assumption | (apply lk_last; (try simp only [ll1, ll2, ll3, ll4, lls_len, lls2_len, markL_len, rls_len, markR_len]); first | done | omega) | apply lk_prev)) (by first | rfl | exact upto_len | assumption | exact map_len | exact List.length_set | (rw [List.length_set]; assumption)) | with_reducible apply Ints.app | (refine Ints.sub (by with_reducible repeat (first | assumption | apply Ints.app)) (by omega) (by omega) (by omega)))) (by conv => lhs; whnf) (by omega) (by omega) (fun p9 hp9 => ?_)
          refine d_do rfl (o_loadI Try.underlying2 rfl (by conv => lhs; whnf) hp9 (by first | ((with_reducible repeat (first | assumption | apply Ints.app)); done) | repeat (first | with_reducible assumption | exact ints_nil | exact Ints.own (by with_reducible repeat (first | assumption | (apply lk_last; (try simp only [ll1, ll2, ll3, ll4, lls_len, lls2_len, markL_len, rls_len, markR_len]); first | done | omega) | apply lk_prev)) (by first | rfl | exact upto_len | assumption | exact map_len | exact List.length_set | (rw [List.length_set]; assumption)) | exact Ints.tail (by with_reducible repeat (first | assumption | (apply lk_last; (try simp only [ll1, ll2, ll3, ll4, lls_len, lls2_len, markL_len, rls_len, markR_len]); first | done | omega) | apply lk_prev)) (by first | rfl | exact upto_len | assumption | exact map_len | exact List.length_set | (rw [List.length_set]; assumption)) | with_reducible apply Ints.app | (refine Ints.sub (by with_reducible repeat (first | assumption | apply Ints.app)) (by omega) (by omega) (by omega)))) (by omega) ⟨rfl, rfl⟩) (by exact .prim rfl) ?_
          refine d_do rfl (o_load Try.underlying22 rfl (by conv => lhs; whnf) (by with_reducible repeat (first | assumption | (apply lk_last; (try simp only [ll1, ll2, ll3, ll4, lls_len, lls2_len, markL_len, rls_len, markR_len]); first | done | omega) | apply lk_prev)) (by rfl) (by rfl) ⟨rfl, rfl⟩) (by first | exact .prim rfl | (apply within_sl; (with_reducible repeat (first | assumption | (apply lk_last; (try simp only [ll1, ll2, ll3, ll4, lls_len, lls2_len, markL_len, rls_len, markR_len]); first | done | omega) | apply lk_prev)); done) | ((try apply within_sub); apply Ints.within; (with_reducible repeat (first | assumption | apply Ints.app)); done) | (apply Lists.within; (with_reducible repeat (first | assumption | apply Lists.app)); done) | (apply Recs.within; (with_reducible repeat (first | assumption | apply Recs.app)); done) | (apply IsRec.within; (with_reducible repeat (first | assumption | apply IsRec.app)); done) | (apply Flts.within; (with_reducible repeat (first | assumption | apply Flts.app)); done) | (apply Byts.within; (with_reducible repeat (first | assumption | apply Byts.app)); done)) ?_
          refine d_do rfl (o_move (by conv => lhs; whnf) ⟨rfl, rfl⟩) (by exact .prim rfl) ?_
          first | refine d_indexI rfl Try.underlying22 ty2 (by conv => lhs; whnf) (by first | ((with_reducible repeat (first | assumption | apply Ints.app)); done) | repeat (first | with_reducible assumption | exact ints_nil | exact Ints.own (by with_reducible repeat (first | assumption | (apply lk_last; (try simp only [ll1, ll2, ll3, ll4, lls_len, lls2_len, markL_len, rls_len, markR_len]); first | done | omega) | apply lk_prev)) (by first | rfl | exact upto_len | assumption | exact map_len | exact List.length_set | (rw [List.length_set]; assumption)) | exact Ints.tail (by with_reducible repeat (first | assumption | (apply lk_last; (try simp only [ll1, ll2, ll3, ll4, lls_len, lls2_len, markL_len, rls_len, markR_len]); first | done | omega) | apply lk_prev)) (by first | rfl | exact upto_len | assumption | exact map_len | exact List.length_set | (rw [List.length_set]; assumption)) | with_reducible apply Ints.app | (refine Ints.sub (by with_reducible repeat (first | assumption | apply Ints.app)) (by omega) (by omega) (by omega)))) (by conv => lhs; whnf) (by omega) (fun p10 hp10 => ?_) | refine d_indexZ rfl Try.underlying22 ty2 (by conv => lhs; whnf) (by first | ((with_reducible repeat (first | assumption | apply Ints.app)); done) | repeat (first | with_reducible assumption | exact ints_nil | exact Ints.own (by with_reducible repeat (first | assumption | (apply lk_last; (try simp only [ll1, ll2, ll3, ll4, lls_len, lls2_len, markL_len, rls_len, markR_len]); first | done | omega) | apply lk_prev)) (by first | rfl | exact upto_len | assumption | exact map_len | exact List.length_set | (rw [List.length_set]; assumption)) | exact Ints.tail (by with_reducible repeat (first | assumption | (apply lk_last; (try simp only [ll1, ll2, ll3, ll4, lls_len, lls2_len, markL_len, rls_len, markR_len]); first | done | omega) | apply lk_prev)) (by first | rfl | exact upto_len | assumption | exact map_len | exact List.length_set | (rw [List.length_set]; assumption)) | with_reducible apply Ints.app | (refine Ints.sub (by with_reducible repeat (first | assumption | apply Ints.app)) (by omega) (by omega) (by omega)))) (by conv => lhs; whnf) (by omega) (by omega) (fun p10 hp10 => ?_)
          refine d_do rfl (o_loadI Try.underlying2 rfl (by conv => lhs; whnf) hp10 (by first | ((with_reducible repeat (first | assumption | apply Ints.app)); done) | repeat (first | with_reducible assumption | exact ints_nil | exact Ints.own (by with_reducible repeat (first | assumption | (apply lk_last; (try simp only [ll1, ll2, ll3, ll4, lls_len, lls2_len, markL_len, rls_len, markR_len]); first | done | omega) | apply lk_prev)) (by first | rfl | exact upto_len | assumption | exact map_len | exact List.length_set | (rw [List.length_set]; assumption)) | exact Ints.tail (by with_reducible repeat (first | assumption | (apply lk_last; (try simp only [ll1, ll2, ll3, ll4, lls_len, lls2_len, markL_len, rls_len, markR_len]); first | done | omega) | apply lk_prev)) (by first | rfl | exact upto_len | assumption | exact map_len | exact List.length_set | (rw [List.length_set]; assumption)) | with_reducible apply Ints.app | (refine Ints.sub (by with_reducible repeat (first | assumption | apply Ints.app)) (by omega) (by omega) (by omega)))) (by omega) ⟨rfl, rfl⟩) (by exact .prim rfl) ?_
          refine d_do rfl (o_mul (by conv => lhs; whnf) (by conv => lhs; whnf) (by omega) (by omega) ⟨rfl, rfl⟩) (by exact .prim rfl) ?_
          refine d_do rfl (o_load Try.underlying22 rfl (by conv => lhs; whnf) (by with_reducible repeat (first | assumption | (apply lk_last; (try simp only [ll1, ll2, ll3, ll4, lls_len, lls2_len, markL_len, rls_len, markR_len]); first | done | omega) | apply lk_prev)) (by rfl) (by rfl) ⟨rfl, rfl⟩) (by first | exact .prim rfl | (apply within_sl; (with_reducible repeat (first | assumption | (apply lk_last; (try simp only [ll1, ll2, ll3, ll4, lls_len, lls2_len, markL_len, rls_len, markR_len]); first | done | omega) | apply lk_prev)); done) | ((try apply within_sub); apply Ints.within; (with_reducible repeat (first | assumption | apply Ints.app)); done) | (apply Lists.within; (with_reducible repeat (first | assumption | apply Lists.app)); done) | (apply Recs.within; (with_reducible repeat (first | assumption | apply Recs.app)); done) | (apply IsRec.within; (with_reducible repeat (first | assumption | apply IsRec.app)); done) | (apply Flts.within; (with_reducible repeat (first | assumption | apply Flts.app)); done) | (apply Byts.within; (with_reducible repeat (first | assumption | apply Byts.app)); done)) ?_
          refine d_do rfl (o_move (by conv => lhs; whnf) ⟨rfl, rfl⟩) (by exact .prim rfl) ?_
          first | refine d_indexI rfl Try.underlying22 ty2 (by conv => lhs; whnf) (by first | ((with_reducible repeat (first | assumption | apply Ints.app)); done) | repeat (first | with_reducible assumption | exact ints_nil | exact Ints.own (by with_reducible repeat (first | assumption | (apply lk_last; (try simp only [ll1, ll2, ll3, ll4, lls_len, lls2_len, markL_len, rls_len, markR_len]); first | done | omega) | apply lk_prev)) (by first | rfl | exact upto_len | assumption | exact map_len | exact List.length_set | (rw [List.length_set]; assumption)) | exact Ints.tail (by with_reducible repeat (first | assumption | (apply lk_last; (try simp only [ll1, ll2, ll3, ll4, lls_len, lls2_len, markL_len, rls_len, markR_len]); first | done | omega) | apply lk_prev)) (by first | rfl | exact upto_len | assumption | exact map_len | exact List.length_set | (rw [List.length_set]; assumption)) | with_reducible apply Ints.app | (refine Ints.sub (by with_reducible repeat (first | assumption | apply Ints.app)) (by omega) (by omega) (by omega)))) (by conv => lhs; whnf) (by omega) (fun p11 hp11 => ?_) | refine d_indexZ rfl Try.underlying22 ty2 (by conv => lhs; whnf) (by first | ((with_reducible repeat (first | assumption | apply Ints.app)); done) | repeat (first | with_reducible assumption | exact ints_nil | exact Ints.own (by with_reducible repeat (first | assumption | (apply lk_last; (try simp only [ll1, ll2, ll3, ll4, lls_len, lls2_len, markL_len, rls_len, markR_len]); first | done | omega) | apply lk_prev)) (by first | rfl | exact upto_len | assumption | exact map_len | exact List.length_set | (rw [List.length_set]; assumption)) | exact Ints.tail (by with_reducible repeat (first | assumption | (apply lk_last; (try simp only [ll1, ll2, ll3, ll4, lls_len, lls2_len, markL_len, rls_len, markR_len]); first | done | omega) | apply lk_prev)) (by first | rfl | exact upto_len | assumption | exact map_len | exact List.length_set | (rw [List.length_set]; assumption)) | with_reducible apply Ints.app | (refine Ints.sub (by with_reducible repeat (first | assumption | apply Ints.app)) (by omega) (by omega) (by omega)))) (by conv => lhs; whnf) (by omega) (by omega) (fun p11 hp11 => ?_)
          refine d_do rfl (o_loadI Try.underlying2 rfl (by conv => lhs; whnf) hp11 (by first | ((with_reducible repeat (first | assumption | apply Ints.app)); done) | repeat (first | with_reducible assumption | exact ints_nil | exact Ints.own (by with_reducible repeat (first | assumption | (apply lk_last; (try simp only [ll1, ll2, ll3, ll4, lls_len, lls2_len, markL_len, rls_len, markR_len]); first | done | omega) | apply lk_prev)) (by first | rfl | exact upto_len | assumption | exact map_len | exact List.length_set | (rw [List.length_set]; assumption)) | exact Ints.tail (by with_reducible repeat (first | assumption | (apply lk_last; (try simp only [ll1, ll2, ll3, ll4, lls_len, lls2_len, markL_len, rls_len, markR_len]); first | done | omega) | apply lk_prev)) (by first | rfl | exact upto_len | assumption | exact map_len | exact List.length_set | (rw [List.length_set]; assumption)) | with_reducible apply Ints.app | (refine Ints.sub (by with_reducible repeat (first | assumption | apply Ints.app)) (by omega) (by omega) (by omega)))) (by omega) ⟨rfl, rfl⟩) (by exact .prim rfl) ?_
          refine d_do rfl (o_load Try.underlying22 rfl (by conv => lhs; whnf) (by with_reducible repeat (first | assumption | (apply lk_last; (try simp only [ll1, ll2, ll3, ll4, lls_len, lls2_len, markL_len, rls_len, markR_len]); first | done | omega) | apply lk_prev)) (by rfl) (by rfl) ⟨rfl, rfl⟩) (by first | exact .prim rfl | (apply within_sl; (with_reducible repeat (first | assumption | (apply lk_last; (try simp only [ll1, ll2, ll3, ll4, lls_len, lls2_len, markL_len, rls_len, markR_len]); first | done | omega) | apply lk_prev)); done) | ((try apply within_sub); apply Ints.within; (with_reducible repeat (first | assumption | apply Ints.app)); done) | (apply Lists.within; (with_reducible repeat (first | assumption | apply Lists.app)); done) | (apply Recs.within; (with_reducible repeat (first | assumption | apply Recs.app)); done) | (apply IsRec.within; (with_reducible repeat (first | assumption | apply IsRec.app)); done) | (apply Flts.within; (with_reducible repeat (first | assumption | apply Flts.app)); done) | (apply Byts.within; (with_reducible repeat (first | assumption | apply Byts.app)); done)) ?_
          refine d_do rfl (o_move (by conv => lhs; whnf) ⟨rfl, rfl⟩) (by exact .prim rfl) ?_
          first | refine d_indexI rfl Try.underlying22 ty2 (by conv => lhs; whnf) (by first | ((with_reducible repeat (first | assumption | apply Ints.app)); done) | repeat (first | with_reducible assumption | exact ints_nil | exact Ints.own (by with_reducible repeat (first | assumption | (apply lk_last; (try simp only [ll1, ll2, ll3, ll4, lls_len, lls2_len, markL_len, rls_len, markR_len]); first | done | omega) | apply lk_prev)) (by first | rfl | exact upto_len | assumption | exact map_len | exact List.length_set | (rw [List.length_set]; assumption)) | exact Ints.tail (by with_reducible repeat (first | assumption | (apply lk_last; (try simp only [ll1, ll2, ll3, ll4, lls_len, lls2_len, markL_len, rls_len, markR_len]); first | done | omega) | apply lk_prev)) (by first | rfl | exact upto_len | assumption | exact map_len | exact List.length_set | (rw [List.length_set]; assumption)) | with_reducible apply Ints.app | (refine Ints.sub (by with_reducible repeat (first | assumption | apply Ints.app)) (by omega) (by omega) (by omega)))) (by conv => lhs; whnf) (by omega) (fun p12 hp12 => ?_) | refine d_indexZ rfl Try.underlying22 ty2 (by conv => lhs; whnf) (by first | ((with_reducible repeat (first | assumption | apply Ints.app)); done) | repeat (first | with_reducible assumption | exact ints_nil | exact Ints.own (by with_reducible repeat (first | assumption | (apply lk_last; (try simp only [ll1, ll2, ll3, ll4, lls_len, lls2_len, markL_len, rls_len, markR_len]); first | done | omega) | apply lk_prev)) (by first | rfl | exact upto_len | assumption | exact map_len | exact List.length_set | (rw [List.length_set]; assumption)) | exact Ints.tail (by with_reducible repeat (first | assumption | (apply lk_last; (try simp only [ll1, ll2, ll3, ll4, lls_len, lls2_len, markL_len, rls_len, markR_len]); first | done | omega) | apply lk_prev)) (by first | rfl | exact upto_len | assumption | exact map_len | exact List.length_set | (rw [List.length_set]; assumption)) | with_reducible apply Ints.app | (refine Ints.sub (by with_reducible repeat (first | assumption | apply Ints.app)) (by omega) (by omega) (by omega)))) (by conv => lhs; whnf) (by omega) (by omega) (fun p12 hp12 => ?_)
          refine d_do rfl (o_loadI Try.underlying2 rfl (by conv => lhs; whnf) hp12 (by first | ((with_reducible repeat (first | assumption | apply Ints.app)); done) | repeat (first | with_reducible assumption | exact ints_nil | exact Ints.own (by with_reducible repeat (first | assumption | (apply lk_last; (try simp only [ll1, ll2, ll3, ll4, lls_len, lls2_len, markL_len, rls_len, markR_len]); first | done | omega) | apply lk_prev)) (by first | rfl | exact upto_len | assumption | exact map_len | exact List.length_set | (rw [List.length_set]; assumption)) | exact Ints.tail (by with_reducible repeat (first | assumption | (apply lk_last; (try simp only [ll1, ll2, ll3, ll4, lls_len, lls2_len, markL_len, rls_len, markR_len]); first | done | omega) | apply lk_prev)) (by first | rfl | exact upto_len | assumption | exact map_len | exact List.length_set | (rw [List.length_set]; assumption)) | with_reducible apply Ints.app | (refine Ints.sub (by with_reducible repeat (first | assumption | apply Ints.app)) (by omega) (by omega) (by omega)))) (by omega) ⟨rfl, rfl⟩) (by exact .prim rfl) ?_
          refine d_do rfl (o_mul (by conv => lhs; whnf) (by conv => lhs; whnf) (by omega) (by omega) ⟨rfl, rfl⟩) (by exact .prim rfl) ?_
          refine d_do rfl (o_callF (lmap_cons (by conv => lhs; whnf) (lmap_cons (by conv => lhs; whnf) lmap_nil)) (Ret.to (compareNumbers_ret _ _ _) ⟨rfl, rfl⟩)) (by first | exact .prim rfl | exact within_func0 | (apply within_ptr; (with_reducible repeat (first | assumption | (apply lk_last; (try simp only [ll1, ll2, ll3, ll4, lls_len, lls2_len, markL_len, rls_len, markR_len]); first | done | omega) | apply lk_prev)); done) | (apply within_sl; (with_reducible repeat (first | assumption | (apply lk_last; (try simp only [ll1, ll2, ll3, ll4, lls_len, lls2_len, markL_len, rls_len, markR_len]); first | done | omega) | apply lk_prev)); done) | ((try apply within_sub); apply Ints.within; (with_reducible repeat (first | assumption | apply Ints.app)); done) | (apply Lists.within; (with_reducible repeat (first | assumption | apply Lists.app)); done) | (apply Recs.within; (with_reducible repeat (first | assumption | apply Recs.app)); done) | (apply IsRec.within; (with_reducible repeat (first | assumption | apply IsRec.app)); done) | (apply Flts.within; (with_reducible repeat (first | assumption | apply Flts.app)); done) | (apply Byts.within; (with_reducible repeat (first | assumption | apply Byts.app)); done) | exact within_nilw | exact within_nilb | (apply within_tup2 <;> first | exact .prim rfl | (apply within_sl; (with_reducible repeat (first | assumption | (apply lk_last; (try simp only [ll1, ll2, ll3, ll4, lls_len, lls2_len, markL_len, rls_len, markR_len]); first | done | omega) | apply lk_prev)); done) | (apply Within.agg2 <;> (first | exact .prim rfl | (apply within_ptr; (with_reducible repeat (first | assumption | (apply lk_last; (try simp only [ll1, ll2, ll3, ll4, lls_len, lls2_len, markL_len, rls_len, markR_len]); first | done | omega) | apply lk_prev)); done) | (apply within_sl; (with_reducible repeat (first | assumption | (apply lk_last; (try simp only [ll1, ll2, ll3, ll4, lls_len, lls2_len, markL_len, rls_len, markR_len]); first | done | omega) | apply lk_prev)); done) | ((try apply within_sub); apply Ints.within; (with_reducible repeat (first | assumption | apply Ints.app)); done) | (apply Lists.within; (with_reducible repeat (first | assumption | apply Lists.app)); done) | (apply Recs.within; (with_reducible repeat (first | assumption | apply Recs.app)); done) | (apply IsRec.within; (with_reducible repeat (first | assumption | apply IsRec.app)); done) | (apply within_sl; (with_reducible repeat (first | assumption | (apply lk_last; (try simp only [ll1, ll2, ll3, ll4, lls_len, lls2_len, markL_len, rls_len, markR_len]); first | done | omega) | apply lk_prev)); done)))) | exact Within.mono ‹Within _ (Value.func _ _ _)› (by (try simp only [ll1, ll2, ll3, ll4, lls_len, lls2_len, markL_len, rls_len, markR_len]); first | done | omega) | (apply Within.agg4 <;> (first | exact .prim rfl | (apply within_ptr; (with_reducible repeat (first | assumption | (apply lk_last; (try simp only [ll1, ll2, ll3, ll4, lls_len, lls2_len, markL_len, rls_len, markR_len]); first | done | omega) | apply lk_prev)); done) | (apply within_sl; (with_reducible repeat (first | assumption | (apply lk_last; (try simp only [ll1, ll2, ll3, ll4, lls_len, lls2_len, markL_len, rls_len, markR_len]); first | done | omega) | apply lk_prev)); done) | ((try apply within_sub); apply Ints.within; (with_reducible repeat (first | assumption | apply Ints.app)); done) | (apply Lists.within; (with_reducible repeat (first | assumption | apply Lists.app)); done) | (apply Recs.within; (with_reducible repeat (first | assumption | apply Recs.app)); done) | (apply IsRec.within; (with_reducible repeat (first | assumption | apply IsRec.app)); done) | (apply within_sl; (with_reducible repeat (first | assumption | (apply lk_last; (try simp only [ll1, ll2, ll3, ll4, lls_len, lls2_len, markL_len, rls_len, markR_len]); first | done | omega) | apply lk_prev)); done))) | (apply Within.agg3 <;> (first | exact .prim rfl | (apply within_ptr; (with_reducible repeat (first | assumption | (apply lk_last; (try simp only [ll1, ll2, ll3, ll4, lls_len, lls2_len, markL_len, rls_len, markR_len]); first | done | omega) | apply lk_prev)); done) | (apply within_sl; (with_reducible repeat (first | assumption | (apply lk_last; (try simp only [ll1, ll2, ll3, ll4, lls_len, lls2_len, markL_len, rls_len, markR_len]); first | done | omega) | apply lk_prev)); done) | ((try apply within_sub); apply Ints.within; (with_reducible repeat (first | assumption | apply Ints.app)); done) | (apply Lists.within; (with_reducible repeat (first | assumption | apply Lists.app)); done) | (apply Recs.within; (with_reducible repeat (first | assumption | apply Recs.app)); done) | (apply IsRec.within; (with_reducible repeat (first | assumption | apply IsRec.app)); done) | (apply within_sl; (with_reducible repeat (first | assumption | (apply lk_last; (try simp only [ll1, ll2, ll3, ll4, lls_len, lls2_len, markL_len, rls_len, markR_len]); first | done | omega) | apply lk_prev)); done))) | (apply Within.agg2 <;> (first | exact .prim rfl | (apply within_ptr; (with_reducible repeat (first | assumption | (apply lk_last; (try simp only [ll1, ll2, ll3, ll4, lls_len, lls2_len, markL_len, rls_len, markR_len]); first | done | omega) | apply lk_prev)); done) | (apply within_sl; (with_reducible repeat (first | assumption | (apply lk_last; (try simp only [ll1, ll2, ll3, ll4, lls_len, lls2_len, markL_len, rls_len, markR_len]); first | done | omega) | apply lk_prev)); done) | ((try apply within_sub); apply Ints.within; (with_reducible repeat (first | assumption | apply Ints.app)); done) | (apply Lists.within; (with_reducible repeat (first | assumption | apply Lists.app)); done) | (apply Recs.within; (with_reducible repeat (first | assumption | apply Recs.app)); done) | (apply IsRec.within; (with_reducible repeat (first | assumption | apply IsRec.app)); done) | (apply within_sl; (with_reducible repeat (first | assumption | (apply lk_last; (try simp only [ll1, ll2, ll3, ll4, lls_len, lls2_len, markL_len, rls_len, markR_len]); first | done | omega) | apply lk_prev)); done)))) ?_
          refine d_do rfl (o_assign (by conv => lhs; whnf) ⟨rfl, rfl⟩) (by exact .prim rfl) ?_
          refine d_end ?_
          refine awp_ret ?_
          refine ⟨.inl rfl, [_], ⟨ares_tmp (by conv => lhs; whnf), trivial⟩, ?_⟩
          exact ⟨congrArg i64 (by unfold cmpC; simp only [Int.toNat_natCast]; first | (rw [if_pos (by constructor <;> assumption)]; done) | (rw [if_neg (by omega), if_pos (by assumption)]; done) | (rw [if_neg (by omega), if_neg (by omega), if_pos (by assumption)]; done) | (rw [if_neg (by omega), if_neg (by omega), if_neg (by omega)]; done)), (by first | ((repeat (first | with_reducible exact Grown.refl _ | with_reducible apply Grown.push)); done) | repeat (first | exact Grown.refl _ | refine Grown.push ?_ _))⟩
  ·
    refine a_do rfl (o_move (by conv => lhs; whnf) ?_)
    refine a_no rfl ?_
    refine a_no rfl ?_
    refine a_no rfl ?_
    refine a_no rfl ?_
    refine a_no rfl ?_
    refine a_do rfl (o_pickF (by conv => lhs; whnf) (by conv => lhs; whnf) ?_)
    refine a_do rfl (o_assign (by conv => lhs; whnf) ?_)
    refine a_end ?_
    refine awp_condF (by conv => lhs; whnf) ?_
    refine awp_seq ?_
    refine awp_region rfl ?_
    refine a_do rfl (o_load Try.underlying22 rfl (by conv => lhs; whnf) (by with_reducible repeat (first | assumption | (apply lk_last; (try simp only [ll1, ll2, ll3, ll4, lls_len, lls2_len, markL_len, rls_len, markR_len]); first | done | omega) | apply lk_prev)) (by rfl) (by rfl) ?_)
    refine a_do rfl (o_move (by conv => lhs; whnf) ?_)
    first | refine a_do rfl (o_indexI Try.underlying22 ty2 (by conv => lhs; whnf) (by first | ((with_reducible repeat (first | assumption | apply Ints.app)); done) | repeat (first | with_reducible assumption | exact ints_nil | exact Ints.own (by with_reducible repeat (first | assumption | (apply lk_last; (try simp only [ll1, ll2, ll3, ll4, lls_len, lls2_len, markL_len, rls_len, markR_len]); first | done | omega) | apply lk_prev)) (by first | rfl | exact upto_len | assumption | exact map_len | exact List.length_set | (rw [List.length_set]; assumption)) | exact Ints.tail (by with_reducible repeat (first | assumption | (apply lk_last; (try simp only [ll1, ll2, ll3, ll4, lls_len, lls2_len, markL_len, rls_len, markR_len]); first | done | omega) | apply lk_prev)) (by first | rfl | exact upto_len | assumption | exact map_len | exact List.length_set | (rw [List.length_set]; assumption)) | with_reducible apply Ints.app | (refine Ints.sub (by with_reducible repeat (first | assumption | apply Ints.app)) (by omega) (by omega) (by omega)))) (by conv => lhs; whnf) (by omega) (fun p13 hp13 => ?_)) | refine a_do rfl (o_indexZ Try.underlying22 ty2 (by conv => lhs; whnf) (by first | ((with_reducible repeat (first | assumption | apply Ints.app)); done) | repeat (first | with_reducible assumption | exact ints_nil | exact Ints.own (by with_reducible repeat (first | assumption | (apply lk_last; (try simp only [ll1, ll2, ll3, ll4, lls_len, lls2_len, markL_len, rls_len, markR_len]); first | done | omega) | apply lk_prev)) (by first | rfl | exact upto_len | assumption | exact map_len | exact List.length_set | (rw [List.length_set]; assumption)) | exact Ints.tail (by with_reducible repeat (first | assumption | (apply lk_last; (try simp only [ll1, ll2, ll3, ll4, lls_len, lls2_len, markL_len, rls_len, markR_len]); first | done | omega) | apply lk_prev)) (by first | rfl | exact upto_len | assumption | exact map_len | exact List.length_set | (rw [List.length_set]; assumption)) | with_reducible apply Ints.app | (refine Ints.sub (by with_reducible repeat (first | assumption | apply Ints.app)) (by omega) (by omega) (by omega)))) (by conv => lhs; whnf) (by omega) (by omega) (fun p13 hp13 => ?_))
    refine a_do rfl (o_loadI Try.underlying2 rfl (by conv => lhs; whnf) hp13 (by first | ((with_reducible repeat (first | assumption | apply Ints.app)); done) | repeat (first | with_reducible assumption | exact ints_nil | exact Ints.own (by with_reducible repeat (first | assumption | (apply lk_last; (try simp only [ll1, ll2, ll3, ll4, lls_len, lls2_len, markL_len, rls_len, markR_len]); first | done | omega) | apply lk_prev)) (by first | rfl | exact upto_len | assumption | exact map_len | exact List.length_set | (rw [List.length_set]; assumption)) | exact Ints.tail (by with_reducible repeat (first | assumption | (apply lk_last; (try simp only [ll1, ll2, ll3, ll4, lls_len, lls2_len, markL_len, rls_len, markR_len]); first | done | omega) | apply lk_prev)) (by first | rfl | exact upto_len | assumption | exact map_len | exact List.length_set | (rw [List.length_set]; assumption)) | with_reducible apply Ints.app | (refine Ints.sub (by with_reducible repeat (first | assumption | apply Ints.app)) (by omega) (by omega) (by omega)))) (by omega) ?_)
    refine a_do rfl (o_eql (by conv => lhs; whnf) (by conv => lhs; whnf) (fun c14 => ?_) (fun c14 => ?_))
    ·
      refine a_do rfl (o_assign (by conv => lhs; whnf) ?_)
      refine a_end ?_
      refine awp_condT (by conv => lhs; whnf) ?_
      refine awp_seq ?_
      refine awp_region rfl ?_
      refine a_do rfl (o_assign (by conv => lhs; whnf) ?_)
      refine a_end ?_
      refine awp_ret ?_
      refine ⟨.inl rfl, [_], ⟨ares_tmp (by conv => lhs; whnf), trivial⟩, ?_⟩
      exact ⟨congrArg i64 (by unfold cmpC; simp only [Int.toNat_natCast]; first | (rw [if_pos (by constructor <;> assumption)]; done) | (rw [if_neg (by omega), if_pos (by assumption)]; done) | (rw [if_neg (by omega), if_neg (by omega), if_pos (by assumption)]; done) | (rw [if_neg (by omega), if_neg (by omega), if_neg (by omega)]; done)), (by first | ((repeat (first | with_reducible exact Grown.refl _ | with_reducible apply Grown.push)); done) | repeat (first | exact Grown.refl _ | refine Grown.push ?_ _))⟩
    ·
      refine a_do rfl (o_assign (by conv => lhs; whnf) ?_)
      refine a_end ?_
      refine awp_condF (by conv => lhs; whnf) ?_
      refine awp_seq ?_
      refine awp_region rfl ?_
      refine a_do rfl (o_load Try.underlying22 rfl (by conv => lhs; whnf) (by with_reducible repeat (first | assumption | (apply lk_last; (try simp only [ll1, ll2, ll3, ll4, lls_len, lls2_len, markL_len, rls_len, markR_len]); first | done | omega) | apply lk_prev)) (by rfl) (by rfl) ?_)
      refine a_do rfl (o_move (by conv => lhs; whnf) ?_)
      first | refine a_do rfl (o_indexI Try.underlying22 ty2 (by conv => lhs; whnf) (by first | ((with_reducible repeat (first | assumption | apply Ints.app)); done) | repeat (first | with_reducible assumption | exact ints_nil | exact Ints.own (by with_reducible repeat (first | assumption | (apply lk_last; (try simp only [ll1, ll2, ll3, ll4, lls_len, lls2_len, markL_len, rls_len, markR_len]); first | done | omega) | apply lk_prev)) (by first | rfl | exact upto_len | assumption | exact map_len | exact List.length_set | (rw [List.length_set]; assumption)) | exact Ints.tail (by with_reducible repeat (first | assumption | (apply lk_last; (try simp only [ll1, ll2, ll3, ll4, lls_len, lls2_len, markL_len, rls_len, markR_len]); first | done | omega) | apply lk_prev)) (by first | rfl | exact upto_len | assumption | exact map_len | exact List.length_set | (rw [List.length_set]; assumption)) | with_reducible apply Ints.app | (refine Ints.sub (by with_reducible repeat (first | assumption | apply Ints.app)) (by omega) (by omega) (by omega)))) (by conv => lhs; whnf) (by omega) (fun p15 hp15 => ?_)) | refine a_do rfl (o_indexZ Try.underlying22 ty2 (by conv => lhs; whnf) (by first | ((with_reducible repeat (first | assumption | apply Ints.app)); done) | repeat (first | with_reducible assumption | exact ints_nil | exact Ints.own (by with_reducible repeat (first | assumption | (apply lk_last; (try simp only [ll1, ll2, ll3, ll4, lls_len, lls2_len, markL_len, rls_len, markR_len]); first | done | omega) | apply lk_prev)) (by first | rfl | exact upto_len | assumption | exact map_len | exact List.length_set | (rw [List.length_set]; assumption)) | exact Ints.tail (by with_reducible repeat (first | assumption | (apply lk_last; (try simp only [ll1, ll2, ll3, ll4, lls_len, lls2_len, markL_len, rls_len, markR_len]); first | done | omega) | apply lk_prev)) (by first | rfl | exact upto_len | assumption | exact map_len | exact List.length_set | (rw [List.length_set]; assumption)) | with_reducible apply Ints.app | (refine Ints.sub (by with_reducible repeat (first | assumption | apply Ints.app)) (by omega) (by omega) (by omega)))) (by conv => lhs; whnf) (by omega) (by omega) (fun p15 hp15 => ?_))
      refine a_do rfl (o_loadI Try.underlying2 rfl (by conv => lhs; whnf) hp15 (by first | ((with_reducible repeat (first | assumption | apply Ints.app)); done) | repeat (first | with_reducible assumption | exact ints_nil | exact Ints.own (by with_reducible repeat (first | assumption | (apply lk_last; (try simp only [ll1, ll2, ll3, ll4, lls_len, lls2_len, markL_len, rls_len, markR_len]); first | done | omega) | apply lk_prev)) (by first | rfl | exact upto_len | assumption | exact map_len | exact List.length_set | (rw [List.length_set]; assumption)) | exact Ints.tail (by with_reducible repeat (first | assumption | (apply lk_last; (try simp only [ll1, ll2, ll3, ll4, lls_len, lls2_len, markL_len, rls_len, markR_len]); first | done | omega) | apply lk_prev)) (by first | rfl | exact upto_len | assumption | exact map_len | exact List.length_set | (rw [List.length_set]; assumption)) | with_reducible apply Ints.app | (refine Ints.sub (by with_reducible repeat (first | assumption | apply Ints.app)) (by omega) (by omega) (by omega)))) (by omega) ?_)
      refine a_do rfl (o_eql (by conv => lhs; whnf) (by conv => lhs; whnf) (fun c16 => ?_) (fun c16 => ?_))
      ·
        refine a_do rfl (o_assign (by conv => lhs; whnf) ?_)
        refine a_end ?_
        refine awp_condT (by conv => lhs; whnf) ?_
        refine awp_seq ?_
        refine awp_region rfl ?_
        refine a_do rfl (o_assign (by conv => lhs; whnf) ?_)
        refine a_end ?_
        refine awp_ret ?_
        refine ⟨.inl rfl, [_], ⟨ares_tmp (by conv => lhs; whnf), trivial⟩, ?_⟩
        exact ⟨congrArg i64 (by unfold cmpC; simp only [Int.toNat_natCast]; first | (rw [if_pos (by constructor <;> assumption)]; done) | (rw [if_neg (by omega), if_pos (by assumption)]; done) | (rw [if_neg (by omega), if_neg (by omega), if_pos (by assumption)]; done) | (rw [if_neg (by omega), if_neg (by omega), if_neg (by omega)]; done)), (by first | ((repeat (first | with_reducible exact Grown.refl _ | with_reducible apply Grown.push)); done) | repeat (first | exact Grown.refl _ | refine Grown.push ?_ _))⟩
      ·
        refine a_do rfl (o_assign (by conv => lhs; whnf) ?_)
        refine a_end ?_
        refine awp_condF (by conv => lhs; whnf) ?_
        refine awp_skip ?_
        refine awp_seq ?_
        refine awp_draw Try_mixed (by kernel_rfl) rfl ?_
        refine d_do rfl (o_load Try.underlying22 rfl (by conv => lhs; whnf) (by with_reducible repeat (first | assumption | (apply lk_last; (try simp only [ll1, ll2, ll3, ll4, lls_len, lls2_len, markL_len, rls_len, markR_len]); first | done | omega) | apply lk_prev)) (by rfl) (by rfl) ⟨rfl, rfl⟩) (by first | exact .prim rfl | (apply within_sl; (with_reducible repeat (first | assumption | (apply lk_last; (try simp only [ll1, ll2, ll3, ll4, lls_len, lls2_len, markL_len, rls_len, markR_len]); first | done | omega) | apply lk_prev)); done) | ((try apply within_sub); apply Ints.within; (with_reducible repeat (first | assumption | apply Ints.app)); done) | (apply Lists.within; (with_reducible repeat (first | assumption | apply Lists.app)); done) | (apply Recs.within; (with_reducible repeat (first | assumption | apply Recs.app)); done) | (apply IsRec.within; (with_reducible repeat (first | assumption | apply IsRec.app)); done) | (apply Flts.within; (with_reducible repeat (first | assumption | apply Flts.app)); done) | (apply Byts.within; (with_reducible repeat (first | assumption | apply Byts.app)); done)) ?_
        refine d_do rfl (o_move (by conv => lhs; whnf) ⟨rfl, rfl⟩) (by exact .prim rfl) ?_
        first | refine d_indexI rfl Try.underlying22 ty2 (by conv => lhs; whnf) (by first | ((with_reducible repeat (first | assumption | apply Ints.app)); done) | repeat (first | with_reducible assumption | exact ints_nil | exact Ints.own (by with_reducible repeat (first | assumption | (apply lk_last; (try simp only [ll1, ll2, ll3, ll4, lls_len, lls2_len, markL_len, rls_len, markR_len]); first | done | omega) | apply lk_prev)) (by first | rfl | exact upto_len | assumption | exact map_len | exact List.length_set | (rw [List.length_set]; assumption)) | exact Ints.tail (by with_reducible repeat (first | assumption | (apply lk_last; (try simp only [ll1, ll2, ll3, ll4, lls_len, lls2_len, markL_len, rls_len, markR_len]); first | done | omega) | apply lk_prev)) (by first | rfl | exact upto_len | assumption | exact map_len | exact List.length_set | (rw [List.length_set]; assumption)) | with_reducible apply Ints.app | (refine Ints.sub (by with_reducible repeat (first | assumption | apply Ints.app)) (by omega) (by omega) (by omega)))) (by conv => lhs; whnf) (by omega) (fun p17 hp17 => ?_) | refine d_indexZ rfl Try.underlying22 ty2 (by conv => lhs; whnf) (by first | ((with_reducible repeat (first | assumption | apply Ints.app)); done) | repeat (first | with_reducible assumption | exact ints_nil | exact Ints.own (by with_reducible repeat (first | assumption | (apply lk_last; (try simp only [ll1, ll2, ll3, ll4, lls_len, lls2_len, markL_len, rls_len, markR_len]); first | done | omega) | apply lk_prev)) (by first | rfl | exact upto_len | assumption | exact map_len | exact List.length_set | (rw [List.length_set]; assumption)) | exact Ints.tail (by with_reducible repeat (first | assumption | (apply lk_last; (try simp only [ll1, ll2, ll3, ll4, lls_len, lls2_len, markL_len, rls_len, markR_len]); first | done | omega) | apply lk_prev)) (by first | rfl | exact upto_len | assumption | exact map_len | exact List.length_set | (rw [List.length_set]; assumption)) | with_reducible apply Ints.app | (refine Ints.sub (by with_reducible repeat (first | assumption | apply Ints.app)) (by omega) (by omega) (by omega)))) (by conv => lhs; whnf) (by omega) (by omega) (fun p17 hp17 => ?_)
        refine d_do rfl (o_loadI Try.underlying2 rfl (by conv => lhs; whnf) hp17 (by first | ((with_reducible repeat (first | assumption | apply Ints.app)); done) | repeat (first | with_reducible assumption | exact ints_nil | exact Ints.own (by with_reducible repeat (first | assumption | (apply lk_last; (try simp only [ll1, ll2, ll3, ll4, lls_len, lls2_len, markL_len, rls_len, markR_len]); first | done | omega) | apply lk_prev)) (by first | rfl | exact upto_len | assumption | exact map_len | exact List.length_set | (rw [List.length_set]; assumption)) | exact Ints.tail (by with_reducible repeat (first | assumption | (apply lk_last; (try simp only [ll1, ll2, ll3, ll4, lls_len, lls2_len, markL_len, rls_len, markR_len]); first | done | omega) | apply lk_prev)) (by first | rfl | exact upto_len | assumption | exact map_len | exact List.length_set | (rw [List.length_set]; assumption)) | with_reducible apply Ints.app | (refine Ints.sub (by with_reducible repeat (first | assumption | apply Ints.app)) (by omega) (by omega) (by omega)))) (by omega) ⟨rfl, rfl⟩) (by exact .prim rfl) ?_
        refine d_do rfl (o_load Try.underlying22 rfl (by conv => lhs; whnf) (by with_reducible repeat (first | assumption | (apply lk_last; (try simp only [ll1, ll2, ll3, ll4, lls_len, lls2_len, markL_len, rls_len, markR_len]); first | done | omega) | apply lk_prev)) (by rfl) (by rfl) ⟨rfl, rfl⟩) (by first | exact .prim rfl | (apply within_sl; (with_reducible repeat (first | assumption | (apply lk_last; (try simp only [ll1, ll2, ll3, ll4, lls_len, lls2_len, markL_len, rls_len, markR_len]); first | done | omega) | apply lk_prev)); done) | ((try apply within_sub); apply Ints.within; (with_reducible repeat (first | assumption | apply Ints.app)); done) | (apply Lists.within; (with_reducible repeat (first | assumption | apply Lists.app)); done) | (apply Recs.within; (with_reducible repeat (first | assumption | apply Recs.app)); done) | (apply IsRec.within; (with_reducible repeat (first | assumption | apply IsRec.app)); done) | (apply Flts.within; (with_reducible repeat (first | assumption | apply Flts.app)); done) | (apply Byts.within; (with_reducible repeat (first | assumption | apply Byts.app)); done)) ?_
        refine d_do rfl (o_move (by conv => lhs; whnf) ⟨rfl, rfl⟩) (by exact .prim rfl) ?_
        first | refine d_indexI rfl Try.underlying22 ty2 (by conv => lhs; whnf) (by first | ((with_reducible repeat (first | assumption | apply Ints.app)); done) | repeat (first | with_reducible assumption | exact ints_nil | exact Ints.own (by with_reducible repeat (first | assumption | (apply lk_last; (try simp only [ll1, ll2, ll3, ll4, lls_len, lls2_len, markL_len, rls_len, markR_len]); first | done | omega) | apply lk_prev)) (by first | rfl | exact upto_len | assumption | exact map_len | exact List.length_set | (rw [List.length_set]; assumption)) | exact Ints.tail (by with_reducible repeat (first | assumption | (apply lk_last; (try simp only [ll1, ll2, ll3, ll4, lls_len, lls2_len, markL_len, rls_len, markR_len]); first | done | omega) | apply lk_prev)) (by first | rfl | exact upto_len | assumption | exact map_len | exact List.length_set | (rw [List.length_set]; assumption)) | with_reducible apply Ints.app | (refine Ints.sub (by with_reducible repeat (first | assumption | apply Ints.app)) (by omega) (by omega) (by omega)))) (by conv => lhs; whnf) (by omega) (fun p18 hp18 => ?_) | refine d_indexZ rfl Try.underlying22 ty2 (by conv => lhs; whnf) (by first | ((with_reducible repeat (first | assumption | apply Ints.app)); done) | repeat (first | with_reducible assumption | exact ints_nil | exact Ints.own (by with_reducible repeat (first | assumption | (apply lk_last; (try simp only [ll1, ll2, ll3, ll4, lls_len, lls2_len, markL_len, rls_len, markR_len]); first | done | omega) | apply lk_prev)) (by first | rfl | exact upto_len | assumption | exact map_len | exact List.length_set | (rw [List.length_set]; assumption)) | exact Ints.tail (by with_reducible repeat (first | assumption | (apply lk_last; (try simp only [ll1, ll2, ll3, ll4, lls_len, lls2_len, markL_len, rls_len, markR_len]); first | done | omega) | apply lk_prev)) (by first | rfl | exact upto_len | assumption | exact map_len | exact List.length_set | (rw [List.length_set]; assumption)) | with_reducible apply Ints.app | (refine Ints.sub (by with_reducible repeat (first | assumption | apply Ints.app)) (by omega) (by omega) (by omega)))) (by conv => lhs; whnf) (by omega) (by omega) (fun p18 hp18 => ?_)
        refine d_do rfl (o_loadI Try.underlying2 rfl (by conv => lhs; whnf) hp18 (by first | ((with_reducible repeat (first | assumption | apply Ints.app)); done) | repeat (first | with_reducible assumption | exact ints_nil | exact Ints.own (by with_reducible repeat (first | assumption | (apply lk_last; (try simp only [ll1, ll2, ll3, ll4, lls_len, lls2_len, markL_len, rls_len, markR_len]); first | done | omega) | apply lk_prev)) (by first | rfl | exact upto_len | assumption | exact map_len | exact List.length_set | (rw [List.length_set]; assumption)) | exact Ints.tail (by with_reducible repeat (first | assumption | (apply lk_last; (try simp only [ll1, ll2, ll3, ll4, lls_len, lls2_len, markL_len, rls_len, markR_len]); first | done | omega) | apply lk_prev)) (by first | rfl | exact upto_len | assumption | exact map_len | exact List.length_set | (rw [List.length_set]; assumption)) | with_reducible apply Ints.app | (refine Ints.sub (by with_reducible repeat (first | assumption | apply Ints.app)) (by omega) (by omega) (by omega)))) (by omega) ⟨rfl, rfl⟩) (by exact .prim rfl) ?_
        refine d_do rfl (o_mul (by conv => lhs; whnf) (by conv => lhs; whnf) (by omega) (by omega) ⟨rfl, rfl⟩) (by exact .prim rfl) ?_
        refine d_do rfl (o_load Try.underlying22 rfl (by conv => lhs; whnf) (by with_reducible repeat (first | assumption | (apply lk_last; (try simp only [ll1, ll2, ll3, ll4, lls_len, lls2_len, markL_len, rls_len, markR_len]); first | done | omega) | apply lk_prev)) (by rfl) (by rfl) ⟨rfl, rfl⟩) (by first | exact .prim rfl | (apply within_sl; (with_reducible repeat (first | assumption | (apply lk_last; (try simp only [ll1, ll2, ll3, ll4, lls_len, lls2_len, markL_len, rls_len, markR_len]); first | done | omega) | apply lk_prev)); done) | ((try apply within_sub); apply Ints.within; (with_reducible repeat (first | assumption | apply Ints.app)); done) | (apply Lists.within; (with_reducible repeat (first | assumption | apply Lists.app)); done) | (apply Recs.within; (with_reducible repeat (first | assumption | apply Recs.app)); done) | (apply IsRec.within; (with_reducible repeat (first | assumption | apply IsRec.app)); done) | (apply Flts.within; (with_reducible repeat (first | assumption | apply Flts.app)); done) | (apply Byts.within; (with_reducible repeat (first | assumption | apply Byts.app)); done)) ?_
        refine d_do rfl (o_move (by conv => lhs; whnf) ⟨rfl, rfl⟩) (by exact .prim rfl) ?_
        first | refine d_indexI rfl Try.underlying22 ty2 (by conv => lhs; whnf) (by first | ((with_reducible repeat (first | assumption | apply Ints.app)); done) | repeat (first | with_reducible assumption | exact ints_nil | exact Ints.own (by with_reducible repeat (first | assumption | (apply lk_last; (try simp only [ll1, ll2, ll3, ll4, lls_len, lls2_len, markL_len, rls_len, markR_len]); first | done | omega) | apply lk_prev)) (by first | rfl | exact upto_len | assumption | exact map_len | exact List.length_set | (rw [List.length_set]; assumption)) | exact Ints.tail (by with_reducible repeat (first | assumption | (apply lk_last; (try simp only [ll1, ll2, ll3, ll4, lls_len, lls2_len, markL_len, rls_len, markR_len]); first | done | omega) | apply lk_prev)) (by first | rfl | exact upto_len | assumption | exact map_len | exact List.length_set | (rw [List.length_set]; assumption)) | with_reducible apply Ints.app | (refine Ints.sub (by with_reducible repeat (first | assumption | apply Ints.app)) (by omega) (by omega) (by omega)))) (by conv => lhs; whnf) (by omega) (fun p19 hp19 => ?_) | refine d_indexZ rfl Try.underlying22 ty2 (by conv => lhs; whnf) (by first | ((with_reducible repeat (first | assumption | apply Ints.app)); done) | repeat (first | with_reducible assumption | exact ints_nil | exact Ints.own (by with_reducible repeat (first | assumption | (apply lk_last; (try simp only [ll1, ll2, ll3, ll4, lls_len, lls2_len, markL_len, rls_len, markR_len]); first | done | omega) | apply lk_prev)) (by first | rfl | exact upto_len | assumption | exact map_len | exact List.length_set | (rw [List.length_set]; assumption)) | exact Ints.tail (by with_reducible repeat (first | assumption | (apply lk_last; (try simp only [ll1, ll2, ll3, ll4, lls_len, lls2_len, markL_len, rls_len, markR_len]); first | done | omega) | apply lk_prev)) (by first | rfl | exact upto_len | assumption | exact map_len | exact List.length_set | (rw [List.length_set]; assumption)) | with_reducible apply Ints.app | (refine Ints.sub (by with_reducible repeat (first | assumption | apply Ints.app)) (by omega) (by omega) (by omega)))) (by conv => lhs; whnf) (by omega) (by omega) (fun p19 hp19 => ?_)
        refine d_do rfl (o_loadI Try.underlying2 rfl (by conv => lhs; whnf) hp19 (by first | ((with_reducible repeat (first | assumption | apply Ints.app)); done) | repeat (first | with_reducible assumption | exact ints_nil | exact Ints.own (by with_reducible repeat (first | assumption | (apply lk_last; (try simp only [ll1, ll2, ll3, ll4, lls_len, lls2_len, markL_len, rls_len, markR_len]); first | done | omega) | apply lk_prev)) (by first | rfl | exact upto_len | assumption | exact map_len | exact List.length_set | (rw [List.length_set]; assumption)) | exact Ints.tail (by with_reducible repeat (first | assumption | (apply lk_last; (try simp only [ll1, ll2, ll3, ll4, lls_len, lls2_len, markL_len, rls_len, markR_len]); first | done | omega) | apply lk_prev)) (by first | rfl | exact upto_len | assumption | exact map_len | exact List.length_set | (rw [List.length_set]; assumption)) | with_reducible apply Ints.app | (refine Ints.sub (by with_reducible repeat (first | assumption | apply Ints.app)) (by omega) (by omega) (by omega)))) (by omega) ⟨rfl, rfl⟩) (by exact .prim rfl) ?_
        refine d_do rfl (o_load Try.underlying22 rfl (by conv => lhs; whnf) (by with_reducible repeat (first | assumption | (apply lk_last; (try simp only [ll1, ll2, ll3, ll4, lls_len, lls2_len, markL_len, rls_len, markR_len]); first | done | omega) | apply lk_prev)) (by rfl) (by rfl) ⟨rfl, rfl⟩) (by first | exact .prim rfl | (apply within_sl; (with_reducible repeat (first | assumption | (apply lk_last; (try simp only [ll1, ll2, ll3, ll4, lls_len, lls2_len, markL_len, rls_len, markR_len]); first | done | omega) | apply lk_prev)); done) | ((try apply within_sub); apply Ints.within; (with_reducible repeat (first | assumption | apply Ints.app)); done) | (apply Lists.within; (with_reducible repeat (first | assumption | apply Lists.app)); done) | (apply Recs.within; (with_reducible repeat (first | assumption | apply Recs.app)); done) | (apply IsRec.within; (with_reducible repeat (first | assumption | apply IsRec.app)); done) | (apply Flts.within; (with_reducible repeat (first | assumption | apply Flts.app)); done) | (apply Byts.within; (with_reducible repeat (first | assumption | apply Byts.app)); done)) ?_
        refine d_do rfl (o_move (by conv => lhs; whnf) ⟨rfl, rfl⟩) (by exact .prim rfl) ?_
        first | refine d_indexI rfl Try.underlying22 ty2 (by conv => lhs; whnf) (by first | ((with_reducible repeat (first | assumption | apply Ints.app)); done) | repeat (first | with_reducible assumption | exact ints_nil | exact Ints.own (by with_reducible repeat (first | assumption | (apply lk_last; (try simp only [ll1, ll2, ll3, ll4, lls_len, lls2_len, markL_len, rls_len, markR_len]); first | done | omega) | apply lk_prev)) (by first | rfl | exact upto_len | assumption | exact map_len | exact List.length_set | (rw [List.length_set]; assumption)) | exact Ints.tail (by with_reducible repeat (first | assumption | (apply lk_last; (try simp only [ll1, ll2, ll3, ll4, lls_len, lls2_len, markL_len, rls_len, markR_len]); first | done | omega) | apply lk_prev)) (by first | rfl | exact upto_len | assumption | exact map_len | exact List.length_set | (rw [List.length_set]; assumption)) | with_reducible apply Ints.app | (refine Ints.sub (by with_reducible repeat (first | assumption | apply Ints.app)) (by omega) (by omega) (by omega)))) (by conv => lhs; whnf) (by omega) (fun p20 hp20 => ?_) | refine d_indexZ rfl Try.underlying22 ty2 (by conv => lhs; whnf) (by first | ((with_reducible repeat (first | assumption | apply Ints.app)); done) | repeat (first | with_reducible assumption | exact ints_nil | exact Ints.own (by with_reducible repeat (first | assumption | (apply lk_last; (try simp only [ll1, ll2, ll3, ll4, lls_len, lls2_len, markL_len, rls_len, markR_len]); first | done | omega) | apply lk_prev)) (by first | rfl | exact upto_len | assumption | exact map_len | exact List.length_set | (rw [List.length_set]; assumption)) | exact Ints.tail (by with_reducible repeat (first | assumption | (apply lk_last; (try simp only [ll1, ll2, ll3, ll4, lls_len, lls2_len, markL_len, rls_len, markR_len]); first | done | omega) | apply lk_prev)) (by first | rfl | exact upto_len | assumption | exact map_len | exact List.length_set | (rw [List.length_set]; assumption)) | with_reducible apply Ints.app | (refine Ints.sub (by with_reducible repeat (first | assumption | apply Ints.app)) (by omega) (by omega) (by omega)))) (by conv => lhs; whnf) (by omega) (by omega) (fun p20 hp20 => ?_)
        refine d_do rfl (o_loadI Try.underlying2 rfl (by conv => lhs; whnf) hp20 (by first | ((with_reducible repeat (first | assumption | apply Ints.app)); done) | repeat (first | with_reducible assumption | exact ints_nil | exact Ints.own (by with_reducible repeat (first | assumption | (apply lk_last; (try simp only [ll1, ll2, ll3, ll4, lls_len, lls2_len, markL_len, rls_len, markR_len]); first | done | omega) | apply lk_prev)) (by first | rfl | exact upto_len | assumption | exact map_len | exact List.length_set | (rw [List.length_set]; assumption)) | exact Ints.tail (by with_reducible repeat (first | assumption | (apply lk_last; (try simp only [ll1, ll2, ll3, ll4, lls_len, lls2_len, markL_len, rls_len, markR_len]); first | done | omega) | apply lk_prev)) (by first | rfl | exact upto_len | assumption | exact map_len | exact List.length_set | (rw [List.length_set]; assumption)) | with_reducible apply Ints.app | (refine Ints.sub (by with_reducible repeat (first | assumption | apply Ints.app)) (by omega) (by omega) (by omega)))) (by omega) ⟨rfl, rfl⟩) (by exact .prim rfl) ?_
        refine d_do rfl (o_mul (by conv => lhs; whnf) (by conv => lhs; whnf) (by omega) (by omega) ⟨rfl, rfl⟩) (by exact .prim rfl) ?_
        refine d_do rfl (o_callF (lmap_cons (by conv => lhs; whnf) (lmap_cons (by conv => lhs; whnf) lmap_nil)) (Ret.to (compareNumbers_ret _ _ _) ⟨rfl, rfl⟩)) (by first | exact .prim rfl | exact within_func0 | (apply within_ptr; (with_reducible repeat (first | assumption | (apply lk_last; (try simp only [ll1, ll2, ll3, ll4, lls_len, lls2_len, markL_len, rls_len, markR_len]); first | done | omega) | apply lk_prev)); done) | (apply within_sl; (with_reducible repeat (first | assumption | (apply lk_last; (try simp only [ll1, ll2, ll3, ll4, lls_len, lls2_len, markL_len, rls_len, markR_len]); first | done | omega) | apply lk_prev)); done) | ((try apply within_sub); apply Ints.within; (with_reducible repeat (first | assumption | apply Ints.app)); done) | (apply Lists.within; (with_reducible repeat (first | assumption | apply Lists.app)); done) | (apply Recs.within; (with_reducible repeat (first | assumption | apply Recs.app)); done) | (apply IsRec.within; (with_reducible repeat (first | assumption | apply IsRec.app)); done) | (apply Flts.within; (with_reducible repeat (first | assumption | apply Flts.app)); done) | (apply Byts.within; (with_reducible repeat (first | assumption | apply Byts.app)); done) | exact within_nilw | exact within_nilb | (apply within_tup2 <;> first | exact .prim rfl | (apply within_sl; (with_reducible repeat (first | assumption | (apply lk_last; (try simp only [ll1, ll2, ll3, ll4, lls_len, lls2_len, markL_len, rls_len, markR_len]); first | done | omega) | apply lk_prev)); done) | (apply Within.agg2 <;> (first | exact .prim rfl | (apply within_ptr; (with_reducible repeat (first | assumption | (apply lk_last; (try simp only [ll1, ll2, ll3, ll4, lls_len, lls2_len, markL_len, rls_len, markR_len]); first | done | omega) | apply lk_prev)); done) | (apply within_sl; (with_reducible repeat (first | assumption | (apply lk_last; (try simp only [ll1, ll2, ll3, ll4, lls_len, lls2_len, markL_len, rls_len, markR_len]); first | done | omega) | apply lk_prev)); done) | ((try apply within_sub); apply Ints.within; (with_reducible repeat (first | assumption | apply Ints.app)); done) | (apply Lists.within; (with_reducible repeat (first | assumption | apply Lists.app)); done) | (apply Recs.within; (with_reducible repeat (first | assumption | apply Recs.app)); done) | (apply IsRec.within; (with_reducible repeat (first | assumption | apply IsRec.app)); done) | (apply within_sl; (with_reducible repeat (first | assumption | (apply lk_last; (try simp only [ll1, ll2, ll3, ll4, lls_len, lls2_len, markL_len, rls_len, markR_len]); first | done | omega) | apply lk_prev)); done)))) | exact Within.mono ‹Within _ (Value.func _ _ _)› (by (try simp only [ll1, ll2, ll3, ll4, lls_len, lls2_len, markL_len, rls_len, markR_len]); first | done | omega) | (apply Within.agg4 <;> (first | exact .prim rfl | (apply within_ptr; (with_reducible repeat (first | assumption | (apply lk_last; (try simp only [ll1, ll2, ll3, ll4, lls_len, lls2_len, markL_len, rls_len, markR_len]); first | done | omega) | apply lk_prev)); done) | (apply within_sl; (with_reducible repeat (first | assumption | (apply lk_last; (try simp only [ll1, ll2, ll3, ll4, lls_len, lls2_len, markL_len, rls_len, markR_len]); first | done | omega) | apply lk_prev)); done) | ((try apply within_sub); apply Ints.within; (with_reducible repeat (first | assumption | apply Ints.app)); done) | (apply Lists.within; (with_reducible repeat (first | assumption | apply Lists.app)); done) | (apply Recs.within; (with_reducible repeat (first | assumption | apply Recs.app)); done) | (apply IsRec.within; (with_reducible repeat (first | assumption | apply IsRec.app)); done) | (apply within_sl; (with_reducible repeat (first | assumption | (apply lk_last; (try simp only [ll1, ll2, ll3, ll4, lls_len, lls2_len, markL_len, rls_len, markR_len]); first | done | omega) | apply lk_prev)); done))) | (apply Within.agg3 <;> (first | exact .prim rfl | (apply within_ptr; (with_reducible repeat (first | assumption | (apply lk_last; (try simp only [ll1, ll2, ll3, ll4, lls_len, lls2_len, markL_len, rls_len, markR_len]); first | done | omega) | apply lk_prev)); done) | (apply within_sl; (with_reducible repeat (first | assumption | (apply lk_last; (try simp only [ll1, ll2, ll3, ll4, lls_len, lls2_len, markL_len, rls_len, markR_len]); first | done | omega) | apply lk_prev)); done) | ((try apply within_sub); apply Ints.within; (with_reducible repeat (first | assumption | apply Ints.app)); done) | (apply Lists.within; (with_reducible repeat (first | assumption | apply Lists.app)); done) | (apply Recs.within; (with_reducible repeat (first | assumption | apply Recs.app)); done) | (apply IsRec.within; (with_reducible repeat (first | assumption | apply IsRec.app)); done) | (apply within_sl; (with_reducible repeat (first | assumption | (apply lk_last; (try simp only [ll1, ll2, ll3, ll4, lls_len, lls2_len, markL_len, rls_len, markR_len]); first | done | omega) | apply lk_prev)); done))) | (apply Within.agg2 <;> (first | exact .prim rfl | (apply within_ptr; (with_reducible repeat (first | assumption | (apply lk_last; (try simp only [ll1, ll2, ll3, ll4, lls_len, lls2_len, markL_len, rls_len, markR_len]); first | done | omega) | apply lk_prev)); done) | (apply within_sl; (with_reducible repeat (first | assumption | (apply lk_last; (try simp only [ll1, ll2, ll3, ll4, lls_len, lls2_len, markL_len, rls_len, markR_len]); first | done | omega) | apply lk_prev)); done) | ((try apply within_sub); apply Ints.within; (with_reducible repeat (first | assumption | apply Ints.app)); done) | (apply Lists.within; (with_reducible repeat (first | assumption | apply Lists.app)); done) | (apply Recs.within; (with_reducible repeat (first | assumption | apply Recs.app)); done) | (apply IsRec.within; (with_reducible repeat (first | assumption | apply IsRec.app)); done) | (apply within_sl; (with_reducible repeat (first | assumption | (apply lk_last; (try simp only [ll1, ll2, ll3, ll4, lls_len, lls2_len, markL_len, rls_len, markR_len]); first | done | omega) | apply lk_prev)); done)))) ?_
        refine d_do rfl (o_assign (by conv => lhs; whnf) ⟨rfl, rfl⟩) (by exact .prim rfl) ?_
        refine d_end ?_
        refine awp_ret ?_
        refine ⟨.inl rfl, [_], ⟨ares_tmp (by conv => lhs; whnf), trivial⟩, ?_⟩
        exact ⟨congrArg i64 (by unfold cmpC; simp only [Int.toNat_natCast]; first | (rw [if_pos (by constructor <;> assumption)]; done) | (rw [if_neg (by omega), if_pos (by assumption)]; done) | (rw [if_neg (by omega), if_neg (by omega), if_pos (by assumption)]; done) | (rw [if_neg (by omega), if_neg (by omega), if_neg (by omega)]; done)), (by first | ((repeat (first | with_reducible exact Grown.refl _ | with_reducible apply Grown.push)); done) | repeat (first | exact Grown.refl _ | refine Grown.push ?_ _))⟩

end Go.Am
