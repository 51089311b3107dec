/-
  More of what the functions that the law FnExactPartsShared calls answer.
-/
import Derived.Test.YtekdfnobbmblaaaFnExactPartsSharedBk1
namespace Go.Am
open Go.Proofs
set_option linter.unusedSimpArgs false
set_option linter.unusedVariables false

set_option maxRecDepth 10000 in
theorem l04Few_ret (k : Nat) (p q : Int) (xs : List Int) (v : Value) (h : AHeap) (ho : h[k]? = some ⟨[i64 p, i64 q, v], true, 1⟩) (hv : Ints h v xs) (hl : xs.length ≤ 1073741824) (hV : validV p q xs = true) : Ret Try.prog 18 [.pointer (some ⟨k, 0, some 3⟩)] h (.bool (fewB p q)) h := by
  refine ret_of (.prim rfl) ?_
  obtain ⟨hp, hq, hxq, -⟩ := validV_get hV
  refine tri_of_body Try.func18 rfl (by kernel_rfl) (by show 1 ≤ 21; decide) ?_
  refine awp_seq ?_
  refine awp_region rfl ?_
  refine a_do rfl (o_assign (by conv => lhs; whnf) ?_)
  refine a_end ?_
  refine awp_seq ?_
  refine awp_region rfl ?_
  refine a_do rfl (o_assign (by conv => lhs; whnf) ?_)
  refine a_end ?_
  refine awp_seq ?_
  refine awp_seq ?_
  refine awp_region rfl ?_
  refine a_do rfl (o_assign (by conv => lhs; whnf) ?_)
  refine a_end ?_
  refine awp_block ?_
  refine awp_loop (σ := Nat) (fun s env1 h1 => Slots env1 [(0, .pointer (some ⟨k, 0, some 3⟩)), (3, i64 (p ^ s)), (4, i64 s)] ∧ h1 = h ∧ (s : Int) ≤ q ∧ p ^ s ≤ 4096) (fun s => q.toNat - s) 0 ?_ ?_
  · refine ⟨Slots.mk ⟨?_, ?_, ?_, trivial⟩, ?_, ?_⟩
    all_goals first | rfl | exact congrArg i64 (Int.pow_zero p).symm | exact ⟨by omega, by rw [Int.pow_zero]; decide⟩ | (simp; done)
  · intro s env1 h1 hI1
    obtain ⟨⟨e1, rfl⟩, rfl, ⟨hs, hs4⟩⟩ := hI1
    refine awp_seq ?_
    refine awp_seq ?_
    refine awp_region rfl ?_
    refine a_do rfl (o_move (by conv => lhs; whnf) ?_)
    refine a_do rfl (o_move (by conv => lhs; whnf) ?_)
    refine a_do rfl (o_nilCheck (by conv => lhs; whnf) ?_)
    refine a_do rfl (o_fieldAddr Try.underlying28 rfl ty2 (by conv => lhs; whnf) (by repeat (first | assumption | exact lk_last (by (try simp only [List.length_append, List.length_cons, List.length_nil, List.length_set]); omega) | apply lk_prev)) (by rfl) ?_)
    refine a_do rfl (o_load Try.underlying2 rfl (by conv => lhs; whnf) (by repeat (first | assumption | exact lk_last (by (try simp only [List.length_append, List.length_cons, List.length_nil, List.length_set]); omega) | apply lk_prev)) (by rfl) (by rfl) ?_)
    refine a_do rfl (o_lss (by conv => lhs; whnf) (by conv => lhs; whnf) (fun c1 => ?_) (fun c1 => ?_))
    ·
      refine a_end ?_
      refine awp_condT (by conv => lhs; whnf) ?_
      refine awp_skip ?_
      refine awp_seq ?_
      refine awp_block ?_
      refine awp_seq ?_
      refine awp_region rfl ?_
      have hps := pow_six hp (show s ≤ 8 by omega)
      have hps1 := pow_six hp (show s + 1 ≤ 8 by omega)
      rw [Int.pow_succ] at hps1
      refine a_do rfl (o_move (by conv => lhs; whnf) ?_)
      refine a_do rfl (o_move (by conv => lhs; whnf) ?_)
      refine a_do rfl (o_nilCheck (by conv => lhs; whnf) ?_)
      refine a_do rfl (o_fieldAddr Try.underlying28 rfl ty2 (by conv => lhs; whnf) (by repeat (first | assumption | exact lk_last (by (try simp only [List.length_append, List.length_cons, List.length_nil, List.length_set]); omega) | apply lk_prev)) (by rfl) ?_)
      refine a_do rfl (o_load Try.underlying2 rfl (by conv => lhs; whnf) (by repeat (first | assumption | exact lk_last (by (try simp only [List.length_append, List.length_cons, List.length_nil, List.length_set]); omega) | apply lk_prev)) (by rfl) (by rfl) ?_)
      refine a_do rfl (o_mul (by conv => lhs; whnf) (by conv => lhs; whnf) (by omega) (by omega) ?_)
      refine a_do rfl (o_assign (by conv => lhs; whnf) ?_)
      refine a_end ?_
      refine awp_seq ?_
      refine awp_region rfl ?_
      refine a_do rfl (o_move (by conv => lhs; whnf) ?_)
      refine a_do rfl (o_gtr (by conv => lhs; whnf) (by conv => lhs; whnf) (fun c2 => ?_) (fun c2 => ?_))
      ·
        refine a_end ?_
        refine awp_condT (by conv => lhs; whnf) ?_
        refine awp_seq ?_
        refine awp_region rfl ?_
        refine a_do rfl (o_assign (by conv => lhs; whnf) ?_)
        refine a_end ?_
        refine awp_ret ?_
        refine ⟨.inl rfl, [_], ⟨ares_tmp (by conv => lhs; whnf), trivial⟩, ?_⟩
        exact ⟨congrArg Value.bool (by first | exact (fewB_no (s := s) hp.1 (by omega) (by assumption)).symm | (obtain rfl : s = q.toNat := (by omega); exact (decide_eq_true hs4).symm)), (by repeat (first | exact Grown.refl _ | refine Grown.push ?_ _))⟩
      ·
        refine a_end ?_
        refine awp_condF (by conv => lhs; whnf) ?_
        refine awp_skip ?_
        refine awp_region rfl ?_
        refine a_do rfl (o_move (by conv => lhs; whnf) ?_)
        refine a_do rfl (o_add (by conv => lhs; whnf) (by conv => lhs; whnf) (by omega) (by omega) ?_)
        refine a_do rfl (o_assign (by conv => lhs; whnf) ?_)
        refine a_end ?_
        refine ⟨s + 1, ⟨Slots.mk ⟨?_, ?_, ?_, trivial⟩, ?_, ?_⟩, ?_⟩
        all_goals first | rfl | omega | exact congrArg i64 (by omega) | exact congrArg i64 (Int.pow_succ p s).symm | exact ⟨by omega, by rw [Int.pow_succ]; omega⟩
    ·
      refine a_end ?_
      refine awp_condF (by conv => lhs; whnf) ?_
      refine awp_exit ?_
      refine awp_seq ?_
      refine awp_region rfl ?_
      refine a_do rfl (o_assign (by conv => lhs; whnf) ?_)
      refine a_end ?_
      refine awp_ret ?_
      refine ⟨.inl rfl, [_], ⟨ares_tmp (by conv => lhs; whnf), trivial⟩, ?_⟩
      exact ⟨congrArg Value.bool (by first | exact (fewB_no (s := s) hp.1 (by omega) (by assumption)).symm | (obtain rfl : s = q.toNat := (by omega); exact (decide_eq_true hs4).symm)), (by repeat (first | exact Grown.refl _ | refine Grown.push ?_ _))⟩

set_option maxRecDepth 10000 in
theorem l04Next_ret (k0 n : Nat) (p : Int) (l0 : List Int) (h : AHeap) (ho : h[k0]? = some (lst l0)) (hn : l0.length = n) (hd : digits p l0) (hp : 1 ≤ p ∧ p ≤ 1000000) (hn2 : n ≤ 1000000) : Ret Try.prog 30 [sl k0 n, i64 p] h (.bool (!(incK p l0 n).2)) (h.set k0 (lst (incK p l0 n).1)) := by
  have hk0 := (List.getElem?_eq_some_iff.1 ho).1
  have hI0 := Ints.own ho hn
  refine retm_of (by simp) (.prim rfl) (fun cl => cl.set lst_prim) ?_
  refine tri_of_body Try.func30 rfl (by kernel_rfl) (by show 2 ≤ 28; decide) ?_
  refine awp_seq ?_
  refine awp_region rfl ?_
  refine a_do rfl (o_assign (by conv => lhs; whnf) ?_)
  refine a_end ?_
  refine awp_seq ?_
  refine awp_seq ?_
  refine awp_region rfl ?_
  refine a_do rfl (o_move (by conv => lhs; whnf) ?_)
  refine a_do rfl (o_lenI Try.underlying22 (by conv => lhs; whnf) (by repeat (first | assumption | exact ints_nil | exact Ints.own (by repeat (first | assumption | exact lk_last (by (try simp only [List.length_append, List.length_cons, List.length_nil, List.length_set]); omega) | apply lk_prev)) (by first | rfl | exact upto_len | assumption | exact map_len | exact List.length_set) | apply Ints.app | (refine Ints.sub (by repeat (first | assumption | apply Ints.app)) (by omega) (by omega) (by omega)))) ?_)
  refine a_do rfl (o_sub (by conv => lhs; whnf) (by conv => lhs; whnf) (by omega) (by omega) ?_)
  refine a_do rfl (o_assign (by conv => lhs; whnf) ?_)
  refine a_end ?_
  refine awp_block ?_
  refine awp_loop (σ := Nat × List Int) (fun ⟨k, l⟩ env1 h1 => Slots env1 [(0, sl k0 n), (1, i64 p), (5, i64 ((k : Int) - 1))] ∧ h1 = h.set k0 (lst l) ∧ k ≤ n ∧ l.length = n ∧ digits p l ∧ incK p l k = incK p l0 n) (fun ⟨k, l⟩ => k) (n, l0) ?_ ?_
  · refine ⟨Slots.mk ⟨?_, ?_, ?_, trivial⟩, ?_, ?_⟩
    all_goals first | rfl | exact congrArg i64 (by omega) | exact ⟨Nat.le_refl _, hn, hd, rfl⟩ | (rw [set_same ho]; done) | (simp; done)
  · intro ⟨k, l⟩ env1 h1 hI1
    obtain ⟨⟨e1, rfl⟩, rfl, ⟨hk, hll, hdg, hin⟩⟩ := hI1
    have hlk := lk_set (o := lst l) hk0
    refine awp_seq ?_
    refine awp_seq ?_
    refine awp_region rfl ?_
    refine a_do rfl (o_move (by conv => lhs; whnf) ?_)
    refine a_do rfl (o_geq (by conv => lhs; whnf) (by conv => lhs; whnf) (fun c1 => ?_) (fun c1 => ?_))
    ·
      obtain ⟨j, rfl⟩ : ∃ j, k = j + 1 := ⟨k - 1, by omega⟩
      have hdj := hdg j (by omega)
      have hsl : (l.set j (l.getD j 0 + 1)).length = n := by rw [List.length_set]; exact hll
      have hlk2 := lk_set (o := lst (l.set j (l.getD j 0 + 1))) hk0
      refine a_end ?_
      refine awp_condT (by conv => lhs; whnf) ?_
      refine awp_skip ?_
      refine awp_seq ?_
      refine awp_block ?_
      refine awp_seq ?_
      refine awp_region rfl ?_
      refine a_do rfl (o_move (by conv => lhs; whnf) ?_)
      refine a_do rfl (o_move (by conv => lhs; whnf) ?_)
      refine a_do rfl (o_indexI (i := j) Try.underlying22 ty2 (by conv => lhs; whnf) (by repeat (first | assumption | exact ints_nil | exact Ints.own (by repeat (first | assumption | exact lk_last (by (try simp only [List.length_append, List.length_cons, List.length_nil, List.length_set]); omega) | apply lk_prev)) (by first | rfl | exact upto_len | assumption | exact map_len | exact List.length_set) | apply Ints.app | (refine Ints.sub (by repeat (first | assumption | apply Ints.app)) (by omega) (by omega) (by omega)))) (by exact congrArg i64 (by omega)) (by omega) (fun p2 hp2 => ?_))
      refine a_do rfl (o_loadI Try.underlying2 rfl (by conv => lhs; whnf) hp2 (by repeat (first | assumption | exact ints_nil | exact Ints.own (by repeat (first | assumption | exact lk_last (by (try simp only [List.length_append, List.length_cons, List.length_nil, List.length_set]); omega) | apply lk_prev)) (by first | rfl | exact upto_len | assumption | exact map_len | exact List.length_set) | apply Ints.app | (refine Ints.sub (by repeat (first | assumption | apply Ints.app)) (by omega) (by omega) (by omega)))) (by omega) ?_)
      refine a_do rfl (o_add (by conv => lhs; whnf) (by conv => lhs; whnf) (by omega) (by omega) ?_)
      refine a_do rfl (o_indexI (i := j) Try.underlying22 ty2 (by conv => lhs; whnf) (by repeat (first | assumption | exact ints_nil | exact Ints.own (by repeat (first | assumption | exact lk_last (by (try simp only [List.length_append, List.length_cons, List.length_nil, List.length_set]); omega) | apply lk_prev)) (by first | rfl | exact upto_len | assumption | exact map_len | exact List.length_set) | apply Ints.app | (refine Ints.sub (by repeat (first | assumption | apply Ints.app)) (by omega) (by omega) (by omega)))) (by exact congrArg i64 (by omega)) (by omega) (fun p3 hp3 => ?_))
      refine a_do rfl (o_storeI ty2 (by conv => lhs; whnf) hp3 (by repeat (first | assumption | exact lk_last (by (try simp only [List.length_append, List.length_cons, List.length_nil, List.length_set]); omega) | apply lk_prev)) (by first | rfl | omega | (simp; done) | (simp; omega)) (by omega) (by conv => lhs; whnf) (by repeat (first | exact set_last (by (try simp only [List.length_append, List.length_cons, List.length_nil, List.length_set]); omega) | (apply set_step; (try simp only [List.length_append, List.length_cons, List.length_nil, List.length_set]); omega) | exact rfl)) ?_)
      refine a_end ?_
      refine awp_seq ?_
      refine awp_seq ?_
      refine awp_region rfl ?_
      rw [set_set]
      refine a_do rfl (o_move (by conv => lhs; whnf) ?_)
      refine a_do rfl (o_move (by conv => lhs; whnf) ?_)
      refine a_do rfl (o_indexI (i := j) Try.underlying22 ty2 (by conv => lhs; whnf) (by repeat (first | assumption | exact ints_nil | exact Ints.own (by repeat (first | assumption | exact lk_last (by (try simp only [List.length_append, List.length_cons, List.length_nil, List.length_set]); omega) | apply lk_prev)) (by first | rfl | exact upto_len | assumption | exact map_len | exact List.length_set) | apply Ints.app | (refine Ints.sub (by repeat (first | assumption | apply Ints.app)) (by omega) (by omega) (by omega)))) (by exact congrArg i64 (by omega)) (by omega) (fun p4 hp4 => ?_))
      refine a_do rfl (o_loadI Try.underlying2 rfl (by conv => lhs; whnf) hp4 (by repeat (first | assumption | exact ints_nil | exact Ints.own (by repeat (first | assumption | exact lk_last (by (try simp only [List.length_append, List.length_cons, List.length_nil, List.length_set]); omega) | apply lk_prev)) (by first | rfl | exact upto_len | assumption | exact map_len | exact List.length_set) | apply Ints.app | (refine Ints.sub (by repeat (first | assumption | apply Ints.app)) (by omega) (by omega) (by omega)))) (by omega) ?_)
      refine a_do rfl (o_move (by conv => lhs; whnf) ?_)
      refine a_do rfl (o_lss (by conv => lhs; whnf) (by conv => lhs; whnf) (fun c5 => ?_) (fun c5 => ?_))
      ·
        rw [getD_set (by omega), if_pos rfl] at c5
        have hy : incK p l0 n = (l.set j (l.getD j 0 + 1), false) := by rw [← hin, incK_stop c5]
        refine a_end ?_
        refine awp_condT (by conv => lhs; whnf) ?_
        refine awp_seq ?_
        refine awp_region rfl ?_
        refine a_do rfl (o_assign (by conv => lhs; whnf) ?_)
        refine a_end ?_
        refine awp_ret ?_
        refine ⟨.inl rfl, [_], ⟨ares_tmp (by conv => lhs; whnf), trivial⟩, ?_⟩
        exact ⟨by rw [hy]; rfl, by rw [hy]; exact Grown.refl _⟩
      ·
        rw [getD_set (by omega), if_pos rfl] at c5
        have hcg := incK_go c5
        refine a_end ?_
        refine awp_condF (by conv => lhs; whnf) ?_
        refine awp_skip ?_
        refine awp_region rfl ?_
        refine a_do rfl (o_move (by conv => lhs; whnf) ?_)
        refine a_do rfl (o_move (by conv => lhs; whnf) ?_)
        refine a_do rfl (o_indexI (i := j) Try.underlying22 ty2 (by conv => lhs; whnf) (by repeat (first | assumption | exact ints_nil | exact Ints.own (by repeat (first | assumption | exact lk_last (by (try simp only [List.length_append, List.length_cons, List.length_nil, List.length_set]); omega) | apply lk_prev)) (by first | rfl | exact upto_len | assumption | exact map_len | exact List.length_set) | apply Ints.app | (refine Ints.sub (by repeat (first | assumption | apply Ints.app)) (by omega) (by omega) (by omega)))) (by exact congrArg i64 (by omega)) (by omega) (fun p6 hp6 => ?_))
        refine a_do rfl (o_storeI ty2 (by conv => lhs; whnf) hp6 (by repeat (first | assumption | exact lk_last (by (try simp only [List.length_append, List.length_cons, List.length_nil, List.length_set]); omega) | apply lk_prev)) (by first | rfl | omega | (simp; done) | (simp; omega)) (by omega) (by conv => lhs; whnf) (by repeat (first | exact set_last (by (try simp only [List.length_append, List.length_cons, List.length_nil, List.length_set]); omega) | (apply set_step; (try simp only [List.length_append, List.length_cons, List.length_nil, List.length_set]); omega) | exact rfl)) ?_)
        refine a_end ?_
        refine awp_region rfl ?_
        rw [set_set, List.set_set]
        refine a_do rfl (o_move (by conv => lhs; whnf) ?_)
        refine a_do rfl (o_sub (by conv => lhs; whnf) (by conv => lhs; whnf) (by omega) (by omega) ?_)
        refine a_do rfl (o_assign (by conv => lhs; whnf) ?_)
        refine a_end ?_
        refine ⟨(j, l.set j 0), ⟨Slots.mk ⟨?_, ?_, ?_, trivial⟩, ?_, ?_⟩, ?_⟩
        all_goals first | rfl | omega | exact congrArg i64 (by omega) | exact ⟨by omega, by rw [List.length_set]; exact hll, digits_set hdg (by omega), by rw [← hin, hcg]⟩ | (show j < j + 1; omega)
    ·
      obtain rfl : k = 0 := (by omega)
      have hy : incK p l0 n = (l, true) := by rw [← hin]; rfl
      refine a_end ?_
      refine awp_condF (by conv => lhs; whnf) ?_
      refine awp_exit ?_
      refine awp_seq ?_
      refine awp_region rfl ?_
      refine a_do rfl (o_assign (by conv => lhs; whnf) ?_)
      refine a_end ?_
      refine awp_ret ?_
      refine ⟨.inl rfl, [_], ⟨ares_tmp (by conv => lhs; whnf), trivial⟩, ?_⟩
      exact ⟨by rw [hy]; rfl, by rw [hy]; exact Grown.refl _⟩

set_option maxRecDepth 10000 in
theorem l04LeastPart_ret (i : Int) (k : Nat) (p q : Int) (xs : List Int) (v : Value) (h : AHeap) (ho : h[k]? = some ⟨[i64 p, i64 q, v], true, 1⟩) (hv : Ints h v xs) (hl : xs.length ≤ 1073741824) (hV : validV p q xs = true) (hi : 0 ≤ i ∧ i < p) : Ret Try.prog 20 [.pointer (some ⟨k, 0, some 3⟩), i64 i] h (i64 (leastN p q xs i (allN8 p q))) h := by
  refine ret_of (.prim rfl) ?_
  obtain ⟨hp, hq, hxq, -⟩ := validV_get hV
  have hp8 := pow_six hp (show q.toNat ≤ 8 by omega)
  refine tri_of_body Try.func20 rfl (by kernel_rfl) (by show 2 ≤ 43; decide) ?_
  refine awp_seq ?_
  refine awp_region rfl ?_
  refine a_do rfl (o_assign (by conv => lhs; whnf) ?_)
  refine a_end ?_
  refine awp_seq ?_
  refine awp_region rfl ?_
  refine a_do rfl (o_move (by conv => lhs; whnf) ?_)
  refine a_do rfl (o_nilCheck (by conv => lhs; whnf) ?_)
  refine a_do rfl (o_fieldAddr Try.underlying28 rfl ty2 (by conv => lhs; whnf) (by repeat (first | assumption | exact lk_last (by (try simp only [List.length_append, List.length_cons, List.length_nil, List.length_set]); omega) | apply lk_prev)) (by rfl) ?_)
  refine a_do rfl (o_load Try.underlying2 rfl (by conv => lhs; whnf) (by repeat (first | assumption | exact lk_last (by (try simp only [List.length_append, List.length_cons, List.length_nil, List.length_set]); omega) | apply lk_prev)) (by rfl) (by rfl) ?_)
  first | refine a_do rfl (o_makeI Try.underlying22 ty2 (by conv => lhs; whnf) (by conv => lhs; whnf) (by omega) (by omega) (fun k1 hk1 => ?_)) | refine a_do rfl (o_makeZ Try.underlying22 ty2 (by conv => lhs; whnf) (by conv => lhs; whnf) (by omega) (by omega) (fun k1 hk1 => ?_))
  try simp at hk1
  refine a_do rfl (o_assign (by conv => lhs; whnf) ?_)
  refine a_end ?_
  refine awp_seq ?_
  refine awp_region rfl ?_
  refine a_do rfl (o_assign (by conv => lhs; whnf) ?_)
  refine a_end ?_
  refine awp_block ?_
  refine awp_loop (σ := Nat) (fun s env1 h1 => Slots env1 [(0, .pointer (some ⟨k, 0, some 3⟩)), (1, i64 i), (5, sl k1 q.toNat), (6, i64 (leastN p q xs i s))] ∧ Grown (h ++ [lst (ownN p q.toNat s)]) h1 ∧ (s : Int) < p ^ q.toNat) (fun s => allN8 p q - s) 0 ?_ ?_
  · refine ⟨Slots.mk ⟨?_, ?_, ?_, ?_, trivial⟩, ?_, ?_⟩
    all_goals first | rfl | exact Grown.refl _ | omega | (simp; done)
  · intro s env1 h1 hI1
    obtain ⟨⟨e1, rfl⟩, ⟨gs, rfl⟩, hs⟩ := hI1
    have hol : (ownN p q.toNat s).length = q.toNat := ownN_len s
    have hO := ownN_ownV hV s
    have hal : allN8 p q = (p ^ q.toNat).toNat := rfl
    refine awp_block ?_
    refine awp_seq ?_
    refine awp_region rfl ?_
    refine a_do rfl (o_buildI0 Try.underlying22 ty2 (fun k2 hk2 => ?_))
    try simp at hk2
    refine a_do rfl (o_assign (by conv => lhs; whnf) ?_)
    refine a_end ?_
    refine awp_seq ?_
    refine awp_seq ?_
    refine awp_region rfl ?_
    refine a_do rfl (o_assign (by conv => lhs; whnf) ?_)
    refine a_end ?_
    refine awp_block ?_
    refine awp_loop (σ := Nat) (fun s2 env1 h1 => Slots env1 [(0, .pointer (some ⟨k, 0, some 3⟩)), (1, i64 i), (5, sl k1 q.toNat), (6, i64 (leastN p q xs i s)), (7, sl k2 s2), (8, i64 s2)] ∧ Grown (h ++ [lst (ownN p q.toNat s)] ++ gs ++ [lst ((List.range s2).map (pF xs (ownN p q.toNat s) q i))]) h1 ∧ (s2 : Int) ≤ p) (fun s2 => p.toNat - s2) 0 ?_ ?_
    · refine ⟨Slots.mk ⟨?_, ?_, ?_, ?_, ?_, ?_, trivial⟩, ?_, ?_⟩
      all_goals first | rfl | exact Grown.refl _ | omega | (simp; done)
    · intro s2 env1 h1 hI1
      obtain ⟨⟨e1, rfl⟩, ⟨gs2, rfl⟩, hs2⟩ := hI1
      have hml : ((List.range s2).map (pF xs (ownN p q.toNat s) q i)).length = s2 := map_len
      refine awp_seq ?_
      refine awp_seq ?_
      refine awp_region rfl ?_
      refine a_do rfl (o_move (by conv => lhs; whnf) ?_)
      refine a_do rfl (o_move (by conv => lhs; whnf) ?_)
      refine a_do rfl (o_nilCheck (by conv => lhs; whnf) ?_)
      refine a_do rfl (o_fieldAddr Try.underlying28 rfl ty2 (by conv => lhs; whnf) (by repeat (first | assumption | exact lk_last (by (try simp only [List.length_append, List.length_cons, List.length_nil, List.length_set]); omega) | apply lk_prev)) (by rfl) ?_)
      refine a_do rfl (o_load Try.underlying2 rfl (by conv => lhs; whnf) (by repeat (first | assumption | exact lk_last (by (try simp only [List.length_append, List.length_cons, List.length_nil, List.length_set]); omega) | apply lk_prev)) (by rfl) (by rfl) ?_)
      refine a_do rfl (o_lss (by conv => lhs; whnf) (by conv => lhs; whnf) (fun c3 => ?_) (fun c3 => ?_))
      ·
        refine a_end ?_
        refine awp_condT (by conv => lhs; whnf) ?_
        refine awp_skip ?_
        refine awp_seq ?_
        refine awp_block ?_
        refine awp_region rfl ?_
        refine a_do rfl (o_move (by conv => lhs; whnf) ?_)
        refine a_do rfl (o_move (by conv => lhs; whnf) ?_)
        refine a_do rfl (o_move (by conv => lhs; whnf) ?_)
        refine a_do rfl (o_move (by conv => lhs; whnf) ?_)
        refine a_do rfl (o_move (by conv => lhs; whnf) ?_)
        refine a_do rfl (o_callF (lmap_cons (by conv => lhs; whnf) (lmap_cons (by conv => lhs; whnf) (lmap_cons (by conv => lhs; whnf) (lmap_cons (by conv => lhs; whnf) lmap_nil)))) (Ret.to (l04Part_ret _ _ _ _ _ _ _ _ _ _ (by repeat (first | assumption | exact lk_last (by (try simp only [List.length_append, List.length_cons, List.length_nil, List.length_set]); omega) | apply lk_prev)) (by repeat (first | assumption | exact ints_nil | exact Ints.own (by repeat (first | assumption | exact lk_last (by (try simp only [List.length_append, List.length_cons, List.length_nil, List.length_set]); omega) | apply lk_prev)) (by first | rfl | exact upto_len | assumption | exact map_len | exact List.length_set) | apply Ints.app | (refine Ints.sub (by repeat (first | assumption | apply Ints.app)) (by omega) (by omega) (by omega)))) (by repeat (first | assumption | exact ints_nil | exact Ints.own (by repeat (first | assumption | exact lk_last (by (try simp only [List.length_append, List.length_cons, List.length_nil, List.length_set]); omega) | apply lk_prev)) (by first | rfl | exact upto_len | assumption | exact map_len | exact List.length_set) | apply Ints.app | (refine Ints.sub (by repeat (first | assumption | apply Ints.app)) (by omega) (by omega) (by omega)))) (by omega) (by omega) hO (by omega)) ?_))
        refine a_do rfl (o_buildI1 Try.underlying22 ty2 (by conv => lhs; whnf) (fun k4 hk4 => ?_))
        try simp at hk4
        refine a_do rfl (o_appendI Try.underlying22 ty2 (by conv => lhs; whnf) (by repeat (first | assumption | exact lk_last (by (try simp only [List.length_append, List.length_cons, List.length_nil, List.length_set]); omega) | apply lk_prev)) (by first | rfl | omega | (simp; done) | (simp; omega)) (by conv => lhs; whnf) (by first | exact Ints.own (by repeat (first | assumption | exact lk_last (by (try simp only [List.length_append, List.length_cons, List.length_nil, List.length_set]); omega) | apply lk_prev)) (by first | rfl | exact upto_len | assumption | exact map_len | exact List.length_set) | repeat (first | assumption | apply Ints.app)) (by first | omega | (simp; omega)) (by repeat (first | exact set_last (by (try simp only [List.length_append, List.length_cons, List.length_nil, List.length_set]); omega) | (apply set_step; (try simp only [List.length_append, List.length_cons, List.length_nil, List.length_set]); omega) | exact rfl)) ?_)
        refine a_do rfl (o_assign (by conv => lhs; whnf) ?_)
        refine a_end ?_
        refine awp_region rfl ?_
        refine a_do rfl (o_move (by conv => lhs; whnf) ?_)
        refine a_do rfl (o_add (by conv => lhs; whnf) (by conv => lhs; whnf) (by omega) (by omega) ?_)
        refine a_do rfl (o_assign (by conv => lhs; whnf) ?_)
        refine a_end ?_
        refine ⟨s2 + 1, ⟨Slots.mk ⟨?_, ?_, ?_, ?_, ?_, ?_, trivial⟩, ?_, ?_⟩, ?_⟩
        all_goals first | rfl | omega | exact congrArg i64 (by omega) | (repeat (first | exact Grown.refl _ | (rw [← map_step (f := (pF xs (ownN p q.toNat s) q i)) (s := s2)]; exact Grown.refl _) | refine Grown.push ?_ _))
      ·
        refine a_end ?_
        refine awp_condF (by conv => lhs; whnf) ?_
        refine awp_exit ?_
        refine awp_seq ?_
        refine awp_region rfl ?_
        obtain rfl : s2 = p.toNat := (by omega)
        have hml9 : ((List.range p.toNat).map (pF xs (ownN p q.toNat s) q i)).length = p.toNat := map_len
        refine a_do rfl (o_move (by conv => lhs; whnf) ?_)
        refine a_do rfl (o_move (by conv => lhs; whnf) ?_)
        refine a_do rfl (o_callF (lmap_cons (by conv => lhs; whnf) lmap_nil) (Ret.to (l04Lowest_ret _ _ _ (by repeat (first | assumption | exact ints_nil | exact Ints.own (by repeat (first | assumption | exact lk_last (by (try simp only [List.length_append, List.length_cons, List.length_nil, List.length_set]); omega) | apply lk_prev)) (by first | rfl | exact upto_len | assumption | exact map_len | exact List.length_set) | apply Ints.app | (refine Ints.sub (by repeat (first | assumption | apply Ints.app)) (by omega) (by omega) (by omega)))) (by omega) (by omega)) ?_))
        refine a_do rfl (o_callF (lmap_cons (by conv => lhs; whnf) (lmap_cons (by conv => lhs; whnf) lmap_nil)) (Ret.to (l00Max_ret _ _ _) ?_))
        refine a_do rfl (o_assign (by conv => lhs; whnf) ?_)
        refine a_end ?_
        refine awp_seq ?_
        refine awp_region rfl ?_
        rw [minTo_all (by omega)]
        refine a_do rfl (o_move (by conv => lhs; whnf) ?_)
        refine a_do rfl (o_move (by conv => lhs; whnf) ?_)
        refine a_do rfl (o_nilCheck (by conv => lhs; whnf) ?_)
        refine a_do rfl (o_fieldAddr Try.underlying28 rfl ty2 (by conv => lhs; whnf) (by repeat (first | assumption | exact lk_last (by (try simp only [List.length_append, List.length_cons, List.length_nil, List.length_set]); omega) | apply lk_prev)) (by rfl) ?_)
        refine a_do rfl (o_load Try.underlying2 rfl (by conv => lhs; whnf) (by repeat (first | assumption | exact lk_last (by (try simp only [List.length_append, List.length_cons, List.length_nil, List.length_set]); omega) | apply lk_prev)) (by rfl) (by rfl) ?_)
        refine a_do rfl (o_callF (lmap_cons (by conv => lhs; whnf) (lmap_cons (by conv => lhs; whnf) lmap_nil)) (Ret.toB (Ret.heap (l04Next_ret _ _ _ _ _ (by repeat (first | assumption | exact lk_last (by (try simp only [List.length_append, List.length_cons, List.length_nil, List.length_set]); omega) | apply lk_prev)) (by first | rfl | exact upto_len | assumption | exact map_len | exact List.length_set) (ownN_digits (by omega) _) (by omega) (by omega)) (by repeat (first | exact set_last (by (try simp only [List.length_append, List.length_cons, List.length_nil, List.length_set]); omega) | (apply set_step; (try simp only [List.length_append, List.length_cons, List.length_nil, List.length_set]); omega) | exact rfl))) (fun c5 => ?_) (fun c5 => ?_)))
        ·
          have hny := carry_no hp.1 hs c5
          refine a_do rfl (o_notT (by conv => lhs; whnf) ?_)
          refine a_end ?_
          refine awp_condF (by conv => lhs; whnf) ?_
          refine awp_skip ?_
          refine ⟨s + 1, ⟨Slots.mk ⟨?_, ?_, ?_, ?_, trivial⟩, ?_, ?_⟩, ?_⟩
          all_goals first | rfl | omega | exact hny | (repeat (first | exact Grown.refl _ | (exact Grown.refl _) | refine Grown.push ?_ _))
        ·
          have hnz := carry_yes hp.1 hs c5
          refine a_do rfl (o_notF (by conv => lhs; whnf) ?_)
          refine a_end ?_
          refine awp_condT (by conv => lhs; whnf) ?_
          refine awp_seq ?_
          refine awp_region rfl ?_
          refine a_do rfl (o_move (by conv => lhs; whnf) ?_)
          refine a_do rfl (o_assign (by conv => lhs; whnf) ?_)
          refine a_end ?_
          refine awp_ret ?_
          refine ⟨.inl rfl, [_], ⟨ares_tmp (by conv => lhs; whnf), trivial⟩, ?_⟩
          exact ⟨by rw [hnz]; rfl, (by repeat (first | exact Grown.refl _ | refine Grown.push ?_ _))⟩

set_option maxRecDepth 10000 in
theorem areWorkers_ret (n : Int) (h : AHeap) : Ret Try.prog 25 [i64 n] h (.bool (decide (1 ≤ n ∧ n ≤ 8))) h := by
  refine ret_of (.prim rfl) ?_
  refine tri_of_body Try.func25 rfl (by kernel_rfl) (by show 1 ≤ 5; decide) ?_
  refine awp_seq ?_
  refine awp_region rfl ?_
  refine a_do rfl (o_assign (by conv => lhs; whnf) ?_)
  refine a_end ?_
  refine awp_seq ?_
  refine awp_region rfl ?_
  refine a_do rfl (o_move (by conv => lhs; whnf) ?_)
  refine a_do rfl (o_callF (lmap_cons (by conv => lhs; whnf) (lmap_cons (by conv => lhs; whnf) (lmap_cons (by conv => lhs; whnf) lmap_nil))) (Ret.toB (within_ret _ _ _ _) (fun c1 => ?_) (fun c1 => ?_)))
  ·
    refine a_do rfl (o_assign (by conv => lhs; whnf) ?_)
    refine a_end ?_
    refine awp_ret ?_
    refine ⟨.inl rfl, [_], ⟨ares_tmp (by conv => lhs; whnf), trivial⟩, ?_⟩
    exact ⟨by first | rfl | (simp only [packR_one, *]; done) | (simp only [packR_one, *]; rfl) | (simp [*]; done) | (simp_all; done), (by repeat (first | exact Grown.refl _ | refine Grown.push ?_ _))⟩
  ·
    refine a_do rfl (o_assign (by conv => lhs; whnf) ?_)
    refine a_end ?_
    refine awp_ret ?_
    refine ⟨.inl rfl, [_], ⟨ares_tmp (by conv => lhs; whnf), trivial⟩, ?_⟩
    exact ⟨by first | rfl | (simp only [packR_one, *]; done) | (simp only [packR_one, *]; rfl) | (simp [*]; done) | (simp_all; done), (by repeat (first | exact Grown.refl _ | refine Grown.push ?_ _))⟩

set_option maxRecDepth 10000 in
theorem implPartsShared_ret (z : Int) (p q : Int) (xs : List Int) (v : Value) (h : AHeap) (hv : Ints h v xs) (hl : xs.length ≤ 1073741824) : RetO Try.prog 11 [.agg #[i64 p, i64 q, v], i64 z] h (validV p q xs && fewB p q && decide (1 ≤ z ∧ z ≤ 8)) (VL p.toNat) (lst ((List.range p.toNat).map (leastAll p q xs))) NL := by
  refine retL_of ?_
  refine tri_of_body Try.func11 rfl (by kernel_rfl) (by show 2 ≤ 38; decide) ?_
  refine awp_seq ?_
  refine awp_region rfl ?_
  refine a_do rfl (o_boxN (n := 3) (by conv => lhs; whnf) (by exact (rfl : _ = [_, _, _])) (by rfl) (fun k2 hk2 => ?_))
  try simp at hk2
  refine a_do rfl (o_assign (by conv => lhs; whnf) ?_)
  refine a_do rfl (o_assign (by conv => lhs; whnf) ?_)
  refine a_end ?_
  refine awp_seq ?_
  refine awp_seq ?_
  refine awp_region rfl ?_
  refine a_do rfl (o_loadAgg Try.underlying28 rfl ty28 (by conv => lhs; whnf) (by repeat (first | assumption | exact lk_last (by (try simp only [List.length_append, List.length_cons, List.length_nil, List.length_set]); omega) | apply lk_prev)) (by rfl) (by exact (rfl : _ = [_, _, _])) (by rfl) ?_)
  refine a_do rfl (o_callF (lmap_cons (by conv => lhs; whnf) lmap_nil) (Ret.toB (implValidValues_ret _ _ _ _ _ (by repeat (first | assumption | exact ints_nil | exact Ints.own (by repeat (first | assumption | exact lk_last (by (try simp only [List.length_append, List.length_cons, List.length_nil, List.length_set]); omega) | apply lk_prev)) (by first | rfl | exact upto_len | assumption | exact map_len | exact List.length_set) | apply Ints.app | (refine Ints.sub (by repeat (first | assumption | apply Ints.app)) (by omega) (by omega) (by omega)))) (by omega)) (fun c3 => ?_) (fun c3 => ?_)))
  ·
    have hV := c3
    obtain ⟨hp, hq, hxq, -⟩ := validV_get c3
    refine a_do rfl (o_notT (by conv => lhs; whnf) ?_)
    refine a_do rfl (o_move (by conv => lhs; whnf) ?_)
    refine a_do rfl (o_move (by conv => lhs; whnf) ?_)
    refine a_do rfl (o_callF (lmap_cons (by conv => lhs; whnf) lmap_nil) (Ret.toB (areWorkers_ret _ _) (fun c4 => ?_) (fun c4 => ?_)))
    ·
      have hz9 := c4
      refine a_do rfl (o_notT (by conv => lhs; whnf) ?_)
      refine a_do rfl (o_pickF (by conv => lhs; whnf) (by conv => lhs; whnf) ?_)
      refine a_end ?_
      refine awp_condF (by conv => lhs; whnf) ?_
      refine awp_skip ?_
      refine awp_seq ?_
      refine awp_region rfl ?_
      refine a_do rfl (o_buildI0 Try.underlying22 ty2 (fun k5 hk5 => ?_))
      try simp at hk5
      refine a_do rfl (o_assign (by conv => lhs; whnf) ?_)
      refine a_end ?_
      refine awp_seq ?_
      refine awp_seq ?_
      refine awp_region rfl ?_
      refine a_do rfl (o_fieldAddr Try.underlying28 rfl ty2 (by conv => lhs; whnf) (by repeat (first | assumption | exact lk_last (by (try simp only [List.length_append, List.length_cons, List.length_nil, List.length_set]); omega) | apply lk_prev)) (by rfl) ?_)
      refine a_do rfl (o_load Try.underlying2 rfl (by conv => lhs; whnf) (by repeat (first | assumption | exact lk_last (by (try simp only [List.length_append, List.length_cons, List.length_nil, List.length_set]); omega) | apply lk_prev)) (by rfl) (by rfl) ?_)
      refine a_do rfl (o_move (by conv => lhs; whnf) ?_)
      refine a_end ?_
      refine awp_block ?_
      refine awp_loop (σ := Nat) (fun s env1 h1 => Slots env1 [(2, .pointer (some ⟨k2, 0, some 3⟩)), (6, sl k5 s), (20, i64 p), (21, i64 s)] ∧ Grown (h ++ [⟨[i64 p, i64 q, v], true, 1⟩] ++ [lst ((List.range s).map (leastAll p q xs))]) h1 ∧ (s : Int) ≤ p ∧ (0 < s → fewB p q = true)) (fun s => p.toNat - s) 0 ?_ ?_
      · refine ⟨Slots.mk ⟨?_, ?_, ?_, ?_, trivial⟩, ?_, ?_⟩
        all_goals first | rfl | exact Grown.refl _ | omega | exact ⟨by omega, fun h9 => absurd h9 (by omega)⟩ | (simp; done)
      · intro s env1 h1 hI1
        obtain ⟨⟨e1, rfl⟩, ⟨gs, rfl⟩, ⟨hs, hsf⟩⟩ := hI1
        have hml : ((List.range s).map (leastAll p q xs)).length = s := map_len
        refine awp_seq ?_
        refine awp_region rfl ?_
        refine a_do rfl (o_lss (by conv => lhs; whnf) (by conv => lhs; whnf) (fun c6 => ?_) (fun c6 => ?_))
        ·
          refine a_end ?_
          refine awp_seq ?_
          refine awp_condT (by conv => lhs; whnf) ?_
          refine awp_skip ?_
          refine awp_seq ?_
          refine awp_block ?_
          refine awp_seq ?_
          refine awp_region rfl ?_
          refine a_do rfl (o_move (by conv => lhs; whnf) ?_)
          refine a_do rfl (o_assign (by conv => lhs; whnf) ?_)
          refine a_end ?_
          refine awp_seq ?_
          refine awp_region rfl ?_
          refine a_do rfl (o_loadAgg Try.underlying28 rfl ty28 (by conv => lhs; whnf) (by repeat (first | assumption | exact lk_last (by (try simp only [List.length_append, List.length_cons, List.length_nil, List.length_set]); omega) | apply lk_prev)) (by rfl) (by exact (rfl : _ = [_, _, _])) (by rfl) ?_)
          refine a_do rfl (o_move (by conv => lhs; whnf) ?_)
          rcases Bool.eq_false_or_eq_true (fewB p q) with hfew | hfew
          ·
            refine a_do rfl (o_callF (lmap_cons (by conv => lhs; whnf) (lmap_cons (by conv => lhs; whnf) lmap_nil)) (Ret.to ((leastPart_ret _ _ _ _ _ _ (by repeat (first | assumption | exact ints_nil | exact Ints.own (by repeat (first | assumption | exact lk_last (by (try simp only [List.length_append, List.length_cons, List.length_nil, List.length_set]); omega) | apply lk_prev)) (by first | rfl | exact upto_len | assumption | exact map_len | exact List.length_set) | apply Ints.app | (refine Ints.sub (by repeat (first | assumption | apply Ints.app)) (by omega) (by omega) (by omega)))) (by omega) hV (by omega)).ites.1 hfew) ?_))
            refine a_do rfl (o_move (by conv => lhs; whnf) ?_)
            refine a_do rfl (o_extract (by conv => lhs; whnf) rfl ?_)
            refine a_do rfl (o_extract (by conv => lhs; whnf) rfl ?_)
            refine a_do rfl (o_assign (by conv => lhs; whnf) ?_)
            refine a_do rfl (o_assign (by conv => lhs; whnf) ?_)
            refine a_end ?_
            refine awp_seq ?_
            refine awp_seq ?_
            refine awp_region rfl ?_
            refine a_do rfl (o_move (by conv => lhs; whnf) ?_)
            refine a_do rfl (o_notT (by conv => lhs; whnf) ?_)
            refine a_end ?_
            refine awp_condF (by conv => lhs; whnf) ?_
            refine awp_skip ?_
            refine awp_region rfl ?_
            refine a_do rfl (o_move (by conv => lhs; whnf) ?_)
            refine a_do rfl (o_move (by conv => lhs; whnf) ?_)
            refine a_do rfl (o_buildI1 Try.underlying22 ty2 (by conv => lhs; whnf) (fun k8 hk8 => ?_))
            try simp at hk8
            refine a_do rfl (o_appendI Try.underlying22 ty2 (by conv => lhs; whnf) (by repeat (first | assumption | exact lk_last (by (try simp only [List.length_append, List.length_cons, List.length_nil, List.length_set]); omega) | apply lk_prev)) (by first | rfl | omega | (simp; done) | (simp; omega)) (by conv => lhs; whnf) (by first | exact Ints.own (by repeat (first | assumption | exact lk_last (by (try simp only [List.length_append, List.length_cons, List.length_nil, List.length_set]); omega) | apply lk_prev)) (by first | rfl | exact upto_len | assumption | exact map_len | exact List.length_set) | repeat (first | assumption | apply Ints.app)) (by first | omega | (simp; omega)) (by repeat (first | exact set_last (by (try simp only [List.length_append, List.length_cons, List.length_nil, List.length_set]); omega) | (apply set_step; (try simp only [List.length_append, List.length_cons, List.length_nil, List.length_set]); omega) | exact rfl)) ?_)
            refine a_do rfl (o_assign (by conv => lhs; whnf) ?_)
            refine a_end ?_
            refine awp_region rfl ?_
            refine a_do rfl (o_add (by conv => lhs; whnf) (by conv => lhs; whnf) (by omega) (by omega) ?_)
            refine a_do rfl (o_move (by conv => lhs; whnf) ?_)
            refine a_end ?_
            refine ⟨s + 1, ⟨Slots.mk ⟨?_, ?_, ?_, ?_, trivial⟩, ?_, ?_⟩, ?_⟩
            all_goals first | rfl | omega | exact congrArg i64 (by omega) | exact ⟨by omega, fun _ => hfew⟩ | (repeat (first | exact Grown.refl _ | (rw [← map_step (f := (leastAll p q xs)) (s := s)]; exact Grown.refl _) | refine Grown.push ?_ _))
          ·
            refine a_do rfl (o_callF (lmap_cons (by conv => lhs; whnf) (lmap_cons (by conv => lhs; whnf) lmap_nil)) (Ret.to ((leastPart_ret _ _ _ _ _ _ (by repeat (first | assumption | exact ints_nil | exact Ints.own (by repeat (first | assumption | exact lk_last (by (try simp only [List.length_append, List.length_cons, List.length_nil, List.length_set]); omega) | apply lk_prev)) (by first | rfl | exact upto_len | assumption | exact map_len | exact List.length_set) | apply Ints.app | (refine Ints.sub (by repeat (first | assumption | apply Ints.app)) (by omega) (by omega) (by omega)))) (by omega) hV (by omega)).ites.2 hfew) ?_))
            refine a_do rfl (o_move (by conv => lhs; whnf) ?_)
            refine a_do rfl (o_extract (by conv => lhs; whnf) rfl ?_)
            refine a_do rfl (o_extract (by conv => lhs; whnf) rfl ?_)
            refine a_do rfl (o_assign (by conv => lhs; whnf) ?_)
            refine a_do rfl (o_assign (by conv => lhs; whnf) ?_)
            refine a_end ?_
            refine awp_seq ?_
            refine awp_seq ?_
            refine awp_region rfl ?_
            refine a_do rfl (o_move (by conv => lhs; whnf) ?_)
            refine a_do rfl (o_notF (by conv => lhs; whnf) ?_)
            refine a_end ?_
            refine awp_condT (by conv => lhs; whnf) ?_
            refine awp_seq ?_
            refine awp_region rfl ?_
            refine a_do rfl (o_assign (by conv => lhs; whnf) ?_)
            refine a_do rfl (o_assign (by conv => lhs; whnf) ?_)
            refine a_end ?_
            refine awp_ret ?_
            refine ⟨.inl rfl, [_, _], ⟨ares_tmp (by conv => lhs; whnf), ares_tmp (by conv => lhs; whnf), trivial⟩, ?_⟩
            first | exact .inr ⟨by simp [*], rfl, (by repeat (first | exact Grown.refl _ | refine Grown.push ?_ _))⟩ | (obtain rfl : s = p.toNat := (by omega); exact .inl ⟨by rw [hV, hfw, hz9]; rfl, k5, rfl, (by repeat (first | exact Grown.refl _ | refine Grown.push ?_ _)), (by repeat (first | assumption | exact lk_last (by (try simp only [List.length_append, List.length_cons, List.length_nil, List.length_set]); omega) | apply lk_prev)), by omega⟩)
        ·
          refine a_end ?_
          refine awp_seq ?_
          refine awp_condF (by conv => lhs; whnf) ?_
          refine awp_exit ?_
          refine awp_seq ?_
          refine awp_region rfl ?_
          have hfw := hsf (by omega)
          refine a_do rfl (o_move (by conv => lhs; whnf) ?_)
          refine a_do rfl (o_assign (by conv => lhs; whnf) ?_)
          refine a_do rfl (o_assign (by conv => lhs; whnf) ?_)
          refine a_end ?_
          refine awp_ret ?_
          refine ⟨.inl rfl, [_, _], ⟨ares_tmp (by conv => lhs; whnf), ares_tmp (by conv => lhs; whnf), trivial⟩, ?_⟩
          first | exact .inr ⟨by simp [*], rfl, (by repeat (first | exact Grown.refl _ | refine Grown.push ?_ _))⟩ | (obtain rfl : s = p.toNat := (by omega); exact .inl ⟨by rw [hV, hfw, hz9]; rfl, k5, rfl, (by repeat (first | exact Grown.refl _ | refine Grown.push ?_ _)), (by repeat (first | assumption | exact lk_last (by (try simp only [List.length_append, List.length_cons, List.length_nil, List.length_set]); omega) | apply lk_prev)), by omega⟩)
    ·
      have hz9 := c4
      refine a_do rfl (o_notF (by conv => lhs; whnf) ?_)
      refine a_do rfl (o_pickF (by conv => lhs; whnf) (by conv => lhs; whnf) ?_)
      refine a_end ?_
      refine awp_condT (by conv => lhs; whnf) ?_
      refine awp_seq ?_
      refine awp_region rfl ?_
      refine a_do rfl (o_assign (by conv => lhs; whnf) ?_)
      refine a_do rfl (o_assign (by conv => lhs; whnf) ?_)
      refine a_end ?_
      refine awp_ret ?_
      refine ⟨.inl rfl, [_, _], ⟨ares_tmp (by conv => lhs; whnf), ares_tmp (by conv => lhs; whnf), trivial⟩, ?_⟩
      first | exact .inr ⟨by simp [*], rfl, (by repeat (first | exact Grown.refl _ | refine Grown.push ?_ _))⟩ | (obtain rfl : s = p.toNat := (by omega); exact .inl ⟨by rw [hV, hfw, hz9]; rfl, k0, rfl, (by repeat (first | exact Grown.refl _ | refine Grown.push ?_ _)), (by repeat (first | assumption | exact lk_last (by (try simp only [List.length_append, List.length_cons, List.length_nil, List.length_set]); omega) | apply lk_prev)), by omega⟩)
  ·
    refine a_do rfl (o_notF (by conv => lhs; whnf) ?_)
    refine a_do rfl (o_move (by conv => lhs; whnf) ?_)
    refine a_no rfl ?_
    refine a_no rfl ?_
    refine a_no rfl ?_
    refine a_do rfl (o_pickT (by conv => lhs; whnf) (by conv => lhs; whnf) ?_)
    refine a_end ?_
    refine awp_condT (by conv => lhs; whnf) ?_
    refine awp_seq ?_
    refine awp_region rfl ?_
    refine a_do rfl (o_assign (by conv => lhs; whnf) ?_)
    refine a_do rfl (o_assign (by conv => lhs; whnf) ?_)
    refine a_end ?_
    refine awp_ret ?_
    refine ⟨.inl rfl, [_, _], ⟨ares_tmp (by conv => lhs; whnf), ares_tmp (by conv => lhs; whnf), trivial⟩, ?_⟩
    first | exact .inr ⟨by simp [*], rfl, (by repeat (first | exact Grown.refl _ | refine Grown.push ?_ _))⟩ | (obtain rfl : s = p.toNat := (by omega); exact .inl ⟨by rw [hV, hfw, hz9]; rfl, k0, rfl, (by repeat (first | exact Grown.refl _ | refine Grown.push ?_ _)), (by repeat (first | assumption | exact lk_last (by (try simp only [List.length_append, List.length_cons, List.length_nil, List.length_set]); omega) | apply lk_prev)), by omega⟩)

set_option maxRecDepth 10000 in
theorem specPartsShared_ret (z : Int) (p q : Int) (xs : List Int) (v : Value) (h : AHeap) (hv : Ints h v xs) (hl : xs.length ≤ 1073741824) : RetO Try.prog 10 [.agg #[i64 p, i64 q, v], i64 z] h (validV p q xs && fewB p q && decide (1 ≤ z ∧ z ≤ 8)) (VL p.toNat) (lst ((List.range p.toNat).map (leastAll p q xs))) NL := by
  refine retL_of ?_
  refine tri_of_body Try.func10 rfl (by kernel_rfl) (by show 2 ≤ 32; decide) ?_
  refine awp_seq ?_
  refine awp_region rfl ?_
  refine a_do rfl (o_boxN (n := 3) (by conv => lhs; whnf) (by exact (rfl : _ = [_, _, _])) (by rfl) (fun k2 hk2 => ?_))
  try simp at hk2
  refine a_do rfl (o_assign (by conv => lhs; whnf) ?_)
  refine a_do rfl (o_assign (by conv => lhs; whnf) ?_)
  refine a_end ?_
  refine awp_seq ?_
  refine awp_seq ?_
  refine awp_region rfl ?_
  refine a_do rfl (o_callF (lmap_cons (by conv => lhs; whnf) lmap_nil) (Ret.toB (l04Is_ret _ _ _ _ _ _ (by repeat (first | assumption | exact lk_last (by (try simp only [List.length_append, List.length_cons, List.length_nil, List.length_set]); omega) | apply lk_prev)) (by repeat (first | assumption | exact ints_nil | exact Ints.own (by repeat (first | assumption | exact lk_last (by (try simp only [List.length_append, List.length_cons, List.length_nil, List.length_set]); omega) | apply lk_prev)) (by first | rfl | exact upto_len | assumption | exact map_len | exact List.length_set) | apply Ints.app | (refine Ints.sub (by repeat (first | assumption | apply Ints.app)) (by omega) (by omega) (by omega)))) (by omega)) (fun c3 => ?_) (fun c3 => ?_)))
  ·
    have hV := c3
    obtain ⟨hp, hq, hxq, -⟩ := validV_get c3
    refine a_do rfl (o_notT (by conv => lhs; whnf) ?_)
    refine a_do rfl (o_move (by conv => lhs; whnf) ?_)
    refine a_do rfl (o_callF (lmap_cons (by conv => lhs; whnf) lmap_nil) (Ret.toB (l04Few_ret _ _ _ _ _ _ (by repeat (first | assumption | exact lk_last (by (try simp only [List.length_append, List.length_cons, List.length_nil, List.length_set]); omega) | apply lk_prev)) (by repeat (first | assumption | exact ints_nil | exact Ints.own (by repeat (first | assumption | exact lk_last (by (try simp only [List.length_append, List.length_cons, List.length_nil, List.length_set]); omega) | apply lk_prev)) (by first | rfl | exact upto_len | assumption | exact map_len | exact List.length_set) | apply Ints.app | (refine Ints.sub (by repeat (first | assumption | apply Ints.app)) (by omega) (by omega) (by omega)))) (by omega) hV) (fun c4 => ?_) (fun c4 => ?_)))
    ·
      have hfew := c4
      refine a_do rfl (o_notT (by conv => lhs; whnf) ?_)
      refine a_do rfl (o_pickF (by conv => lhs; whnf) (by conv => lhs; whnf) ?_)
      refine a_do rfl (o_move (by conv => lhs; whnf) ?_)
      refine a_do rfl (o_move (by conv => lhs; whnf) ?_)
      refine a_do rfl (o_callF (lmap_cons (by conv => lhs; whnf) (lmap_cons (by conv => lhs; whnf) (lmap_cons (by conv => lhs; whnf) lmap_nil))) (Ret.toB (l00In_ret _ _ _ _) (fun c5 => ?_) (fun c5 => ?_)))
      ·
        have hz9 := c5
        refine a_do rfl (o_notT (by conv => lhs; whnf) ?_)
        refine a_do rfl (o_pickF (by conv => lhs; whnf) (by conv => lhs; whnf) ?_)
        refine a_end ?_
        refine awp_condF (by conv => lhs; whnf) ?_
        refine awp_skip ?_
        refine awp_seq ?_
        refine awp_region rfl ?_
        refine a_do rfl (o_buildI0 Try.underlying22 ty2 (fun k6 hk6 => ?_))
        try simp at hk6
        refine a_do rfl (o_assign (by conv => lhs; whnf) ?_)
        refine a_end ?_
        refine awp_seq ?_
        refine awp_seq ?_
        refine awp_region rfl ?_
        refine a_do rfl (o_assign (by conv => lhs; whnf) ?_)
        refine a_end ?_
        refine awp_block ?_
        refine awp_loop (σ := Nat) (fun s env1 h1 => Slots env1 [(2, .pointer (some ⟨k2, 0, some 3⟩)), (6, sl k6 s), (7, i64 s)] ∧ Grown (h ++ [⟨[i64 p, i64 q, v], true, 1⟩] ++ [lst ((List.range s).map (leastAll p q xs))]) h1 ∧ (s : Int) ≤ p) (fun s => p.toNat - s) 0 ?_ ?_
        · refine ⟨Slots.mk ⟨?_, ?_, ?_, trivial⟩, ?_, ?_⟩
          all_goals first | rfl | exact Grown.refl _ | omega | exact ⟨by omega, fun h9 => absurd h9 (by omega)⟩ | (simp; done)
        · intro s env1 h1 hI1
          obtain ⟨⟨e1, rfl⟩, ⟨gs, rfl⟩, hs⟩ := hI1
          have hml : ((List.range s).map (leastAll p q xs)).length = s := map_len
          refine awp_seq ?_
          refine awp_seq ?_
          refine awp_region rfl ?_
          refine a_do rfl (o_move (by conv => lhs; whnf) ?_)
          refine a_do rfl (o_fieldAddr Try.underlying28 rfl ty2 (by conv => lhs; whnf) (by repeat (first | assumption | exact lk_last (by (try simp only [List.length_append, List.length_cons, List.length_nil, List.length_set]); omega) | apply lk_prev)) (by rfl) ?_)
          refine a_do rfl (o_load Try.underlying2 rfl (by conv => lhs; whnf) (by repeat (first | assumption | exact lk_last (by (try simp only [List.length_append, List.length_cons, List.length_nil, List.length_set]); omega) | apply lk_prev)) (by rfl) (by rfl) ?_)
          refine a_do rfl (o_lss (by conv => lhs; whnf) (by conv => lhs; whnf) (fun c7 => ?_) (fun c7 => ?_))
          ·
            refine a_end ?_
            refine awp_condT (by conv => lhs; whnf) ?_
            refine awp_skip ?_
            refine awp_seq ?_
            refine awp_block ?_
            refine awp_region rfl ?_
            refine a_do rfl (o_move (by conv => lhs; whnf) ?_)
            refine a_do rfl (o_move (by conv => lhs; whnf) ?_)
            refine a_do rfl (o_callF (lmap_cons (by conv => lhs; whnf) (lmap_cons (by conv => lhs; whnf) lmap_nil)) (Ret.to (l04LeastPart_ret _ _ _ _ _ _ _ (by repeat (first | assumption | exact lk_last (by (try simp only [List.length_append, List.length_cons, List.length_nil, List.length_set]); omega) | apply lk_prev)) (by repeat (first | assumption | exact ints_nil | exact Ints.own (by repeat (first | assumption | exact lk_last (by (try simp only [List.length_append, List.length_cons, List.length_nil, List.length_set]); omega) | apply lk_prev)) (by first | rfl | exact upto_len | assumption | exact map_len | exact List.length_set) | apply Ints.app | (refine Ints.sub (by repeat (first | assumption | apply Ints.app)) (by omega) (by omega) (by omega)))) (by omega) hV (by omega)) ?_))
            refine a_do rfl (o_buildI1 Try.underlying22 ty2 (by conv => lhs; whnf) (fun k8 hk8 => ?_))
            try simp at hk8
            refine a_do rfl (o_appendI Try.underlying22 ty2 (by conv => lhs; whnf) (by repeat (first | assumption | exact lk_last (by (try simp only [List.length_append, List.length_cons, List.length_nil, List.length_set]); omega) | apply lk_prev)) (by first | rfl | omega | (simp; done) | (simp; omega)) (by conv => lhs; whnf) (by first | exact Ints.own (by repeat (first | assumption | exact lk_last (by (try simp only [List.length_append, List.length_cons, List.length_nil, List.length_set]); omega) | apply lk_prev)) (by first | rfl | exact upto_len | assumption | exact map_len | exact List.length_set) | repeat (first | assumption | apply Ints.app)) (by first | omega | (simp; omega)) (by repeat (first | exact set_last (by (try simp only [List.length_append, List.length_cons, List.length_nil, List.length_set]); omega) | (apply set_step; (try simp only [List.length_append, List.length_cons, List.length_nil, List.length_set]); omega) | exact rfl)) ?_)
            refine a_do rfl (o_assign (by conv => lhs; whnf) ?_)
            refine a_end ?_
            refine awp_region rfl ?_
            refine a_do rfl (o_move (by conv => lhs; whnf) ?_)
            refine a_do rfl (o_add (by conv => lhs; whnf) (by conv => lhs; whnf) (by omega) (by omega) ?_)
            refine a_do rfl (o_assign (by conv => lhs; whnf) ?_)
            refine a_end ?_
            refine ⟨s + 1, ⟨Slots.mk ⟨?_, ?_, ?_, trivial⟩, ?_, ?_⟩, ?_⟩
            all_goals first | rfl | omega | exact congrArg i64 (by omega) | (repeat (first | exact Grown.refl _ | (rw [← map_step (f := (leastAll p q xs)) (s := s)]; exact Grown.refl _) | refine Grown.push ?_ _))
          ·
            refine a_end ?_
            refine awp_condF (by conv => lhs; whnf) ?_
            refine awp_exit ?_
            refine awp_seq ?_
            refine awp_region rfl ?_
            refine a_do rfl (o_move (by conv => lhs; whnf) ?_)
            refine a_do rfl (o_assign (by conv => lhs; whnf) ?_)
            refine a_do rfl (o_assign (by conv => lhs; whnf) ?_)
            refine a_end ?_
            refine awp_ret ?_
            refine ⟨.inl rfl, [_, _], ⟨ares_tmp (by conv => lhs; whnf), ares_tmp (by conv => lhs; whnf), trivial⟩, ?_⟩
            first | exact .inr ⟨by simp [*], rfl, (by repeat (first | exact Grown.refl _ | refine Grown.push ?_ _))⟩ | (obtain rfl : s = p.toNat := (by omega); exact .inl ⟨by rw [hV, hfew, hz9]; rfl, k6, rfl, (by repeat (first | exact Grown.refl _ | refine Grown.push ?_ _)), (by repeat (first | assumption | exact lk_last (by (try simp only [List.length_append, List.length_cons, List.length_nil, List.length_set]); omega) | apply lk_prev)), by omega⟩)
      ·
        refine a_do rfl (o_notF (by conv => lhs; whnf) ?_)
        refine a_do rfl (o_pickF (by conv => lhs; whnf) (by conv => lhs; whnf) ?_)
        refine a_end ?_
        refine awp_condT (by conv => lhs; whnf) ?_
        refine awp_seq ?_
        refine awp_region rfl ?_
        refine a_do rfl (o_assign (by conv => lhs; whnf) ?_)
        refine a_do rfl (o_assign (by conv => lhs; whnf) ?_)
        refine a_end ?_
        refine awp_ret ?_
        refine ⟨.inl rfl, [_, _], ⟨ares_tmp (by conv => lhs; whnf), ares_tmp (by conv => lhs; whnf), trivial⟩, ?_⟩
        first | exact .inr ⟨by simp [*], rfl, (by repeat (first | exact Grown.refl _ | refine Grown.push ?_ _))⟩ | (obtain rfl : s = p.toNat := (by omega); exact .inl ⟨by rw [hV, hfew, hz9]; rfl, k0, rfl, (by repeat (first | exact Grown.refl _ | refine Grown.push ?_ _)), (by repeat (first | assumption | exact lk_last (by (try simp only [List.length_append, List.length_cons, List.length_nil, List.length_set]); omega) | apply lk_prev)), by omega⟩)
    ·
      refine a_do rfl (o_notF (by conv => lhs; whnf) ?_)
      refine a_do rfl (o_pickF (by conv => lhs; whnf) (by conv => lhs; whnf) ?_)
      refine a_do rfl (o_move (by conv => lhs; whnf) ?_)
      refine a_no rfl ?_
      refine a_no rfl ?_
      refine a_no rfl ?_
      refine a_do rfl (o_pickT (by conv => lhs; whnf) (by conv => lhs; whnf) ?_)
      refine a_end ?_
      refine awp_condT (by conv => lhs; whnf) ?_
      refine awp_seq ?_
      refine awp_region rfl ?_
      refine a_do rfl (o_assign (by conv => lhs; whnf) ?_)
      refine a_do rfl (o_assign (by conv => lhs; whnf) ?_)
      refine a_end ?_
      refine awp_ret ?_
      refine ⟨.inl rfl, [_, _], ⟨ares_tmp (by conv => lhs; whnf), ares_tmp (by conv => lhs; whnf), trivial⟩, ?_⟩
      first | exact .inr ⟨by simp [*], rfl, (by repeat (first | exact Grown.refl _ | refine Grown.push ?_ _))⟩ | (obtain rfl : s = p.toNat := (by omega); exact .inl ⟨by rw [hV, hfew, hz9]; rfl, k0, rfl, (by repeat (first | exact Grown.refl _ | refine Grown.push ?_ _)), (by repeat (first | assumption | exact lk_last (by (try simp only [List.length_append, List.length_cons, List.length_nil, List.length_set]); omega) | apply lk_prev)), by omega⟩)
  ·
    refine a_do rfl (o_notF (by conv => lhs; whnf) ?_)
    refine a_do rfl (o_move (by conv => lhs; whnf) ?_)
    refine a_no rfl ?_
    refine a_no rfl ?_
    refine a_do rfl (o_pickT (by conv => lhs; whnf) (by conv => lhs; whnf) ?_)
    refine a_do rfl (o_move (by conv => lhs; whnf) ?_)
    refine a_no rfl ?_
    refine a_no rfl ?_
    refine a_no rfl ?_
    refine a_do rfl (o_pickT (by conv => lhs; whnf) (by conv => lhs; whnf) ?_)
    refine a_end ?_
    refine awp_condT (by conv => lhs; whnf) ?_
    refine awp_seq ?_
    refine awp_region rfl ?_
    refine a_do rfl (o_assign (by conv => lhs; whnf) ?_)
    refine a_do rfl (o_assign (by conv => lhs; whnf) ?_)
    refine a_end ?_
    refine awp_ret ?_
    refine ⟨.inl rfl, [_, _], ⟨ares_tmp (by conv => lhs; whnf), ares_tmp (by conv => lhs; whnf), trivial⟩, ?_⟩
    first | exact .inr ⟨by simp [*], rfl, (by repeat (first | exact Grown.refl _ | refine Grown.push ?_ _))⟩ | (obtain rfl : s = p.toNat := (by omega); exact .inl ⟨by rw [hV, hfew, hz9]; rfl, k0, rfl, (by repeat (first | exact Grown.refl _ | refine Grown.push ?_ _)), (by repeat (first | assumption | exact lk_last (by (try simp only [List.length_append, List.length_cons, List.length_nil, List.length_set]); omega) | apply lk_prev)), by omega⟩)

end Go.Am
