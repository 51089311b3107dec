/-
  The abstract heap: a region that draws its order and ends with 'append, the place, the store': the append comes after all ahead of it; the place may come at any time. General: no program is named.
-/
import Derived.Test.YtnbpakikglpkcaaAmSink
namespace Go.Am
set_option linter.unusedSimpArgs false
set_option linter.unusedVariables false
open Go.RowKit
def sinkAt (ops : Array Oper) (N : Nat) : Bool := (List.range N).all fun i => (List.range (N + 1)).any fun j => decide (i < j) && match ops[j]? with
  | some o => o.after.toList.any fun e => Region.binds .any e && e.on == i
  | none => false

theorem sinkAt_all {ops : Array Oper} {listed : Array Bool} {N : Nat} (hs : sinkAt ops N = true) (hcl : ∀ (i : Nat) (o : Oper), ops[i]? = some o → listed.getD i false = true → ∀ e ∈ o.after, Region.binds .any e = true → listed.getD e.on false = true)
    {o : Oper} (ho : ops[N]? = some o) (hr : ∀ e ∈ o.after, Region.binds .any e = true → listed.getD e.on false = true) : ∀ (d i : Nat), N - i ≤ d → i < N → listed.getD i false = true := by
  intro d
  have hN : N < ops.size := (Array.getElem?_eq_some_iff.1 ho).1
  induction d with
  | zero => intro i h1 h2; omega
  | succ d ih =>
    intro i h1 h2
    have := List.all_eq_true.1 hs i (List.mem_range.2 h2)
    obtain ⟨j, hj, h3⟩ := List.any_eq_true.1 this
    have hj' := List.mem_range.1 hj
    have hj2 : j < ops.size := by omega
    simp only [Bool.and_eq_true, decide_eq_true_eq] at h3
    obtain ⟨h4, h5⟩ := h3
    rw [Array.getElem?_eq_getElem hj2] at h5
    obtain ⟨e, he, h6⟩ := List.any_eq_true.1 h5
    simp only [Bool.and_eq_true, beq_iff_eq] at h6
    have he' : e ∈ ops[j].after := by simpa using he
    rw [← h6.2]
    by_cases hl : j = N
    · subst hl
      rw [Array.getElem?_eq_getElem hj2] at ho
      cases ho
      exact hr e he' h6.1
    · exact hcl j _ (Array.getElem?_eq_getElem hj2) (ih j (by omega) (by omega)) e he' h6.1

theorem left_lt {N : Nat} {listed : Array Bool} (hsz : listed.size = N) {i : Nat} (hlt : i < N) (hun : listed.getD i false = false) : left N (listed.setIfInBounds i true) < left N listed := by
  have hset : (listed.setIfInBounds i true).getD i false = true := by
    have hlt2 : i < listed.size := by omega
    simp [Array.getD_eq_getD_getElem?, hlt2]
  refine countP_lt _ (fun x hx => ?_) ⟨i, List.mem_range.2 hlt, by simp [hun], by simp [hset]⟩
  by_cases hix : i = x
  · subst hix
    rw [hun]; rfl
  · rwa [getD_set_ne false hix] at hx

theorem left_pos {N : Nat} {listed : Array Bool} {i : Nat} (hlt : i < N) (hun : listed.getD i false = false) : 0 < left N listed :=
  List.countP_pos_iff.2 ⟨i, List.mem_range.2 hlt, by simp [hun]⟩

theorem wantedA_noguard {ops : Array Oper} {env : Env} {o : Oper} (h : o.guard = none) : wantedA ops env o = some true := by
  unfold wantedA; rw [h]

/-- One operation, in any state. -/
theorem wpOp_of {P : Program} {n : Nat} {ops : Array Oper} {Q : Exit → Act → World → Prop} {j : Nat} {o : Oper} {next : Act → World → Prop} {m : Map} {h0 : AHeap} {w : World} {m' : Map} {h' : AHeap} {w' : World} {a' : Act} {env' : Env} {K : Value → AHeap → Prop}
    (ho : ops[j]? = some o) (hin : dstsIn n ops.toList = true) (hg : o.guard = none) (irel : Rel m' h' w') (hst : Step m h0 w m' h' w') (ienv : EnvRel m' h' n env' a') (hop : AOp P o K env' h')
    (hnext : ∀ v h1 m1 a1 w1, Rel m1 h1 w1 → Step m h0 w m1 h1 w1 → EnvRel m1 h1 n (env'.put o.dst v) a1 → K v h1 → next a1 w1) : wpOp P ops Q j next a' w' := by
  have hmem : o ∈ ops.toList := by
    obtain ⟨h1, rfl⟩ := Array.getElem?_eq_some_iff.1 ho
    simp
  have hok := List.all_eq_true.1 hin o hmem
  simp only [Bool.and_eq_true] at hok
  have hdsto : ∀ d, o.dst = some d → d < n := fun d hx => by simpa [hx] using hok.1
  unfold wpOp
  simp only [ho]
  have hw' := wantedA_spec2 (fun t _ => ienv.vals t) (wantedA_noguard (ops := ops) (env := env') hg)
  simp only [hw', if_true]
  refine .inl (Oper.wp_mono2 ?_ (hop m' w' a' irel fun x hx => ?_))
  · rintro a1 w1 ⟨v, r, m1, h1, rfl, r1, s1, v1, hq⟩
    exact hnext v h1 m1 _ w1 r1 (hst.trans s1) ((ienv.mono s1.toExt).put hdsto v1) hq
  · have hx' := List.all_eq_true.1 hok.2 x hx
    cases x with
    | tmp t => exact ienv.vals t
    | const v => exact .const _ _ hx'
    | global g => cases hx'
    | func f => exact .func rfl rfl (fun i h1 _ => by simp at h1) (fun i h1 _ => by simp at h1)

theorem AOp.congr {P : Program} {o : Oper} {K : Value → AHeap → Prop} {env env' : Env} {h : AHeap} (he : ∀ x ∈ o.op.operands.toList, aeval env x = aeval env' x) (a : AOp P o K env h) : AOp P o K env' h :=
  fun m w x hr hop => a m w x hr fun y hy => by rw [he y hy]; exact hop y hy

end Go.Am
