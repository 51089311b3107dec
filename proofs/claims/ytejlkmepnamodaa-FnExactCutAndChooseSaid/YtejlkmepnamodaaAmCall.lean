/-
  The abstract heap: calls, bodies, what may be forgotten of a contract's heap. General: no program is named.
-/
import Derived.Test.YtejlkmepnamodaaAmApp
namespace Go.Am
set_option linter.unusedSimpArgs false
set_option linter.unusedVariables false
open Go.RowKit

theorem callFunc_run {P : Program} {f : FuncId} {args : Array Value} (hc : callB P f = true) (w : World) : (callFunc f args).run P w = .ok (.enter f args) w := by
  unfold callB at hc
  cases hf : P.funcs[f]? with
  | none => simp [hf] at hc
  | some fn =>
    simp only [hf, Bool.and_eq_true, Bool.not_eq_true'] at hc
    obtain ⟨h1, h2⟩ := hc
    have h3 : fn.body.isNone = false := by cases hb : fn.body <;> simp_all
    simp only [callFunc, Sem.run_bind, run_program, Result.andThen_ok, hf, h1, h3, Bool.false_eq_true, if_false]
    rfl

section
variable {P : Program} {K : Value → AHeap → Prop} {env : Env} {h : AHeap} {dst : Option Tmp} {ty : TypeId} {pos : String} {after : Array Edge} {guard : Option (Nat × Bool)}

theorem aop_call {fo : Operand} {f : FuncId} {xs : Array Operand} {ats : Array TypeId} {first cap : Array Value} (hf : aeval env fo = .func (.func f) first cap)
    (ht : Tri P f (first.toList ++ xs.toList.map (aeval env) ++ cap.toList) h K) :
    AOp P ⟨dst, .call { callee := .value fo, args := xs, argTypes := ats }, ty, pos, after, guard⟩ K env h := by
  intro m w a hr hop
  have hp := hop fo (by simp [Op.operands, Call.operands])
  rw [hf] at hp
  obtain ⟨b, d, he, hs1, hs2, hc1, hc2⟩ : ∃ b d, a.eval fo = .func (.func f) b d ∧ first.size = b.size ∧ cap.size = d.size ∧
      (∀ i (h1 : i < first.size) (h2 : i < b.size), VRel m h first[i] b[i]) ∧ (∀ i (h1 : i < cap.size) (h2 : i < d.size), VRel m h cap[i] d[i]) := by
    generalize a.eval fo = r at hp
    cases hp with
    | prim hpp => simp [isPrim] at hpp
    | func h1 h2 h3 h4 => exact ⟨_, _, rfl, h1, h2, h3, h4⟩
  have hvs : VRels m h (first.toList ++ xs.toList.map (aeval env) ++ cap.toList) (b ++ xs.map a.eval ++ d) := by
    refine ⟨by simp [hs1, hs2], fun i v r hv hr' => ?_⟩
    rw [Array.getElem?_append] at hr'
    rw [List.getElem?_append] at hv
    simp only [List.length_append, Array.length_toList, List.length_map, Array.size_append, Array.size_map] at hv hr'
    rw [hs1] at hv
    split at hv
    · rename_i hlt
      rw [if_pos hlt, Array.getElem?_append] at hr'
      rw [List.getElem?_append] at hv
      simp only [Array.length_toList, hs1] at hv
      split at hv
      · rename_i hlt2
        rw [if_pos hlt2] at hr'
        rw [Array.getElem?_toList, Array.getElem?_eq_getElem (by omega)] at hv
        rw [Array.getElem?_eq_getElem hlt2] at hr'
        cases hv; cases hr'
        exact hc1 i _ _
      · rename_i hlt2
        rw [if_neg hlt2] at hr'
        rw [List.getElem?_map, Array.getElem?_toList] at hv
        rw [Array.getElem?_map] at hr'
        cases hx : xs[i - b.size]? with
        | none => simp [hx] at hv
        | some x =>
          rw [hx] at hv hr'
          simp only [Option.map_some, Option.some.injEq] at hv hr'
          subst hv hr'
          obtain ⟨hj, rfl⟩ := Array.getElem?_eq_some_iff.1 hx
          exact hop _ (by simp [Op.operands, Call.operands])
    · rename_i hlt
      rw [if_neg hlt] at hr'
      simp only [Array.getElem?_toList] at hv
      obtain ⟨h1, rfl⟩ := Array.getElem?_eq_some_iff.1 hv
      obtain ⟨h2, rfl⟩ := Array.getElem?_eq_some_iff.1 hr'
      exact hc2 _ _ _
  have hrun : (execOp a.eval ⟨dst, .call { callee := .value fo, args := xs, argTypes := ats }, ty, pos, after, guard⟩).run P w = .ok (.enter f (b ++ xs.map a.eval ++ d)) w := by
    simp only [execOp, resolve, he, Deferred.ofValue, Sem.run_bind, Sem.run_pure, Result.andThen_ok, invoke, callFunc_run ht.1]
  unfold Oper.wp
  rw [hrun]
  show Calls P f _ w _
  refine (ht.2 m w _ hr hvs).mono ?_
  rintro e w' ⟨v, r, m', h', rfl, p1, p2, p3, p4⟩
  exact ⟨v, r, m', h', rfl, p1, p2, p3, p4⟩

theorem aop_callF {f : FuncId} {xs : Array Operand} {ats : Array TypeId} (ht : Tri P f (xs.toList.map (aeval env)) h K) :
    AOp P ⟨dst, .call { callee := .value (.func f), args := xs, argTypes := ats }, ty, pos, after, guard⟩ K env h :=
  aop_call (first := #[]) (cap := #[]) rfl (by simpa using ht)

end

def envOf (args : List Value) : Env := fun t => args.getD t undef

theorem envRel_of {m h} {args : List Value} {rs : Array Value} {n : Nat} (hv : VRels m h args rs) (hn : args.length ≤ n) :
    EnvRel m h n (envOf args) { tmps := rs ++ Array.replicate (n - rs.size) undef, defers := [] } := by
  obtain ⟨hl, hv⟩ := hv
  refine ⟨by simp; omega, rfl, fun t => ?_⟩
  simp only [envOf, Array.getD_eq_getD_getElem?, List.getD_eq_getElem?_getD]
  rw [Array.getElem?_append]
  split
  · rename_i hlt
    rw [List.getElem?_eq_getElem (by omega), Array.getElem?_eq_getElem hlt]
    exact hv t _ _ (List.getElem?_eq_getElem (by omega)) (Array.getElem?_eq_getElem hlt)
  · rename_i hge
    rw [List.getElem?_eq_none (by omega)]
    simp only [Array.getElem?_replicate]
    split <;> exact .undef _ _

/-- What the result variables hold at the end. -/
def ARes (P : Program) (h : AHeap) (env : Env) : ResultVar → Value → Prop
  | .tmp t, v => v = env t
  | .cell a t, v => ∃ (k off ver : Nat) (o : AObj) (d : TypeDesc), env a = .pointer (some ⟨k, off, some ver⟩) ∧ h[k]? = some o ∧ o.cells.length = ver ∧ P.underlying t = some d ∧
      ((aggD d = false ∧ o.cells[off]? = some v) ∨
        (aggD d = true ∧ ∃ (i : TypeInfo) (vs : List Value), P.info? t = some i ∧ i.size = vs.length ∧ (o.cells.drop off).take vs.length = vs ∧ v = .agg vs.toArray))

def resS (tmps : Array Value) : ResultVar → Sem Value
  | .tmp t => pure (tmps.getD t undef)
  | .cell a t => do loadVar t (← asAddr (tmps.getD a undef))

theorem results_eq (fn : Func) (tmps : Array Value) : results fn tmps = (do
    let vs ← fn.results.mapM (resS tmps)
    pure (if h : vs.size = 1 then vs[0] else .tuple vs)) := by
  unfold results resS
  rfl

theorem ares_run {P : Program} {m h n env a w} (hr : Rel m h w) (he : EnvRel m h n env a) {rv : ResultVar} {v : Value} (hv : ARes P h env rv v) :
    ∃ r, (resS a.tmps rv).run P w = .ok r w ∧ VRel m h v r := by
  cases rv with
  | tmp t => simp only [ARes] at hv; subst hv; exact ⟨_, rfl, he.vals t⟩
  | cell x t =>
    obtain ⟨k, off, ver, o, d, hx, ho, hver, hu, hv⟩ := hv
    have hp := he.vals x
    rw [hx] at hp
    obtain ⟨l, hl, hpe⟩ := hp.pointer_inv ho hver
    rcases hv with ⟨hd, hv⟩ | ⟨hd, i, vs, hi, hsz, hv, rfl⟩
    · obtain ⟨r, h1, h2⟩ := hr.cell ho hl hv
      refine ⟨r, ?_, h2⟩
      simp [resS, hpe, asAddr, loadVar, run_isAgg hu, hd, h1]
    · have hcell : ∀ j (hj : j < vs.length), ∃ r, w.cell? ⟨l.block, l.base + off + j, none⟩ = some r ∧ VRel m h vs[j] r := fun j hj => by
        have : o.cells[off + j]? = some vs[j] := by
          have h1 : ((o.cells.drop off).take vs.length)[j]? = vs[j]? := by rw [hv]
          rw [List.getElem?_take, if_pos hj, List.getElem?_drop] at h1
          rw [h1, List.getElem?_eq_getElem hj]
        obtain ⟨r, h1, h2⟩ := hr.cell ho hl this
        exact ⟨r, by rw [Nat.add_assoc]; exact h1, h2⟩
      let f : Nat → Value := fun j => (w.cell? ⟨l.block, l.base + off + j, none⟩).getD undef
      have hrun := run_loadCells (P := P) w ⟨l.block, l.base + off, none⟩ vs.length f (fun j hj => by
        obtain ⟨r, h1, _⟩ := hcell j hj
        rw [Addr.add_lit]
        simp [f, h1])
      refine ⟨.agg ((List.range vs.length).map f).toArray, ?_, ?_⟩
      · simp only [resS, hpe, asAddr, loadVar, Sem.run_bind, Sem.run_pure, Result.andThen_ok, run_isAgg hu, hd, sizeOf, typeInfo, if_true]
        simp [hi, hsz, hrun]
      · refine .agg (by simp) fun j h1 h2 => ?_
        simp only [List.size_toArray] at h1
        obtain ⟨r, g1, g2⟩ := hcell j h1
        simpa [f, g1] using g2

def AResL (P : Program) (h : AHeap) (env : Env) : List ResultVar → List Value → Prop
  | [], [] => True
  | rv :: rest, v :: vs => ARes P h env rv v ∧ AResL P h env rest vs
  | _, _ => False

theorem aresL_run {P : Program} {m h n env a w} (hr : Rel m h w) (he : EnvRel m h n env a) : ∀ (rvs : List ResultVar) (vs : List Value), AResL P h env rvs vs →
    ∃ rs : List Value, (rvs.mapM (resS a.tmps)).run P w = Result.ok rs w ∧ rs.length = vs.length ∧ ∀ (i : Nat) (v r : Value), vs[i]? = some v → rs[i]? = some r → VRel m h v r
  | [], [], _ => ⟨[], by simp, rfl, by simp⟩
  | [], _ :: _, hv => hv.elim
  | _ :: _, [], hv => hv.elim
  | rv :: rest, v :: vs, hv => by
    obtain ⟨r, h1, h2⟩ := ares_run hr he hv.1
    obtain ⟨rs, h3, h4, h5⟩ := aresL_run hr he rest vs hv.2
    refine ⟨r :: rs, ?_, by simp [h4], fun i v' r' e1 e2 => ?_⟩
    · rw [List.mapM_cons]
      simp only [Sem.run_bind, Sem.run_pure, Result.andThen_ok, h1, h3]
    · cases i with
      | zero => simp at e1 e2; subst e1 e2; exact h2
      | succ i => exact h5 i v' r' (by simpa using e1) (by simpa using e2)

def packR : List Value → Value
  | [v] => v
  | vs => .tuple vs.toArray

/-- The contract of a function out of the abstract wp of its body. -/
theorem tri_of_body {P : Program} {f : FuncId} {fn : Func} {c : Code} {args : List Value} {h : AHeap} {R : Value → AHeap → Prop}
    (hf : P.funcs[f]? = some fn) (hb : fn.body = some c) (hc : callB P f = true) (hn : args.length ≤ fn.ntmps)
    (ha : AWp P fn.ntmps c (fun e env' h' => (e = .ret ∨ e = .normal) ∧ ∃ vs, AResL P h' env' fn.results.toList vs ∧ R (packR vs) h') (envOf args) h) : Tri P f args h R := by
  refine ⟨hc, fun m w rs hr hvs => calls_of_wp hf hb (wp_mono (ha m w _ hr (envRel_of hvs hn)) ?_)⟩
  rintro e a' w' ⟨m', env', h', r1, s1, e1, he, vs, hres, hR⟩
  obtain ⟨rs', g1, g2, g3⟩ := aresL_run (P := P) r1 e1 _ _ hres
  have hrun : ∃ r, (results fn a'.tmps).run P w' = .ok r w' ∧ VRel m' h' (packR vs) r := by
    rw [results_eq, show fn.results = fn.results.toList.toArray by simp, List.mapM_toArray]
    simp only [Sem.run_bind, Sem.run_map, g1, Result.andThen_ok, Sem.run_pure, List.size_toArray]
    have hg : ∀ v : Value, vs = [v] → ∃ r, rs' = [r] ∧ VRel m' h' v r := fun v hv => by
      subst hv
      match rs', g2, g3 with
      | [r], _, g3 => exact ⟨r, rfl, g3 0 v r rfl rfl⟩
    by_cases h1 : vs.length = 1
    · obtain ⟨v, rfl⟩ := List.length_eq_one_iff.1 h1
      obtain ⟨r, rfl, hv⟩ := hg v rfl
      exact ⟨r, by simp, hv⟩
    · have hp : packR vs = .tuple vs.toArray := by
        match vs, h1 with
        | [], _ => rfl
        | [_], h1 => exact absurd rfl h1
        | _ :: _ :: _, _ => rfl
      refine ⟨.tuple rs'.toArray, by simp [show ¬ rs'.length = 1 by omega], ?_⟩
      rw [hp]
      refine .tuple (by simp [g2]) fun i q1 q2 => ?_
      simp only [List.size_toArray] at q1 q2
      simp only [List.getElem_toArray]
      exact g3 i _ _ (List.getElem?_eq_getElem q1) (List.getElem?_eq_getElem q2)
  obtain ⟨r, h1, h2⟩ := hrun
  rcases he with rfl | rfl
  · exact ⟨e1.defers, r, h1, _, r, m', h', rfl, r1, s1, h2, hR⟩
  · exact ⟨e1.defers, r, h1, _, r, m', h', rfl, r1, s1, h2, hR⟩

end Go.Am
