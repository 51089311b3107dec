/-
  The abstract heap: what this claim needs of it. General: no program is named.
-/
import Derived.Test.YtfnopalingnilaaAmG1
namespace Go.Am
set_option linter.unusedSimpArgs false
set_option linter.unusedVariables false
open Go.RowKit

theorem getD_both {listed : Array Bool} {i : Nat} (h : listed.getD i true = false) : listed.getD i false = false := by
  by_cases h' : i < listed.size <;> simp [h'] at h ⊢
  exact h
theorem getD_in {listed : Array Bool} {i : Nat} (hi : i < listed.size) (h : listed.getD i false = false) : listed.getD i true = false := by
  simp [hi] at h ⊢; exact h
theorem getD_replicate_false (m j : Nat) : (Array.replicate m false).getD j false = false := by
  by_cases h' : j < m <;> simp [h']

/-- One operation of such a region: its value, and the blocks that it makes. -/
def DRun (P : Program) (ops : Array Oper) (K : Env → AHeap → Prop) : List Oper → Env → AHeap → Prop
  | [], env, h => K env h
  | o :: os, env, h =>
    (wantedA ops env o = some true ∧ ∃ v g, AOp P o (fun v' h' => v' = v ∧ h' = h ++ g) env h ∧ Within (h ++ g).length v ∧ (∀ x ∈ g, ∀ u ∈ x.cells, Within (h ++ g).length u) ∧
      DRun P ops K os (env.put o.dst v) (h ++ g)) ∨
    (wantedA ops env o = some false ∧ DRun P ops K os (env.put o.dst undef) h)

/-- Who writes a slot that another one names stands in an order with it. -/
def depOk (ops : Array Oper) : Bool :=
  (List.range ops.size).all fun i =>
    match ops[i]? with
    | none => true
    | some oi =>
      oi.after.all (fun e => !Region.binds .any e || decide (e.on < i)) &&
      (List.range ops.size).all fun j =>
        match ops[j]? with
        | none => true
        | some oj =>
          match oj.dst with
          | none => true
          | some d =>
            if j == i then !(oi.looksAt ops).contains d
            else if (oi.looksAt ops).contains d || oi.dst == some d then
              (if j < i then oi.after.any (fun e => Region.binds .any e && e.on == j) else oj.after.any (fun e => Region.binds .any e && e.on == i))
            else true

theorem depOk_lt {ops : Array Oper} (h : depOk ops = true) {i : Nat} {oi : Oper} (hi : ops[i]? = some oi) : ∀ e ∈ oi.after, Region.binds .any e = true → e.on < i := by
  have hlt := (Array.getElem?_eq_some_iff.1 hi).1
  have := List.all_eq_true.1 h i (List.mem_range.2 hlt)
  simp only [hi, Bool.and_eq_true] at this
  intro e he hb
  have h1 := Array.all_eq_true'.1 this.1 e he
  simpa [hb] using h1

theorem depOk_spec {ops : Array Oper} (h : depOk ops = true) {i j : Nat} {oi oj : Oper} {d : Tmp} (hi : ops[i]? = some oi) (hj : ops[j]? = some oj) (hd : oj.dst = some d)
    (hl : d ∈ oi.looksAt ops ∨ oi.dst = some d) (hne : j ≠ i) :
    (j < i ∧ ∃ e ∈ oi.after, Region.binds .any e = true ∧ e.on = j) ∨ (i < j ∧ ∃ e ∈ oj.after, Region.binds .any e = true ∧ e.on = i) := by
  have hlt := (Array.getElem?_eq_some_iff.1 hi).1
  have hltj := (Array.getElem?_eq_some_iff.1 hj).1
  have := List.all_eq_true.1 h i (List.mem_range.2 hlt)
  simp only [hi, Bool.and_eq_true] at this
  have := List.all_eq_true.1 this.2 j (List.mem_range.2 hltj)
  have hne' : (j == i) = false := by simpa using hne
  have hc : ((oi.looksAt ops).contains d || oi.dst == some d) = true := by
    rcases hl with hl | hl
    · simp [hl]
    · simp [hl]
  simp only [hj, hd, hne', Bool.false_eq_true, if_false, hc, if_true] at this
  by_cases hji : j < i
  · rw [if_pos hji] at this
    obtain ⟨e, he, hb⟩ := Array.any_eq_true'.1 this
    simp only [Bool.and_eq_true, beq_iff_eq] at hb
    exact .inl ⟨hji, e, he, hb.1, hb.2⟩
  · rw [if_neg hji] at this
    obtain ⟨e, he, hb⟩ := Array.any_eq_true'.1 this
    simp only [Bool.and_eq_true, beq_iff_eq] at hb
    exact .inr ⟨by omega, e, he, hb.1, hb.2⟩

theorem depOk_self {ops : Array Oper} (h : depOk ops = true) {i : Nat} {oi : Oper} {d : Tmp} (hi : ops[i]? = some oi) (hd : oi.dst = some d) : d ∉ oi.looksAt ops := by
  have hlt := (Array.getElem?_eq_some_iff.1 hi).1
  have := List.all_eq_true.1 h i (List.mem_range.2 hlt)
  simp only [hi, Bool.and_eq_true] at this
  have := List.all_eq_true.1 this.2 i (List.mem_range.2 hlt)
  simpa [hi, hd] using this

/-- The values of slots when the operations of a set have run. -/
def dval (dst : Nat → Option Tmp) (V : Nat → Value) (env0 : Env) (p : Nat → Bool) : Nat → Env
  | 0 => env0
  | i + 1 => if p i then (dval dst V env0 p i).put (dst i) (V i) else dval dst V env0 p i

section
variable {dst : Nat → Option Tmp} {V : Nat → Value} {env0 : Env}

theorem Env.put_ne {env : Env} {d : Option Tmp} {v : Value} {t : Tmp} (h : d ≠ some t) : env.put d v t = env t := by
  cases d with
  | none => rfl
  | some x => simp only [Env.put]; rw [if_neg (fun e => h (by rw [e]))]

theorem Env.put_eq {env : Env} {v : Value} {t : Tmp} : env.put (some t) v t = v := by simp [Env.put]

theorem dval_agree {p q : Nat → Bool} {t : Tmp} : ∀ n, (∀ j, j < n → dst j = some t → p j = q j) → dval dst V env0 p n t = dval dst V env0 q n t
  | 0, _ => rfl
  | n + 1, h => by
    have ih := dval_agree n (fun j hj hd => h j (by omega) hd)
    simp only [dval]
    by_cases hd : dst n = some t
    · rw [h n (by omega) hd]
      split
      · rw [hd, Env.put_eq, Env.put_eq]
      · exact ih
    · split <;> split <;> simp only [Env.put_ne hd, ih]

theorem dval_last {p : Nat → Bool} {t : Tmp} {i : Nat} (hd : dst i = some t) (hp : p i = true) : ∀ n, i < n → (∀ j, i < j → j < n → dst j = some t → p j = false) → dval dst V env0 p n t = V i
  | 0, hi, _ => by omega
  | n + 1, hi, h => by
    simp only [dval]
    by_cases hin : i = n
    · subst hin
      rw [if_pos hp, hd, Env.put_eq]
    · have ih := dval_last hd hp n (by omega) (fun j h1 h2 h3 => h j h1 (by omega) h3)
      by_cases hdn : dst n = some t
      · rw [h n (by omega) (by omega) hdn]
        simpa using ih
      · split
        · rw [Env.put_ne hdn, ih]
        · exact ih

theorem dval_prefix {i : Nat} {t : Tmp} : ∀ n, i ≤ n → dval dst V env0 (fun j => decide (j < i)) n t = dval dst V env0 (fun _ => true) i t
  | 0, h => by
    have : i = 0 := by omega
    subst this; rfl
  | n + 1, h => by
    by_cases hin : i = n + 1
    · subst hin
      exact dval_agree _ fun j hj _ => by simp [hj]
    · simp only [dval]
      rw [if_neg (by simp; omega)]
      exact dval_prefix n (by omega)
end

/-- The run in the text's order, as functions of the operation's number. -/
def RunAt (P : Program) (ops : Array Oper) (dst : Nat → Option Tmp) (V : Nat → Value) (env0 : Env) (H : Nat → AHeap) (i : Nat) (o : Oper) : Prop :=
  ∃ g, H (i + 1) = H i ++ g ∧ (∀ x ∈ g, ∀ u ∈ x.cells, Within (H (i + 1)).length u) ∧ Within (H (i + 1)).length (V i) ∧
    ((wantedA ops (dval dst V env0 (fun _ => true) i) o = some true ∧ AOp P o (fun v' h' => v' = V i ∧ h' = H (i + 1)) (dval dst V env0 (fun _ => true) i) (H i)) ∨
     (wantedA ops (dval dst V env0 (fun _ => true) i) o = some false ∧ V i = undef ∧ g = []))

def RunL (P : Program) (ops : Array Oper) (K : Env → AHeap → Prop) (l : List Oper) (env : Env) (h : AHeap) : Prop :=
  ∃ (V : Nat → Value) (H : Nat → AHeap), H 0 = h ∧ K (dval (fun j => (l[j]?).bind (·.dst)) V env (fun _ => true) l.length) (H l.length) ∧
    ∀ (i : Nat) (o : Oper), l[i]? = some o → RunAt P ops (fun j => (l[j]?).bind (·.dst)) V env H i o

theorem dval_shift {dst : Nat → Option Tmp} {V : Nat → Value} {env0 : Env} : ∀ n, dval dst V env0 (fun _ => true) (n + 1) = dval (fun j => dst (j + 1)) (fun j => V (j + 1)) (env0.put (dst 0) (V 0)) (fun _ => true) n
  | 0 => rfl
  | n + 1 => by rw [dval, dval_shift n]; rfl

theorem drun_run {P : Program} {ops : Array Oper} {K : Env → AHeap → Prop} : ∀ (l : List Oper) (env : Env) (h : AHeap), DRun P ops K l env h → RunL P ops K l env h
  | [], env, h, hq => ⟨fun _ => undef, fun _ => h, rfl, hq, fun i o hi => by simp at hi⟩
  | o :: os, env, h, hq => by
    have key : ∀ (v : Value) (g : List AObj), DRun P ops K os (env.put o.dst v) (h ++ g) → (∀ x ∈ g, ∀ u ∈ x.cells, Within (h ++ g).length u) → Within (h ++ g).length v →
        ((wantedA ops env o = some true ∧ AOp P o (fun v' h' => v' = v ∧ h' = h ++ g) env h) ∨ (wantedA ops env o = some false ∧ v = undef ∧ g = [])) → RunL P ops K (o :: os) env h := fun v g hd hg hv hw => by
      obtain ⟨V, H, z, kk, st⟩ := drun_run os _ _ hd
      refine ⟨fun j => match j with | 0 => v | j + 1 => V j, fun j => match j with | 0 => h | j + 1 => H j, rfl, ?_, fun i x hi => ?_⟩
      · simp only [List.length_cons]
        rw [dval_shift]
        exact kk
      · cases i with
        | zero =>
          simp only [List.getElem?_cons_zero, Option.some.injEq] at hi
          subst hi
          refine ⟨g, z, ?_, ?_, ?_⟩
          · simp only [z]; exact hg
          · simp only [z]; exact hv
          · simp only [z]; exact hw
        | succ i =>
          have := st i x (by simpa using hi)
          unfold RunAt at this ⊢
          rw [dval_shift]
          exact this
    rcases hq with ⟨hw, v, g, ho, hv, hg, hd⟩ | ⟨hw, hd⟩
    · exact key v g hd hg hv (.inl ⟨hw, ho⟩)
    · exact key undef [] (by simpa using hd) (by simp) (.tuple fun i h1 => by simp at h1) (.inr ⟨hw, rfl, rfl⟩)

theorem run_prefix {H : Nat → AHeap} {N : Nat} (st : ∀ i, i < N → ∃ g, H (i + 1) = H i ++ g) (i : Nat) : ∀ n, i ≤ n → n ≤ N → ∃ g, H n = H i ++ g
  | 0, h, _ => by
    have : i = 0 := by omega
    subst this
    exact ⟨[], by simp⟩
  | n + 1, h, hN => by
    by_cases e : i = n + 1
    · subst e; exact ⟨[], by simp⟩
    · obtain ⟨g, hg⟩ := run_prefix st i n (by omega) (by omega)
      obtain ⟨g', hg'⟩ := st n (by omega)
      exact ⟨g ++ g', by rw [hg', hg, List.append_assoc]⟩

theorem VRel.restrict {m m' : Map} {h h' : AHeap} {v r : Value} (hv : VRel m h v r) (hw : Within h'.length v)
    (hm : ∀ (k : Nat) (o' : AObj), h'[k]? = some o' → m' k = m k ∧ h[k]? = some o') : VRel m' h' v r :=
  VRel.ren (.id hw (fun _ _ => rfl)) hv hw fun k o' hk => ⟨(hm k o' hk).1, o', (hm k o' hk).2, rfl, rfl, rfl⟩

/-- The state in the middle of some order: the operations of 'listed' have run. -/
structure DInv (n : Nat) (ops : Array Oper) (V : Nat → Value) (H : Nat → AHeap) (env0 : Env) (m0 : Map) (w0 : World) (listed : Array Bool) (m : Map) (a : Act) (w : World) : Prop where
  rel : Rel m (H ops.size) w
  ext0 : ∀ k, k < (H 0).length → (∀ l, m0 k = some l → m k = some l) ∧ (m0 k = none → m k = none)
  dom : ∀ k l, (H 0).length ≤ k → m k = some l → ∀ i, i < ops.size → (H i).length ≤ k → k < (H (i + 1)).length → listed.getD i false = true
  size : w0.heap.size ≤ w.heap.size
  os : w.os = w0.os
  tape : w.tape = w0.tape
  output : w.output = w0.output
  frame : ∀ b, b < w0.heap.size → (∀ (k : Nat) (o : AObj) (l : Loc), (H 0)[k]? = some o → m0 k = some l → o.mine = true → 0 < o.cells.length → l.block ≠ b) → w.heap[b]? = w0.heap[b]?
  own : ∀ (k : Nat) (o : AObj) (l : Loc), (H ops.size)[k]? = some o → m k = some l → 0 < o.cells.length →
    w0.heap.size ≤ l.block ∨ ∃ k0 o0 l0, (H 0)[k0]? = some o0 ∧ m0 k0 = some l0 ∧ 0 < o0.cells.length ∧ l0.block = l.block ∧ (o.mine = true → o0.mine = true)
  env : EnvRel m (H ops.size) n (dval (fun j => (ops[j]?).bind (·.dst)) V env0 (fun j => listed.getD j false) ops.size) a
  lsize : listed.size = ops.size
  closed : ∀ (i : Nat) (o : Oper), ops[i]? = some o → listed.getD i false = true → ∀ e ∈ o.after, Region.binds .any e = true → listed.getD e.on false = true

theorem wantedA_spec2 {m h} {tmps : Array Value} {env : Env} {ops : Array Oper} {o : Oper} {b : Bool}
    (he : ∀ d, d ∈ o.looksAt ops → VRel m h (env d) (tmps.getD d undef)) (hw : wantedA ops env o = some b) :
    Region.wanted o (yielded ops tmps) = b := by
  let env' : Env := fun t => match o.guard with
    | some (j, _) => if (ops[j]?).bind (·.dst) = some t then env t else undef
    | none => undef
  unfold wantedA at hw
  unfold Region.wanted
  split at hw <;> rename_i hg <;> simp only [hg]
  · simpa using hw
  · rename_i j want
    unfold yielded
    split at hw <;> rename_i hd <;> simp only [hd]
    · simp only [Option.bind_none, Option.some.injEq] at hw ⊢; subst hw; rfl
    · rename_i d
      have hv := he d (by simp [Oper.looksAt, hg, hd])
      simp only [Option.bind_some]
      split at hw <;> rename_i he
      · rename_i x
        rw [he] at hv
        have hb := hv.bool
        cases ht : tmps[d]? with
        | none => simp [Array.getD_eq_getD_getElem?, ht, undef] at hb
        | some y =>
          have : y = .bool x := by simpa [Array.getD_eq_getD_getElem?, ht] using hb
          subst this
          simp only [Option.some.injEq] at hw
          subst hw
          cases x <;> cases want <;> rfl
      · rw [he] at hv
        simp only [Option.some.injEq] at hw; subst hw
        cases ht : tmps[d]? with
        | none => rfl
        | some y =>
          have e : tmps.getD d undef = y := by simp [Array.getD_eq_getD_getElem?, ht]
          rw [e] at hv
          cases y <;> first | rfl | cases hv
      · cases hw

theorem depOk_listed {n : Nat} {ops : Array Oper} {V : Nat → Value} {H : Nat → AHeap} {env0 : Env} {m0 : Map} {w0 : World} {listed : Array Bool} {m : Map} {a : Act} {w : World}
    (hd : depOk ops = true) (inv : DInv n ops V H env0 m0 w0 listed m a w) {i : Nat} {oi : Oper} (hi : ops[i]? = some oi) (hun : listed.getD i false = false)
    (hdeps : ∀ e ∈ oi.after, Region.binds .any e = true → listed.getD e.on false = true) {t : Tmp} (hl : t ∈ oi.looksAt ops ∨ oi.dst = some t) {j : Nat} (hj : j < ops.size)
    (hjd : (ops[j]?).bind (·.dst) = some t) (hne : j ≠ i) : listed.getD j false = decide (j < i) := by
  have hoj : ops[j]? = some ops[j] := Array.getElem?_eq_getElem hj
  rw [hoj] at hjd
  simp only [Option.bind_some] at hjd
  rcases depOk_spec hd hi hoj hjd hl hne with ⟨h1, e, he, hb, hon⟩ | ⟨h1, e, he, hb, hon⟩
  · rw [← hon, hdeps e he hb]
    simp; omega
  · have : decide (j < i) = false := by simp; omega
    rw [this]
    cases hlj : listed.getD j false with
    | false => rfl
    | true =>
      have := inv.closed j _ hoj hlj e he hb
      rw [hon, hun] at this
      cases this

theorem looksAt_operands {ops : Array Oper} {o : Oper} {t : Tmp} (h : Operand.tmp t ∈ o.op.operands.toList) : t ∈ o.looksAt ops := by
  unfold Oper.looksAt
  exact List.mem_append.2 (.inl (List.mem_filterMap.2 ⟨_, h, rfl⟩))

/-- One operation more. -/
theorem DInv.step {P : Program} {n : Nat} {ops : Array Oper} {V : Nat → Value} {H : Nat → AHeap} {env0 : Env} {m0 : Map} {w0 : World} {listed : Array Bool} {m : Map} {a : Act} {w : World}
    (hd : depOk ops = true) (hin : dstsIn n ops.toList = true) (hst : ∀ (i : Nat) (o : Oper), ops[i]? = some o → ∃ g, H (i + 1) = H i ++ g ∧ (∀ x ∈ g, ∀ u ∈ x.cells, Within (H (i + 1)).length u) ∧ Within (H (i + 1)).length (V i))
    (hc0 : Closed (H 0)) (hw0 : ∀ t, Within (H 0).length (env0 t))
    (inv : DInv n ops V H env0 m0 w0 listed m a w) {i : Nat} {oi : Oper} (hi : ops[i]? = some oi) (hri : RunAt P ops (fun j => (ops[j]?).bind (·.dst)) V env0 H i oi) (hun : listed.getD i false = false)
    (hdeps : ∀ e ∈ oi.after, Region.binds .any e = true → listed.getD e.on false = true) {K : Act → World → Prop} {Q : Exit → Act → World → Prop}
    (hK : ∀ m' a' w', DInv n ops V H env0 m0 w0 (listed.setIfInBounds i true) m' a' w' → K a' w') : wpOp P ops Q i K a w := by
  have hlt := (Array.getElem?_eq_some_iff.1 hi).1
  have hsteps : ∀ j, j < ops.size → ∃ g, H (j + 1) = H j ++ g := fun j hj => by
    obtain ⟨g, hg, _⟩ := hst j _ (Array.getElem?_eq_getElem hj)
    exact ⟨g, hg⟩
  have pre : ∀ {p q : Nat}, p ≤ q → q ≤ ops.size → ∃ g, H q = H p ++ g := fun {p q} h1 h2 => run_prefix hsteps p q h1 h2
  have get : ∀ {p q : Nat}, p ≤ q → q ≤ ops.size → ∀ {k : Nat}, k < (H p).length → (H q)[k]? = (H p)[k]? := fun {p q} h1 h2 {k} hk => by
    obtain ⟨g, hg⟩ := pre h1 h2
    rw [hg, List.getElem?_append_left hk]
  have len : ∀ {p q : Nat}, p ≤ q → q ≤ ops.size → (H p).length ≤ (H q).length := fun {p q} h1 h2 => by
    obtain ⟨g, hg⟩ := pre h1 h2
    rw [hg]; simp
  have hclosed : ∀ p, p ≤ ops.size → Closed (H p) := fun p => by
    induction p with
    | zero => exact fun _ => hc0
    | succ p ih =>
      intro hp k o hk u hu
      obtain ⟨g, hg, hcl, _⟩ := hst p _ (Array.getElem?_eq_getElem (by omega))
      rw [hg] at hk
      rw [List.getElem?_append] at hk
      split at hk
      · exact (ih (by omega) k o hk u hu).mono (len (by omega) hp)
      · exact hcl o (List.mem_of_getElem? hk) u hu
  have henvW : ∀ p, p ≤ ops.size → ∀ t, Within (H p).length (dval (fun j => (ops[j]?).bind (·.dst)) V env0 (fun _ => true) p t) := fun p => by
    induction p with
    | zero => exact fun _ t => hw0 t
    | succ p ih =>
      intro hp t
      obtain ⟨g, hg, _, hv⟩ := hst p _ (Array.getElem?_eq_getElem (by omega))
      simp only [dval, if_true]
      by_cases e : (ops[p]?).bind (·.dst) = some t
      · rw [e, Env.put_eq]; exact hv
      · rw [Env.put_ne e]; exact (ih (by omega) t).mono (len (by omega) hp)
  obtain ⟨g, hg, hcl, hvw, hrun⟩ := hri
  have hni : i + 1 ≤ ops.size := hlt
  -- the map below the operation's heap
  let mi : Map := fun k => if k < (H i).length then m k else none
  have hmi : ∀ {k}, k < (H i).length → mi k = m k := fun {k} hk => by simp [mi, hk]
  have hmi' : ∀ {k l}, mi k = some l → k < (H i).length ∧ m k = some l := fun {k l} hk => by
    simp only [mi] at hk
    split at hk
    · exact ⟨‹_›, hk⟩
    · cases hk
  have hrestr : ∀ (k : Nat) (o' : AObj), (H i)[k]? = some o' → mi k = m k ∧ (H ops.size)[k]? = some o' := fun k o' hk => by
    have h1 := (List.getElem?_eq_some_iff.1 hk).1
    exact ⟨hmi h1, by rw [get (by omega) (Nat.le_refl _) h1]; exact hk⟩
  have hrel : Rel mi (H i) w := by
    refine ⟨fun k o l hk hl hp => ?_, fun k1 k2 o1 o2 l1 l2 g1 g2 e1 e2 hne hm p1 p2 => ?_, hclosed i (by omega)⟩
    · obtain ⟨q1, q2⟩ := hrestr k o hk
      rw [q1] at hl
      obtain ⟨c, ty, fz, hb, hc, hm⟩ := inv.rel.holds k o l q2 hl hp
      refine ⟨c, ty, fz, hb, fun j hj => ?_, hm⟩
      obtain ⟨r, r1, r2⟩ := hc j hj
      exact ⟨r, r1, r2.restrict (hclosed i (by omega) k o hk _ (by simp)) hrestr⟩
    · exact inv.rel.sep k1 k2 o1 o2 l1 l2 (hrestr k1 o1 g1).2 (hrestr k2 o2 g2).2 (hmi' e1).2 (hmi' e2).2 hne hm p1 p2
  have hag : ∀ {t : Tmp}, t ∈ oi.looksAt ops → dval (fun j => (ops[j]?).bind (·.dst)) V env0 (fun j => listed.getD j false) ops.size t =
      dval (fun j => (ops[j]?).bind (·.dst)) V env0 (fun _ => true) i t := fun {t} ht => by
    rw [← dval_prefix ops.size (by omega)]
    refine dval_agree _ fun j hj hjd => ?_
    by_cases hne : j = i
    · subst hne
      have := depOk_self hd hi (by simpa [hi] using hjd)
      exact absurd ht this
    · exact depOk_listed hd inv hi hun hdeps (.inl ht) hj hjd hne
  have hval : ∀ t, t ∈ oi.looksAt ops → VRel mi (H i) (dval (fun j => (ops[j]?).bind (·.dst)) V env0 (fun _ => true) i t) (a.tmps.getD t undef) := fun t ht => by
    have := inv.env.vals t
    rw [hag ht] at this
    exact this.restrict (henvW i (by omega) t) hrestr
  -- the end, for both ways
  have fin : ∀ (r : Value) (m' : Map) (w' : World), Rel m' (H (i + 1)) w' → Step mi (H i) w m' (H (i + 1)) w' → VRel m' (H (i + 1)) (V i) r → K (a.put oi.dst r) w' := fun r m' w' r1 s1 v1 => by
    let m2 : Map := fun k => if k < (H (i + 1)).length then m' k else m k
    have hm2 : ∀ {k}, k < (H (i + 1)).length → m2 k = m' k := fun {k} hk => by simp [m2, hk]
    have hm2' : ∀ {k}, ¬ k < (H (i + 1)).length → m2 k = m k := fun {k} hk => by simp [m2, hk]
    have old : ∀ {k l}, k < (H i).length → m k = some l → m' k = some l := fun {k l} hk hl => by
      have hlt1 : k < (H (i + 1)).length := Nat.lt_of_lt_of_le hk (len (by omega) hni)
      have hg1 : (H i)[k]? = some ((H i)[k]) := List.getElem?_eq_getElem hk
      obtain ⟨o', p1, p2, p3, p4, p5, p6⟩ := s1.ext k _ hg1
      obtain ⟨l', hl', he⟩ := p5 l (by rw [hmi hk]; exact hl)
      have : (H (i + 1))[k]? = (H i)[k]? := get (by omega) hni hk
      rw [this, hg1] at p1
      cases p1
      rw [hl', he rfl]
    have oldn : ∀ {k}, k < (H i).length → m k = none → m' k = none := fun {k} hk hl => by
      obtain ⟨o', p1, p2, p3, p4, p5, p6⟩ := s1.ext k _ (List.getElem?_eq_getElem hk)
      exact p6 (by rw [hmi hk]; exact hl)
    have hnew : ∀ {k}, (H i).length ≤ k → k < (H (i + 1)).length → m k = none := fun {k} h1 h2 => by
      cases hmk : m k with
      | none => rfl
      | some l =>
        have := inv.dom k l (Nat.le_trans (len (Nat.zero_le _) (by omega)) h1) hmk i hlt h1 h2
        rw [hun] at this; cases this
    have ex1 : Ext m' (H (i + 1)) m2 (H ops.size) := fun k o hk => by
      have h1 := (List.getElem?_eq_some_iff.1 hk).1
      exact ⟨o, by rw [get hni (Nat.le_refl _) h1]; exact hk, Nat.le_refl _, rfl, rfl, fun l hl => ⟨l, by rw [hm2 h1]; exact hl, fun _ => rfl⟩⟩
    have ex2 : Ext m (H ops.size) m2 (H ops.size) := fun k o hk => by
      refine ⟨o, hk, Nat.le_refl _, rfl, rfl, fun l hl => ⟨l, ?_, fun _ => rfl⟩⟩
      by_cases h1 : k < (H (i + 1)).length
      · rw [hm2 h1]
        by_cases h2 : k < (H i).length
        · exact old h2 hl
        · rw [hnew (by omega) h1] at hl; cases hl
      · rw [hm2' h1]; exact hl
    have hkeep : ∀ {k : Nat} {o : AObj} {l : Loc}, ¬ k < (H (i + 1)).length → (H ops.size)[k]? = some o → m k = some l → 0 < o.cells.length → w'.heap[l.block]? = w.heap[l.block]? := fun {k o l} hk ho hl hp => by
      refine s1.frame _ (inv.rel.block_lt ho hl hp) fun k0 o0 l0 h0 hl0 hm0 hp0 => ?_
      obtain ⟨q1, q2⟩ := hmi' hl0
      exact inv.rel.sep k0 k o0 o l0 l (hrestr k0 o0 h0).2 ho q2 hl (by have := len (p := i) (q := i + 1) (by omega) hni; omega) hm0 hp0 hp
    refine hK m2 _ w' ⟨⟨fun k o l hk hl hp => ?_, fun k1 k2 o1 o2 l1 l2 g1 g2 e1 e2 hne hm p1 p2 => ?_, hclosed _ (Nat.le_refl _)⟩, fun k hk => ?_, fun k l hk hl j hj h1 h2 => ?_,
      Nat.le_trans inv.size s1.size, s1.os.trans inv.os, s1.tape.trans inv.tape, s1.output.trans inv.output, fun b hb hno => ?_, fun k o l hk hl hp => ?_, ⟨?_, ?_, fun t => ?_⟩, by simp [inv.lsize], fun j oj hj hlj e he hb => ?_⟩
    · by_cases h1 : k < (H (i + 1)).length
      · rw [hm2 h1] at hl
        rw [get hni (Nat.le_refl _) h1] at hk
        obtain ⟨c, ty, fz, hb, hc, hm⟩ := r1.holds k o l hk hl hp
        refine ⟨c, ty, fz, hb, fun j hj => ?_, hm⟩
        obtain ⟨r, q1, q2⟩ := hc j hj
        exact ⟨r, q1, q2.mono ex1⟩
      · rw [hm2' h1] at hl
        obtain ⟨c, ty, fz, hb, hc, hm⟩ := inv.rel.holds k o l hk hl hp
        refine ⟨c, ty, fz, by rw [hkeep h1 hk hl hp]; exact hb, fun j hj => ?_, hm⟩
        obtain ⟨r, q1, q2⟩ := hc j hj
        exact ⟨r, q1, q2.mono ex2⟩
    · have mixed : ∀ {k1 k2 : Nat} {o1 o2 : AObj} {l1 l2 : Loc}, k1 < (H (i + 1)).length → ¬ k2 < (H (i + 1)).length → (H ops.size)[k1]? = some o1 → (H ops.size)[k2]? = some o2 → m2 k1 = some l1 → m2 k2 = some l2 →
          (o1.mine = true ∨ o2.mine = true) → 0 < o1.cells.length → 0 < o2.cells.length → l1.block ≠ l2.block := fun {k1 k2 o1 o2 l1 l2} h1 h2 g1 g2 e1 e2 hm p1 p2 => by
        rw [hm2 h1] at e1; rw [hm2' h2] at e2
        rw [get hni (Nat.le_refl _) h1] at g1
        have hb2 := inv.rel.block_lt g2 e2 p2
        rcases s1.own k1 o1 l1 g1 e1 p1 with h3 | ⟨k0, o0, l0, a1, a2, a3, a4, a5⟩
        · omega
        · obtain ⟨q1, q2⟩ := hmi' a2
          have hne' : k0 ≠ k2 := by have := len (p := i) (q := i + 1) (by omega) hni; omega
          rw [← a4]
          rcases hm with hm | hm
          · exact inv.rel.sep k0 k2 o0 o2 l0 l2 (hrestr k0 o0 a1).2 g2 q2 e2 hne' (a5 hm) a3 p2
          · exact (inv.rel.sep k2 k0 o2 o0 l2 l0 g2 (hrestr k0 o0 a1).2 e2 q2 (Ne.symm hne') hm p2 a3).symm
      by_cases h1 : k1 < (H (i + 1)).length <;> by_cases h2 : k2 < (H (i + 1)).length
      · rw [hm2 h1] at e1; rw [hm2 h2] at e2
        rw [get hni (Nat.le_refl _) h1] at g1; rw [get hni (Nat.le_refl _) h2] at g2
        exact r1.sep k1 k2 o1 o2 l1 l2 g1 g2 e1 e2 hne hm p1 p2
      · exact mixed h1 h2 g1 g2 e1 e2 (.inl hm) p1 p2
      · exact (mixed h2 h1 g2 g1 e2 e1 (.inr hm) p2 p1).symm
      · rw [hm2' h1] at e1; rw [hm2' h2] at e2
        exact inv.rel.sep k1 k2 o1 o2 l1 l2 g1 g2 e1 e2 hne hm p1 p2
    · have hki : k < (H i).length := Nat.lt_of_lt_of_le hk (len (Nat.zero_le _) (by omega))
      have hki' : k < (H (i + 1)).length := Nat.lt_of_lt_of_le hk (len (Nat.zero_le _) hni)
      rw [hm2 hki']
      exact ⟨fun l hl => old hki ((inv.ext0 k hk).1 l hl), fun hn => oldn hki ((inv.ext0 k hk).2 hn)⟩
    · by_cases hij : i = j
      · subst hij
        simp [Array.getD_eq_getD_getElem?, inv.lsize, hlt]
      · rw [getD_set_ne false hij]
        by_cases h3 : k < (H (i + 1)).length
        · have hji : j < i := by
            rcases Nat.lt_or_ge j i with h4 | h4
            · exact h4
            · have := len (p := i + 1) (q := j) (by omega) (by omega)
              omega
          have h5 : k < (H i).length := Nat.lt_of_lt_of_le h2 (len (by omega) (by omega))
          rw [hm2 h3] at hl
          cases hmk : m k with
          | none => rw [oldn h5 hmk] at hl; cases hl
          | some l2 => exact inv.dom k l2 hk hmk j hj h1 h2
        · rw [hm2' h3] at hl
          exact inv.dom k l hk hl j hj h1 h2
    · rw [s1.frame b (Nat.lt_of_lt_of_le hb inv.size) fun k o l hk hl hm hp he => ?_, inv.frame b hb hno]
      obtain ⟨q1, q2⟩ := hmi' hl
      rcases inv.own k o l (hrestr k o hk).2 q2 hp with h3 | ⟨k0, o0, l0, a1, a2, a3, a4, a5⟩
      · omega
      · exact hno k0 o0 l0 a1 a2 (a5 hm) a3 (a4.trans he)
    · by_cases h1 : k < (H (i + 1)).length
      · rw [hm2 h1] at hl
        rw [get hni (Nat.le_refl _) h1] at hk
        rcases s1.own k o l hk hl hp with h3 | ⟨k0, o0, l0, a1, a2, a3, a4, a5⟩
        · exact .inl (Nat.le_trans inv.size h3)
        · obtain ⟨q1, q2⟩ := hmi' a2
          rcases inv.own k0 o0 l0 (hrestr k0 o0 a1).2 q2 a3 with h4 | ⟨k3, o3, l3, b1, b2, b3, b4, b5⟩
          · exact .inl (by omega)
          · exact .inr ⟨k3, o3, l3, b1, b2, b3, b4.trans a4, fun hm => b5 (a5 hm)⟩
      · rw [hm2' h1] at hl
        exact inv.own k o l hk hl hp
    · have := inv.env.size
      cases hdst : oi.dst <;> simp [Act.put, this]
    · have := inv.env.defers
      cases hdst : oi.dst <;> simp [Act.put, this]
    · have hdd : (ops[i]?).bind (·.dst) = oi.dst := by simp [hi]
      by_cases ht : oi.dst = some t
      · have hnew : dval (fun j => (ops[j]?).bind (·.dst)) V env0 (fun j => (listed.setIfInBounds i true).getD j false) ops.size t = V i := by
          refine dval_last (by simp [hi, ht]) (by simp [Array.getD_eq_getD_getElem?, inv.lsize, hlt]) _ hlt fun j h1 h2 h3 => ?_
          have := depOk_listed hd inv hi hun hdeps (.inr ht) h2 h3 (by omega)
          rw [getD_set_ne false (by omega), this]
          simp; omega
        rw [hnew]
        have hdn : t < n := by
          have := List.all_eq_true.1 hin oi (by rw [Array.mem_toList_iff]; exact Array.mem_of_getElem? hi)
          simp only [ht, Bool.and_eq_true, decide_eq_true_eq] at this
          exact this.1
        have : (a.put oi.dst r).tmps.getD t undef = r := by
          simp [Act.put, ht, Array.getD_eq_getD_getElem?, inv.env.size, hdn]
        rw [this]
        exact v1.mono ex1
      · have hsame : dval (fun j => (ops[j]?).bind (·.dst)) V env0 (fun j => (listed.setIfInBounds i true).getD j false) ops.size t = dval (fun j => (ops[j]?).bind (·.dst)) V env0 (fun j => listed.getD j false) ops.size t := by
          refine dval_agree _ fun j hj hjd => ?_
          have : i ≠ j := fun e => by subst e; simp [hi] at hjd; exact ht hjd
          exact getD_set_ne false this
        rw [hsame]
        have : (a.put oi.dst r).tmps.getD t undef = a.tmps.getD t undef := by
          cases hdst : oi.dst with
          | none => rfl
          | some d =>
            have hne : d ≠ t := fun e => ht (by rw [hdst, e])
            simp [Act.put, Array.getD_eq_getD_getElem?, Array.getElem?_setIfInBounds_ne hne]
        rw [this]
        exact (inv.env.vals t).mono ex2
    · by_cases hij : i = j
      · subst hij
        have : oj = oi := Option.some.inj (hj.symm.trans hi)
        subst this
        exact getD_set_true (hdeps e he hb)
      · rw [getD_set_ne false hij] at hlj
        exact getD_set_true (inv.closed j oj hj hlj e he hb)
  unfold wpOp
  simp only [hi]
  rcases hrun with ⟨hw, hop⟩ | ⟨hw, hv, hgn⟩
  · have hw' := wantedA_spec2 hval hw
    simp only [hw', if_true]
    refine .inl (Oper.wp_mono2 ?_ (hop mi w a hrel fun x hx => ?_))
    · rintro a1 w1 ⟨v, r, m1, h1, rfl, r1, s1, v1, rfl, rfl⟩
      exact fin r m1 w1 r1 s1 v1
    · have hok := List.all_eq_true.1 hin oi (by rw [Array.mem_toList_iff]; exact Array.mem_of_getElem? hi)
      simp only [Bool.and_eq_true] at hok
      have hx' := List.all_eq_true.1 hok.2 x hx
      cases x with
      | tmp t => exact hval t (looksAt_operands hx)
      | const v => exact .const _ _ hx'
      | global g => cases hx'
      | func f => exact .func rfl rfl (fun i h1 _ => by simp at h1) (fun i h1 _ => by simp at h1)
  · have hw' := wantedA_spec2 hval hw
    simp only [hw', Bool.false_eq_true, if_false]
    subst hgn
    rw [List.append_nil] at hg
    refine fin undef mi w (by rw [hg]; exact hrel) (by rw [hg]; exact Step.refl) (by rw [hv]; exact .undef _ _)

theorem countP_lt {p q : Nat → Bool} : ∀ (l : List Nat), (∀ x, q x = true → p x = true) → (∃ x ∈ l, p x = true ∧ q x = false) → l.countP q < l.countP p
  | [], _, ⟨_, hx, _⟩ => by simp at hx
  | y :: l, h, ⟨x, hx, h1, h2⟩ => by
    have hle : ∀ l : List Nat, l.countP q ≤ l.countP p := fun l => List.countP_mono_left fun x _ => h x
    simp only [List.countP_cons]
    rcases List.mem_cons.1 hx with rfl | hx
    · rw [if_pos h1, if_neg (by simp [h2])]
      have := hle l; omega
    · have := countP_lt l h ⟨x, hx, h1, h2⟩
      by_cases hq : q y = true
      · rw [if_pos hq, if_pos (h y hq)]; omega
      · rw [if_neg hq]; split <;> omega

def left (N : Nat) (listed : Array Bool) : Nat := (List.range N).countP fun i => !listed.getD i false

theorem ready_some {ops : Array Oper} {listed : Array Bool} (hs : listed.size = ops.size) (hd : depOk ops = true) :
    ∀ (i : Nat), i < ops.size → listed.getD i false = false → Region.ready .any ops listed ≠ [] := by
  intro i
  induction i using Nat.strongRecOn with
  | _ i ih =>
    intro hi hun hnil
    have hoi : ops[i]? = some ops[i] := Array.getElem?_eq_getElem hi
    by_cases hall : ∀ e ∈ ops[i].after, Region.binds .any e = true → listed.getD e.on false = true
    · have : i ∈ Region.ready .any ops listed := mem_ready.2 ⟨getD_in (by omega) hun, _, hoi, hall⟩
      rw [hnil] at this
      cases this
    · have ⟨e, he⟩ := Classical.not_forall.1 hall
      have ⟨he1, he2⟩ := Classical.not_imp.1 he
      have ⟨he3, he4⟩ := Classical.not_imp.1 he2
      have hlt := depOk_lt hd hoi e he1 he3
      exact ih e.on hlt (by omega) (by simpa using he4) hnil

/-- A region that draws its order: its text's order serves. -/
theorem awp_draw {P : Program} {n id : Nat} {l : List Oper} {Q : Exit → Env → AHeap → Prop} {env : Env} {h : AHeap} (hm : P.follows .mixedOrders = true)
    (hd : depOk l.toArray = true) (hin : dstsIn n l = true) (hr : DRun P l.toArray (Q .normal) l env h) : AWp P n (.region id l.toArray true) Q env h := by
  intro m w a hrel he
  obtain ⟨V, H, rfl, hQ, hst⟩ := drun_run l env h hr
  have hst' : ∀ (i : Nat) (o : Oper), (l.toArray)[i]? = some o → RunAt P l.toArray (fun j => ((l.toArray)[j]?).bind (·.dst)) V env H i o := fun i o hi => by
    simpa using hst i o (by simpa using hi)
  have hsz : l.toArray.size = l.length := by simp
  have hsteps : ∀ j, j < l.toArray.size → ∃ g, H (j + 1) = H j ++ g := fun j hj => by
    obtain ⟨g, hg, _⟩ := hst' j _ (Array.getElem?_eq_getElem hj)
    exact ⟨g, hg⟩
  obtain ⟨g0, hg0⟩ := run_prefix hsteps 0 l.toArray.size (by omega) (Nat.le_refl _)
  have hH : ∀ {k : Nat}, k < (H 0).length → (H l.toArray.size)[k]? = (H 0)[k]? := fun {k} hk => by rw [hg0, List.getElem?_append_left hk]
  have hHl : (H 0).length ≤ (H l.toArray.size).length := by rw [hg0]; simp
  let m1 : Map := fun k => if k < (H 0).length then m k else none
  have hm1 : ∀ {k}, k < (H 0).length → m1 k = m k := fun {k} hk => by simp [m1, hk]
  have hm1' : ∀ {k l}, m1 k = some l → k < (H 0).length ∧ m k = some l := fun {k l} hk => by
    simp only [m1] at hk
    split at hk
    · exact ⟨‹_›, hk⟩
    · cases hk
  have ex : Ext m (H 0) m1 (H l.toArray.size) := fun k o hk => by
    have h1 := (List.getElem?_eq_some_iff.1 hk).1
    exact ⟨o, by rw [hH h1]; exact hk, Nat.le_refl _, rfl, rfl, fun l hl => ⟨l, by rw [hm1 h1]; exact hl, fun _ => rfl⟩⟩
  have hback : ∀ {k o l1}, (H l.toArray.size)[k]? = some o → m1 k = some l1 → (H 0)[k]? = some o ∧ m k = some l1 := fun {k o l1} hk hl => by
    obtain ⟨h1, h2⟩ := hm1' hl
    exact ⟨by rw [← hH h1]; exact hk, h2⟩
  have hcl : ∀ p, p ≤ l.toArray.size → Closed (H p) := fun p => by
    induction p with
    | zero => exact fun _ => hrel.closed
    | succ p ih =>
      intro hp k o hk u hu
      obtain ⟨g, hg, hcl, _⟩ := hst' p _ (Array.getElem?_eq_getElem (by omega))
      rw [hg] at hk
      rw [List.getElem?_append] at hk
      split at hk
      · exact (ih (by omega) k o hk u hu).mono (by rw [hg]; simp)
      · exact hcl o (List.mem_of_getElem? hk) u hu
  have inv0 : DInv n l.toArray V H env m w (Array.replicate l.toArray.size false) m1 a { w with drawn := w.drawn + 1 } := by
    refine ⟨⟨fun k o l1 hk hl hp => ?_, fun k1 k2 o1 o2 l1 l2 g1 g2 e1 e2 hne hm p1 p2 => ?_, hcl _ (Nat.le_refl _)⟩, fun k hk => ⟨fun l1 hl => by rw [hm1 hk]; exact hl, fun hn => by rw [hm1 hk]; exact hn⟩, fun k l1 hk hl => ?_,
      Nat.le_refl _, rfl, rfl, rfl, fun _ _ _ => rfl, fun k o l1 hk hl hp => ?_, ⟨he.size, he.defers, fun t => ?_⟩, by simp, fun i o hi hlj => ?_⟩
    · obtain ⟨q1, q2⟩ := hback hk hl
      obtain ⟨c, ty, fz, hb, hc, hm⟩ := hrel.holds k o l1 q1 q2 hp
      refine ⟨c, ty, fz, hb, fun j hj => ?_, hm⟩
      obtain ⟨r, r1, r2⟩ := hc j hj
      exact ⟨r, r1, r2.mono ex⟩
    · obtain ⟨q1, q2⟩ := hback g1 e1
      obtain ⟨q3, q4⟩ := hback g2 e2
      exact hrel.sep k1 k2 o1 o2 l1 l2 q1 q3 q2 q4 hne hm p1 p2
    · have := (hm1' hl).1; omega
    · obtain ⟨q1, q2⟩ := hback hk hl
      exact .inr ⟨k, o, l1, q1, q2, hp, rfl, fun hh => hh⟩
    · have : dval (fun j => ((l.toArray)[j]?).bind (·.dst)) V env (fun j => (Array.replicate l.toArray.size false).getD j false) l.toArray.size t = env t := by
        have h0 : ∀ N, dval (fun j => ((l.toArray)[j]?).bind (·.dst)) V env (fun j => (Array.replicate l.toArray.size false).getD j false) N = env := fun N => by
          induction N with
          | zero => rfl
          | succ N ih => simp only [dval]; rw [if_neg (by rw [getD_replicate_false]; simp), ih]
        rw [h0]
      rw [this]
      exact (he.vals t).mono ex
    · rw [getD_replicate_false] at hlj; cases hlj
  have main : ∀ (fuel : Nat) (listed : Array Bool) (m' : Map) (a' : Act) (w' : World), left l.toArray.size listed ≤ fuel → DInv n l.toArray V H env m w listed m' a' w' →
      wpAny P .any l.toArray (fun e a' w' => ∃ m' env' h', Rel m' h' w' ∧ Step m (H 0) w m' h' w' ∧ EnvRel m' h' n env' a' ∧ Q e env' h') fuel listed a' w' := by
    have done : ∀ (listed : Array Bool) (m' : Map) (a' : Act) (w' : World), (∀ i, i < l.toArray.size → listed.getD i false = true) → DInv n l.toArray V H env m w listed m' a' w' →
        ∃ m' env' h', Rel m' h' w' ∧ Step m (H 0) w m' h' w' ∧ EnvRel m' h' n env' a' ∧ Q .normal env' h' := fun listed m' a' w' hall inv => by
      have henv : dval (fun j => ((l.toArray)[j]?).bind (·.dst)) V env (fun j => listed.getD j false) l.toArray.size = dval (fun j => (l[j]?).bind (·.dst)) V env (fun _ => true) l.length := by
        funext t
        rw [dval_agree (q := fun _ => true) _ (fun j hj _ => hall j hj)]
        simp
      have hq := hQ
      rw [← henv, ← hsz] at hq
      refine ⟨m', _, _, inv.rel, ⟨fun k o hk => ?_, inv.size, inv.os, inv.tape, inv.output, inv.frame, inv.own⟩, inv.env, hq⟩
      have h1 := (List.getElem?_eq_some_iff.1 hk).1
      obtain ⟨e1, e2⟩ := inv.ext0 k h1
      exact ⟨o, by rw [hH h1]; exact hk, Nat.le_refl _, rfl, rfl, fun l1 hl => ⟨l1, e1 l1 hl, fun _ => rfl⟩, e2⟩
    intro fuel
    induction fuel with
    | zero =>
      intro listed m' a' w' hf inv
      have hall : ∀ i, i < l.toArray.size → listed.getD i false = true := fun i hi => by
        have h0 : left l.toArray.size listed = 0 := by omega
        have := List.countP_eq_zero.1 h0 i (List.mem_range.2 hi)
        simpa using this
      refine ⟨?_, done listed m' a' w' hall inv⟩
      cases hr : Region.ready .any l.toArray listed with
      | nil => rfl
      | cons i rest =>
        have hi : i ∈ Region.ready .any l.toArray listed := by rw [hr]; simp
        obtain ⟨h1, oi, h2, _⟩ := mem_ready.1 hi
        have := hall i (Array.getElem?_eq_some_iff.1 h2).1
        have h3 := getD_both h1
        rw [this] at h3; cases h3
    | succ fuel ih =>
      intro listed m' a' w' hf inv
      refine ⟨fun hnil => done listed m' a' w' (fun i hi => ?_) inv, fun i hi => ?_⟩
      · cases hli : listed.getD i false with
        | true => rfl
        | false => exact absurd hnil (ready_some inv.lsize hd i hi hli)
      · obtain ⟨h1, oi, h2, h3⟩ := mem_ready.1 hi
        have hlt := (Array.getElem?_eq_some_iff.1 h2).1
        refine inv.step hd (by simpa using hin) (fun i o ho => by obtain ⟨g, q1, q2, q3, _⟩ := hst' i o ho; exact ⟨g, q1, q2, q3⟩) hrel.closed (fun t => (he.vals t).within) h2 (hst' i oi h2) (getD_both h1) h3 fun m2 a2 w2 inv2 => ih _ m2 a2 w2 ?_ inv2
        have hlt2 : i < l.length := by simpa using hlt
        have hset : (listed.setIfInBounds i true).getD i false = true := by simp [Array.getD_eq_getD_getElem?, inv.lsize, hlt2]
        have : left l.toArray.size (listed.setIfInBounds i true) < left l.toArray.size listed := by
          refine countP_lt _ (fun x hx => ?_) ⟨i, List.mem_range.2 hlt, by simp [getD_both h1], by simp [hset]⟩
          by_cases hix : i = x
          · subst hix
            rw [getD_both h1]; rfl
          · rwa [getD_set_ne false hix] at hx
        omega
  refine wp_region_any hm (main _ _ m1 a _ ?_ inv0)
  unfold left
  exact Nat.le_trans List.countP_le_length (by simp)

end Go.Am

namespace Go.Am
set_option linter.unusedSimpArgs false
set_option linter.unusedVariables false
open Go.RowKit
theorem wpAny_done {P : Program} {ops : Array Oper} {Q : Exit → Act → World → Prop} {listed : Array Bool} {a : Act} {w : World} (hall : ∀ i, i < ops.size → listed.getD i false = true) (hq : Q .normal a w) : ∀ fuel, wpAny P .any ops Q fuel listed a w := by
  have hr : Region.ready .any ops listed = [] := by
    cases hr : Region.ready .any ops listed with
    | nil => rfl
    | cons i rest =>
      have hi : i ∈ Region.ready .any ops listed := by rw [hr]; simp
      obtain ⟨h1, oi, h2, _⟩ := mem_ready.1 hi
      have := hall i (Array.getElem?_eq_some_iff.1 h2).1
      have h3 := getD_both h1
      rw [this] at h3; cases h3
  intro fuel
  cases fuel with
  | zero => exact ⟨hr, hq⟩
  | succ fuel => exact ⟨fun _ => hq, fun i hi => by rw [hr] at hi; cases hi⟩


theorem dval_congr {dst dst' : Nat → Option Tmp} {V V' : Nat → Value} {env0 : Env} : ∀ n, (∀ j, j < n → dst j = dst' j ∧ V j = V' j) → dval dst V env0 (fun _ => true) n = dval dst' V' env0 (fun _ => true) n
  | 0, _ => rfl
  | n + 1, h => by
    rw [dval, dval, dval_congr n (fun j hj => h j (by omega)), (h n (by omega)).1, (h n (by omega)).2]

end Go.Am

namespace Go.Am
set_option linter.unusedSimpArgs false
set_option linter.unusedVariables false
open Go.RowKit
def sinkAt (ops : Array Oper) (N : Nat) : Bool := (List.range N).all fun i => (List.range (N + 1)).any fun j => decide (i < j) && match ops[j]? with
  | some o => o.after.toList.any fun e => Region.binds .any e && e.on == i
  | none => false

theorem sinkAt_all {ops : Array Oper} {listed : Array Bool} {N : Nat} (hs : sinkAt ops N = true) (hcl : ∀ (i : Nat) (o : Oper), ops[i]? = some o → listed.getD i false = true → ∀ e ∈ o.after, Region.binds .any e = true → listed.getD e.on false = true)
    {o : Oper} (ho : ops[N]? = some o) (hr : ∀ e ∈ o.after, Region.binds .any e = true → listed.getD e.on false = true) : ∀ (d i : Nat), N - i ≤ d → i < N → listed.getD i false = true := by
  intro d
  have hN : N < ops.size := (Array.getElem?_eq_some_iff.1 ho).1
  induction d with
  | zero => intro i h1 h2; omega
  | succ d ih =>
    intro i h1 h2
    have := List.all_eq_true.1 hs i (List.mem_range.2 h2)
    obtain ⟨j, hj, h3⟩ := List.any_eq_true.1 this
    have hj' := List.mem_range.1 hj
    have hj2 : j < ops.size := by omega
    simp only [Bool.and_eq_true, decide_eq_true_eq] at h3
    obtain ⟨h4, h5⟩ := h3
    rw [Array.getElem?_eq_getElem hj2] at h5
    obtain ⟨e, he, h6⟩ := List.any_eq_true.1 h5
    simp only [Bool.and_eq_true, beq_iff_eq] at h6
    have he' : e ∈ ops[j].after := by simpa using he
    rw [← h6.2]
    by_cases hl : j = N
    · subst hl
      rw [Array.getElem?_eq_getElem hj2] at ho
      cases ho
      exact hr e he' h6.1
    · exact hcl j _ (Array.getElem?_eq_getElem hj2) (ih j (by omega) (by omega)) e he' h6.1

theorem left_lt {N : Nat} {listed : Array Bool} (hsz : listed.size = N) {i : Nat} (hlt : i < N) (hun : listed.getD i false = false) : left N (listed.setIfInBounds i true) < left N listed := by
  have hset : (listed.setIfInBounds i true).getD i false = true := by
    have hlt2 : i < listed.size := by omega
    simp [Array.getD_eq_getD_getElem?, hlt2]
  refine countP_lt _ (fun x hx => ?_) ⟨i, List.mem_range.2 hlt, by simp [hun], by simp [hset]⟩
  by_cases hix : i = x
  · subst hix
    rw [hun]; rfl
  · rwa [getD_set_ne false hix] at hx

theorem left_pos {N : Nat} {listed : Array Bool} {i : Nat} (hlt : i < N) (hun : listed.getD i false = false) : 0 < left N listed :=
  List.countP_pos_iff.2 ⟨i, List.mem_range.2 hlt, by simp [hun]⟩

theorem wantedA_noguard {ops : Array Oper} {env : Env} {o : Oper} (h : o.guard = none) : wantedA ops env o = some true := by
  unfold wantedA; rw [h]

/-- One operation, in any state. -/
theorem wpOp_of {P : Program} {n : Nat} {ops : Array Oper} {Q : Exit → Act → World → Prop} {j : Nat} {o : Oper} {next : Act → World → Prop} {m : Map} {h0 : AHeap} {w : World} {m' : Map} {h' : AHeap} {w' : World} {a' : Act} {env' : Env} {K : Value → AHeap → Prop}
    (ho : ops[j]? = some o) (hin : dstsIn n ops.toList = true) (hg : o.guard = none) (irel : Rel m' h' w') (hst : Step m h0 w m' h' w') (ienv : EnvRel m' h' n env' a') (hop : AOp P o K env' h')
    (hnext : ∀ v h1 m1 a1 w1, Rel m1 h1 w1 → Step m h0 w m1 h1 w1 → EnvRel m1 h1 n (env'.put o.dst v) a1 → K v h1 → next a1 w1) : wpOp P ops Q j next a' w' := by
  have hmem : o ∈ ops.toList := by
    obtain ⟨h1, rfl⟩ := Array.getElem?_eq_some_iff.1 ho
    simp
  have hok := List.all_eq_true.1 hin o hmem
  simp only [Bool.and_eq_true] at hok
  have hdsto : ∀ d, o.dst = some d → d < n := fun d hx => by simpa [hx] using hok.1
  unfold wpOp
  simp only [ho]
  have hw' := wantedA_spec2 (fun t _ => ienv.vals t) (wantedA_noguard (ops := ops) (env := env') hg)
  simp only [hw', if_true]
  refine .inl (Oper.wp_mono2 ?_ (hop m' w' a' irel fun x hx => ?_))
  · rintro a1 w1 ⟨v, r, m1, h1, rfl, r1, s1, v1, hq⟩
    exact hnext v h1 m1 _ w1 r1 (hst.trans s1) ((ienv.mono s1.toExt).put hdsto v1) hq
  · have hx' := List.all_eq_true.1 hok.2 x hx
    cases x with
    | tmp t => exact ienv.vals t
    | const v => exact .const _ _ hx'
    | global g => cases hx'
    | func f => exact .func rfl rfl (fun i h1 _ => by simp at h1) (fun i h1 _ => by simp at h1)

theorem AOp.congr {P : Program} {o : Oper} {K : Value → AHeap → Prop} {env env' : Env} {h : AHeap} (he : ∀ x ∈ o.op.operands.toList, aeval env x = aeval env' x) (a : AOp P o K env h) : AOp P o K env' h :=
  fun m w x hr hop => a m w x hr fun y hy => by rw [he y hy]; exact hop y hy

end Go.Am

namespace Go.Am
set_option linter.unusedSimpArgs false
set_option linter.unusedVariables false
open Go.RowKit
def sinkBut (ops : Array Oper) (E N : Nat) : Bool := (List.range N).all fun i => (i == E) || (List.range (N + 1)).any fun j => decide (i < j ∧ j ≠ E) && match ops[j]? with
  | some o => o.after.toList.any fun e => Region.binds .any e && e.on == i
  | none => false

theorem sinkBut_all {ops : Array Oper} {listed : Array Bool} {E N : Nat} (hs : sinkBut ops E N = true) (hcl : ∀ (i : Nat) (o : Oper), ops[i]? = some o → listed.getD i false = true → ∀ e ∈ o.after, Region.binds .any e = true → listed.getD e.on false = true)
    {o : Oper} (ho : ops[N]? = some o) (hr : ∀ e ∈ o.after, Region.binds .any e = true → listed.getD e.on false = true) : ∀ (d i : Nat), N - i ≤ d → i < N → i ≠ E → listed.getD i false = true := by
  intro d
  have hN : N < ops.size := (Array.getElem?_eq_some_iff.1 ho).1
  induction d with
  | zero => intro i h1 h2; omega
  | succ d ih =>
    intro i h1 h2 hE
    have := List.all_eq_true.1 hs i (List.mem_range.2 h2)
    rw [Bool.or_eq_true] at this
    rcases this with this | this
    · exact absurd (by simpa using this) hE
    obtain ⟨j, hj, h3⟩ := List.any_eq_true.1 this
    have hj' := List.mem_range.1 hj
    have hj2 : j < ops.size := by omega
    simp only [Bool.and_eq_true, decide_eq_true_eq] at h3
    obtain ⟨h4, h5⟩ := h3
    rw [Array.getElem?_eq_getElem hj2] at h5
    obtain ⟨e, he, h6⟩ := List.any_eq_true.1 h5
    simp only [Bool.and_eq_true, beq_iff_eq] at h6
    have he' : e ∈ ops[j].after := by simpa using he
    rw [← h6.2]
    by_cases hl : j = N
    · subst hl
      rw [Array.getElem?_eq_getElem hj2] at ho
      cases ho
      exact hr e he' h6.1
    · exact hcl j _ (Array.getElem?_eq_getElem hj2) (ih j (by omega) (by omega) h4.2) e he' h6.1

theorem dval_cut {dst : Nat → Option Tmp} {V : Nat → Value} {env0 : Env} {p : Nat → Bool} {k : Nat} : ∀ N, k ≤ N → (∀ j, k ≤ j → j < N → p j = false) → dval dst V env0 p N = dval dst V env0 p k
  | 0, hk, _ => by rw [show k = 0 by omega]
  | N + 1, hk, h => by
    by_cases e : k = N + 1
    · rw [e]
    · rw [dval, if_neg (by rw [h N (by omega) (by omega)]; simp)]
      exact dval_cut N (by omega) fun j h1 h2 => h j h1 (by omega)
def noSlot (dE : Tmp) (o : Oper) : Bool := o.op.operands.toList.all fun x => match x with | .tmp t => decide (t ≠ dE) | _ => true
theorem AOp.but {P : Program} {o : Oper} {dE : Tmp} {K : Value → AHeap → Prop} {env env' : Env} {h : AHeap} (hn : noSlot dE o = true) (he : ∀ t, t ≠ dE → env t = env' t) (a : AOp P o K env h) : AOp P o K env' h :=
  AOp.congr (fun x hx => by
    have := List.all_eq_true.1 hn x hx
    cases x with
    | tmp t =>
      simp only [decide_eq_true_eq] at this
      exact he t this
    | _ => rfl) a

theorem awp_drawE0 {P : Program} {n id : Nat} {l l0 T : List Oper} {A E : Oper} {dE : Tmp} {jE : Nat} {Q : Exit → Env → AHeap → Prop} {env : Env} {h : AHeap} (hmix : P.follows .mixedOrders = true)
    (hd : depOk l.toArray = true) (hsA : sinkBut l.toArray jE l0.length = true) (hsT : ((List.range T.length).all fun i => sinkAt l.toArray (l0.length + 1 + i)) = true) (hin : dstsIn n l = true) (hl : l = l0 ++ A :: T)
    (hE : l0[jE]? = some E) (hdE : E.dst = some dE) (hgA : A.guard = none) (hgE : E.guard = none) (hgT : (T.all fun o => o.guard.isNone) = true) (hAE : noSlot dE A = true) (hEE : noSlot dE E = true) (hneA : A.dst ≠ some dE)
    (hone : ((List.range l0.length).all fun j => (j == jE) || decide ((l0[j]?).bind (·.dst) ≠ some dE)) = true)
    (hr : DRun P l.toArray (fun env1 h1 => AOp P A (fun v h2 => AOp P E (fun v' h' => v' = env1 dE ∧ h' = h2) (env1.put A.dst v) h2 ∧ ARun P l.toArray (Q .normal) T (env1.put A.dst v) h2) env1 h1) l0 env h) : AWp P n (.region id l.toArray true) Q env h := by
  intro m w a hrel he
  obtain ⟨V0, H0, rfl, hA, hst0⟩ := drun_run l0 env h hr
  generalize henv1 : dval (fun j => (l0[j]?).bind (·.dst)) V0 env (fun _ => true) l0.length = env1 at hA
  let V : Nat → Value := fun j => if j < l0.length then V0 j else undef
  let H : Nat → AHeap := fun j => if j ≤ l0.length then H0 j else H0 l0.length
  have hlen : l.length = l0.length + 1 + T.length := by rw [hl]; simp; omega
  have hsz : l.toArray.size = l0.length + 1 + T.length := by simp [hlen]
  have hH00 : H 0 = H0 0 := by simp [H]
  have hHj : ∀ j, l0.length ≤ j → H j = H0 l0.length := fun j hj => by
    by_cases e : j = l0.length
    · simp [H, e]
    · have : ¬ j ≤ l0.length := by omega
      simp [H, this]
  have oA : (l.toArray)[l0.length]? = some A := by rw [List.getElem?_toArray, hl]; simp
  have hjE : jE < l0.length := (List.getElem?_eq_some_iff.1 hE).1
  have oE : (l.toArray)[jE]? = some E := by rw [List.getElem?_toArray, hl, List.getElem?_append_left hjE]; exact hE
  have oT : ∀ (j : Nat) (o : Oper), T[j]? = some o → (l.toArray)[l0.length + 1 + j]? = some o := fun j o ho => by
    rw [List.getElem?_toArray, hl, List.getElem?_append_right (by omega), show l0.length + 1 + j - l0.length = j + 1 by omega, List.getElem?_cons_succ]; exact ho
  have hdst : ∀ j, j < l0.length → ((l.toArray)[j]?).bind (·.dst) = (l0[j]?).bind (·.dst) := fun j hj => by
    simp only [List.getElem?_toArray]; rw [hl, List.getElem?_append_left hj]
  have hdv : ∀ i, i ≤ l0.length → dval (fun j => ((l.toArray)[j]?).bind (·.dst)) V env (fun _ => true) i = dval (fun j => (l0[j]?).bind (·.dst)) V0 env (fun _ => true) i := fun i hi =>
    dval_congr i fun j hj => ⟨hdst j (by omega), by simp [V]; omega⟩
  have hdv1 : dval (fun j => ((l.toArray)[j]?).bind (·.dst)) V env (fun _ => true) l0.length = env1 := (hdv _ (Nat.le_refl _)).trans henv1
  have hrun : ∀ (i : Nat) (x : Oper), i < l0.length → (l.toArray)[i]? = some x → RunAt P l.toArray (fun j => ((l.toArray)[j]?).bind (·.dst)) V env H i x := fun i x hi hx => by
    have hx0 : l0[i]? = some x := by
      rw [List.getElem?_toArray, hl, List.getElem?_append_left hi] at hx; exact hx
    have := hst0 i x hx0
    unfold RunAt at this ⊢
    rw [hdv i (by omega)]
    have e1 : H i = H0 i := by simp [H]; omega
    have e2 : H (i + 1) = H0 (i + 1) := by simp [H]; omega
    have e3 : V i = V0 i := by simp [V, hi]
    rw [e1, e2, e3]; exact this
  have hst' : ∀ (i : Nat) (x : Oper), (l.toArray)[i]? = some x → ∃ g, H (i + 1) = H i ++ g ∧ (∀ y ∈ g, ∀ u ∈ y.cells, Within (H (i + 1)).length u) ∧ Within (H (i + 1)).length (V i) := fun i x hx => by
    by_cases hi : i < l0.length
    · obtain ⟨g, q1, q2, q3, _⟩ := hrun i x hi hx
      exact ⟨g, q1, q2, q3⟩
    · have e3 : V i = undef := by simp only [V, hi, if_false]
      exact ⟨[], by rw [hHj _ (by omega), hHj _ (by omega), List.append_nil], by simp, by rw [e3]; exact .tuple fun i h1 => by simp at h1⟩
  have hHN : H l.toArray.size = H0 l0.length := hHj _ (by omega)
  rw [← hH00] at hrel he ⊢
  have hsteps : ∀ j, j < l.toArray.size → ∃ g, H (j + 1) = H j ++ g := fun j hj => by
    obtain ⟨g, hg, _⟩ := hst' j _ (Array.getElem?_eq_getElem hj)
    exact ⟨g, hg⟩
  obtain ⟨g0, hg0⟩ := run_prefix hsteps 0 l.toArray.size (by omega) (Nat.le_refl _)
  have hH : ∀ {k : Nat}, k < (H 0).length → (H l.toArray.size)[k]? = (H 0)[k]? := fun {k} hk => by rw [hg0, List.getElem?_append_left hk]
  let m1 : Map := fun k => if k < (H 0).length then m k else none
  have hm1 : ∀ {k}, k < (H 0).length → m1 k = m k := fun {k} hk => by simp [m1, hk]
  have hm1' : ∀ {k l}, m1 k = some l → k < (H 0).length ∧ m k = some l := fun {k l} hk => by
    simp only [m1] at hk
    split at hk
    · exact ⟨‹_›, hk⟩
    · cases hk
  have ex : Ext m (H 0) m1 (H l.toArray.size) := fun k o hk => by
    have h1 := (List.getElem?_eq_some_iff.1 hk).1
    exact ⟨o, by rw [hH h1]; exact hk, Nat.le_refl _, rfl, rfl, fun l hl => ⟨l, by rw [hm1 h1]; exact hl, fun _ => rfl⟩⟩
  have hback : ∀ {k o l1}, (H l.toArray.size)[k]? = some o → m1 k = some l1 → (H 0)[k]? = some o ∧ m k = some l1 := fun {k o l1} hk hl => by
    obtain ⟨h1, h2⟩ := hm1' hl
    exact ⟨by rw [← hH h1]; exact hk, h2⟩
  have hcl : ∀ p, p ≤ l.toArray.size → Closed (H p) := fun p => by
    induction p with
    | zero => exact fun _ => hrel.closed
    | succ p ih =>
      intro hp k o hk u hu
      obtain ⟨g, hg, hcl, _⟩ := hst' p _ (Array.getElem?_eq_getElem (by omega))
      rw [hg] at hk
      rw [List.getElem?_append] at hk
      split at hk
      · exact (ih (by omega) k o hk u hu).mono (by rw [hg]; simp)
      · exact hcl o (List.mem_of_getElem? hk) u hu
  have inv0 : DInv n l.toArray V H env m w (Array.replicate l.toArray.size false) m1 a { w with drawn := w.drawn + 1 } := by
    refine ⟨⟨fun k o l1 hk hl hp => ?_, fun k1 k2 o1 o2 l1 l2 g1 g2 e1 e2 hne hm p1 p2 => ?_, hcl _ (Nat.le_refl _)⟩, fun k hk => ⟨fun l1 hl => by rw [hm1 hk]; exact hl, fun hn => by rw [hm1 hk]; exact hn⟩, fun k l1 hk hl => ?_,
      Nat.le_refl _, rfl, rfl, rfl, fun _ _ _ => rfl, fun k o l1 hk hl hp => ?_, ⟨he.size, he.defers, fun t => ?_⟩, by simp, fun i o hi hlj => ?_⟩
    · obtain ⟨q1, q2⟩ := hback hk hl
      obtain ⟨c, ty, fz, hb, hc, hm⟩ := hrel.holds k o l1 q1 q2 hp
      refine ⟨c, ty, fz, hb, fun j hj => ?_, hm⟩
      obtain ⟨r, r1, r2⟩ := hc j hj
      exact ⟨r, r1, r2.mono ex⟩
    · obtain ⟨q1, q2⟩ := hback g1 e1
      obtain ⟨q3, q4⟩ := hback g2 e2
      exact hrel.sep k1 k2 o1 o2 l1 l2 q1 q3 q2 q4 hne hm p1 p2
    · have := (hm1' hl).1; omega
    · obtain ⟨q1, q2⟩ := hback hk hl
      exact .inr ⟨k, o, l1, q1, q2, hp, rfl, fun hh => hh⟩
    · have : dval (fun j => ((l.toArray)[j]?).bind (·.dst)) V env (fun j => (Array.replicate l.toArray.size false).getD j false) l.toArray.size t = env t := by
        have h0 : ∀ N, dval (fun j => ((l.toArray)[j]?).bind (·.dst)) V env (fun j => (Array.replicate l.toArray.size false).getD j false) N = env := fun N => by
          induction N with
          | zero => rfl
          | succ N ih => simp only [dval]; rw [if_neg (by rw [getD_replicate_false]; simp), ih]
        rw [h0]
      rw [this]
      exact (he.vals t).mono ex
    · rw [getD_replicate_false] at hlj; cases hlj
  -- what is wanted at the end
  let G : Exit → Act → World → Prop := fun e a' w' => ∃ m' env' h', Rel m' h' w' ∧ Step m (H 0) w m' h' w' ∧ EnvRel m' h' n env' a' ∧ Q e env' h'
  have hin' : dstsIn n l.toArray.toList = true := by simpa using hin
  have hsT' : ∀ j, j < T.length → sinkAt l.toArray (l0.length + 1 + j) = true := fun j hj => List.all_eq_true.1 hsT j (List.mem_range.2 hj)
  -- only what stands behind is left
  have phaseT : ∀ (T2 T1 : List Oper) (fuel : Nat) (listed : Array Bool) (env2 : Env) (m' : Map) (h2 : AHeap) (a' : Act) (w' : World), T = T1 ++ T2 → listed.size = l.toArray.size → left l.toArray.size listed ≤ fuel →
      (∀ i, i < l0.length + 1 + T1.length → listed.getD i false = true) → (∀ i, l0.length + 1 + T1.length ≤ i → listed.getD i false = false) →
      (∀ (i : Nat) (o : Oper), l.toArray[i]? = some o → listed.getD i false = true → ∀ e ∈ o.after, Region.binds .any e = true → listed.getD e.on false = true) →
      Rel m' h2 w' → Step m (H 0) w m' h2 w' → EnvRel m' h2 n env2 a' → ARun P l.toArray (Q .normal) T2 env2 h2 → wpAny P .any l.toArray G fuel listed a' w' := by
    intro T2
    induction T2 with
    | nil =>
      intro T1 fuel listed env2 m' h2 a' w' hTT hls hf hall hno hcl irel hst ienv har
      refine wpAny_done (fun j hj => hall j ?_) ⟨m', env2, h2, irel, hst, ienv, har⟩ fuel
      have : T.length = T1.length := by rw [hTT]; simp
      omega
    | cons o T2 ih =>
      intro T1 fuel listed env2 m' h2 a' w' hTT hls hf hall hno hcl irel hst ienv har
      have hT1 : T1.length < T.length := by rw [hTT]; simp
      have hoT : T[T1.length]? = some o := by rw [hTT]; simp
      have oo := oT _ _ hoT
      have hun : listed.getD (l0.length + 1 + T1.length) false = false := hno _ (Nat.le_refl _)
      have hgo : o.guard = none := by
        have := List.all_eq_true.1 hgT o (List.mem_of_getElem? hoT)
        simpa using this
      have hop : AOp P o (fun v h' => ARun P l.toArray (Q .normal) T2 (env2.put o.dst v) h') env2 h2 := by
        rcases har with ⟨_, q⟩ | ⟨q, _⟩
        · exact q
        · rw [wantedA_noguard hgo] at q; cases q
      cases fuel with
      | zero => exact absurd (left_pos (N := l.toArray.size) (by omega) hun) (by omega)
      | succ fuel =>
        refine ⟨fun hnil => absurd hnil (ready_some hls hd _ (by omega) hun), fun i hi => ?_⟩
        obtain ⟨q1, oi, q2, q3⟩ := mem_ready.1 hi
        have hlt := (Array.getElem?_eq_some_iff.1 q2).1
        have hiT : i = l0.length + 1 + T1.length := by
          refine Classical.byContradiction fun hx => ?_
          by_cases h7 : i < l0.length + 1 + T1.length
          · have h6 := hall i h7
            rw [getD_both q1] at h6; cases h6
          · have h5 := hsT' (i - (l0.length + 1)) (by omega)
            rw [show l0.length + 1 + (i - (l0.length + 1)) = i by omega] at h5
            have := sinkAt_all h5 hcl q2 q3 i (l0.length + 1 + T1.length) (by omega) (by omega)
            rw [hun] at this; cases this
        subst hiT
        rw [oo] at q2; cases q2
        have hset : (listed.setIfInBounds (l0.length + 1 + T1.length) true).getD (l0.length + 1 + T1.length) false = true := by
          have : l0.length + 1 + T1.length < listed.size := by rw [hls]; omega
          simp [Array.getD_eq_getD_getElem?, this]
        refine wpOp_of oo hin' hgo irel hst ienv hop fun u h1 m3 a3 w3 r3 s3 e3 hq => ih (T1 ++ [o]) fuel _ _ m3 h1 a3 w3 (by rw [hTT]; simp) (by rw [Array.size_setIfInBounds]; exact hls) ?_ (fun j hj => ?_) (fun j hj => ?_) (fun j x hx hl9 e he9 hb9 => ?_) r3 s3 e3 hq
        · have := left_lt hls (i := l0.length + 1 + T1.length) (by omega) hun
          omega
        · by_cases h9 : j = l0.length + 1 + T1.length
          · subst h9; exact hset
          · rw [getD_set_ne false (fun e => h9 e.symm)]
            refine hall j ?_
            simp at hj; omega
        · simp at hj
          rw [getD_set_ne false (by omega)]
          exact hno j (by omega)
        · by_cases h9 : e.on = l0.length + 1 + T1.length
          · rw [h9]; exact hset
          · rw [getD_set_ne false (fun e => h9 e.symm)]
            by_cases h8 : j = l0.length + 1 + T1.length
            · subst h8; rw [oo] at hx; cases hx; exact q3 e he9 hb9
            · rw [getD_set_ne false (fun e => h8 e.symm)] at hl9
              exact hcl j x hx hl9 e he9 hb9
  have hbut : ∀ listed : Array Bool, (∀ i, i < l0.length → i ≠ jE → listed.getD i false = true) → ∀ t, t ≠ dE → env1 t = dval (fun j => ((l.toArray)[j]?).bind (·.dst)) V env (fun j => listed.getD j false) l0.length t := fun listed hpre t ht => by
    rw [← hdv1]
    refine (dval_agree (q := fun _ => true) _ fun j hj hd9 => hpre j hj fun e => ?_).symm
    subst e
    simp only [oE, Option.bind_some, hdE, Option.some.injEq] at hd9
    exact ht hd9.symm
  have phaseA : ∀ (fuel : Nat) (listed : Array Bool) (m' : Map) (a' : Act) (w' : World), left l.toArray.size listed ≤ fuel + 1 → (∀ e ∈ A.after, Region.binds .any e = true → listed.getD e.on false = true) → (∀ i, l0.length ≤ i → listed.getD i false = false) →
      DInv n l.toArray V H env m w listed m' a' w' → wpOp P l.toArray G l0.length (wpAny P .any l.toArray G fuel (listed.setIfInBounds l0.length true)) a' w' := by
    intro fuel listed m' a' w' hf hrd hno inv
    have hunA := hno l0.length (Nat.le_refl _)
    have hpre := fun i hi hne => sinkBut_all hsA inv.closed oA hrd l0.length i (by omega) hi hne
    have irel := inv.rel
    rw [hHN] at irel
    have hstep : Step m (H 0) w m' (H0 l0.length) w' := by
      rw [← hHN]
      exact ⟨fun k x hk => by
        have h1 := (List.getElem?_eq_some_iff.1 hk).1
        obtain ⟨e1, e2⟩ := inv.ext0 k h1
        exact ⟨x, by rw [hH h1]; exact hk, Nat.le_refl _, rfl, rfl, fun l1 hl => ⟨l1, e1 l1 hl, fun _ => rfl⟩, e2⟩, inv.size, inv.os, inv.tape, inv.output, inv.frame, inv.own⟩
    have ienv := inv.env
    rw [hHN, hsz, dval_cut (k := l0.length) _ (by omega) (fun j hj _ => hno j hj)] at ienv
    have hleft := left_lt inv.lsize (i := l0.length) (by omega) hunA
    have hls : (listed.setIfInBounds l0.length true).size = l.toArray.size := by rw [Array.size_setIfInBounds]; exact inv.lsize
    have hset : (listed.setIfInBounds l0.length true).getD l0.length false = true := by
      have : l0.length < listed.size := by rw [inv.lsize]; omega
      simp [Array.getD_eq_getD_getElem?, this]
    have hclosed2 : ∀ (i : Nat) (o : Oper), l.toArray[i]? = some o → (listed.setIfInBounds l0.length true).getD i false = true → ∀ e ∈ o.after, Region.binds .any e = true → (listed.setIfInBounds l0.length true).getD e.on false = true := fun i o ho hl9 e he9 hb9 => by
      by_cases h9 : e.on = l0.length
      · rw [h9]; exact hset
      · rw [getD_set_ne false (fun e => h9 e.symm)]
        by_cases h8 : i = l0.length
        · subst h8; rw [oA] at ho; cases ho; exact hrd e he9 hb9
        · rw [getD_set_ne false (fun e => h8 e.symm)] at hl9
          exact inv.closed i o ho hl9 e he9 hb9
    have hno2 : ∀ i, l0.length + 1 ≤ i → (listed.setIfInBounds l0.length true).getD i false = false := fun i hi => by rw [getD_set_ne false (by omega)]; exact hno i (by omega)
    by_cases hM : listed.getD jE false = true
    · have e0 : dval (fun j => ((l.toArray)[j]?).bind (·.dst)) V env (fun j => listed.getD j false) l0.length = env1 := by
        rw [← hdv1]
        funext t
        refine dval_agree (q := fun _ => true) _ (fun j hj _ => ?_)
        by_cases h9 : j = jE
        · rw [h9]; exact hM
        · exact hpre j hj h9
      rw [e0] at ienv
      refine wpOp_of oA hin' hgA irel hstep ienv hA fun v h1 m3 a3 w3 r3 s3 e3 hq => ?_
      refine phaseT T [] fuel _ _ m3 h1 a3 w3 rfl hls (by omega) (fun i hi => ?_) (fun i hi => hno2 i (by simpa using hi)) hclosed2 r3 s3 e3 hq.2
      by_cases h9 : i = l0.length
      · subst h9; exact hset
      · rw [getD_set_ne false (fun e => h9 e.symm)]
        simp at hi
        by_cases h8 : i = jE
        · rw [h8]; exact hM
        · exact hpre i (by omega) h8
    · have hM' : listed.getD jE false = false := by simpa using hM
      have hag := hbut listed hpre
      generalize dval (fun j => ((l.toArray)[j]?).bind (·.dst)) V env (fun j => listed.getD j false) l0.length = envX at ienv hag
      refine wpOp_of oA hin' hgA irel hstep ienv (AOp.but hAE hag hA) fun v h1 m3 a3 w3 r3 s3 e3 hq => ?_
      have hunM : (listed.setIfInBounds l0.length true).getD jE false = false := by rw [getD_set_ne false (by omega)]; exact hM'
      cases fuel with
      | zero => exact absurd (left_pos (N := l.toArray.size) (by omega) hunM) (by omega)
      | succ fuel =>
        refine ⟨fun hnil => absurd hnil (ready_some hls hd _ (by omega) hunM), fun i hi => ?_⟩
        obtain ⟨q1, oi, q2, q3⟩ := mem_ready.1 hi
        have hlt := (Array.getElem?_eq_some_iff.1 q2).1
        have hiM : i = jE := by
          refine Classical.byContradiction fun hx => ?_
          by_cases h7 : l0.length + 1 ≤ i
          · have h5 := hsT' (i - (l0.length + 1)) (by omega)
            rw [show l0.length + 1 + (i - (l0.length + 1)) = i by omega] at h5
            have := sinkAt_all h5 hclosed2 q2 q3 i jE (by omega) (by omega)
            rw [hunM] at this; cases this
          · have h6 : (listed.setIfInBounds l0.length true).getD i false = true := by
              by_cases h9 : i = l0.length
              · subst h9; exact hset
              · rw [getD_set_ne false (fun e => h9 e.symm)]; exact hpre i (by omega) hx
            rw [getD_both q1] at h6; cases h6
        subst hiM
        have hag2 : ∀ t, t ≠ dE → (env1.put A.dst v) t = (envX.put A.dst v) t := fun t ht => by
          cases hAd : A.dst with
          | none => exact hag t ht
          | some da =>
            simp only [Env.put]
            by_cases c : t = da
            · simp only [c, if_true]
            · simp only [c, if_false]; exact hag t ht
        refine wpOp_of oE hin' hgE r3 s3 e3 (AOp.but hEE hag2 hq.1) fun v9 h9 m4 a4 w4 r4 s4 e4 hq4 => ?_
        obtain ⟨rfl, rfl⟩ := hq4
        have henvE : (envX.put A.dst v).put E.dst (env1 dE) = env1.put A.dst v := by
          funext t
          rw [hdE]
          by_cases c : t = dE
          · subst c
            cases hAd : A.dst with
            | none => simp only [Env.put, if_true]
            | some da =>
              simp only [Env.put, if_true]
              by_cases c2 : t = da
              · exact absurd (by rw [hAd, c2]) hneA
              · simp only [c2, if_false]
          · rw [hag2 t c]
            simp only [Env.put, c, if_false]
        rw [henvE] at e4
        have hleft2 := left_lt hls (i := i) (by omega) hunM
        have hsetM : ((listed.setIfInBounds l0.length true).setIfInBounds i true).getD i false = true := by
          have : i < (listed.setIfInBounds l0.length true).size := by rw [hls]; omega
          rw [Array.getD_eq_getD_getElem?, Array.getElem?_setIfInBounds_self_of_lt this]; rfl
        refine phaseT T [] fuel _ _ m4 h9 a4 w4 rfl (by rw [Array.size_setIfInBounds]; exact hls) (by omega) (fun j hj => ?_) (fun j hj => ?_) (fun j x hx hl9 e he9 hb9 => ?_) r4 s4 e4 hq.2
        · by_cases h9 : j = i
          · subst h9; exact hsetM
          · rw [getD_set_ne false (fun e => h9 e.symm)]
            by_cases h8 : j = l0.length
            · subst h8; exact hset
            · rw [getD_set_ne false (fun e => h8 e.symm)]
              simp at hj
              exact hpre j (by omega) h9
        · simp at hj
          rw [getD_set_ne false (by omega)]
          exact hno2 j (by omega)
        · by_cases h9 : e.on = i
          · rw [h9]; exact hsetM
          · rw [getD_set_ne false (fun e => h9 e.symm)]
            by_cases h8 : j = i
            · subst h8; rw [oE] at hx; cases hx; rw [oE] at q2; cases q2; exact q3 e he9 hb9
            · rw [getD_set_ne false (fun e => h8 e.symm)] at hl9
              exact hclosed2 j x hx hl9 e he9 hb9
  have main : ∀ (fuel : Nat) (listed : Array Bool) (m' : Map) (a' : Act) (w' : World), left l.toArray.size listed ≤ fuel → (∀ i, l0.length ≤ i → listed.getD i false = false) → DInv n l.toArray V H env m w listed m' a' w' →
      wpAny P .any l.toArray G fuel listed a' w' := by
    intro fuel
    induction fuel with
    | zero =>
      intro listed m' a' w' hf hno inv
      exact absurd (left_pos (N := l.toArray.size) (by omega) (hno l0.length (Nat.le_refl _))) (by omega)
    | succ fuel ih =>
      intro listed m' a' w' hf hno inv
      refine ⟨fun hnil => absurd hnil (ready_some inv.lsize hd _ (by omega) (hno l0.length (Nat.le_refl _))), fun i hi => ?_⟩
      obtain ⟨q1, oi, q2, q3⟩ := mem_ready.1 hi
      have hlt := (Array.getElem?_eq_some_iff.1 q2).1
      by_cases hiA : i = l0.length
      · subst hiA
        rw [oA] at q2; cases q2
        exact phaseA fuel listed m' a' w' hf q3 hno inv
      · by_cases hiT : l0.length + 1 ≤ i
        · have h5 := hsT' (i - (l0.length + 1)) (by omega)
          rw [show l0.length + 1 + (i - (l0.length + 1)) = i by omega] at h5
          have := sinkAt_all h5 inv.closed q2 q3 i l0.length (by omega) (by omega)
          rw [hno _ (Nat.le_refl _)] at this; cases this
        · refine inv.step hd hin' hst' hrel.closed (fun t => (he.vals t).within) q2 (hrun i oi (by omega) q2) (getD_both q1) q3 fun m2 a2 w2 inv2 => ih _ m2 a2 w2 ?_ (fun j hj => by rw [getD_set_ne false (by omega)]; exact hno j hj) inv2
          have := left_lt inv.lsize hlt (getD_both q1)
          omega
  refine wp_region_any hmix (main _ _ m1 a _ ?_ (fun i _ => getD_replicate_false _ _) inv0)
  unfold left
  exact Nat.le_trans List.countP_le_length (by simp)

theorem awp_drawE {P : Program} {n id : Nat} {l l0 T : List Oper} {A E : Oper} {dE : Tmp} {Q : Exit → Env → AHeap → Prop} {env : Env} {h : AHeap} (jA jE : Nat) (ht : l.take jA = l0) (hdr : l.drop jA = A :: T) (hmix : P.follows .mixedOrders = true)
    (hd : depOk l.toArray = true) (hsA : sinkBut l.toArray jE l0.length = true) (hsT : ((List.range T.length).all fun i => sinkAt l.toArray (l0.length + 1 + i)) = true) (hin : dstsIn n l = true)
    (hE : l0[jE]? = some E) (hdE : E.dst = some dE) (hgA : A.guard = none) (hgE : E.guard = none) (hgT : (T.all fun o => o.guard.isNone) = true) (hAE : noSlot dE A = true) (hEE : noSlot dE E = true) (hneA : decide (A.dst ≠ some dE) = true)
    (hone : ((List.range l0.length).all fun j => (j == jE) || decide ((l0[j]?).bind (·.dst) ≠ some dE)) = true)
    (hr : DRun P l.toArray (fun env1 h1 => AOp P A (fun v h2 => AOp P E (fun v' h' => v' = env1 dE ∧ h' = h2) (env1.put A.dst v) h2 ∧ ARun P l.toArray (Q .normal) T (env1.put A.dst v) h2) env1 h1) l0 env h) : AWp P n (.region id l.toArray true) Q env h :=
  awp_drawE0 hmix hd hsA hsT hin (by rw [← ht, ← hdr, List.take_append_drop]) hE hdE hgA hgE hgT hAE hEE (of_decide_eq_true hneA) hone hr

end Go.Am

namespace Go.Am
set_option linter.unusedSimpArgs false
set_option linter.unusedVariables false
open Go.RowKit

def PW (m : Map) (h : AHeap) (a b : Array Value) : Prop := a.size = b.size ∧ ∀ (i : Nat) (v r : Value), a[i]? = some v → b[i]? = some r → VRel m h v r

theorem PW.set {m h} {a b : Array Value} (p : PW m h a b) {v r : Value} (hv : VRel m h v r) (i : Nat) : PW m h (a.setIfInBounds i v) (b.setIfInBounds i r) := by
  refine ⟨by simp [p.1], fun j x y hx hy => ?_⟩
  rw [Array.getElem?_setIfInBounds] at hx hy
  by_cases e : i = j
  · subst e
    simp only [if_true] at hx hy
    split at hx
    · rename_i hlt
      rw [if_pos (by rw [← p.1]; exact hlt)] at hy
      cases hx; cases hy; exact hv
    · cases hx
  · rw [if_neg e] at hx hy
    exact p.2 j x y hx hy

theorem foldl_pw {m h} {off : Nat} : ∀ (l l' : List (Value × Nat)) (a b : Array Value), l.length = l'.length →
    (∀ (i : Nat) (x y : Value × Nat), l[i]? = some x → l'[i]? = some y → x.2 = y.2 ∧ VRel m h x.1 y.1) → PW m h a b →
    PW m h (l.foldl (fun cs x => cs.setIfInBounds (off + x.2) x.1) a) (l'.foldl (fun cs x => cs.setIfInBounds (off + x.2) x.1) b)
  | [], [], _, _, _, _, p => p
  | [], _ :: _, _, _, hl, _, _ => by simp at hl
  | _ :: _, [], _, _, hl, _, _ => by simp at hl
  | x :: l, y :: l', a, b, hl, hx, p => by
    simp only [List.foldl_cons]
    obtain ⟨h1, h2⟩ := hx 0 x y rfl rfl
    rw [h1]
    exact foldl_pw l l' _ _ (by simpa using hl) (fun i u v hu hv => hx (i + 1) u v (by simpa using hu) (by simpa using hv)) (p.set h2 _)

theorem fill_pw {m h} {place : Nat → Option (Nat × Nat)} : ∀ (ps qs : List (Nat × Value)) (a b out : Array Value), ps.length = qs.length →
    (∀ (i : Nat) (x y : Nat × Value), ps[i]? = some x → qs[i]? = some y → x.1 = y.1 ∧ VRel m h x.2 y.2) → PW m h a b → Instr.fill place a ps = some out →
    ∃ out', Instr.fill place b qs = some out' ∧ PW m h out out'
  | [], [], a, b, out, _, _, p, hf => by simp only [Instr.fill, Option.some.injEq] at hf; subst hf; exact ⟨b, rfl, p⟩
  | [], _ :: _, _, _, _, hl, _, _, _ => by simp at hl
  | _ :: _, [], _, _, _, hl, _, _, _ => by simp at hl
  | (i, v) :: ps, (j, r) :: qs, a, b, out, hl, hx, p, hf => by
    obtain ⟨h1, h2⟩ := hx 0 _ _ rfl rfl
    simp only at h1 h2
    subst h1
    simp only [Instr.fill] at hf ⊢
    cases hp : place i with
    | none => rw [hp] at hf; cases hf
    | some os =>
      obtain ⟨off, size⟩ := os
      rw [hp] at hf
      simp only [] at hf ⊢
      obtain ⟨hs, hc⟩ := h2.cells
      rw [← hs, ← p.1]
      split at hf
      · cases hf
      · rename_i hcond
        rw [if_neg hcond]
        refine fill_pw ps qs _ _ out (by simpa using hl) (fun k u w hu hw => hx (k + 1) u w (by simpa using hu) (by simpa using hw)) ?_ hf
        rw [← Array.foldl_toList, ← Array.foldl_toList]
        refine foldl_pw _ _ a b (by simp [hs]) (fun k x y hxk hyk => ?_) p
        simp only [Array.toList_zipIdx, List.getElem?_zipIdx, Option.map_eq_some_iff] at hxk hyk
        obtain ⟨x', hx', rfl⟩ := hxk
        obtain ⟨y', hy', rfl⟩ := hyk
        simp only [Array.getElem?_toList] at hx' hy'
        obtain ⟨q1, rfl⟩ := Array.getElem?_eq_some_iff.1 hx'
        obtain ⟨q2, rfl⟩ := Array.getElem?_eq_some_iff.1 hy'
        exact ⟨rfl, hc k q1 q2⟩

theorem parts_pw {m h} {env : Env} {a : Act} {o : Oper} {parts : Array (Nat × Operand)} (hop : OpsRel m h env a o) (hsub : ∀ x ∈ parts.toList, x.2 ∈ o.op.operands.toList) :
    ∀ (i : Nat) (x y : Nat × Value), (parts.toList.map fun p => (p.1, aeval env p.2))[i]? = some x → (parts.toList.map fun p => (p.1, a.eval p.2))[i]? = some y → x.1 = y.1 ∧ VRel m h x.2 y.2 := fun i x y hx hy => by
  simp only [List.getElem?_map, Option.map_eq_some_iff] at hx hy
  obtain ⟨p, hp, rfl⟩ := hx
  obtain ⟨q, hq, rfl⟩ := hy
  rw [hp] at hq; cases hq
  exact ⟨rfl, hop _ (hsub p (List.mem_of_getElem? hp))⟩

section
variable {P : Program} {K : Value → AHeap → Prop} {env : Env} {h : AHeap} {dst : Option Tmp} {ty : TypeId} {pos : String} {after : Array Edge} {guard : Option (Nat × Bool)}

theorem run_places {P : Program} (w : World) (sizes : Nat → Nat) : ∀ (fs : List Field), (∀ f ∈ fs, ∃ i, P.info? f.type = some i ∧ i.size = sizes f.type) →
    (fs.mapM fun f => (do pure (f.offset, ← sizeOf f.type) : Sem (Nat × Nat))).run P w = .ok (fs.map fun f => (f.offset, sizes f.type)) w
  | [], _ => rfl
  | f :: fs, hf => by
    obtain ⟨i, hi, hs⟩ := hf f (by simp)
    have ih := run_places w sizes fs (fun g hg => hf g (by simp [hg]))
    rw [List.mapM_cons]
    simp only [Sem.run_bind, Sem.run_pure, sizeOf, typeInfo, run_program, Result.andThen_ok, hi, List.map_cons, hs] at ih ⊢
    rw [ih]
    simp

/-- A struct's literal. -/
theorem aop_build {t : TypeId} {parts : Array (Nat × Operand)} {fs : Array Field} {i : TypeInfo} {z : Value} {out : Array Value} (sizes : Nat → Nat) (hu : P.underlying t = some (.struct fs)) (hi : P.info? t = some i) (hz : i.zero = some z)
    (hcz : isConst z = true) (hsz : ∀ f ∈ fs.toList, ∃ i, P.info? f.type = some i ∧ i.size = sizes f.type)
    (hf : Instr.fill (fun k => (fs.map fun f => (f.offset, sizes f.type))[k]?) z.cells (parts.toList.map fun p => (p.1, aeval env p.2)) = some out) (hK : K (.agg out) h) :
    AOp P ⟨dst, .build t parts, ty, pos, after, guard⟩ K env h :=
  .of_pure _ (fun m w a hr hop => by
    have hv := (VRel.const m h hcz).cells
    have p0 : PW m h z.cells z.cells := ⟨rfl, fun j v r e1 e2 => by
      rw [e1] at e2; cases e2
      obtain ⟨q, rfl⟩ := Array.getElem?_eq_some_iff.1 e1
      exact hv.2 j q q⟩
    obtain ⟨out', hf', p'⟩ := fill_pw _ (parts.toList.map fun p => (p.1, a.eval p.2)) _ _ _ (by simp) (parts_pw hop (fun x hx => by
      simp only [Op.operands, List.mem_map]
      exact ⟨x, hx, rfl⟩)) p0 hf
    refine ⟨.agg out', ?_, .agg p'.1 fun j h1 h2 => p'.2 j _ _ (Array.getElem?_eq_getElem h1) (Array.getElem?_eq_getElem h2)⟩
    have hpl := run_places (P := P) w sizes fs.toList hsz
    have hpl2 : (fs.mapM fun f => (do pure (f.offset, ← sizeOf f.type) : Sem (Nat × Nat))).run P w = .ok (fs.map fun f => (f.offset, sizes f.type)) w := by
      rw [show fs = fs.toList.toArray by simp, List.mapM_toArray]
      simp only [Sem.run_map, hpl, Result.andThen_ok, List.map_toArray]
    simp only [execOp, Instr.build, Sem.run_bind, zeroValue, typeInfo, run_program, Result.andThen_ok, hi, Sem.run_pure, hz, run_underlying hu, hpl2]
    rw [show (parts.map fun x => (x.1, a.eval x.2)).toList = parts.toList.map fun p => (p.1, a.eval p.2) by simp, hf']
    rfl) hK

/-- A slice's literal. -/
theorem aop_buildSlice {t e : TypeId} {len : Nat} {parts : Array (Nat × Operand)} {i : TypeInfo} {z : Value} {out : Array Value} (hu : P.underlying t = some (.slice e)) (hi : P.info? e = some i) (hz : i.zero = some z)
    (hcz : isConst z = true) (hsz : i.size = z.cells.size) (hpos : 0 < i.size) (hlen : len * i.size ≤ 2 ^ 24)
    (hf : Instr.fill (fun k => some (k * i.size, i.size)) ((Array.range (len * i.size)).map (z.cells[· % z.cells.size]!)) (parts.toList.map fun p => (p.1, aeval env p.2)) = some out) (hos : out.size = len * i.size)
    (hK : K (.slice (some ⟨h.length, 0, some (len * i.size)⟩) len len) (h ++ [⟨out.toList, true, i.size⟩])) :
    AOp P ⟨dst, .buildSlice t len parts, ty, pos, after, guard⟩ K env h :=
  .of_run fun m w a hr hop => by
    have hv := (VRel.const m h hcz).cells
    have p0 : PW m h ((Array.range (len * i.size)).map (z.cells[· % z.cells.size]!)) ((Array.range (len * i.size)).map (z.cells[· % z.cells.size]!)) := ⟨rfl, fun j v r e1 e2 => by
      rw [e1] at e2; cases e2
      simp only [Array.getElem?_map, Option.map_eq_some_iff] at e1
      obtain ⟨q, hq, rfl⟩ := e1
      have hlt : q % z.cells.size < z.cells.size := Nat.mod_lt _ (by omega)
      have := hv.2 (q % z.cells.size) hlt hlt
      simpa [hlt] using this⟩
    obtain ⟨out', hf', p'⟩ := fill_pw _ (parts.toList.map fun p => (p.1, a.eval p.2)) _ _ _ (by simp) (parts_pw hop (fun x hx => by
      simp only [Op.operands, List.mem_map]
      exact ⟨x, hx, rfl⟩)) p0 hf
    obtain ⟨r1, s1⟩ := hr.push (c := out') (ty := e) (o := ⟨out.toList, true, i.size⟩) (by simp [p'.1]) (fun j hj => by
      simp only [Array.length_toList] at hj
      have h2 : j < out'.size := by rw [← p'.1]; exact hj
      exact ⟨out'[j], by simp [h2], by simpa using p'.2 j _ _ (Array.getElem?_eq_getElem hj) (Array.getElem?_eq_getElem h2)⟩)
    refine ⟨_, .slice (some ⟨w.heap.size, 0, none⟩) len len, _, _, _, ?_, r1, s1, ?_, hK⟩
    · have hn : ¬ (len * i.size > 2 ^ 24) := by omega
      have hpe : (parts.map fun x => (x.1, a.eval x.2)).toList = parts.toList.map fun p => (p.1, a.eval p.2) := by simp
      by_cases h0 : len * i.size = 0
      · have e0 : (Array.range (len * i.size)).map (fun x => (#[] : Array Value)[x % (#[] : Array Value).size]!) = (Array.range (len * i.size)).map (z.cells[· % z.cells.size]!) := by
          rw [h0, Array.range_zero']; simp
        simp only [execOp, Instr.buildSlice, Sem.run_bind, run_underlying hu, Result.andThen_ok, sizeOf, typeInfo, run_program, hi, Sem.run_pure, if_neg hn, if_pos h0, hpe, e0, hf']
        simp [newRow]
      · simp only [execOp, Instr.buildSlice, Sem.run_bind, run_underlying hu, Result.andThen_ok, sizeOf, typeInfo, run_program, hi, Sem.run_pure, if_neg hn, if_neg h0, zeroValue, hz, hpe, hf']
        simp [newRow]
    · refine .slice (o := ⟨out.toList, true, i.size⟩) (by simp) (by simp [hos]) ⟨_, _, _, rfl⟩ fun _ => ⟨⟨w.heap.size, 0, out'.size⟩, by simp [Map.push], _, len, rfl, Nat.le_refl _, Nat.le_refl _, by simp [hos], fun _ => rfl, fun _ => ⟨fun _ => by simp [← p'.1, hos], fun hz0 => ?_⟩⟩
      simp only [Array.length_toList, hos] at hz0
      rcases Nat.eq_zero_or_pos len with h0 | h0
      · exact h0
      · have := Nat.mul_pos h0 hpos; omega

end
end Go.Am

namespace Go.Am
set_option linter.unusedSimpArgs false
set_option linter.unusedVariables false
open Go.RowKit

abbrev i64 (z : Int) : Value := .int .i64 z
abbrev bo (b : Bool) : Value := .bool b

/-- A type's row: its zero, its cells, its bytes. -/
def InfoIs (P : Program) (e : TypeId) (z : Value) (size bytes : Nat) : Prop :=
  (P.info? e).map (fun i => (i.zero, i.size, i.bytes)) = some (some z, size, bytes)

theorem InfoIs.get {P : Program} {e : TypeId} {z : Value} {size bytes : Nat} (h : InfoIs P e z size bytes) : ∃ i, P.info? e = some i ∧ i.zero = some z ∧ i.size = size ∧ i.bytes = bytes := by
  unfold InfoIs at h
  cases hi : P.info? e with
  | none => rw [hi] at h; cases h
  | some i =>
    rw [hi] at h
    simp only [Option.map_some, Option.some.injEq, Prod.mk.injEq] at h
    exact ⟨i, rfl, h.1, h.2.1, h.2.2⟩

section
variable {P : Program} {ops : Array Oper} {KE : Env → AHeap → Prop} {os : List Oper} {env : Env} {h : AHeap} {d : Option Tmp} {op : Op} {ty : TypeId} {pos : String} {af : Array Edge} {g : Option (Nat × Bool)}

theorem a_do (hw : wantedA ops env ⟨d, op, ty, pos, af, g⟩ = some true) (ho : AOp P ⟨d, op, ty, pos, af, g⟩ (fun v h' => ARun P ops KE os (env.put d v) h') env h) :
    ARun P ops KE (⟨d, op, ty, pos, af, g⟩ :: os) env h := .inl ⟨hw, ho⟩
theorem a_no (hw : wantedA ops env ⟨d, op, ty, pos, af, g⟩ = some false) (ho : ARun P ops KE os (env.put d undef) h) : ARun P ops KE (⟨d, op, ty, pos, af, g⟩ :: os) env h := .inr ⟨hw, ho⟩
theorem a_end (hk : KE env h) : ARun P ops KE [] env h := hk

theorem d_do {v : Value} (hw : wantedA ops env ⟨d, op, ty, pos, af, g⟩ = some true) (ho : AOp P ⟨d, op, ty, pos, af, g⟩ (fun v' h' => v' = v ∧ h' = h) env h) (hv : Within h.length v)
    (k : DRun P ops KE os (env.put d v) h) : DRun P ops KE (⟨d, op, ty, pos, af, g⟩ :: os) env h :=
  .inl ⟨hw, v, [], by simpa using ho, by simpa using hv, by simp, by simpa using k⟩
theorem d_new {v : Value} {gs : List AObj} (hw : wantedA ops env ⟨d, op, ty, pos, af, g⟩ = some true) (ho : AOp P ⟨d, op, ty, pos, af, g⟩ (fun v' h' => v' = v ∧ h' = h ++ gs) env h) (hv : Within (h ++ gs).length v)
    (hg : ∀ x ∈ gs, ∀ u ∈ x.cells, Within (h ++ gs).length u)
    (k : DRun P ops KE os (env.put d v) (h ++ gs)) : DRun P ops KE (⟨d, op, ty, pos, af, g⟩ :: os) env h :=
  .inl ⟨hw, v, gs, ho, hv, hg, k⟩
theorem d_no (hw : wantedA ops env ⟨d, op, ty, pos, af, g⟩ = some false) (ho : DRun P ops KE os (env.put d undef) h) : DRun P ops KE (⟨d, op, ty, pos, af, g⟩ :: os) env h := .inr ⟨hw, ho⟩
theorem d_end (hk : KE env h) : DRun P ops KE [] env h := hk
end

section
variable {P : Program} {K : Value → AHeap → Prop} {env : Env} {h : AHeap} {dst : Option Tmp} {ty : TypeId} {pos : String} {after : Array Edge} {guard : Option (Nat × Bool)}

theorem o_move {x : Operand} {v : Value} (hv : aeval env x = v) (hK : K v h) : AOp P ⟨dst, .move x, ty, pos, after, guard⟩ K env h := aop_move (by rw [hv]; exact hK)
theorem o_assign {x : Operand} {v : Value} (hv : aeval env x = v) (hK : K v h) : AOp P ⟨dst, .assign x, ty, pos, after, guard⟩ K env h := aop_assign (by rw [hv]; exact hK)
theorem o_pickT {c x y : Operand} {v : Value} (hc : aeval env c = .bool true) (hv : aeval env x = v) (hK : K v h) : AOp P ⟨dst, .pick c x y, ty, pos, after, guard⟩ K env h :=
  aop_pick hc (by rw [if_pos rfl, hv]; exact hK)
theorem o_pickF {c x y : Operand} {v : Value} (hc : aeval env c = .bool false) (hv : aeval env y = v) (hK : K v h) : AOp P ⟨dst, .pick c x y, ty, pos, after, guard⟩ K env h :=
  aop_pick hc (by rw [if_neg (by simp), hv]; exact hK)

section
variable {t yt : TypeId} {x y : Operand} {k : IntKind} {p q : Int}
theorem o_lss (hx : aeval env x = .int k p) (hy : aeval env y = .int k q) (ht : p < q → K (.bool true) h) (hf : ¬ p < q → K (.bool false) h) : AOp P ⟨dst, .binOp .lss t x y yt, ty, pos, after, guard⟩ K env h :=
  aop_bin hx hy rfl (by by_cases c : p < q <;> simp only [c, decide_true, decide_false] <;> first | exact ht c | exact hf c)
theorem o_leq (hx : aeval env x = .int k p) (hy : aeval env y = .int k q) (ht : p ≤ q → K (.bool true) h) (hf : ¬ p ≤ q → K (.bool false) h) : AOp P ⟨dst, .binOp .leq t x y yt, ty, pos, after, guard⟩ K env h :=
  aop_bin hx hy rfl (by by_cases c : p ≤ q <;> simp only [c, decide_true, decide_false] <;> first | exact ht c | exact hf c)
theorem o_gtr (hx : aeval env x = .int k p) (hy : aeval env y = .int k q) (ht : q < p → K (.bool true) h) (hf : ¬ q < p → K (.bool false) h) : AOp P ⟨dst, .binOp .gtr t x y yt, ty, pos, after, guard⟩ K env h :=
  aop_bin hx hy rfl (by by_cases c : q < p <;> simp only [c, decide_true, decide_false] <;> first | exact ht c | exact hf c)
theorem o_geq (hx : aeval env x = .int k p) (hy : aeval env y = .int k q) (ht : q ≤ p → K (.bool true) h) (hf : ¬ q ≤ p → K (.bool false) h) : AOp P ⟨dst, .binOp .geq t x y yt, ty, pos, after, guard⟩ K env h :=
  aop_bin hx hy rfl (by by_cases c : q ≤ p <;> simp only [c, decide_true, decide_false] <;> first | exact ht c | exact hf c)
theorem o_eql (hx : aeval env x = .int k p) (hy : aeval env y = .int k q) (ht : p = q → K (.bool true) h) (hf : ¬ p = q → K (.bool false) h) : AOp P ⟨dst, .binOp .eql t x y yt, ty, pos, after, guard⟩ K env h :=
  aop_bin hx hy rfl (by
    by_cases c : p = q
    · have : (p == q) = true := by simp [c]
      rw [this]; exact ht c
    · have : (p == q) = false := by simp [c]
      rw [this]; exact hf c)
theorem o_neq (hx : aeval env x = .int k p) (hy : aeval env y = .int k q) (ht : ¬ p = q → K (.bool true) h) (hf : p = q → K (.bool false) h) : AOp P ⟨dst, .binOp .neq t x y yt, ty, pos, after, guard⟩ K env h :=
  aop_bin hx hy rfl (by
    by_cases c : p = q
    · have : (p != q) = false := by simp [c]
      rw [this]; exact hf c
    · have : (p != q) = true := by simp [c]
      rw [this]; exact ht c)
/-- Without a split: the test's value is a Bool term. -/
theorem o_bin {op : BinOp} {v : Value} (hx : aeval env x = .int k p) (hy : aeval env y = .int k q) (hv : binInt op k p q = some v) (hK : K v h) : AOp P ⟨dst, .binOp op t x y yt, ty, pos, after, guard⟩ K env h := aop_bin hx hy hv hK

theorem wrap_id {z : Int} (h1 : -9223372036854775808 ≤ z) (h2 : z ≤ 9223372036854775807) : IntKind.i64.wrap z = z := by rw [IntKind.wrap_i64]; omega

theorem o_add {p q : Int} (hx : aeval env x = i64 p) (hy : aeval env y = i64 q) (h1 : -9223372036854775808 ≤ p + q) (h2 : p + q ≤ 9223372036854775807) (hK : K (i64 (p + q)) h) : AOp P ⟨dst, .binOp .add t x y yt, ty, pos, after, guard⟩ K env h :=
  aop_bin hx hy rfl (by rw [wrap_id h1 h2]; exact hK)
theorem o_sub {p q : Int} (hx : aeval env x = i64 p) (hy : aeval env y = i64 q) (h1 : -9223372036854775808 ≤ p - q) (h2 : p - q ≤ 9223372036854775807) (hK : K (i64 (p - q)) h) : AOp P ⟨dst, .binOp .sub t x y yt, ty, pos, after, guard⟩ K env h :=
  aop_bin hx hy rfl (by rw [wrap_id h1 h2]; exact hK)
theorem o_mul {p q : Int} (hx : aeval env x = i64 p) (hy : aeval env y = i64 q) (h1 : -9223372036854775808 ≤ p * q) (h2 : p * q ≤ 9223372036854775807) (hK : K (i64 (p * q)) h) : AOp P ⟨dst, .binOp .mul t x y yt, ty, pos, after, guard⟩ K env h :=
  aop_bin hx hy rfl (by rw [wrap_id h1 h2]; exact hK)
theorem o_rem {p q : Int} (hx : aeval env x = i64 p) (hy : aeval env y = i64 q) (hp : 0 ≤ p) (hq : 0 < q) (hK : K (i64 (p % q)) h) : AOp P ⟨dst, .binOp .rem t x y yt, ty, pos, after, guard⟩ K env h :=
  aop_bin hx hy (v := i64 (p % q)) (by
    have h0 : ¬ q = 0 := by omega
    simp only [binInt, h0, if_false]
    rw [Int.tmod_eq_emod_of_nonneg hp]) hK
end

theorem o_conv {src d : TypeId} {x : Operand} {k : IntKind} {p : Int} {sd : TypeDesc} (hs : P.underlying src = some sd) (hd : P.underlying d = some (.int .i64))
    (hx : aeval env x = .int k p) (h1 : -9223372036854775808 ≤ p) (h2 : p ≤ 9223372036854775807) (hK : K (i64 p) h) : AOp P ⟨dst, .convert src d x, ty, pos, after, guard⟩ K env h :=
  aop_conv_int hs hd hx (by rw [wrap_id h1 h2]; exact hK)

theorem o_notT {t : TypeId} {x : Operand} (hx : aeval env x = .bool true) (hK : K (.bool false) h) : AOp P ⟨dst, .unOp .not t x, ty, pos, after, guard⟩ K env h := aop_not hx hK
theorem o_notF {t : TypeId} {x : Operand} (hx : aeval env x = .bool false) (hK : K (.bool true) h) : AOp P ⟨dst, .unOp .not t x, ty, pos, after, guard⟩ K env h := aop_not hx hK

theorem k_split {b : Bool} (ht : b = true → K (.bool true) h) (hf : b = false → K (.bool false) h) : K (.bool b) h := by
  cases b
  · exact hf rfl
  · exact ht rfl

theorem o_nilCheck {x : Operand} {ad : Addr} (hx : aeval env x = .pointer (some ad)) (hK : K (.pointer (some ad)) h) : AOp P ⟨dst, .nilCheck x, ty, pos, after, guard⟩ K env h := aop_nilCheck hx (by rw [hx]; exact hK)
theorem o_extract {x : Operand} {i : Nat} {vs : Array Value} {v : Value} (hx : aeval env x = .tuple vs) (hv : vs[i]? = some v) (hK : K v h) : AOp P ⟨dst, .extract x i, ty, pos, after, guard⟩ K env h := aop_extract hx hv hK

theorem o_alloc {e : TypeId} {z : Value} {s b : Nat} (hi : InfoIs P e z s b) (hc : isConst z = true) (hK : K (.pointer (some ⟨h.length, 0, some z.cells.size⟩)) (h ++ [⟨z.cells.toList, true, 1⟩])) :
    AOp P ⟨dst, .alloc e, ty, pos, after, guard⟩ K env h := by
  obtain ⟨i, h1, h2, _⟩ := hi.get
  exact aop_alloc h1 h2 hc hK
theorem o_box {e : TypeId} {x : Operand} {v : Value} (hx : aeval env x = v) (hK : K (.pointer (some ⟨h.length, 0, some v.cells.size⟩)) (h ++ [⟨v.cells.toList, true, 1⟩])) :
    AOp P ⟨dst, .box e x, ty, pos, after, guard⟩ K env h := aop_box hx hK
theorem o_load {t : TypeId} {x : Operand} {k off ver : Nat} {o : AObj} {dd : TypeDesc} {v : Value} (hu : P.underlying t = some dd) (hd : aggD dd = false)
    (hx : aeval env x = .pointer (some ⟨k, off, some ver⟩)) (ho : h[k]? = some o) (hver : o.cells.length = ver) (hv : o.cells[off]? = some v) (hK : K v h) :
    AOp P ⟨dst, .load t x, ty, pos, after, guard⟩ K env h := aop_load hu hd hx ho hver hv hK
theorem o_loadAgg {t : TypeId} {x : Operand} {k off ver s b : Nat} {o : AObj} {dd : TypeDesc} {z : Value} {vs : List Value} (hu : P.underlying t = some dd) (hd : aggD dd = true) (hi : InfoIs P t z s b)
    (hx : aeval env x = .pointer (some ⟨k, off, some ver⟩)) (ho : h[k]? = some o) (hver : o.cells.length = ver) (hv : (o.cells.drop off).take s = vs) (hl : vs.length = s) (hK : K (.agg vs.toArray) h) :
    AOp P ⟨dst, .load t x, ty, pos, after, guard⟩ K env h := by
  obtain ⟨i, h1, _, h3, _⟩ := hi.get
  exact aop_loadAgg hu hd h1 (by rw [h3, hl]) hx ho hver (by rw [hl]; exact hv) hK
theorem o_fieldAddr {s : TypeId} {x : Operand} {fi k off ver sz b : Nat} {o : AObj} {fs : Array Field} {f : Field} {z : Value} (hu : P.underlying s = some (.struct fs)) (hf : fs[fi]? = some f)
    (hi : InfoIs P f.type z (sz + 1) b) (hx : aeval env x = .pointer (some ⟨k, off, some ver⟩)) (ho : h[k]? = some o) (hver : o.cells.length = ver) (hK : K (.pointer (some ⟨k, off + f.offset, some ver⟩)) h) :
    AOp P ⟨dst, .fieldAddr s x fi, ty, pos, after, guard⟩ K env h := by
  obtain ⟨i, h1, _, h3, _⟩ := hi.get
  exact aop_fieldAddr hu hf h1 (by omega) hx ho hver hK
theorem o_store {t : TypeId} {x y : Operand} {k off ver b : Nat} {o : AObj} {z v : Value} (hi : InfoIs P t z 1 b)
    (hx : aeval env x = .pointer (some ⟨k, off, some ver⟩)) (ho : h[k]? = some o) (hver : o.cells.length = ver) (hm : o.mine = true) (hy : aeval env y = v) (hf : off < ver) (h1 : oneCellA v = true)
    (hK : K undef (h.set k ⟨o.cells.set off v, true, o.esz⟩)) : AOp P ⟨dst, .store t x y, ty, pos, after, guard⟩ K env h := by
  obtain ⟨i, h2, _, h3, _⟩ := hi.get
  exact aop_store h2 h3 hx ho hver hm hy hf h1 hK
theorem o_storeAgg {t : TypeId} {x y : Operand} {k off ver s b : Nat} {o : AObj} {z v : Value} (hi : InfoIs P t z s b)
    (hx : aeval env x = .pointer (some ⟨k, off, some ver⟩)) (ho : h[k]? = some o) (hver : o.cells.length = ver) (hm : o.mine = true) (hy : aeval env y = v) (hs : v.cells.size = s) (hf : off + s ≤ ver) (h0 : 0 < s)
    (h1 : v.cells.toList.all oneCellA = true)
    (hK : K undef (h.set k ⟨splice o.cells off v.cells.toList, true, o.esz⟩)) : AOp P ⟨dst, .store t x y, ty, pos, after, guard⟩ K env h := by
  obtain ⟨i, h2, _, h3, _⟩ := hi.get
  exact aop_storeAgg h2 (by omega) hx ho hver hm hy (by omega) (by omega) h1 hK
theorem o_make {t e : TypeId} {x y : Operand} {z : Value} {b : Nat} {k1 k2 : IntKind} {l c : Int} (hu : P.underlying t = some (.slice e)) (hi : InfoIs P e z 1 b) (hp : isPrim z = true) (ho : oneCellA z = true)
    (hx : aeval env x = .int k1 l) (hy : aeval env y = .int k2 c) (h0 : 0 ≤ l) (hlc : l ≤ c) (hb : (b : Int) * c ≤ 281474976710656) (h63 : c ≤ 9223372036854775807)
    (hK : K (.slice (some ⟨h.length, 0, some c.toNat⟩) l.toNat c.toNat) (h ++ [⟨List.replicate c.toNat z, true, 1⟩])) : AOp P ⟨dst, .makeSlice t x y, ty, pos, after, guard⟩ K env h := by
  obtain ⟨i, h1, h2, h3, h4⟩ := hi.get
  exact aop_make hu h1 h2 h3 hp ho hx hy h0 hlc (by rw [h4]; exact hb) h63 hK
theorem o_callF {f : FuncId} {xs : Array Operand} {ats : Array TypeId} {vs : List Value} (hv : xs.toList.map (aeval env) = vs) (ht : Tri P f vs h K) :
    AOp P ⟨dst, .call { callee := .value (.func f), args := xs, argTypes := ats }, ty, pos, after, guard⟩ K env h := aop_callF (by rw [hv]; exact ht)
theorem Ret.to {f : FuncId} {vs : List Value} {v : Value} {h' : AHeap} (r : Ret P f vs h v h') (hK : K v h') : Tri P f vs h K := r.mono fun _ _ ⟨e1, e2⟩ => by subst e1 e2; exact hK
end

/-! ## Lists of integers -/

/-- A slice value that reads as integers. -/
def Ints (h : AHeap) (v : Value) (xs : List Int) : Prop :=
  (v = .slice none 0 0 ∧ xs = []) ∨
  ∃ k off ver cap o, v = .slice (some ⟨k, off, some ver⟩) xs.length cap ∧ h[k]? = some o ∧ o.cells.length = ver ∧ o.esz = 1 ∧ xs.length ≤ cap ∧ off + cap = ver ∧
    ∀ (i : Nat) (z : Int), xs[i]? = some z → o.cells[off + i]? = some (i64 z)

theorem Ints.app {h : AHeap} {v : Value} {xs : List Int} (hv : Ints h v xs) (g : List AObj) : Ints (h ++ g) v xs := by
  rcases hv with hv | ⟨k, off, ver, cap, o, h1, h2, h3, h4, h5, h6, h7⟩
  · exact .inl hv
  · exact .inr ⟨k, off, ver, cap, o, h1, by rw [List.getElem?_append_left (List.getElem?_eq_some_iff.1 h2).1]; exact h2, h3, h4, h5, h6, h7⟩

theorem Ints.within {h : AHeap} {v : Value} {xs : List Int} (hv : Ints h v xs) : Within h.length v := by
  rcases hv with ⟨rfl, _⟩ | ⟨k, off, ver, cap, o, rfl, h2, _⟩
  · exact .prim rfl
  · exact .slice (List.getElem?_eq_some_iff.1 h2).1

/-- p points to element i of the list v. -/
def IsElem (v : Value) (i : Nat) (p : Value) : Prop :=
  match v with
  | .slice (some ⟨k, off, ver⟩) _ _ => p = .pointer (some ⟨k, off + i, ver⟩)
  | _ => False

section
variable {P : Program} {K : Value → AHeap → Prop} {env : Env} {h : AHeap} {dst : Option Tmp} {ty : TypeId} {pos : String} {after : Array Edge} {guard : Option (Nat × Bool)}

theorem o_lenI {t e : TypeId} {x : Operand} {v : Value} {xs : List Int} (hu : P.underlying t = some (.slice e)) (hx : aeval env x = v) (hv : Ints h v xs) (hK : K (i64 xs.length) h) :
    AOp P ⟨dst, .call { callee := .builtin .len, args := #[x], argTypes := #[t] }, ty, pos, after, guard⟩ K env h := by
  rcases hv with ⟨rfl, rfl⟩ | ⟨k, off, ver, cap, o, rfl, h2, h3, h4, h5, h6, h7⟩
  · exact aop_len hu hx (fun ad ha => by cases ha) hK
  · exact aop_len hu hx (fun ad ha => by cases ha; exact ⟨k, off, ver, o, rfl, h2, h3⟩) hK

theorem o_indexI {t e : TypeId} {x y : Operand} {v z : Value} {b : Nat} {xs : List Int} {kd : IntKind} {i : Nat} (hu : P.underlying t = some (.slice e)) (hi : InfoIs P e z 1 b)
    (hx : aeval env x = v) (hv : Ints h v xs) (hy : aeval env y = .int kd (i : Int)) (hlt : i < xs.length) (hK : ∀ p, IsElem v i p → K p h) : AOp P ⟨dst, .indexAddr t x y, ty, pos, after, guard⟩ K env h := by
  obtain ⟨inf, g1, _, g3, _⟩ := hi.get
  rcases hv with ⟨rfl, rfl⟩ | ⟨k, off, ver, cap, o, rfl, h2, h3, h4, h5, h6, h7⟩
  · simp at hlt
  · refine aop_indexAddr hu g1 (by rw [g3, h4]) hx h2 h3 hy (by omega) (by omega) (by omega) ?_
    rw [h4, Int.toNat_natCast, Nat.mul_one]
    exact hK _ rfl

theorem o_indexZ {t e : TypeId} {x y : Operand} {v z : Value} {b : Nat} {xs : List Int} {kd : IntKind} {i : Int} (hu : P.underlying t = some (.slice e)) (hi : InfoIs P e z 1 b)
    (hx : aeval env x = v) (hv : Ints h v xs) (hy : aeval env y = .int kd i) (h0 : 0 ≤ i) (hlt : i < xs.length) (hK : ∀ p, IsElem v i.toNat p → K p h) : AOp P ⟨dst, .indexAddr t x y, ty, pos, after, guard⟩ K env h :=
  o_indexI hu hi hx hv (by rw [hy, Int.toNat_of_nonneg h0]) (by omega) hK

theorem o_loadI {t : TypeId} {x : Operand} {v p : Value} {dd : TypeDesc} {xs : List Int} {i : Nat} (hu : P.underlying t = some dd) (hd : aggD dd = false) (hx : aeval env x = p) (hp : IsElem v i p) (hv : Ints h v xs) (hlt : i < xs.length)
    (hK : K (i64 (xs.getD i 0)) h) : AOp P ⟨dst, .load t x, ty, pos, after, guard⟩ K env h := by
  rcases hv with ⟨rfl, rfl⟩ | ⟨k, off, ver, cap, o, rfl, h2, h3, h4, h5, h6, h7⟩
  · simp at hlt
  · have hz : xs[i]? = some (xs.getD i 0) := by simp [List.getD_eq_getElem?_getD, List.getElem?_eq_getElem hlt]
    exact aop_load hu hd (hx.trans hp) h2 h3 (h7 i _ hz) hK
end

/-! ## Slots at a loop's head -/

def puts (e : Env) : List (Tmp × Value) → Env
  | [] => e
  | (t, v) :: l => (puts e l).put (some t) v

def Slots (env : Env) (l : List (Tmp × Value)) : Prop := ∃ e, env = puts e l

def AllEq (env : Env) : List (Tmp × Value) → Prop
  | [] => True
  | (t, v) :: l => env t = v ∧ AllEq env l

theorem Slots.mk {env : Env} : ∀ {l : List (Tmp × Value)}, AllEq env l → Slots env l := fun {l} h => ⟨env, by
  induction l with
  | nil => rfl
  | cons p l ih =>
    obtain ⟨t, v⟩ := p
    simp only [puts, ← ih h.2]
    funext u
    simp only [Env.put]
    split
    · rename_i e; subst e; exact h.1
    · rfl⟩


theorem ll1 {α : Type} {a b : List α} : (a ++ b).length = a.length + b.length := List.length_append
theorem ll2 {α : Type} {a : α} {b : List α} : (a :: b).length = b.length + 1 := rfl
theorem ll3 {α : Type} : ([] : List α).length = 0 := rfl
theorem ll4 {α : Type} {a : List α} {i : Nat} {x : α} : (a.set i x).length = a.length := List.length_set
/-! ## For the printed walks -/

theorem awp_condT {P : Program} {n : Nat} {Q : Exit → Env → AHeap → Prop} {env : Env} {h : AHeap} {t : Tmp} {x y : Code} (hc : env t = .bool true) (hx : AWp P n x Q env h) : AWp P n (.cond (.tmp t) x y) Q env h := awp_cond hc hx
theorem awp_condF {P : Program} {n : Nat} {Q : Exit → Env → AHeap → Prop} {env : Env} {h : AHeap} {t : Tmp} {x y : Code} (hc : env t = .bool false) (hx : AWp P n y Q env h) : AWp P n (.cond (.tmp t) x y) Q env h := awp_cond hc hx

theorem lmap_nil {env : Env} : ([] : List Operand).map (aeval env) = [] := rfl
theorem lmap_cons {env : Env} {x : Operand} {l : List Operand} {v : Value} {vs : List Value} (h : aeval env x = v) (t : l.map (aeval env) = vs) : (x :: l).map (aeval env) = v :: vs := by simp [h, t]

theorem lk_last {h : AHeap} {o : AObj} {k : Nat} (e : k = h.length) : (h ++ [o])[k]? = some o := by subst e; simp
theorem lk_prev {h g : AHeap} {o : AObj} {k : Nat} (e : h[k]? = some o) : (h ++ g)[k]? = some o := by rw [List.getElem?_append_left (List.getElem?_eq_some_iff.1 e).1]; exact e
theorem set_last {h : AHeap} {o o' : AObj} {k : Nat} (e : k = h.length) : (h ++ [o]).set k o' = h ++ [o'] := by subst e; simp
theorem set_prev {h g : AHeap} {o' : AObj} {k : Nat} (e : k < h.length) : (h ++ g).set k o' = h.set k o' ++ g := by rw [List.set_append_left _ _ e]

theorem Ret.toB {P : Program} {K : Value → AHeap → Prop} {h : AHeap} {f : FuncId} {vs : List Value} {b : Bool} {h' : AHeap} (r : Ret P f vs h (.bool b) h') (ht : b = true → K (.bool true) h') (hf : b = false → K (.bool false) h') : Tri P f vs h K :=
  r.to (k_split ht hf)

section
variable {P : Program} {K : Value → AHeap → Prop} {env : Env} {h : AHeap} {dst : Option Tmp} {ty : TypeId} {pos : String} {after : Array Edge} {guard : Option (Nat × Bool)}
theorem o_boxN {e : TypeId} {x : Operand} {v : Value} {n : Nat} {cs : List Value} (hx : aeval env x = v) (hc : v.cells.toList = cs) (hn : cs.length = n) (hK : ∀ k, k = h.length → K (.pointer (some ⟨k, 0, some n⟩)) (h ++ [⟨cs, true, 1⟩])) :
    AOp P ⟨dst, .box e x, ty, pos, after, guard⟩ K env h := o_box hx (by subst hc hn; exact hK _ rfl)
theorem o_allocN {e : TypeId} {z : Value} {s b n : Nat} {cs : List Value} (hi : InfoIs P e z s b) (hz : isConst z = true) (hc : z.cells.toList = cs) (hn : cs.length = n) (hK : ∀ k, k = h.length → K (.pointer (some ⟨k, 0, some n⟩)) (h ++ [⟨cs, true, 1⟩])) :
    AOp P ⟨dst, .alloc e, ty, pos, after, guard⟩ K env h := o_alloc hi hz (by subst hc hn; exact hK _ rfl)
end

def Grown (h h' : AHeap) : Prop := ∃ g, h' = h ++ g
theorem Grown.refl (h : AHeap) : Grown h h := ⟨[], by simp⟩
theorem Grown.push {h h' : AHeap} (p : Grown h h') (g : List AObj) : Grown h (h' ++ g) := by
  obtain ⟨g0, rfl⟩ := p
  exact ⟨g0 ++ g, by simp⟩

/-- A function that answers one value without references, and leaves all as it was. -/
theorem ret_of {P : Program} {f : FuncId} {args : List Value} {h : AHeap} {V : Value} (hw : Within h.length V) (t : Tri P f args h fun v h' => v = V ∧ Grown h h') : Ret P f args h V h :=
  Tri.forget rfl hw (fun c => c) t


theorem ares_tmp {P : Program} {h : AHeap} {env : Env} {t : Tmp} {v : Value} (e : env t = v) : ARes P h env (.tmp t) v := e.symm

/-- A block of integers of one's own, and the slice over all of it. -/
def lst (xs : List Int) : AObj := ⟨xs.map i64, true, 1⟩
abbrev sl (k n : Nat) : Value := .slice (some ⟨k, 0, some n⟩) n n

theorem Ints.own {h : AHeap} {k n : Nat} {xs : List Int} (ho : h[k]? = some (lst xs)) (hn : xs.length = n) : Ints h (sl k n) xs := by
  subst hn
  exact .inr ⟨k, 0, _, _, lst xs, rfl, ho, by simp [lst], rfl, Nat.le_refl _, by simp, fun i z hz => by simp [lst, hz]⟩
theorem Ints.new {h : AHeap} {k n : Nat} {xs : List Int} (e : k = h.length) (hn : xs.length = n) : Ints (h ++ [lst xs]) (sl k n) xs := Ints.own (lk_last e) hn

/-- The contract of a function that makes one new block. -/
def RetN (P : Program) (f : FuncId) (args : List Value) (h : AHeap) (V : Nat → Value) (o : AObj) : Prop := Ret P f args h (V h.length) (h ++ [o])

theorem RetN.toN {P : Program} {K : Value → AHeap → Prop} {h : AHeap} {f : FuncId} {vs : List Value} {V : Nat → Value} {o : AObj} (r : RetN P f vs h V o) (hK : ∀ k, k = h.length → (h ++ [o])[k]? = some o → K (V k) (h ++ [o])) : Tri P f vs h K :=
  Ret.to r (hK _ rfl (by simp))

section
variable {P : Program} {K : Value → AHeap → Prop} {env : Env} {h : AHeap} {dst : Option Tmp} {ty : TypeId} {pos : String} {after : Array Edge} {guard : Option (Nat × Bool)}

theorem o_storeI {t : TypeId} {x y : Operand} {b k i : Nat} {z : Value} {ys : List Int} {p : Value} {q : Int} {n : Nat} {h' : AHeap} (hi : InfoIs P t z 1 b) (hx : aeval env x = p) (hp : IsElem (sl k n) i p)
    (ho : h[k]? = some (lst ys)) (hn : ys.length = n) (hlt : i < ys.length) (hy : aeval env y = i64 q) (hs : h.set k (lst (ys.set i q)) = h') (hK : K undef h') : AOp P ⟨dst, .store t x y, ty, pos, after, guard⟩ K env h := by
  subst hn
  refine o_store hi (hx.trans hp) ho (by simp [lst]) rfl hy (by simpa using hlt) rfl ?_
  subst hs
  simpa [lst, List.map_set] using hK
end


section
variable {P : Program} {ops : Array Oper} {KE : Env → AHeap → Prop} {os : List Oper} {env : Env} {h : AHeap} {d : Option Tmp} {op : Op} {ty : TypeId} {pos : String} {af : Array Edge} {g : Option (Nat × Bool)}
theorem d_lss {t yt : TypeId} {x y : Operand} {k : IntKind} {p q : Int} (hw : wantedA ops env ⟨d, .binOp .lss t x y yt, ty, pos, af, g⟩ = some true) (hx : aeval env x = .int k p) (hy : aeval env y = .int k q)
    (ht : p < q → DRun P ops KE os (env.put d (.bool true)) h) (hf : ¬ p < q → DRun P ops KE os (env.put d (.bool false)) h) : DRun P ops KE (⟨d, .binOp .lss t x y yt, ty, pos, af, g⟩ :: os) env h := by
  by_cases c : p < q
  · exact d_do hw (o_lss hx hy (fun _ => ⟨rfl, rfl⟩) (fun n => absurd c n)) (.prim rfl) (ht c)
  · exact d_do hw (o_lss hx hy (fun n => absurd n c) (fun _ => ⟨rfl, rfl⟩)) (.prim rfl) (hf c)
theorem d_leq {t yt : TypeId} {x y : Operand} {k : IntKind} {p q : Int} (hw : wantedA ops env ⟨d, .binOp .leq t x y yt, ty, pos, af, g⟩ = some true) (hx : aeval env x = .int k p) (hy : aeval env y = .int k q)
    (ht : p ≤ q → DRun P ops KE os (env.put d (.bool true)) h) (hf : ¬ p ≤ q → DRun P ops KE os (env.put d (.bool false)) h) : DRun P ops KE (⟨d, .binOp .leq t x y yt, ty, pos, af, g⟩ :: os) env h := by
  by_cases c : p ≤ q
  · exact d_do hw (o_leq hx hy (fun _ => ⟨rfl, rfl⟩) (fun n => absurd c n)) (.prim rfl) (ht c)
  · exact d_do hw (o_leq hx hy (fun n => absurd n c) (fun _ => ⟨rfl, rfl⟩)) (.prim rfl) (hf c)
theorem d_geq {t yt : TypeId} {x y : Operand} {k : IntKind} {p q : Int} (hw : wantedA ops env ⟨d, .binOp .geq t x y yt, ty, pos, af, g⟩ = some true) (hx : aeval env x = .int k p) (hy : aeval env y = .int k q)
    (ht : q ≤ p → DRun P ops KE os (env.put d (.bool true)) h) (hf : ¬ q ≤ p → DRun P ops KE os (env.put d (.bool false)) h) : DRun P ops KE (⟨d, .binOp .geq t x y yt, ty, pos, af, g⟩ :: os) env h := by
  by_cases c : q ≤ p
  · exact d_do hw (o_geq hx hy (fun _ => ⟨rfl, rfl⟩) (fun n => absurd c n)) (.prim rfl) (ht c)
  · exact d_do hw (o_geq hx hy (fun n => absurd n c) (fun _ => ⟨rfl, rfl⟩)) (.prim rfl) (hf c)
theorem d_neq {t yt : TypeId} {x y : Operand} {k : IntKind} {p q : Int} (hw : wantedA ops env ⟨d, .binOp .neq t x y yt, ty, pos, af, g⟩ = some true) (hx : aeval env x = .int k p) (hy : aeval env y = .int k q)
    (ht : ¬ p = q → DRun P ops KE os (env.put d (.bool true)) h) (hf : p = q → DRun P ops KE os (env.put d (.bool false)) h) : DRun P ops KE (⟨d, .binOp .neq t x y yt, ty, pos, af, g⟩ :: os) env h := by
  by_cases c : p = q
  · exact d_do hw (o_neq hx hy (fun n => absurd c n) (fun _ => ⟨rfl, rfl⟩)) (.prim rfl) (hf c)
  · exact d_do hw (o_neq hx hy (fun _ => ⟨rfl, rfl⟩) (fun n => absurd n c)) (.prim rfl) (ht c)

theorem d_callB {f : FuncId} {xs : Array Operand} {ats : Array TypeId} {vs : List Value} {b : Bool} (hw : wantedA ops env ⟨d, .call { callee := .value (.func f), args := xs, argTypes := ats }, ty, pos, af, g⟩ = some true)
    (hv : xs.toList.map (aeval env) = vs) (r : Ret P f vs h (.bool b) h) (ht : b = true → DRun P ops KE os (env.put d (.bool true)) h) (hf : b = false → DRun P ops KE os (env.put d (.bool false)) h) :
    DRun P ops KE (⟨d, .call { callee := .value (.func f), args := xs, argTypes := ats }, ty, pos, af, g⟩ :: os) env h := by
  cases b
  · exact d_do hw (o_callF hv (r.to ⟨rfl, rfl⟩)) (.prim rfl) (hf rfl)
  · exact d_do hw (o_callF hv (r.to ⟨rfl, rfl⟩)) (.prim rfl) (ht rfl)

theorem IsElem.within {v p : Value} {xs : List Int} {i : Nat} (hv : Ints h v xs) (hp : IsElem v i p) : Within h.length p := by
  rcases hv with ⟨rfl, _⟩ | ⟨k, off, ver, cap, o, rfl, h2, _⟩
  · exact hp.elim
  · have : p = .pointer (some ⟨k, off + i, some ver⟩) := hp
    rw [this]
    exact .ptr (List.getElem?_eq_some_iff.1 h2).1

theorem d_indexI {t e : TypeId} {x y : Operand} {v z : Value} {b : Nat} {xs : List Int} {kd : IntKind} {i : Nat} (hw : wantedA ops env ⟨d, .indexAddr t x y, ty, pos, af, g⟩ = some true) (hu : P.underlying t = some (.slice e)) (hi : InfoIs P e z 1 b)
    (hx : aeval env x = v) (hv : Ints h v xs) (hy : aeval env y = .int kd (i : Int)) (hlt : i < xs.length) (hK : ∀ p, IsElem v i p → DRun P ops KE os (env.put d p) h) : DRun P ops KE (⟨d, .indexAddr t x y, ty, pos, af, g⟩ :: os) env h := by
  have ⟨p, hp⟩ : ∃ p, IsElem v i p := by
    rcases hv with ⟨rfl, rfl⟩ | ⟨k, off, ver, cap, o, rfl, _⟩
    · simp at hlt
    · exact ⟨_, rfl⟩
  refine d_do hw (o_indexI hu hi hx hv hy hlt fun p' hp' => ⟨?_, rfl⟩) (hp.within hv) (hK p hp)
  rcases hv with ⟨rfl, rfl⟩ | ⟨k, off, ver, cap, o, rfl, _⟩
  · simp at hlt
  · exact hp'.trans hp.symm
theorem d_indexZ {t e : TypeId} {x y : Operand} {v z : Value} {b : Nat} {xs : List Int} {kd : IntKind} {i : Int} (hw : wantedA ops env ⟨d, .indexAddr t x y, ty, pos, af, g⟩ = some true) (hu : P.underlying t = some (.slice e)) (hi : InfoIs P e z 1 b)
    (hx : aeval env x = v) (hv : Ints h v xs) (hy : aeval env y = .int kd i) (h0 : 0 ≤ i) (hlt : i < xs.length) (hK : ∀ p, IsElem v i.toNat p → DRun P ops KE os (env.put d p) h) : DRun P ops KE (⟨d, .indexAddr t x y, ty, pos, af, g⟩ :: os) env h :=
  d_indexI hw hu hi hx hv (by rw [hy, Int.toNat_of_nonneg h0]) (by omega) hK
end

section
variable {P : Program} {K : Value → AHeap → Prop} {env : Env} {h : AHeap} {dst : Option Tmp} {ty : TypeId} {pos : String} {after : Array Edge} {guard : Option (Nat × Bool)}
/-- A store into a variable. -/
theorem o_storeV {t : TypeId} {x y : Operand} {k off ver b : Nat} {o : AObj} {z v : Value} {cs : List Value} {h' : AHeap} (hi : InfoIs P t z 1 b)
    (hx : aeval env x = .pointer (some ⟨k, off, some ver⟩)) (ho : h[k]? = some o) (hver : o.cells.length = ver) (hm : o.mine = true) (he : o.esz = 1) (hy : aeval env y = v) (hf : (decide (off < ver)) = true) (h1 : oneCellA v = true)
    (hc : o.cells.set off v = cs) (hs : h.set k ⟨cs, true, 1⟩ = h') (hK : K undef h') : AOp P ⟨dst, .store t x y, ty, pos, after, guard⟩ K env h :=
  o_store hi hx ho hver hm hy (of_decide_eq_true hf) h1 (by rw [hc, he, hs]; exact hK)
theorem o_storeVAgg {t : TypeId} {x y : Operand} {k off ver s b : Nat} {o : AObj} {z v : Value} {cs : List Value} {h' : AHeap} (hi : InfoIs P t z s b)
    (hx : aeval env x = .pointer (some ⟨k, off, some ver⟩)) (ho : h[k]? = some o) (hver : o.cells.length = ver) (hm : o.mine = true) (he : o.esz = 1) (hy : aeval env y = v) (hl : v.cells.size = s) (hf : (decide (off + s ≤ ver ∧ 0 < s)) = true)
    (h1 : v.cells.toList.all oneCellA = true)
    (hc : splice o.cells off v.cells.toList = cs) (hs : h.set k ⟨cs, true, 1⟩ = h') (hK : K undef h') : AOp P ⟨dst, .store t x y, ty, pos, after, guard⟩ K env h :=
  o_storeAgg hi hx ho hver hm hy hl (of_decide_eq_true hf).1 (of_decide_eq_true hf).2 h1 (by rw [hc, he, hs]; exact hK)
end

theorem ares_cellAgg {P : Program} {h : AHeap} {env : Env} {a : Tmp} {t : TypeId} {k ver s b : Nat} {o : AObj} {d : TypeDesc} {z : Value} {vs : List Value} (he : env a = .pointer (some ⟨k, 0, some ver⟩)) (ho : h[k]? = some o) (hver : o.cells.length = ver)
    (hu : P.underlying t = some d) (hd : aggD d = true) (hi : InfoIs P t z s b) (hv : o.cells.take s = vs) (hl : vs.length = s) : ARes P h env (.cell a t) (.agg vs.toArray) := by
  obtain ⟨i, h1, _, h3, _⟩ := hi.get
  exact ⟨k, 0, ver, o, d, he, ho, hver, hu, .inr ⟨hd, i, vs, h1, by omega, by rw [List.drop_zero, hl]; exact hv, rfl⟩⟩

@[simp] theorem packR_one (v : Value) : packR [v] = v := rfl
@[simp] theorem packR_two (v w : Value) : packR [v, w] = .tuple #[v, w] := rfl
@[simp] theorem packR_three (v w x : Value) : packR [v, w, x] = .tuple #[v, w, x] := rfl

theorem Grown.len {h h' : AHeap} (p : Grown h h') : h.length ≤ h'.length := by
  obtain ⟨g, rfl⟩ := p; simp

/-- A function whose value refers to one new block. -/
theorem ret1_of {P : Program} {f : FuncId} {args : List Value} {h : AHeap} {V : Nat → Value} {o : AObj} (hV : ∀ (s : Nat → Nat) (k : Nat), VRen s (V k) (V (s k))) (hW : Within (h.length + 1) (V h.length)) (ho : ∀ v ∈ o.cells, isPrim v = true)
    (t : Tri P f args h fun v h' => ∃ k, v = V k ∧ Grown h h' ∧ h'[k]? = some o ∧ h.length ≤ k) : RetN P f args h V o :=
  Tri.forget1 rfl hW (fun c => c) ho (t.mono fun v h' ⟨k, e1, ⟨g, e2⟩, e3, e4⟩ => ⟨g, k, e2, e3, e4, by
    subst e1
    have := hV (fun j => if j < h.length then j else k) h.length
    simpa using this⟩)

theorem set_step {h g X : AHeap} {o' : AObj} {k : Nat} (e : k < h.length) (r : h.set k o' = X) : (h ++ g).set k o' = X ++ g := by rw [set_prev e, r]

theorem VRen.agg3 {s : Nat → Nat} {a b c a' b' c' : Value} (h1 : VRen s a a') (h2 : VRen s b b') (h3 : VRen s c c') : VRen s (.agg #[a, b, c]) (.agg #[a', b', c']) :=
  .agg rfl fun i q1 q2 => by
    match i, q1 with
    | 0, _ => exact h1
    | 1, _ => exact h2
    | 2, _ => exact h3
theorem VRen.agg2 {s : Nat → Nat} {a b a' b' : Value} (h1 : VRen s a a') (h2 : VRen s b b') : VRen s (.agg #[a, b]) (.agg #[a', b']) :=
  .agg rfl fun i q1 q2 => by
    match i, q1 with
    | 0, _ => exact h1
    | 1, _ => exact h2
theorem VRen.tup2 {s : Nat → Nat} {a b a' b' : Value} (h1 : VRen s a a') (h2 : VRen s b b') : VRen s (.tuple #[a, b]) (.tuple #[a', b']) :=
  .tuple rfl fun i q1 q2 => by
    match i, q1 with
    | 0, _ => exact h1
    | 1, _ => exact h2
theorem VRen.tup3 {s : Nat → Nat} {a b c a' b' c' : Value} (h1 : VRen s a a') (h2 : VRen s b b') (h3 : VRen s c c') : VRen s (.tuple #[a, b, c]) (.tuple #[a', b', c']) :=
  .tuple rfl fun i q1 q2 => by
    match i, q1 with
    | 0, _ => exact h1
    | 1, _ => exact h2
    | 2, _ => exact h3
theorem Within.agg3 {n : Nat} {a b c : Value} (h1 : Within n a) (h2 : Within n b) (h3 : Within n c) : Within n (.agg #[a, b, c]) :=
  .agg fun i q1 => by
    match i, q1 with
    | 0, _ => exact h1
    | 1, _ => exact h2
    | 2, _ => exact h3
theorem Within.agg2 {n : Nat} {a b : Value} (h1 : Within n a) (h2 : Within n b) : Within n (.agg #[a, b]) :=
  .agg fun i q1 => by
    match i, q1 with
    | 0, _ => exact h1
    | 1, _ => exact h2
theorem Within.tup2 {n : Nat} {a b : Value} (h1 : Within n a) (h2 : Within n b) : Within n (.tuple #[a, b]) :=
  .tuple fun i q1 => by
    match i, q1 with
    | 0, _ => exact h1
    | 1, _ => exact h2
theorem Within.tup3 {n : Nat} {a b c : Value} (h1 : Within n a) (h2 : Within n b) (h3 : Within n c) : Within n (.tuple #[a, b, c]) :=
  .tuple fun i q1 => by
    match i, q1 with
    | 0, _ => exact h1
    | 1, _ => exact h2
    | 2, _ => exact h3

theorem within_ptr {h : AHeap} {k off ver : Nat} {o : AObj} (ho : h[k]? = some o) : Within h.length (.pointer (some ⟨k, off, some ver⟩)) := .ptr (List.getElem?_eq_some_iff.1 ho).1
theorem within_sl {h : AHeap} {k off ver len cap : Nat} {o : AObj} (ho : h[k]? = some o) : Within h.length (.slice (some ⟨k, off, some ver⟩) len cap) := .slice (List.getElem?_eq_some_iff.1 ho).1

theorem mul_bound {p q a b : Int} (hp : 0 ≤ p ∧ p ≤ a) (hq : 0 ≤ q ∧ q ≤ b) : 0 ≤ p * q ∧ p * q ≤ a * b :=
  ⟨Int.mul_nonneg hp.1 hq.1, Int.mul_le_mul hp.2 hq.2 hq.1 (by omega)⟩

def validV (p q : Int) (xs : List Int) : Bool := decide (1 ≤ p ∧ p ≤ 6) && decide (1 ≤ q ∧ q ≤ 8) && decide ((xs.length : Int) = p * q) && xs.all (fun n => decide (0 ≤ n ∧ n ≤ 1000))

section
variable {P : Program} {K : Value → AHeap → Prop} {env : Env} {h : AHeap} {dst : Option Tmp} {ty : TypeId} {pos : String} {after : Array Edge} {guard : Option (Nat × Bool)}
end

/-! ## Small laws of lists -/

theorem all_take_step {p : Int → Bool} {xs : List Int} {k : Nat} (hk : k < xs.length) (h : (xs.take k).all p = true) (hp : p (xs.getD k 0) = true) : (xs.take (k + 1)).all p = true := by
  rw [List.take_succ_eq_append_getElem hk, List.all_append, h]
  simpa [List.getD_eq_getElem?_getD, List.getElem?_eq_getElem hk] using hp
theorem all_take_full {p : Int → Bool} {xs : List Int} {k : Nat} (hk : ¬ k < xs.length) (h : (xs.take k).all p = true) : xs.all p = true := by
  rwa [List.take_of_length_le (by omega)] at h
theorem all_false {p : Int → Bool} {xs : List Int} {k : Nat} (hk : k < xs.length) (hp : p (xs.getD k 0) = false) : xs.all p = false := by
  rw [List.all_eq_false]
  exact ⟨xs[k], List.getElem_mem hk, by simpa [List.getD_eq_getElem?_getD, List.getElem?_eq_getElem hk] using hp⟩

theorem getD_at {xs : List Int} {k : Nat} (hk : k < xs.length) : xs.getD k 0 = xs[k] := by
  simp [List.getD_eq_getElem?_getD, List.getElem?_eq_getElem hk]
end Go.Am

namespace Go.Am
set_option linter.unusedSimpArgs false
set_option linter.unusedVariables false

/-- A part of a slice. -/
def subv (v : Value) (l r : Nat) : Value := match v with
  | .slice (some ⟨k, off, ver⟩) _ c => .slice (some ⟨k, off + l, ver⟩) (r - l) (c - l)
  | x => x

/-- A part of a list. -/
def part (xs : List Int) (l r : Nat) : List Int := (xs.drop l).take (r - l)

theorem part_len {xs : List Int} {l r : Nat} (h1 : l ≤ r) (h2 : r ≤ xs.length) : (part xs l r).length = r - l := by
  simp [part]; omega

theorem Ints.sub {h : AHeap} {v : Value} {xs : List Int} (hv : Ints h v xs) {l r : Nat} (h0 : 0 < xs.length) (h1 : l ≤ r) (h2 : r ≤ xs.length) : Ints h (subv v l r) (part xs l r) := by
  rcases hv with ⟨rfl, rfl⟩ | ⟨k, off, ver, cap, o, rfl, g2, g3, g4, g5, g6, g7⟩
  · simp at h0
  · refine .inr ⟨k, off + l, ver, cap - l, o, by rw [part_len h1 h2]; rfl, g2, g3, g4, by rw [part_len h1 h2]; omega, by omega, fun i z hz => ?_⟩
    rw [Nat.add_assoc]
    refine g7 _ z ?_
    have hi : i < (part xs l r).length := (List.getElem?_eq_some_iff.1 hz).1
    rw [part_len h1 h2] at hi
    simp only [part, List.getElem?_take_of_lt hi, List.getElem?_drop] at hz
    exact hz

theorem within_sub {n : Nat} {v : Value} {l r : Nat} (hv : Within n v) : Within n (subv v l r) := by
  unfold subv
  split
  · cases hv with
    | prim h => cases h
    | slice h => exact .slice h
  · exact hv

section
variable {P : Program} {K : Value → AHeap → Prop} {env : Env} {h : AHeap} {dst : Option Tmp} {ty : TypeId} {pos : String} {after : Array Edge} {guard : Option (Nat × Bool)}
theorem o_sliceI {t e : TypeId} {x y1 y2 : Operand} {v z : Value} {b : Nat} {xs : List Int} {k1 k2 : IntKind} {l r : Int} (hu : P.underlying t = some (.slice e)) (hi : InfoIs P e z 1 b)
    (hx : aeval env x = v) (hv : Ints h v xs) (hy1 : aeval env y1 = .int k1 l) (hy2 : aeval env y2 = .int k2 r) (h0 : 0 < xs.length) (hl : 0 ≤ l) (hlr : l ≤ r) (hr : r ≤ xs.length)
    (hK : K (subv v l.toNat r.toNat) h) : AOp P ⟨dst, .slice t x (some y1) (some y2) none, ty, pos, after, guard⟩ K env h := by
  obtain ⟨inf, g1, _, g3, _⟩ := hi.get
  rcases hv with ⟨rfl, rfl⟩ | ⟨k, off, ver, cap, o, rfl, h2, h3, h4, h5, h6, h7⟩
  · simp at h0
  · refine aop_slice (l := l.toNat) (r := r.toNat) hu g1 (by rw [g3, h4]) hx h2 h3 (.inr ⟨y1, k1, rfl, by rw [hy1, Int.toNat_of_nonneg hl]⟩) (.inr ⟨y2, k2, rfl, by rw [hy2, Int.toNat_of_nonneg (by omega)]⟩) (by omega) (by omega) ?_
    rw [h4, Nat.mul_one]
    exact hK
theorem o_sliceHi {t e : TypeId} {x y2 : Operand} {v z : Value} {b : Nat} {xs : List Int} {k2 : IntKind} {r : Int} (hu : P.underlying t = some (.slice e)) (hi : InfoIs P e z 1 b)
    (hx : aeval env x = v) (hv : Ints h v xs) (hy2 : aeval env y2 = .int k2 r) (h0 : 0 < xs.length) (hlr : 0 ≤ r) (hr : r ≤ xs.length)
    (hK : K (subv v 0 r.toNat) h) : AOp P ⟨dst, .slice t x none (some y2) none, ty, pos, after, guard⟩ K env h := by
  obtain ⟨inf, g1, _, g3, _⟩ := hi.get
  rcases hv with ⟨rfl, rfl⟩ | ⟨k, off, ver, cap, o, rfl, h2, h3, h4, h5, h6, h7⟩
  · simp at h0
  · refine aop_slice (l := 0) (r := r.toNat) hu g1 (by rw [g3, h4]) hx h2 h3 (.inl ⟨rfl, rfl⟩) (.inr ⟨y2, k2, rfl, by rw [hy2, Int.toNat_of_nonneg (by omega)]⟩) (by omega) (by omega) ?_
    rw [h4, Nat.mul_one]
    exact hK
end

/-- The sum of a list, as the program counts. -/
def sumW (xs : List Int) : Int := xs.foldl (fun a x => IntKind.i64.wrap (a + x)) 0
theorem sumW_step {xs : List Int} {k : Nat} (hk : k < xs.length) : IntKind.i64.wrap (sumW (xs.take k) + xs.getD k 0) = sumW (xs.take (k + 1)) := by
  rw [sumW, sumW, List.take_succ_eq_append_getElem hk, List.foldl_append, getD_at hk]; rfl
theorem sumW_full {xs : List Int} {k : Nat} (hk : ¬ k < xs.length) : sumW (xs.take k) = sumW xs := by rw [List.take_of_length_le (by omega)]

theorem range_all_step {f : Nat → Bool} {s : Nat} (h : (List.range s).all f = true) (hf : f s = true) : (List.range (s + 1)).all f = true := by
  rw [List.range_succ, List.all_append, h]; simpa using hf

/-- A valid cake. -/
def validC (p q : Int) (xs : List Int) : Bool :=
  decide (1 ≤ p ∧ p ≤ 6) && decide (1 ≤ q ∧ q ≤ 16) && decide ((xs.length : Int) = p * q) && xs.all (fun n => decide (0 ≤ n ∧ n ≤ 1000)) &&
    (List.range p.toNat).all fun i => decide (¬ sumW (part xs ((i : Int) * q).toNat (((i : Int) + 1) * q).toNat) = 0)
theorem validC_yes {p q : Int} {xs : List Int} {s : Nat} (c1 : decide (1 ≤ p ∧ p ≤ 6) = true) (c2 : decide (1 ≤ q ∧ q ≤ 16) = true) (c3 : (xs.length : Int) = p * q) (c4 : xs.all (fun n => decide (0 ≤ n ∧ n ≤ 1000)) = true)
    (c5 : (List.range s).all (fun i => decide (¬ sumW (part xs ((i : Int) * q).toNat (((i : Int) + 1) * q).toNat) = 0)) = true) (hs : (s : Int) = p) : true = validC p q xs := by
  have : s = p.toNat := by omega
  subst this
  rw [validC, c1, c2, decide_eq_true c3, c4, c5]; rfl
theorem validC_no {p q : Int} {xs : List Int} {s : Nat} (hs : (s : Int) < p) (c : sumW (part xs ((s : Int) * q).toNat (((s : Int) + 1) * q).toNat) = 0) : false = validC p q xs := by
  have : ((List.range p.toNat).all fun i => decide (¬ sumW (part xs ((i : Int) * q).toNat (((i : Int) + 1) * q).toNat) = 0)) = false :=
    List.all_eq_false.2 ⟨s, List.mem_range.2 (by omega), by simp [c]⟩
  rw [validC, this, Bool.and_false]
theorem validC_noM {p q : Int} {xs : List Int} (c : (decide (p * q ≤ xs.length ∧ xs.length ≤ p * q) && xs.all (fun n => decide (0 ≤ n ∧ n ≤ 1000))) = false) : false = validC p q xs := by
  rw [validC]
  rcases Bool.and_eq_false_iff.1 c with c | c
  · rw [decide_eq_false (p := ((xs.length : Int) = p * q)) (by have := of_decide_eq_false c; omega)]; simp
  · rw [c]; simp
theorem validC_noL {p q : Int} {xs : List Int} (c : (xs.all (fun n => decide (0 ≤ n ∧ n ≤ 1000)) && decide ((xs.length : Int) = p * q)) = false) : false = validC p q xs := by
  rw [validC]
  rcases Bool.and_eq_false_iff.1 c with c | c
  · rw [c]; simp
  · rw [c]; simp
theorem row_bound {s p q n : Int} (h0 : 0 ≤ s) (h1 : s < p) (hq : 0 ≤ q) (hn : n = p * q) : 0 ≤ s * q ∧ s * q ≤ (s + 1) * q ∧ (s + 1) * q ≤ n := by
  subst hn
  exact ⟨Int.mul_nonneg h0 hq, Int.mul_le_mul_of_nonneg_right (by omega) hq, Int.mul_le_mul_of_nonneg_right (by omega) hq⟩
theorem many_of {n : Int} {xs : List Int} {b : Bool} (c : (decide (n ≤ xs.length ∧ xs.length ≤ n) && b) = true) : (xs.length : Int) = n ∧ b = true := by
  simp only [Bool.and_eq_true, decide_eq_true_eq] at c; exact ⟨by omega, c.2⟩

/-! ## Bits -/
/-- A set without another one. -/
def andn (a b : Nat) : Nat := a ^^^ (a &&& b)
section
variable {P : Program} {K : Value → AHeap → Prop} {env : Env} {h : AHeap} {dst : Option Tmp} {ty t yt : TypeId} {pos : String} {after : Array Edge} {guard : Option (Nat × Bool)} {x y : Operand}
end
theorem pow_bound {n : Int} (h : 1 ≤ n ∧ n ≤ 6) : (2 : Int) ≤ 2 ^ n.toNat ∧ (2 : Int) ^ n.toNat ≤ 64 := by
  obtain ⟨h1, h2⟩ := h
  have : n = 1 ∨ n = 2 ∨ n = 3 ∨ n = 4 ∨ n = 5 ∨ n = 6 := by omega
  rcases this with rfl | rfl | rfl | rfl | rfl | rfl <;> decide

/-! ## Worths of sets -/
def isW (m n : Int) (xs : List Int) : Bool :=
  decide (1 ≤ n ∧ n ≤ 6) && decide ((xs.length : Int) = 2 ^ n.toNat) && decide (xs.getD 0 0 = 0) && xs.all (fun x => decide (-m ≤ x ∧ x ≤ m))
theorem isW_yes {m n : Int} {xs : List Int} (c1 : decide (1 ≤ n ∧ n ≤ 6) = true) (c2 : (xs.length : Int) = 2 ^ n.toNat) (c3 : xs.getD 0 0 = 0) (c4 : xs.all (fun x => decide (-m ≤ x ∧ x ≤ m)) = true) : true = isW m n xs := by
  rw [isW, c1, decide_eq_true c2, decide_eq_true c3, c4]; rfl
theorem tup2 {a b a' b' : Bool} (h1 : a = a') (h2 : b = b') : packR [.bool a, .bool b] = .tuple #[.bool a', .bool b'] := by rw [h1, h2]; rfl
theorem within_tup2 {n : Nat} {a b : Value} (h1 : Within n a) (h2 : Within n b) : Within n (.tuple #[a, b]) := .tuple fun i hi => by
  match i, hi with
  | 0, _ => exact h1
  | 1, _ => exact h2
/-! ## Functions that change a block -/
theorem Closed.set {h : AHeap} (hc : Closed h) {k : Nat} {o : AObj} (ho : ∀ v ∈ o.cells, isPrim v = true) : Closed (h.set k o) := fun j x hx v hv => by
  rw [List.length_set]
  by_cases hj : j = k
  · subst hj
    by_cases hlt : j < h.length
    · rw [List.getElem?_set_self hlt] at hx; cases hx
      exact .prim (ho v hv)
    · rw [List.getElem?_eq_none (by simpa using hlt)] at hx; cases hx
  · rw [List.getElem?_set_ne (fun e => hj e.symm)] at hx
    exact hc j x hx v hv
theorem Ret.heap {P : Program} {f : FuncId} {a : List Value} {h h1 h2 : AHeap} {v : Value} (r : Ret P f a h v h1) (e : h1 = h2) : Ret P f a h v h2 := e ▸ r

/-! ## Marks -/
theorem retm_of {P : Program} {f : FuncId} {args : List Value} {h hb : AHeap} {V : Value} (hl : hb.length = h.length) (hw : Within h.length V) (hc : Closed h → Closed hb) (t : Tri P f args h fun v h' => v = V ∧ Grown hb h') : Ret P f args h V hb :=
  Tri.forget hl hw hc t
/-- The numbers from c on. -/
def upto (c : Int) (n : Nat) : List Int := (List.range n).map fun (i : Nat) => c + (i : Int)
theorem upto_len {c : Int} {n : Nat} : (upto c n).length = n := by simp [upto]
theorem set_same {h : AHeap} {k : Nat} {o : AObj} (ho : h[k]? = some o) : h.set k o = h := by
  obtain ⟨hk, e⟩ := List.getElem?_eq_some_iff.1 ho
  subst e; exact List.set_getElem_self hk
theorem set_set {h : AHeap} {k : Nat} {o o' : AObj} : (h.set k o).set k o' = h.set k o' := List.set_set ..
theorem lk_set {h : AHeap} {k : Nat} {o : AObj} (hk : k < h.length) : (h.set k o)[k]? = some o := List.getElem?_set_self hk
/-! ## Growing lists -/
section
variable {P : Program} {K : Value → AHeap → Prop} {env : Env} {h : AHeap} {dst : Option Tmp} {ty : TypeId} {pos : String} {after : Array Edge} {guard : Option (Nat × Bool)}
theorem news_ints {off : Nat} {o : AObj} {ys : List Int} (hz : ∀ (i : Nat) (z : Int), ys[i]? = some z → o.cells[off + i]? = some (i64 z)) : news o off (ys.length * 1) = ys.map i64 := by
  apply List.ext_getElem?
  intro i
  rw [Nat.mul_one]
  simp only [news, List.getElem?_map]
  by_cases hi : i < ys.length
  · rw [List.getElem?_take_of_lt hi, List.getElem?_drop, hz i _ (List.getElem?_eq_getElem hi), List.getElem?_eq_getElem hi]; rfl
  · rw [List.getElem?_eq_none (by simp; omega), List.getElem?_eq_none (by omega)]; rfl
/-- append(s, x...) of integers to a list of one's own. -/
theorem o_appendI {t e : TypeId} {s x : Operand} {k n : Nat} {xs ys : List Int} {v : Value} {h' : AHeap} (hu : P.underlying t = some (.slice e)) (hi : InfoIs P e (i64 0) 1 8)
    (hx : aeval env s = sl k n) (ho : h[k]? = some (lst xs)) (hn : xs.length = n) (hy : aeval env x = v) (hv : Ints h v ys)
    (hb : n + ys.length ≤ 1000000000) (hs : h.set k (lst (xs ++ ys)) = h') (hK : K (sl k (n + ys.length)) h') :
    AOp P ⟨dst, .call { callee := .builtin .append, args := #[s, x], argTypes := #[t, t] }, ty, pos, after, guard⟩ K env h := by
  obtain ⟨inf, g1, g2, g3, g4⟩ := hi.get
  subst hs hn
  have hno : (lst xs).cells.length = xs.length := by simp [lst]
  by_cases h0 : ys = []
  · subst h0
    refine aop_appendNone (q := match v with | .slice a _ _ => a | _ => none) (c2 := match v with | .slice _ _ c => c | _ => 0) hu g1 (.inr ⟨k, 0, _, _, _, lst xs, hx, ho, hno⟩) ?_ ?_ ?_
    · rcases hv with ⟨rfl, _⟩ | ⟨k2, off, ver, cap, o, rfl, _⟩ <;> exact hy
    · rcases hv with ⟨rfl, _⟩ | ⟨k2, off, ver, cap, o, rfl, h2, h3, _⟩
      · exact .inl ⟨rfl, rfl⟩
      · exact .inr ⟨k2, off, ver, o, rfl, h2, h3⟩
    · rw [hx]
      have : h.set k (lst (xs ++ [])) = h := by rw [List.append_nil]; exact set_same ho
      rw [this] at hK
      exact hK
  · rcases hv with ⟨_, rfl⟩ | ⟨k2, off, ver, cap, o, rfl, h2, h3, h4, h5, h6, h7⟩
    · exact absurd rfl h0
    · have hpos : 0 < ys.length := List.length_pos_iff.2 h0
      have hnews := news_ints h7
      refine aop_append (o := lst xs) (o2 := o) (m := ys.length) hu g1 g2 (by rw [g3]; rfl) (by rw [g3]; rfl) (by show 0 < 1; decide) (by rw [h4]; rfl) hx ho hno (by show xs.length * 1 = _; omega) rfl hy h2 h3
        (by show (news o off (ys.length * 1)).all oneCellA = true; rw [hnews]; simp [List.all_map]; intro a _; rfl) hpos (by rw [g4]; omega) (by omega) ?_
      have e1 : (lst xs).esz = 1 := rfl
      rw [e1, hnews]
      have e2 : (⟨(lst xs).cells ++ ys.map i64, true, 1⟩ : AObj) = lst (xs ++ ys) := by simp [lst]
      rw [e2, Nat.mul_one]
      exact hK
end

section
variable {P : Program} {K : Value → AHeap → Prop} {env : Env} {h : AHeap} {dst : Option Tmp} {ty : TypeId} {pos : String} {after : Array Edge} {guard : Option (Nat × Bool)}
theorem fill1 (p : Int) : Instr.fill (fun k => some (k * 1, 1)) (Array.map (fun x => (i64 0).cells[x % (i64 0).cells.size]!) (Array.range (1 * 1))) [(0, i64 p)] = some #[i64 p] := by
  have e : Array.range (1 * 1) = #[0] := by decide
  rw [e]
  simp [Instr.fill, Value.cells]
theorem o_buildI0 {t e : TypeId} {b : Nat} (hu : P.underlying t = some (.slice e)) (hi : InfoIs P e (i64 0) 1 b) (hK : ∀ k, k = h.length → K (sl k 0) (h ++ [lst []])) :
    AOp P ⟨dst, .buildSlice t 0 #[], ty, pos, after, guard⟩ K env h := by
  obtain ⟨inf, g1, g2, g3, g4⟩ := hi.get
  refine aop_buildSlice (out := #[]) hu g1 g2 rfl (by rw [g3]; rfl) (by omega) (by omega) (by simp [Instr.fill]) (by simp) ?_
  have := hK h.length rfl
  rw [g3]; exact this
theorem o_buildI1 {t e : TypeId} {b : Nat} {x : Operand} {p : Int} (hu : P.underlying t = some (.slice e)) (hi : InfoIs P e (i64 0) 1 b) (hx : aeval env x = i64 p) (hK : ∀ k, k = h.length → K (sl k 1) (h ++ [lst [p]])) :
    AOp P ⟨dst, .buildSlice t 1 #[(0, x)], ty, pos, after, guard⟩ K env h := by
  obtain ⟨inf, g1, g2, g3, g4⟩ := hi.get
  refine aop_buildSlice (out := #[i64 p]) hu g1 g2 rfl (by rw [g3]; rfl) (by omega) (by omega) (by rw [g3]; simp only [List.map_cons, List.map_nil, hx]; exact fill1 p) (by simp [g3]) ?_
  have := hK h.length rfl
  rw [g3]; exact this
end
theorem lst_prim {xs : List Int} : ∀ v ∈ (lst xs).cells, isPrim v = true := fun v hv => by
  simp only [lst, List.mem_map] at hv
  obtain ⟨z, _, rfl⟩ := hv
  rfl
end Go.Am

namespace Go.Am
set_option linter.unusedSimpArgs false
set_option linter.unusedVariables false

/-! ## Lists that are built -/
theorem map_step {f : Nat → Int} {s : Nat} : (List.range s).map f ++ [f s] = (List.range (s + 1)).map f := by rw [List.range_succ, List.map_append]; rfl
theorem map_len {f : Nat → Int} {s : Nat} : ((List.range s).map f).length = s := by simp
theorem map_get {f : Nat → Int} {s n : Nat} (h : s < n) : ((List.range n).map f).getD s 0 = f s := by
  rw [List.getD_eq_getElem?_getD, List.getElem?_map, List.getElem?_range h]; rfl

theorem Grown.eq {h h' g : AHeap} (p : Grown h h') (e : g = h) : Grown g h' := by subst e; exact p

/-! ## A nil slice in a variable, seen as an empty list -/
/-! ## Functions with a result that may fail -/
def OptQ (ok : Bool) (V : Nat → Value) (o : AObj) (N : Value) (h : AHeap) (v : Value) (h' : AHeap) : Prop :=
  (ok = true ∧ ∃ k, v = V k ∧ Grown h h' ∧ h'[k]? = some o ∧ h.length ≤ k) ∨ (ok = false ∧ v = N ∧ Grown h h')
def RetO (P : Program) (f : FuncId) (args : List Value) (h : AHeap) (ok : Bool) (V : Nat → Value) (o : AObj) (N : Value) : Prop :=
  (ok = true → RetN P f args h V o) ∧ (ok = false → Ret P f args h N h)
theorem reto_of {P : Program} {f : FuncId} {args : List Value} {h : AHeap} {ok : Bool} {V : Nat → Value} {o : AObj} {N : Value} (hV : ∀ (s : Nat → Nat) (k : Nat), VRen s (V k) (V (s k))) (hW : Within (h.length + 1) (V h.length)) (ho : ∀ v ∈ o.cells, isPrim v = true)
    (hN : Within h.length N) (t : Tri P f args h (OptQ ok V o N h)) : RetO P f args h ok V o N :=
  ⟨fun e => ret1_of hV hW ho (t.mono fun v h' q => by
      rcases q with ⟨_, q⟩ | ⟨e2, _⟩
      · exact q
      · rw [e] at e2; cases e2),
   fun e => ret_of hN (t.mono fun v h' q => by
      rcases q with ⟨e2, _⟩ | ⟨_, q⟩
      · rw [e] at e2; cases e2
      · exact q)⟩
theorem within_nilb {n : Nat} : Within n (.tuple #[.slice none 0 0, .bool false]) := within_tup2 (.prim rfl) (.prim rfl)
theorem within_nilw {n : Nat} : Within n (.tuple #[.agg #[i64 0, .slice none 0 0], .bool false]) := within_tup2 (.agg2 (.prim rfl) (.prim rfl)) (.prim rfl)
/-- (list, true): a new list. -/
abbrev VL (n : Nat) (k : Nat) : Value := .tuple #[sl k n, .bool true]
abbrev NL : Value := .tuple #[.slice none 0 0, .bool false]
section
variable {P : Program} {K : Value → AHeap → Prop} {env : Env} {h : AHeap} {dst : Option Tmp} {ty : TypeId} {pos : String} {after : Array Edge} {guard : Option (Nat × Bool)}
end

theorem ints_nil {h : AHeap} : Ints h (.slice none 0 0) [] := .inl ⟨rfl, rfl⟩
section
variable {P : Program} {K : Value → AHeap → Prop} {env : Env} {h : AHeap} {dst : Option Tmp} {ty : TypeId} {pos : String} {after : Array Edge} {guard : Option (Nat × Bool)}
end

section
variable {P : Program} {K : Value → AHeap → Prop} {env : Env} {h : AHeap} {dst : Option Tmp} {ty : TypeId} {pos : String} {after : Array Edge} {guard : Option (Nat × Bool)}
end
section
variable {P : Program} {ops : Array Oper} {KE : Env → AHeap → Prop} {os : List Oper} {env : Env} {h : AHeap} {d : Option Tmp} {ty : TypeId} {pos : String} {af : Array Edge} {g : Option (Nat × Bool)}
theorem d_buildI1 {t e : TypeId} {b : Nat} {x : Operand} {p : Int} (hw : wantedA ops env ⟨d, .buildSlice t 1 #[(0, x)], ty, pos, af, g⟩ = some true) (hu : P.underlying t = some (.slice e)) (hi : InfoIs P e (i64 0) 1 b) (hx : aeval env x = i64 p)
    (hK : ∀ k, k = h.length → (h ++ [lst [p]])[k]? = some (lst [p]) → DRun P ops KE os (env.put d (sl k 1)) (h ++ [lst [p]])) : DRun P ops KE (⟨d, .buildSlice t 1 #[(0, x)], ty, pos, af, g⟩ :: os) env h :=
  d_new hw (o_buildI1 hu hi hx fun k hk => by subst hk; exact ⟨rfl, rfl⟩) (.slice (by simp)) (by simpa using fun u hu => Within.prim (lst_prim u hu)) (hK _ rfl (by simp))
end

/-! ## Coalitions -/
/-- A list with one player's step at all sets before s. -/
def rowW (f : Int → Int → Int) (i : Nat) (l : List Int) : Nat → List Int
  | 0 => l
  | s + 1 => if s.testBit i then (rowW f i l s).set s (f ((rowW f i l s).getD s 0) ((rowW f i l s).getD (s - 2 ^ i) 0)) else rowW f i l s
def allW (f : Int → Int → Int) (l : List Int) : Nat → List Int
  | 0 => l
  | i + 1 => rowW f i (allW f l i) l.length
theorem rowW_len {f : Int → Int → Int} {i : Nat} {l : List Int} : ∀ s, (rowW f i l s).length = l.length
  | 0 => rfl
  | s + 1 => by rw [rowW]; split <;> simp [rowW_len s]
theorem allW_len {f : Int → Int → Int} {l : List Int} : ∀ i, (allW f l i).length = l.length
  | 0 => rfl
  | i + 1 => by rw [allW, rowW_len, allW_len i]
def subW (a b : Int) : Int := IntKind.i64.wrap (a - b)
def addW (a b : Int) : Int := IntKind.i64.wrap (a + b)
theorem sub_bit : ∀ a < 64, ∀ i < 6, Nat.testBit a i = true → 2 ^ i ≤ a ∧ andn a (2 ^ i) = a - 2 ^ i := by decide +kernel
theorem one2 {p : Int} {v : Value} (h : oneCellA v = true) : (Value.agg #[i64 p, v]).cells.toList.all oneCellA = true := by
  show (oneCellA (i64 p) && (oneCellA v && true)) = true
  rw [h]; rfl
theorem Ints.one {h : AHeap} {v : Value} {xs : List Int} (hv : Ints h v xs) : oneCellA v = true := by
  rcases hv with ⟨rfl, _⟩ | ⟨k, off, ver, cap, o, rfl, _⟩ <;> rfl
/-- Worths by a rule. -/
abbrev mapR (fn : Nat → Int) (p : Int) : List Int := (List.range (2 ^ p.toNat)).map fn
theorem mapR_len {fn : Nat → Int} {p : Int} : (mapR fn p).length = 2 ^ p.toNat := map_len
theorem pow_nat {n : Int} (h : 1 ≤ n ∧ n ≤ 6) : ((2 ^ n.toNat : Nat) : Int) = (2 : Int) ^ n.toNat ∧ 2 ≤ 2 ^ n.toNat ∧ 2 ^ n.toNat ≤ 64 := by
  have h1 := pow_bound h
  have e : ((2 ^ n.toNat : Nat) : Int) = (2 : Int) ^ n.toNat := by simp
  exact ⟨e, by omega, by omega⟩
/-- What the whole loses without all others. -/
def othF (xs : List Int) (s : Nat) : Int := xs.getD (xs.length - 1) 0 - xs.getD (xs.length - 1 - s) 0
/-- The set of all that is the s-th one without a player. -/
def posO (q s : Nat) : Nat := (s &&& (2 ^ q - 1)) ||| (andn s (s &&& (2 ^ q - 1)) * 2)
def outF (xs : List Int) (q : Int) (s : Nat) : Int := xs.getD (posO q.toNat s) 0
end Go.Am
