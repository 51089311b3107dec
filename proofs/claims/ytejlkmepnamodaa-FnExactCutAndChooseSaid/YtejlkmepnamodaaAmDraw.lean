/-
  The abstract heap: a region that draws its order and makes memory at most: its text's order serves for every order. General: no program is named.
-/
import Derived.Test.YtejlkmepnamodaaAmPrune
namespace Go.Am
set_option linter.unusedSimpArgs false
set_option linter.unusedVariables false
open Go.RowKit

theorem getD_both {listed : Array Bool} {i : Nat} (h : listed.getD i true = false) : listed.getD i false = false := by
  by_cases h' : i < listed.size <;> simp [h'] at h ⊢
  exact h
theorem getD_in {listed : Array Bool} {i : Nat} (hi : i < listed.size) (h : listed.getD i false = false) : listed.getD i true = false := by
  simp [hi] at h ⊢; exact h
theorem getD_replicate_false (m j : Nat) : (Array.replicate m false).getD j false = false := by
  by_cases h' : j < m <;> simp [h']

/-- One operation of such a region: its value, and the blocks that it makes. -/
def DRun (P : Program) (ops : Array Oper) (K : Env → AHeap → Prop) : List Oper → Env → AHeap → Prop
  | [], env, h => K env h
  | o :: os, env, h =>
    (wantedA ops env o = some true ∧ ∃ v g, AOp P o (fun v' h' => v' = v ∧ h' = h ++ g) env h ∧ Within (h ++ g).length v ∧ (∀ x ∈ g, ∀ u ∈ x.cells, Within (h ++ g).length u) ∧
      DRun P ops K os (env.put o.dst v) (h ++ g)) ∨
    (wantedA ops env o = some false ∧ DRun P ops K os (env.put o.dst undef) h)

/-- Who writes a slot that another one names stands in an order with it. -/
def depOk (ops : Array Oper) : Bool :=
  (List.range ops.size).all fun i =>
    match ops[i]? with
    | none => true
    | some oi =>
      oi.after.all (fun e => !Region.binds .any e || decide (e.on < i)) &&
      (List.range ops.size).all fun j =>
        match ops[j]? with
        | none => true
        | some oj =>
          match oj.dst with
          | none => true
          | some d =>
            if j == i then !(oi.looksAt ops).contains d
            else if (oi.looksAt ops).contains d || oi.dst == some d then
              (if j < i then oi.after.any (fun e => Region.binds .any e && e.on == j) else oj.after.any (fun e => Region.binds .any e && e.on == i))
            else true

theorem depOk_lt {ops : Array Oper} (h : depOk ops = true) {i : Nat} {oi : Oper} (hi : ops[i]? = some oi) : ∀ e ∈ oi.after, Region.binds .any e = true → e.on < i := by
  have hlt := (Array.getElem?_eq_some_iff.1 hi).1
  have := List.all_eq_true.1 h i (List.mem_range.2 hlt)
  simp only [hi, Bool.and_eq_true] at this
  intro e he hb
  have h1 := Array.all_eq_true'.1 this.1 e he
  simpa [hb] using h1

theorem depOk_spec {ops : Array Oper} (h : depOk ops = true) {i j : Nat} {oi oj : Oper} {d : Tmp} (hi : ops[i]? = some oi) (hj : ops[j]? = some oj) (hd : oj.dst = some d)
    (hl : d ∈ oi.looksAt ops ∨ oi.dst = some d) (hne : j ≠ i) :
    (j < i ∧ ∃ e ∈ oi.after, Region.binds .any e = true ∧ e.on = j) ∨ (i < j ∧ ∃ e ∈ oj.after, Region.binds .any e = true ∧ e.on = i) := by
  have hlt := (Array.getElem?_eq_some_iff.1 hi).1
  have hltj := (Array.getElem?_eq_some_iff.1 hj).1
  have := List.all_eq_true.1 h i (List.mem_range.2 hlt)
  simp only [hi, Bool.and_eq_true] at this
  have := List.all_eq_true.1 this.2 j (List.mem_range.2 hltj)
  have hne' : (j == i) = false := by simpa using hne
  have hc : ((oi.looksAt ops).contains d || oi.dst == some d) = true := by
    rcases hl with hl | hl
    · simp [hl]
    · simp [hl]
  simp only [hj, hd, hne', Bool.false_eq_true, if_false, hc, if_true] at this
  by_cases hji : j < i
  · rw [if_pos hji] at this
    obtain ⟨e, he, hb⟩ := Array.any_eq_true'.1 this
    simp only [Bool.and_eq_true, beq_iff_eq] at hb
    exact .inl ⟨hji, e, he, hb.1, hb.2⟩
  · rw [if_neg hji] at this
    obtain ⟨e, he, hb⟩ := Array.any_eq_true'.1 this
    simp only [Bool.and_eq_true, beq_iff_eq] at hb
    exact .inr ⟨by omega, e, he, hb.1, hb.2⟩

theorem depOk_self {ops : Array Oper} (h : depOk ops = true) {i : Nat} {oi : Oper} {d : Tmp} (hi : ops[i]? = some oi) (hd : oi.dst = some d) : d ∉ oi.looksAt ops := by
  have hlt := (Array.getElem?_eq_some_iff.1 hi).1
  have := List.all_eq_true.1 h i (List.mem_range.2 hlt)
  simp only [hi, Bool.and_eq_true] at this
  have := List.all_eq_true.1 this.2 i (List.mem_range.2 hlt)
  simpa [hi, hd] using this

/-- The values of slots when the operations of a set have run. -/
def dval (dst : Nat → Option Tmp) (V : Nat → Value) (env0 : Env) (p : Nat → Bool) : Nat → Env
  | 0 => env0
  | i + 1 => if p i then (dval dst V env0 p i).put (dst i) (V i) else dval dst V env0 p i

section
variable {dst : Nat → Option Tmp} {V : Nat → Value} {env0 : Env}

theorem Env.put_ne {env : Env} {d : Option Tmp} {v : Value} {t : Tmp} (h : d ≠ some t) : env.put d v t = env t := by
  cases d with
  | none => rfl
  | some x => simp only [Env.put]; rw [if_neg (fun e => h (by rw [e]))]

theorem Env.put_eq {env : Env} {v : Value} {t : Tmp} : env.put (some t) v t = v := by simp [Env.put]

theorem dval_agree {p q : Nat → Bool} {t : Tmp} : ∀ n, (∀ j, j < n → dst j = some t → p j = q j) → dval dst V env0 p n t = dval dst V env0 q n t
  | 0, _ => rfl
  | n + 1, h => by
    have ih := dval_agree n (fun j hj hd => h j (by omega) hd)
    simp only [dval]
    by_cases hd : dst n = some t
    · rw [h n (by omega) hd]
      split
      · rw [hd, Env.put_eq, Env.put_eq]
      · exact ih
    · split <;> split <;> simp only [Env.put_ne hd, ih]

theorem dval_last {p : Nat → Bool} {t : Tmp} {i : Nat} (hd : dst i = some t) (hp : p i = true) : ∀ n, i < n → (∀ j, i < j → j < n → dst j = some t → p j = false) → dval dst V env0 p n t = V i
  | 0, hi, _ => by omega
  | n + 1, hi, h => by
    simp only [dval]
    by_cases hin : i = n
    · subst hin
      rw [if_pos hp, hd, Env.put_eq]
    · have ih := dval_last hd hp n (by omega) (fun j h1 h2 h3 => h j h1 (by omega) h3)
      by_cases hdn : dst n = some t
      · rw [h n (by omega) (by omega) hdn]
        simpa using ih
      · split
        · rw [Env.put_ne hdn, ih]
        · exact ih

theorem dval_prefix {i : Nat} {t : Tmp} : ∀ n, i ≤ n → dval dst V env0 (fun j => decide (j < i)) n t = dval dst V env0 (fun _ => true) i t
  | 0, h => by
    have : i = 0 := by omega
    subst this; rfl
  | n + 1, h => by
    by_cases hin : i = n + 1
    · subst hin
      exact dval_agree _ fun j hj _ => by simp [hj]
    · simp only [dval]
      rw [if_neg (by simp; omega)]
      exact dval_prefix n (by omega)
end

/-- The run in the text's order, as functions of the operation's number. -/
def RunAt (P : Program) (ops : Array Oper) (dst : Nat → Option Tmp) (V : Nat → Value) (env0 : Env) (H : Nat → AHeap) (i : Nat) (o : Oper) : Prop :=
  ∃ g, H (i + 1) = H i ++ g ∧ (∀ x ∈ g, ∀ u ∈ x.cells, Within (H (i + 1)).length u) ∧ Within (H (i + 1)).length (V i) ∧
    ((wantedA ops (dval dst V env0 (fun _ => true) i) o = some true ∧ AOp P o (fun v' h' => v' = V i ∧ h' = H (i + 1)) (dval dst V env0 (fun _ => true) i) (H i)) ∨
     (wantedA ops (dval dst V env0 (fun _ => true) i) o = some false ∧ V i = undef ∧ g = []))

def RunL (P : Program) (ops : Array Oper) (K : Env → AHeap → Prop) (l : List Oper) (env : Env) (h : AHeap) : Prop :=
  ∃ (V : Nat → Value) (H : Nat → AHeap), H 0 = h ∧ K (dval (fun j => (l[j]?).bind (·.dst)) V env (fun _ => true) l.length) (H l.length) ∧
    ∀ (i : Nat) (o : Oper), l[i]? = some o → RunAt P ops (fun j => (l[j]?).bind (·.dst)) V env H i o

theorem dval_shift {dst : Nat → Option Tmp} {V : Nat → Value} {env0 : Env} : ∀ n, dval dst V env0 (fun _ => true) (n + 1) = dval (fun j => dst (j + 1)) (fun j => V (j + 1)) (env0.put (dst 0) (V 0)) (fun _ => true) n
  | 0 => rfl
  | n + 1 => by rw [dval, dval_shift n]; rfl

theorem drun_run {P : Program} {ops : Array Oper} {K : Env → AHeap → Prop} : ∀ (l : List Oper) (env : Env) (h : AHeap), DRun P ops K l env h → RunL P ops K l env h
  | [], env, h, hq => ⟨fun _ => undef, fun _ => h, rfl, hq, fun i o hi => by simp at hi⟩
  | o :: os, env, h, hq => by
    have key : ∀ (v : Value) (g : List AObj), DRun P ops K os (env.put o.dst v) (h ++ g) → (∀ x ∈ g, ∀ u ∈ x.cells, Within (h ++ g).length u) → Within (h ++ g).length v →
        ((wantedA ops env o = some true ∧ AOp P o (fun v' h' => v' = v ∧ h' = h ++ g) env h) ∨ (wantedA ops env o = some false ∧ v = undef ∧ g = [])) → RunL P ops K (o :: os) env h := fun v g hd hg hv hw => by
      obtain ⟨V, H, z, kk, st⟩ := drun_run os _ _ hd
      refine ⟨fun j => match j with | 0 => v | j + 1 => V j, fun j => match j with | 0 => h | j + 1 => H j, rfl, ?_, fun i x hi => ?_⟩
      · simp only [List.length_cons]
        rw [dval_shift]
        exact kk
      · cases i with
        | zero =>
          simp only [List.getElem?_cons_zero, Option.some.injEq] at hi
          subst hi
          refine ⟨g, z, ?_, ?_, ?_⟩
          · simp only [z]; exact hg
          · simp only [z]; exact hv
          · simp only [z]; exact hw
        | succ i =>
          have := st i x (by simpa using hi)
          unfold RunAt at this ⊢
          rw [dval_shift]
          exact this
    rcases hq with ⟨hw, v, g, ho, hv, hg, hd⟩ | ⟨hw, hd⟩
    · exact key v g hd hg hv (.inl ⟨hw, ho⟩)
    · exact key undef [] (by simpa using hd) (by simp) (.tuple fun i h1 => by simp at h1) (.inr ⟨hw, rfl, rfl⟩)

theorem run_prefix {H : Nat → AHeap} {N : Nat} (st : ∀ i, i < N → ∃ g, H (i + 1) = H i ++ g) (i : Nat) : ∀ n, i ≤ n → n ≤ N → ∃ g, H n = H i ++ g
  | 0, h, _ => by
    have : i = 0 := by omega
    subst this
    exact ⟨[], by simp⟩
  | n + 1, h, hN => by
    by_cases e : i = n + 1
    · subst e; exact ⟨[], by simp⟩
    · obtain ⟨g, hg⟩ := run_prefix st i n (by omega) (by omega)
      obtain ⟨g', hg'⟩ := st n (by omega)
      exact ⟨g ++ g', by rw [hg', hg, List.append_assoc]⟩

theorem VRel.restrict {m m' : Map} {h h' : AHeap} {v r : Value} (hv : VRel m h v r) (hw : Within h'.length v)
    (hm : ∀ (k : Nat) (o' : AObj), h'[k]? = some o' → m' k = m k ∧ h[k]? = some o') : VRel m' h' v r :=
  VRel.ren (.id hw (fun _ _ => rfl)) hv hw fun k o' hk => ⟨(hm k o' hk).1, o', (hm k o' hk).2, rfl, rfl, rfl⟩

/-- The state in the middle of some order: the operations of 'listed' have run. -/
structure DInv (n : Nat) (ops : Array Oper) (V : Nat → Value) (H : Nat → AHeap) (env0 : Env) (m0 : Map) (w0 : World) (listed : Array Bool) (m : Map) (a : Act) (w : World) : Prop where
  rel : Rel m (H ops.size) w
  ext0 : ∀ k, k < (H 0).length → (∀ l, m0 k = some l → m k = some l) ∧ (m0 k = none → m k = none)
  dom : ∀ k l, (H 0).length ≤ k → m k = some l → ∀ i, i < ops.size → (H i).length ≤ k → k < (H (i + 1)).length → listed.getD i false = true
  size : w0.heap.size ≤ w.heap.size
  os : w.os = w0.os
  tape : w.tape = w0.tape
  output : w.output = w0.output
  frame : ∀ b, b < w0.heap.size → (∀ (k : Nat) (o : AObj) (l : Loc), (H 0)[k]? = some o → m0 k = some l → o.mine = true → 0 < o.cells.length → l.block ≠ b) → w.heap[b]? = w0.heap[b]?
  own : ∀ (k : Nat) (o : AObj) (l : Loc), (H ops.size)[k]? = some o → m k = some l → 0 < o.cells.length →
    w0.heap.size ≤ l.block ∨ ∃ k0 o0 l0, (H 0)[k0]? = some o0 ∧ m0 k0 = some l0 ∧ 0 < o0.cells.length ∧ l0.block = l.block ∧ (o.mine = true → o0.mine = true)
  env : EnvRel m (H ops.size) n (dval (fun j => (ops[j]?).bind (·.dst)) V env0 (fun j => listed.getD j false) ops.size) a
  lsize : listed.size = ops.size
  closed : ∀ (i : Nat) (o : Oper), ops[i]? = some o → listed.getD i false = true → ∀ e ∈ o.after, Region.binds .any e = true → listed.getD e.on false = true

theorem wantedA_spec2 {m h} {tmps : Array Value} {env : Env} {ops : Array Oper} {o : Oper} {b : Bool}
    (he : ∀ d, d ∈ o.looksAt ops → VRel m h (env d) (tmps.getD d undef)) (hw : wantedA ops env o = some b) :
    Region.wanted o (yielded ops tmps) = b := by
  let env' : Env := fun t => match o.guard with
    | some (j, _) => if (ops[j]?).bind (·.dst) = some t then env t else undef
    | none => undef
  unfold wantedA at hw
  unfold Region.wanted
  split at hw <;> rename_i hg <;> simp only [hg]
  · simpa using hw
  · rename_i j want
    unfold yielded
    split at hw <;> rename_i hd <;> simp only [hd]
    · simp only [Option.bind_none, Option.some.injEq] at hw ⊢; subst hw; rfl
    · rename_i d
      have hv := he d (by simp [Oper.looksAt, hg, hd])
      simp only [Option.bind_some]
      split at hw <;> rename_i he
      · rename_i x
        rw [he] at hv
        have hb := hv.bool
        cases ht : tmps[d]? with
        | none => simp [Array.getD_eq_getD_getElem?, ht, undef] at hb
        | some y =>
          have : y = .bool x := by simpa [Array.getD_eq_getD_getElem?, ht] using hb
          subst this
          simp only [Option.some.injEq] at hw
          subst hw
          cases x <;> cases want <;> rfl
      · rw [he] at hv
        simp only [Option.some.injEq] at hw; subst hw
        cases ht : tmps[d]? with
        | none => rfl
        | some y =>
          have e : tmps.getD d undef = y := by simp [Array.getD_eq_getD_getElem?, ht]
          rw [e] at hv
          cases y <;> first | rfl | cases hv
      · cases hw

theorem depOk_listed {n : Nat} {ops : Array Oper} {V : Nat → Value} {H : Nat → AHeap} {env0 : Env} {m0 : Map} {w0 : World} {listed : Array Bool} {m : Map} {a : Act} {w : World}
    (hd : depOk ops = true) (inv : DInv n ops V H env0 m0 w0 listed m a w) {i : Nat} {oi : Oper} (hi : ops[i]? = some oi) (hun : listed.getD i false = false)
    (hdeps : ∀ e ∈ oi.after, Region.binds .any e = true → listed.getD e.on false = true) {t : Tmp} (hl : t ∈ oi.looksAt ops ∨ oi.dst = some t) {j : Nat} (hj : j < ops.size)
    (hjd : (ops[j]?).bind (·.dst) = some t) (hne : j ≠ i) : listed.getD j false = decide (j < i) := by
  have hoj : ops[j]? = some ops[j] := Array.getElem?_eq_getElem hj
  rw [hoj] at hjd
  simp only [Option.bind_some] at hjd
  rcases depOk_spec hd hi hoj hjd hl hne with ⟨h1, e, he, hb, hon⟩ | ⟨h1, e, he, hb, hon⟩
  · rw [← hon, hdeps e he hb]
    simp; omega
  · have : decide (j < i) = false := by simp; omega
    rw [this]
    cases hlj : listed.getD j false with
    | false => rfl
    | true =>
      have := inv.closed j _ hoj hlj e he hb
      rw [hon, hun] at this
      cases this

theorem looksAt_operands {ops : Array Oper} {o : Oper} {t : Tmp} (h : Operand.tmp t ∈ o.op.operands.toList) : t ∈ o.looksAt ops := by
  unfold Oper.looksAt
  exact List.mem_append.2 (.inl (List.mem_filterMap.2 ⟨_, h, rfl⟩))

/-- One operation more. -/
theorem DInv.step {P : Program} {n : Nat} {ops : Array Oper} {V : Nat → Value} {H : Nat → AHeap} {env0 : Env} {m0 : Map} {w0 : World} {listed : Array Bool} {m : Map} {a : Act} {w : World}
    (hd : depOk ops = true) (hin : dstsIn n ops.toList = true) (hst : ∀ (i : Nat) (o : Oper), ops[i]? = some o → ∃ g, H (i + 1) = H i ++ g ∧ (∀ x ∈ g, ∀ u ∈ x.cells, Within (H (i + 1)).length u) ∧ Within (H (i + 1)).length (V i))
    (hc0 : Closed (H 0)) (hw0 : ∀ t, Within (H 0).length (env0 t))
    (inv : DInv n ops V H env0 m0 w0 listed m a w) {i : Nat} {oi : Oper} (hi : ops[i]? = some oi) (hri : RunAt P ops (fun j => (ops[j]?).bind (·.dst)) V env0 H i oi) (hun : listed.getD i false = false)
    (hdeps : ∀ e ∈ oi.after, Region.binds .any e = true → listed.getD e.on false = true) {K : Act → World → Prop} {Q : Exit → Act → World → Prop}
    (hK : ∀ m' a' w', DInv n ops V H env0 m0 w0 (listed.setIfInBounds i true) m' a' w' → K a' w') : wpOp P ops Q i K a w := by
  have hlt := (Array.getElem?_eq_some_iff.1 hi).1
  have hsteps : ∀ j, j < ops.size → ∃ g, H (j + 1) = H j ++ g := fun j hj => by
    obtain ⟨g, hg, _⟩ := hst j _ (Array.getElem?_eq_getElem hj)
    exact ⟨g, hg⟩
  have pre : ∀ {p q : Nat}, p ≤ q → q ≤ ops.size → ∃ g, H q = H p ++ g := fun {p q} h1 h2 => run_prefix hsteps p q h1 h2
  have get : ∀ {p q : Nat}, p ≤ q → q ≤ ops.size → ∀ {k : Nat}, k < (H p).length → (H q)[k]? = (H p)[k]? := fun {p q} h1 h2 {k} hk => by
    obtain ⟨g, hg⟩ := pre h1 h2
    rw [hg, List.getElem?_append_left hk]
  have len : ∀ {p q : Nat}, p ≤ q → q ≤ ops.size → (H p).length ≤ (H q).length := fun {p q} h1 h2 => by
    obtain ⟨g, hg⟩ := pre h1 h2
    rw [hg]; simp
  have hclosed : ∀ p, p ≤ ops.size → Closed (H p) := fun p => by
    induction p with
    | zero => exact fun _ => hc0
    | succ p ih =>
      intro hp k o hk u hu
      obtain ⟨g, hg, hcl, _⟩ := hst p _ (Array.getElem?_eq_getElem (by omega))
      rw [hg] at hk
      rw [List.getElem?_append] at hk
      split at hk
      · exact (ih (by omega) k o hk u hu).mono (len (by omega) hp)
      · exact hcl o (List.mem_of_getElem? hk) u hu
  have henvW : ∀ p, p ≤ ops.size → ∀ t, Within (H p).length (dval (fun j => (ops[j]?).bind (·.dst)) V env0 (fun _ => true) p t) := fun p => by
    induction p with
    | zero => exact fun _ t => hw0 t
    | succ p ih =>
      intro hp t
      obtain ⟨g, hg, _, hv⟩ := hst p _ (Array.getElem?_eq_getElem (by omega))
      simp only [dval, if_true]
      by_cases e : (ops[p]?).bind (·.dst) = some t
      · rw [e, Env.put_eq]; exact hv
      · rw [Env.put_ne e]; exact (ih (by omega) t).mono (len (by omega) hp)
  obtain ⟨g, hg, hcl, hvw, hrun⟩ := hri
  have hni : i + 1 ≤ ops.size := hlt
  -- the map below the operation's heap
  let mi : Map := fun k => if k < (H i).length then m k else none
  have hmi : ∀ {k}, k < (H i).length → mi k = m k := fun {k} hk => by simp [mi, hk]
  have hmi' : ∀ {k l}, mi k = some l → k < (H i).length ∧ m k = some l := fun {k l} hk => by
    simp only [mi] at hk
    split at hk
    · exact ⟨‹_›, hk⟩
    · cases hk
  have hrestr : ∀ (k : Nat) (o' : AObj), (H i)[k]? = some o' → mi k = m k ∧ (H ops.size)[k]? = some o' := fun k o' hk => by
    have h1 := (List.getElem?_eq_some_iff.1 hk).1
    exact ⟨hmi h1, by rw [get (by omega) (Nat.le_refl _) h1]; exact hk⟩
  have hrel : Rel mi (H i) w := by
    refine ⟨fun k o l hk hl hp => ?_, fun k1 k2 o1 o2 l1 l2 g1 g2 e1 e2 hne hm p1 p2 => ?_, hclosed i (by omega)⟩
    · obtain ⟨q1, q2⟩ := hrestr k o hk
      rw [q1] at hl
      obtain ⟨c, ty, fz, hb, hc, hm⟩ := inv.rel.holds k o l q2 hl hp
      refine ⟨c, ty, fz, hb, fun j hj => ?_, hm⟩
      obtain ⟨r, r1, r2⟩ := hc j hj
      exact ⟨r, r1, r2.restrict (hclosed i (by omega) k o hk _ (by simp)) hrestr⟩
    · exact inv.rel.sep k1 k2 o1 o2 l1 l2 (hrestr k1 o1 g1).2 (hrestr k2 o2 g2).2 (hmi' e1).2 (hmi' e2).2 hne hm p1 p2
  have hag : ∀ {t : Tmp}, t ∈ oi.looksAt ops → dval (fun j => (ops[j]?).bind (·.dst)) V env0 (fun j => listed.getD j false) ops.size t =
      dval (fun j => (ops[j]?).bind (·.dst)) V env0 (fun _ => true) i t := fun {t} ht => by
    rw [← dval_prefix ops.size (by omega)]
    refine dval_agree _ fun j hj hjd => ?_
    by_cases hne : j = i
    · subst hne
      have := depOk_self hd hi (by simpa [hi] using hjd)
      exact absurd ht this
    · exact depOk_listed hd inv hi hun hdeps (.inl ht) hj hjd hne
  have hval : ∀ t, t ∈ oi.looksAt ops → VRel mi (H i) (dval (fun j => (ops[j]?).bind (·.dst)) V env0 (fun _ => true) i t) (a.tmps.getD t undef) := fun t ht => by
    have := inv.env.vals t
    rw [hag ht] at this
    exact this.restrict (henvW i (by omega) t) hrestr
  -- the end, for both ways
  have fin : ∀ (r : Value) (m' : Map) (w' : World), Rel m' (H (i + 1)) w' → Step mi (H i) w m' (H (i + 1)) w' → VRel m' (H (i + 1)) (V i) r → K (a.put oi.dst r) w' := fun r m' w' r1 s1 v1 => by
    let m2 : Map := fun k => if k < (H (i + 1)).length then m' k else m k
    have hm2 : ∀ {k}, k < (H (i + 1)).length → m2 k = m' k := fun {k} hk => by simp [m2, hk]
    have hm2' : ∀ {k}, ¬ k < (H (i + 1)).length → m2 k = m k := fun {k} hk => by simp [m2, hk]
    have old : ∀ {k l}, k < (H i).length → m k = some l → m' k = some l := fun {k l} hk hl => by
      have hlt1 : k < (H (i + 1)).length := Nat.lt_of_lt_of_le hk (len (by omega) hni)
      have hg1 : (H i)[k]? = some ((H i)[k]) := List.getElem?_eq_getElem hk
      obtain ⟨o', p1, p2, p3, p4, p5, p6⟩ := s1.ext k _ hg1
      obtain ⟨l', hl', he⟩ := p5 l (by rw [hmi hk]; exact hl)
      have : (H (i + 1))[k]? = (H i)[k]? := get (by omega) hni hk
      rw [this, hg1] at p1
      cases p1
      rw [hl', he rfl]
    have oldn : ∀ {k}, k < (H i).length → m k = none → m' k = none := fun {k} hk hl => by
      obtain ⟨o', p1, p2, p3, p4, p5, p6⟩ := s1.ext k _ (List.getElem?_eq_getElem hk)
      exact p6 (by rw [hmi hk]; exact hl)
    have hnew : ∀ {k}, (H i).length ≤ k → k < (H (i + 1)).length → m k = none := fun {k} h1 h2 => by
      cases hmk : m k with
      | none => rfl
      | some l =>
        have := inv.dom k l (Nat.le_trans (len (Nat.zero_le _) (by omega)) h1) hmk i hlt h1 h2
        rw [hun] at this; cases this
    have ex1 : Ext m' (H (i + 1)) m2 (H ops.size) := fun k o hk => by
      have h1 := (List.getElem?_eq_some_iff.1 hk).1
      exact ⟨o, by rw [get hni (Nat.le_refl _) h1]; exact hk, Nat.le_refl _, rfl, rfl, fun l hl => ⟨l, by rw [hm2 h1]; exact hl, fun _ => rfl⟩⟩
    have ex2 : Ext m (H ops.size) m2 (H ops.size) := fun k o hk => by
      refine ⟨o, hk, Nat.le_refl _, rfl, rfl, fun l hl => ⟨l, ?_, fun _ => rfl⟩⟩
      by_cases h1 : k < (H (i + 1)).length
      · rw [hm2 h1]
        by_cases h2 : k < (H i).length
        · exact old h2 hl
        · rw [hnew (by omega) h1] at hl; cases hl
      · rw [hm2' h1]; exact hl
    have hkeep : ∀ {k : Nat} {o : AObj} {l : Loc}, ¬ k < (H (i + 1)).length → (H ops.size)[k]? = some o → m k = some l → 0 < o.cells.length → w'.heap[l.block]? = w.heap[l.block]? := fun {k o l} hk ho hl hp => by
      refine s1.frame _ (inv.rel.block_lt ho hl hp) fun k0 o0 l0 h0 hl0 hm0 hp0 => ?_
      obtain ⟨q1, q2⟩ := hmi' hl0
      exact inv.rel.sep k0 k o0 o l0 l (hrestr k0 o0 h0).2 ho q2 hl (by have := len (p := i) (q := i + 1) (by omega) hni; omega) hm0 hp0 hp
    refine hK m2 _ w' ⟨⟨fun k o l hk hl hp => ?_, fun k1 k2 o1 o2 l1 l2 g1 g2 e1 e2 hne hm p1 p2 => ?_, hclosed _ (Nat.le_refl _)⟩, fun k hk => ?_, fun k l hk hl j hj h1 h2 => ?_,
      Nat.le_trans inv.size s1.size, s1.os.trans inv.os, s1.tape.trans inv.tape, s1.output.trans inv.output, fun b hb hno => ?_, fun k o l hk hl hp => ?_, ⟨?_, ?_, fun t => ?_⟩, by simp [inv.lsize], fun j oj hj hlj e he hb => ?_⟩
    · by_cases h1 : k < (H (i + 1)).length
      · rw [hm2 h1] at hl
        rw [get hni (Nat.le_refl _) h1] at hk
        obtain ⟨c, ty, fz, hb, hc, hm⟩ := r1.holds k o l hk hl hp
        refine ⟨c, ty, fz, hb, fun j hj => ?_, hm⟩
        obtain ⟨r, q1, q2⟩ := hc j hj
        exact ⟨r, q1, q2.mono ex1⟩
      · rw [hm2' h1] at hl
        obtain ⟨c, ty, fz, hb, hc, hm⟩ := inv.rel.holds k o l hk hl hp
        refine ⟨c, ty, fz, by rw [hkeep h1 hk hl hp]; exact hb, fun j hj => ?_, hm⟩
        obtain ⟨r, q1, q2⟩ := hc j hj
        exact ⟨r, q1, q2.mono ex2⟩
    · have mixed : ∀ {k1 k2 : Nat} {o1 o2 : AObj} {l1 l2 : Loc}, k1 < (H (i + 1)).length → ¬ k2 < (H (i + 1)).length → (H ops.size)[k1]? = some o1 → (H ops.size)[k2]? = some o2 → m2 k1 = some l1 → m2 k2 = some l2 →
          (o1.mine = true ∨ o2.mine = true) → 0 < o1.cells.length → 0 < o2.cells.length → l1.block ≠ l2.block := fun {k1 k2 o1 o2 l1 l2} h1 h2 g1 g2 e1 e2 hm p1 p2 => by
        rw [hm2 h1] at e1; rw [hm2' h2] at e2
        rw [get hni (Nat.le_refl _) h1] at g1
        have hb2 := inv.rel.block_lt g2 e2 p2
        rcases s1.own k1 o1 l1 g1 e1 p1 with h3 | ⟨k0, o0, l0, a1, a2, a3, a4, a5⟩
        · omega
        · obtain ⟨q1, q2⟩ := hmi' a2
          have hne' : k0 ≠ k2 := by have := len (p := i) (q := i + 1) (by omega) hni; omega
          rw [← a4]
          rcases hm with hm | hm
          · exact inv.rel.sep k0 k2 o0 o2 l0 l2 (hrestr k0 o0 a1).2 g2 q2 e2 hne' (a5 hm) a3 p2
          · exact (inv.rel.sep k2 k0 o2 o0 l2 l0 g2 (hrestr k0 o0 a1).2 e2 q2 (Ne.symm hne') hm p2 a3).symm
      by_cases h1 : k1 < (H (i + 1)).length <;> by_cases h2 : k2 < (H (i + 1)).length
      · rw [hm2 h1] at e1; rw [hm2 h2] at e2
        rw [get hni (Nat.le_refl _) h1] at g1; rw [get hni (Nat.le_refl _) h2] at g2
        exact r1.sep k1 k2 o1 o2 l1 l2 g1 g2 e1 e2 hne hm p1 p2
      · exact mixed h1 h2 g1 g2 e1 e2 (.inl hm) p1 p2
      · exact (mixed h2 h1 g2 g1 e2 e1 (.inr hm) p2 p1).symm
      · rw [hm2' h1] at e1; rw [hm2' h2] at e2
        exact inv.rel.sep k1 k2 o1 o2 l1 l2 g1 g2 e1 e2 hne hm p1 p2
    · have hki : k < (H i).length := Nat.lt_of_lt_of_le hk (len (Nat.zero_le _) (by omega))
      have hki' : k < (H (i + 1)).length := Nat.lt_of_lt_of_le hk (len (Nat.zero_le _) hni)
      rw [hm2 hki']
      exact ⟨fun l hl => old hki ((inv.ext0 k hk).1 l hl), fun hn => oldn hki ((inv.ext0 k hk).2 hn)⟩
    · by_cases hij : i = j
      · subst hij
        simp [Array.getD_eq_getD_getElem?, inv.lsize, hlt]
      · rw [getD_set_ne false hij]
        by_cases h3 : k < (H (i + 1)).length
        · have hji : j < i := by
            rcases Nat.lt_or_ge j i with h4 | h4
            · exact h4
            · have := len (p := i + 1) (q := j) (by omega) (by omega)
              omega
          have h5 : k < (H i).length := Nat.lt_of_lt_of_le h2 (len (by omega) (by omega))
          rw [hm2 h3] at hl
          cases hmk : m k with
          | none => rw [oldn h5 hmk] at hl; cases hl
          | some l2 => exact inv.dom k l2 hk hmk j hj h1 h2
        · rw [hm2' h3] at hl
          exact inv.dom k l hk hl j hj h1 h2
    · rw [s1.frame b (Nat.lt_of_lt_of_le hb inv.size) fun k o l hk hl hm hp he => ?_, inv.frame b hb hno]
      obtain ⟨q1, q2⟩ := hmi' hl
      rcases inv.own k o l (hrestr k o hk).2 q2 hp with h3 | ⟨k0, o0, l0, a1, a2, a3, a4, a5⟩
      · omega
      · exact hno k0 o0 l0 a1 a2 (a5 hm) a3 (a4.trans he)
    · by_cases h1 : k < (H (i + 1)).length
      · rw [hm2 h1] at hl
        rw [get hni (Nat.le_refl _) h1] at hk
        rcases s1.own k o l hk hl hp with h3 | ⟨k0, o0, l0, a1, a2, a3, a4, a5⟩
        · exact .inl (Nat.le_trans inv.size h3)
        · obtain ⟨q1, q2⟩ := hmi' a2
          rcases inv.own k0 o0 l0 (hrestr k0 o0 a1).2 q2 a3 with h4 | ⟨k3, o3, l3, b1, b2, b3, b4, b5⟩
          · exact .inl (by omega)
          · exact .inr ⟨k3, o3, l3, b1, b2, b3, b4.trans a4, fun hm => b5 (a5 hm)⟩
      · rw [hm2' h1] at hl
        exact inv.own k o l hk hl hp
    · have := inv.env.size
      cases hdst : oi.dst <;> simp [Act.put, this]
    · have := inv.env.defers
      cases hdst : oi.dst <;> simp [Act.put, this]
    · have hdd : (ops[i]?).bind (·.dst) = oi.dst := by simp [hi]
      by_cases ht : oi.dst = some t
      · have hnew : dval (fun j => (ops[j]?).bind (·.dst)) V env0 (fun j => (listed.setIfInBounds i true).getD j false) ops.size t = V i := by
          refine dval_last (by simp [hi, ht]) (by simp [Array.getD_eq_getD_getElem?, inv.lsize, hlt]) _ hlt fun j h1 h2 h3 => ?_
          have := depOk_listed hd inv hi hun hdeps (.inr ht) h2 h3 (by omega)
          rw [getD_set_ne false (by omega), this]
          simp; omega
        rw [hnew]
        have hdn : t < n := by
          have := List.all_eq_true.1 hin oi (by rw [Array.mem_toList_iff]; exact Array.mem_of_getElem? hi)
          simp only [ht, Bool.and_eq_true, decide_eq_true_eq] at this
          exact this.1
        have : (a.put oi.dst r).tmps.getD t undef = r := by
          simp [Act.put, ht, Array.getD_eq_getD_getElem?, inv.env.size, hdn]
        rw [this]
        exact v1.mono ex1
      · have hsame : dval (fun j => (ops[j]?).bind (·.dst)) V env0 (fun j => (listed.setIfInBounds i true).getD j false) ops.size t = dval (fun j => (ops[j]?).bind (·.dst)) V env0 (fun j => listed.getD j false) ops.size t := by
          refine dval_agree _ fun j hj hjd => ?_
          have : i ≠ j := fun e => by subst e; simp [hi] at hjd; exact ht hjd
          exact getD_set_ne false this
        rw [hsame]
        have : (a.put oi.dst r).tmps.getD t undef = a.tmps.getD t undef := by
          cases hdst : oi.dst with
          | none => rfl
          | some d =>
            have hne : d ≠ t := fun e => ht (by rw [hdst, e])
            simp [Act.put, Array.getD_eq_getD_getElem?, Array.getElem?_setIfInBounds_ne hne]
        rw [this]
        exact (inv.env.vals t).mono ex2
    · by_cases hij : i = j
      · subst hij
        have : oj = oi := Option.some.inj (hj.symm.trans hi)
        subst this
        exact getD_set_true (hdeps e he hb)
      · rw [getD_set_ne false hij] at hlj
        exact getD_set_true (inv.closed j oj hj hlj e he hb)
  unfold wpOp
  simp only [hi]
  rcases hrun with ⟨hw, hop⟩ | ⟨hw, hv, hgn⟩
  · have hw' := wantedA_spec2 hval hw
    simp only [hw', if_true]
    refine .inl (Oper.wp_mono2 ?_ (hop mi w a hrel fun x hx => ?_))
    · rintro a1 w1 ⟨v, r, m1, h1, rfl, r1, s1, v1, rfl, rfl⟩
      exact fin r m1 w1 r1 s1 v1
    · have hok := List.all_eq_true.1 hin oi (by rw [Array.mem_toList_iff]; exact Array.mem_of_getElem? hi)
      simp only [Bool.and_eq_true] at hok
      have hx' := List.all_eq_true.1 hok.2 x hx
      cases x with
      | tmp t => exact hval t (looksAt_operands hx)
      | const v => exact .const _ _ hx'
      | global g => cases hx'
      | func f => exact .func rfl rfl (fun i h1 _ => by simp at h1) (fun i h1 _ => by simp at h1)
  · have hw' := wantedA_spec2 hval hw
    simp only [hw', Bool.false_eq_true, if_false]
    subst hgn
    rw [List.append_nil] at hg
    refine fin undef mi w (by rw [hg]; exact hrel) (by rw [hg]; exact Step.refl) (by rw [hv]; exact .undef _ _)

theorem countP_lt {p q : Nat → Bool} : ∀ (l : List Nat), (∀ x, q x = true → p x = true) → (∃ x ∈ l, p x = true ∧ q x = false) → l.countP q < l.countP p
  | [], _, ⟨_, hx, _⟩ => by simp at hx
  | y :: l, h, ⟨x, hx, h1, h2⟩ => by
    have hle : ∀ l : List Nat, l.countP q ≤ l.countP p := fun l => List.countP_mono_left fun x _ => h x
    simp only [List.countP_cons]
    rcases List.mem_cons.1 hx with rfl | hx
    · rw [if_pos h1, if_neg (by simp [h2])]
      have := hle l; omega
    · have := countP_lt l h ⟨x, hx, h1, h2⟩
      by_cases hq : q y = true
      · rw [if_pos hq, if_pos (h y hq)]; omega
      · rw [if_neg hq]; split <;> omega

def left (N : Nat) (listed : Array Bool) : Nat := (List.range N).countP fun i => !listed.getD i false

theorem ready_some {ops : Array Oper} {listed : Array Bool} (hs : listed.size = ops.size) (hd : depOk ops = true) :
    ∀ (i : Nat), i < ops.size → listed.getD i false = false → Region.ready .any ops listed ≠ [] := by
  intro i
  induction i using Nat.strongRecOn with
  | _ i ih =>
    intro hi hun hnil
    have hoi : ops[i]? = some ops[i] := Array.getElem?_eq_getElem hi
    by_cases hall : ∀ e ∈ ops[i].after, Region.binds .any e = true → listed.getD e.on false = true
    · have : i ∈ Region.ready .any ops listed := mem_ready.2 ⟨getD_in (by omega) hun, _, hoi, hall⟩
      rw [hnil] at this
      cases this
    · have ⟨e, he⟩ := Classical.not_forall.1 hall
      have ⟨he1, he2⟩ := Classical.not_imp.1 he
      have ⟨he3, he4⟩ := Classical.not_imp.1 he2
      have hlt := depOk_lt hd hoi e he1 he3
      exact ih e.on hlt (by omega) (by simpa using he4) hnil

/-- A region that draws its order: its text's order serves. -/
theorem awp_draw {P : Program} {n id : Nat} {l : List Oper} {Q : Exit → Env → AHeap → Prop} {env : Env} {h : AHeap} (hm : P.follows .mixedOrders = true)
    (hd : depOk l.toArray = true) (hin : dstsIn n l = true) (hr : DRun P l.toArray (Q .normal) l env h) : AWp P n (.region id l.toArray true) Q env h := by
  intro m w a hrel he
  obtain ⟨V, H, rfl, hQ, hst⟩ := drun_run l env h hr
  have hst' : ∀ (i : Nat) (o : Oper), (l.toArray)[i]? = some o → RunAt P l.toArray (fun j => ((l.toArray)[j]?).bind (·.dst)) V env H i o := fun i o hi => by
    simpa using hst i o (by simpa using hi)
  have hsz : l.toArray.size = l.length := by simp
  have hsteps : ∀ j, j < l.toArray.size → ∃ g, H (j + 1) = H j ++ g := fun j hj => by
    obtain ⟨g, hg, _⟩ := hst' j _ (Array.getElem?_eq_getElem hj)
    exact ⟨g, hg⟩
  obtain ⟨g0, hg0⟩ := run_prefix hsteps 0 l.toArray.size (by omega) (Nat.le_refl _)
  have hH : ∀ {k : Nat}, k < (H 0).length → (H l.toArray.size)[k]? = (H 0)[k]? := fun {k} hk => by rw [hg0, List.getElem?_append_left hk]
  have hHl : (H 0).length ≤ (H l.toArray.size).length := by rw [hg0]; simp
  let m1 : Map := fun k => if k < (H 0).length then m k else none
  have hm1 : ∀ {k}, k < (H 0).length → m1 k = m k := fun {k} hk => by simp [m1, hk]
  have hm1' : ∀ {k l}, m1 k = some l → k < (H 0).length ∧ m k = some l := fun {k l} hk => by
    simp only [m1] at hk
    split at hk
    · exact ⟨‹_›, hk⟩
    · cases hk
  have ex : Ext m (H 0) m1 (H l.toArray.size) := fun k o hk => by
    have h1 := (List.getElem?_eq_some_iff.1 hk).1
    exact ⟨o, by rw [hH h1]; exact hk, Nat.le_refl _, rfl, rfl, fun l hl => ⟨l, by rw [hm1 h1]; exact hl, fun _ => rfl⟩⟩
  have hback : ∀ {k o l1}, (H l.toArray.size)[k]? = some o → m1 k = some l1 → (H 0)[k]? = some o ∧ m k = some l1 := fun {k o l1} hk hl => by
    obtain ⟨h1, h2⟩ := hm1' hl
    exact ⟨by rw [← hH h1]; exact hk, h2⟩
  have hcl : ∀ p, p ≤ l.toArray.size → Closed (H p) := fun p => by
    induction p with
    | zero => exact fun _ => hrel.closed
    | succ p ih =>
      intro hp k o hk u hu
      obtain ⟨g, hg, hcl, _⟩ := hst' p _ (Array.getElem?_eq_getElem (by omega))
      rw [hg] at hk
      rw [List.getElem?_append] at hk
      split at hk
      · exact (ih (by omega) k o hk u hu).mono (by rw [hg]; simp)
      · exact hcl o (List.mem_of_getElem? hk) u hu
  have inv0 : DInv n l.toArray V H env m w (Array.replicate l.toArray.size false) m1 a { w with drawn := w.drawn + 1 } := by
    refine ⟨⟨fun k o l1 hk hl hp => ?_, fun k1 k2 o1 o2 l1 l2 g1 g2 e1 e2 hne hm p1 p2 => ?_, hcl _ (Nat.le_refl _)⟩, fun k hk => ⟨fun l1 hl => by rw [hm1 hk]; exact hl, fun hn => by rw [hm1 hk]; exact hn⟩, fun k l1 hk hl => ?_,
      Nat.le_refl _, rfl, rfl, rfl, fun _ _ _ => rfl, fun k o l1 hk hl hp => ?_, ⟨he.size, he.defers, fun t => ?_⟩, by simp, fun i o hi hlj => ?_⟩
    · obtain ⟨q1, q2⟩ := hback hk hl
      obtain ⟨c, ty, fz, hb, hc, hm⟩ := hrel.holds k o l1 q1 q2 hp
      refine ⟨c, ty, fz, hb, fun j hj => ?_, hm⟩
      obtain ⟨r, r1, r2⟩ := hc j hj
      exact ⟨r, r1, r2.mono ex⟩
    · obtain ⟨q1, q2⟩ := hback g1 e1
      obtain ⟨q3, q4⟩ := hback g2 e2
      exact hrel.sep k1 k2 o1 o2 l1 l2 q1 q3 q2 q4 hne hm p1 p2
    · have := (hm1' hl).1; omega
    · obtain ⟨q1, q2⟩ := hback hk hl
      exact .inr ⟨k, o, l1, q1, q2, hp, rfl, fun hh => hh⟩
    · have : dval (fun j => ((l.toArray)[j]?).bind (·.dst)) V env (fun j => (Array.replicate l.toArray.size false).getD j false) l.toArray.size t = env t := by
        have h0 : ∀ N, dval (fun j => ((l.toArray)[j]?).bind (·.dst)) V env (fun j => (Array.replicate l.toArray.size false).getD j false) N = env := fun N => by
          induction N with
          | zero => rfl
          | succ N ih => simp only [dval]; rw [if_neg (by rw [getD_replicate_false]; simp), ih]
        rw [h0]
      rw [this]
      exact (he.vals t).mono ex
    · rw [getD_replicate_false] at hlj; cases hlj
  have main : ∀ (fuel : Nat) (listed : Array Bool) (m' : Map) (a' : Act) (w' : World), left l.toArray.size listed ≤ fuel → DInv n l.toArray V H env m w listed m' a' w' →
      wpAny P .any l.toArray (fun e a' w' => ∃ m' env' h', Rel m' h' w' ∧ Step m (H 0) w m' h' w' ∧ EnvRel m' h' n env' a' ∧ Q e env' h') fuel listed a' w' := by
    have done : ∀ (listed : Array Bool) (m' : Map) (a' : Act) (w' : World), (∀ i, i < l.toArray.size → listed.getD i false = true) → DInv n l.toArray V H env m w listed m' a' w' →
        ∃ m' env' h', Rel m' h' w' ∧ Step m (H 0) w m' h' w' ∧ EnvRel m' h' n env' a' ∧ Q .normal env' h' := fun listed m' a' w' hall inv => by
      have henv : dval (fun j => ((l.toArray)[j]?).bind (·.dst)) V env (fun j => listed.getD j false) l.toArray.size = dval (fun j => (l[j]?).bind (·.dst)) V env (fun _ => true) l.length := by
        funext t
        rw [dval_agree (q := fun _ => true) _ (fun j hj _ => hall j hj)]
        simp
      have hq := hQ
      rw [← henv, ← hsz] at hq
      refine ⟨m', _, _, inv.rel, ⟨fun k o hk => ?_, inv.size, inv.os, inv.tape, inv.output, inv.frame, inv.own⟩, inv.env, hq⟩
      have h1 := (List.getElem?_eq_some_iff.1 hk).1
      obtain ⟨e1, e2⟩ := inv.ext0 k h1
      exact ⟨o, by rw [hH h1]; exact hk, Nat.le_refl _, rfl, rfl, fun l1 hl => ⟨l1, e1 l1 hl, fun _ => rfl⟩, e2⟩
    intro fuel
    induction fuel with
    | zero =>
      intro listed m' a' w' hf inv
      have hall : ∀ i, i < l.toArray.size → listed.getD i false = true := fun i hi => by
        have h0 : left l.toArray.size listed = 0 := by omega
        have := List.countP_eq_zero.1 h0 i (List.mem_range.2 hi)
        simpa using this
      refine ⟨?_, done listed m' a' w' hall inv⟩
      cases hr : Region.ready .any l.toArray listed with
      | nil => rfl
      | cons i rest =>
        have hi : i ∈ Region.ready .any l.toArray listed := by rw [hr]; simp
        obtain ⟨h1, oi, h2, _⟩ := mem_ready.1 hi
        have := hall i (Array.getElem?_eq_some_iff.1 h2).1
        have h3 := getD_both h1
        rw [this] at h3; cases h3
    | succ fuel ih =>
      intro listed m' a' w' hf inv
      refine ⟨fun hnil => done listed m' a' w' (fun i hi => ?_) inv, fun i hi => ?_⟩
      · cases hli : listed.getD i false with
        | true => rfl
        | false => exact absurd hnil (ready_some inv.lsize hd i hi hli)
      · obtain ⟨h1, oi, h2, h3⟩ := mem_ready.1 hi
        have hlt := (Array.getElem?_eq_some_iff.1 h2).1
        refine inv.step hd (by simpa using hin) (fun i o ho => by obtain ⟨g, q1, q2, q3, _⟩ := hst' i o ho; exact ⟨g, q1, q2, q3⟩) hrel.closed (fun t => (he.vals t).within) h2 (hst' i oi h2) (getD_both h1) h3 fun m2 a2 w2 inv2 => ih _ m2 a2 w2 ?_ inv2
        have hlt2 : i < l.length := by simpa using hlt
        have hset : (listed.setIfInBounds i true).getD i false = true := by simp [Array.getD_eq_getD_getElem?, inv.lsize, hlt2]
        have : left l.toArray.size (listed.setIfInBounds i true) < left l.toArray.size listed := by
          refine countP_lt _ (fun x hx => ?_) ⟨i, List.mem_range.2 hlt, by simp [getD_both h1], by simp [hset]⟩
          by_cases hix : i = x
          · subst hix
            rw [getD_both h1]; rfl
          · rwa [getD_set_ne false hix] at hx
        omega
  refine wp_region_any hm (main _ _ m1 a _ ?_ inv0)
  unfold left
  exact Nat.le_trans List.countP_le_length (by simp)

end Go.Am
