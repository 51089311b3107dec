/-
  The abstract heap: a region that draws its order, in which one operation changes what is there: all ahead of it come first, but for one that only reads slots; all behind it come last, in their order. General: no program is named.
-/
import Derived.Test.YtnbpakikglpkcaaAmSink2
namespace Go.Am
set_option linter.unusedSimpArgs false
set_option linter.unusedVariables false
open Go.RowKit
def sinkBut (ops : Array Oper) (E N : Nat) : Bool := (List.range N).all fun i => (i == E) || (List.range (N + 1)).any fun j => decide (i < j ∧ j ≠ E) && match ops[j]? with
  | some o => o.after.toList.any fun e => Region.binds .any e && e.on == i
  | none => false

theorem sinkBut_all {ops : Array Oper} {listed : Array Bool} {E N : Nat} (hs : sinkBut ops E N = true) (hcl : ∀ (i : Nat) (o : Oper), ops[i]? = some o → listed.getD i false = true → ∀ e ∈ o.after, Region.binds .any e = true → listed.getD e.on false = true)
    {o : Oper} (ho : ops[N]? = some o) (hr : ∀ e ∈ o.after, Region.binds .any e = true → listed.getD e.on false = true) : ∀ (d i : Nat), N - i ≤ d → i < N → i ≠ E → listed.getD i false = true := by
  intro d
  have hN : N < ops.size := (Array.getElem?_eq_some_iff.1 ho).1
  induction d with
  | zero => intro i h1 h2; omega
  | succ d ih =>
    intro i h1 h2 hE
    have := List.all_eq_true.1 hs i (List.mem_range.2 h2)
    rw [Bool.or_eq_true] at this
    rcases this with this | this
    · exact absurd (by simpa using this) hE
    obtain ⟨j, hj, h3⟩ := List.any_eq_true.1 this
    have hj' := List.mem_range.1 hj
    have hj2 : j < ops.size := by omega
    simp only [Bool.and_eq_true, decide_eq_true_eq] at h3
    obtain ⟨h4, h5⟩ := h3
    rw [Array.getElem?_eq_getElem hj2] at h5
    obtain ⟨e, he, h6⟩ := List.any_eq_true.1 h5
    simp only [Bool.and_eq_true, beq_iff_eq] at h6
    have he' : e ∈ ops[j].after := by simpa using he
    rw [← h6.2]
    by_cases hl : j = N
    · subst hl
      rw [Array.getElem?_eq_getElem hj2] at ho
      cases ho
      exact hr e he' h6.1
    · exact hcl j _ (Array.getElem?_eq_getElem hj2) (ih j (by omega) (by omega) h4.2) e he' h6.1

theorem dval_cut {dst : Nat → Option Tmp} {V : Nat → Value} {env0 : Env} {p : Nat → Bool} {k : Nat} : ∀ N, k ≤ N → (∀ j, k ≤ j → j < N → p j = false) → dval dst V env0 p N = dval dst V env0 p k
  | 0, hk, _ => by rw [show k = 0 by omega]
  | N + 1, hk, h => by
    by_cases e : k = N + 1
    · rw [e]
    · rw [dval, if_neg (by rw [h N (by omega) (by omega)]; simp)]
      exact dval_cut N (by omega) fun j h1 h2 => h j h1 (by omega)
def noSlot (dE : Tmp) (o : Oper) : Bool := o.op.operands.toList.all fun x => match x with | .tmp t => decide (t ≠ dE) | _ => true
theorem AOp.but {P : Program} {o : Oper} {dE : Tmp} {K : Value → AHeap → Prop} {env env' : Env} {h : AHeap} (hn : noSlot dE o = true) (he : ∀ t, t ≠ dE → env t = env' t) (a : AOp P o K env h) : AOp P o K env' h :=
  AOp.congr (fun x hx => by
    have := List.all_eq_true.1 hn x hx
    cases x with
    | tmp t =>
      simp only [decide_eq_true_eq] at this
      exact he t this
    | _ => rfl) a

theorem awp_drawE0 {P : Program} {n id : Nat} {l l0 T : List Oper} {A E : Oper} {dE : Tmp} {jE : Nat} {Q : Exit → Env → AHeap → Prop} {env : Env} {h : AHeap} (hmix : P.follows .mixedOrders = true)
    (hd : depOk l.toArray = true) (hsA : sinkBut l.toArray jE l0.length = true) (hsT : ((List.range T.length).all fun i => sinkAt l.toArray (l0.length + 1 + i)) = true) (hin : dstsIn n l = true) (hl : l = l0 ++ A :: T)
    (hE : l0[jE]? = some E) (hdE : E.dst = some dE) (hgA : A.guard = none) (hgE : E.guard = none) (hgT : (T.all fun o => o.guard.isNone) = true) (hAE : noSlot dE A = true) (hEE : noSlot dE E = true) (hneA : A.dst ≠ some dE)
    (hone : ((List.range l0.length).all fun j => (j == jE) || decide ((l0[j]?).bind (·.dst) ≠ some dE)) = true)
    (hr : DRun P l.toArray (fun env1 h1 => AOp P A (fun v h2 => AOp P E (fun v' h' => v' = env1 dE ∧ h' = h2) (env1.put A.dst v) h2 ∧ ARun P l.toArray (Q .normal) T (env1.put A.dst v) h2) env1 h1) l0 env h) : AWp P n (.region id l.toArray true) Q env h := by
  intro m w a hrel he
  obtain ⟨V0, H0, rfl, hA, hst0⟩ := drun_run l0 env h hr
  generalize henv1 : dval (fun j => (l0[j]?).bind (·.dst)) V0 env (fun _ => true) l0.length = env1 at hA
  let V : Nat → Value := fun j => if j < l0.length then V0 j else undef
  let H : Nat → AHeap := fun j => if j ≤ l0.length then H0 j else H0 l0.length
  have hlen : l.length = l0.length + 1 + T.length := by rw [hl]; simp; omega
  have hsz : l.toArray.size = l0.length + 1 + T.length := by simp [hlen]
  have hH00 : H 0 = H0 0 := by simp [H]
  have hHj : ∀ j, l0.length ≤ j → H j = H0 l0.length := fun j hj => by
    by_cases e : j = l0.length
    · simp [H, e]
    · have : ¬ j ≤ l0.length := by omega
      simp [H, this]
  have oA : (l.toArray)[l0.length]? = some A := by rw [List.getElem?_toArray, hl]; simp
  have hjE : jE < l0.length := (List.getElem?_eq_some_iff.1 hE).1
  have oE : (l.toArray)[jE]? = some E := by rw [List.getElem?_toArray, hl, List.getElem?_append_left hjE]; exact hE
  have oT : ∀ (j : Nat) (o : Oper), T[j]? = some o → (l.toArray)[l0.length + 1 + j]? = some o := fun j o ho => by
    rw [List.getElem?_toArray, hl, List.getElem?_append_right (by omega), show l0.length + 1 + j - l0.length = j + 1 by omega, List.getElem?_cons_succ]; exact ho
  have hdst : ∀ j, j < l0.length → ((l.toArray)[j]?).bind (·.dst) = (l0[j]?).bind (·.dst) := fun j hj => by
    simp only [List.getElem?_toArray]; rw [hl, List.getElem?_append_left hj]
  have hdv : ∀ i, i ≤ l0.length → dval (fun j => ((l.toArray)[j]?).bind (·.dst)) V env (fun _ => true) i = dval (fun j => (l0[j]?).bind (·.dst)) V0 env (fun _ => true) i := fun i hi =>
    dval_congr i fun j hj => ⟨hdst j (by omega), by simp [V]; omega⟩
  have hdv1 : dval (fun j => ((l.toArray)[j]?).bind (·.dst)) V env (fun _ => true) l0.length = env1 := (hdv _ (Nat.le_refl _)).trans henv1
  have hrun : ∀ (i : Nat) (x : Oper), i < l0.length → (l.toArray)[i]? = some x → RunAt P l.toArray (fun j => ((l.toArray)[j]?).bind (·.dst)) V env H i x := fun i x hi hx => by
    have hx0 : l0[i]? = some x := by
      rw [List.getElem?_toArray, hl, List.getElem?_append_left hi] at hx; exact hx
    have := hst0 i x hx0
    unfold RunAt at this ⊢
    rw [hdv i (by omega)]
    have e1 : H i = H0 i := by simp [H]; omega
    have e2 : H (i + 1) = H0 (i + 1) := by simp [H]; omega
    have e3 : V i = V0 i := by simp [V, hi]
    rw [e1, e2, e3]; exact this
  have hst' : ∀ (i : Nat) (x : Oper), (l.toArray)[i]? = some x → ∃ g, H (i + 1) = H i ++ g ∧ (∀ y ∈ g, ∀ u ∈ y.cells, Within (H (i + 1)).length u) ∧ Within (H (i + 1)).length (V i) := fun i x hx => by
    by_cases hi : i < l0.length
    · obtain ⟨g, q1, q2, q3, _⟩ := hrun i x hi hx
      exact ⟨g, q1, q2, q3⟩
    · have e3 : V i = undef := by simp only [V, hi, if_false]
      exact ⟨[], by rw [hHj _ (by omega), hHj _ (by omega), List.append_nil], by simp, by rw [e3]; exact .tuple fun i h1 => by simp at h1⟩
  have hHN : H l.toArray.size = H0 l0.length := hHj _ (by omega)
  rw [← hH00] at hrel he ⊢
  have hsteps : ∀ j, j < l.toArray.size → ∃ g, H (j + 1) = H j ++ g := fun j hj => by
    obtain ⟨g, hg, _⟩ := hst' j _ (Array.getElem?_eq_getElem hj)
    exact ⟨g, hg⟩
  obtain ⟨g0, hg0⟩ := run_prefix hsteps 0 l.toArray.size (by omega) (Nat.le_refl _)
  have hH : ∀ {k : Nat}, k < (H 0).length → (H l.toArray.size)[k]? = (H 0)[k]? := fun {k} hk => by rw [hg0, List.getElem?_append_left hk]
  let m1 : Map := fun k => if k < (H 0).length then m k else none
  have hm1 : ∀ {k}, k < (H 0).length → m1 k = m k := fun {k} hk => by simp [m1, hk]
  have hm1' : ∀ {k l}, m1 k = some l → k < (H 0).length ∧ m k = some l := fun {k l} hk => by
    simp only [m1] at hk
    split at hk
    · exact ⟨‹_›, hk⟩
    · cases hk
  have ex : Ext m (H 0) m1 (H l.toArray.size) := fun k o hk => by
    have h1 := (List.getElem?_eq_some_iff.1 hk).1
    exact ⟨o, by rw [hH h1]; exact hk, Nat.le_refl _, rfl, rfl, fun l hl => ⟨l, by rw [hm1 h1]; exact hl, fun _ => rfl⟩⟩
  have hback : ∀ {k o l1}, (H l.toArray.size)[k]? = some o → m1 k = some l1 → (H 0)[k]? = some o ∧ m k = some l1 := fun {k o l1} hk hl => by
    obtain ⟨h1, h2⟩ := hm1' hl
    exact ⟨by rw [← hH h1]; exact hk, h2⟩
  have hcl : ∀ p, p ≤ l.toArray.size → Closed (H p) := fun p => by
    induction p with
    | zero => exact fun _ => hrel.closed
    | succ p ih =>
      intro hp k o hk u hu
      obtain ⟨g, hg, hcl, _⟩ := hst' p _ (Array.getElem?_eq_getElem (by omega))
      rw [hg] at hk
      rw [List.getElem?_append] at hk
      split at hk
      · exact (ih (by omega) k o hk u hu).mono (by rw [hg]; simp)
      · exact hcl o (List.mem_of_getElem? hk) u hu
  have inv0 : DInv n l.toArray V H env m w (Array.replicate l.toArray.size false) m1 a { w with drawn := w.drawn + 1 } := by
    refine ⟨⟨fun k o l1 hk hl hp => ?_, fun k1 k2 o1 o2 l1 l2 g1 g2 e1 e2 hne hm p1 p2 => ?_, hcl _ (Nat.le_refl _)⟩, fun k hk => ⟨fun l1 hl => by rw [hm1 hk]; exact hl, fun hn => by rw [hm1 hk]; exact hn⟩, fun k l1 hk hl => ?_,
      Nat.le_refl _, rfl, rfl, rfl, fun _ _ _ => rfl, fun k o l1 hk hl hp => ?_, ⟨he.size, he.defers, fun t => ?_⟩, by simp, fun i o hi hlj => ?_⟩
    · obtain ⟨q1, q2⟩ := hback hk hl
      obtain ⟨c, ty, fz, hb, hc, hm⟩ := hrel.holds k o l1 q1 q2 hp
      refine ⟨c, ty, fz, hb, fun j hj => ?_, hm⟩
      obtain ⟨r, r1, r2⟩ := hc j hj
      exact ⟨r, r1, r2.mono ex⟩
    · obtain ⟨q1, q2⟩ := hback g1 e1
      obtain ⟨q3, q4⟩ := hback g2 e2
      exact hrel.sep k1 k2 o1 o2 l1 l2 q1 q3 q2 q4 hne hm p1 p2
    · have := (hm1' hl).1; omega
    · obtain ⟨q1, q2⟩ := hback hk hl
      exact .inr ⟨k, o, l1, q1, q2, hp, rfl, fun hh => hh⟩
    · have : dval (fun j => ((l.toArray)[j]?).bind (·.dst)) V env (fun j => (Array.replicate l.toArray.size false).getD j false) l.toArray.size t = env t := by
        have h0 : ∀ N, dval (fun j => ((l.toArray)[j]?).bind (·.dst)) V env (fun j => (Array.replicate l.toArray.size false).getD j false) N = env := fun N => by
          induction N with
          | zero => rfl
          | succ N ih => simp only [dval]; rw [if_neg (by rw [getD_replicate_false]; simp), ih]
        rw [h0]
      rw [this]
      exact (he.vals t).mono ex
    · rw [getD_replicate_false] at hlj; cases hlj
  -- what is wanted at the end
  let G : Exit → Act → World → Prop := fun e a' w' => ∃ m' env' h', Rel m' h' w' ∧ Step m (H 0) w m' h' w' ∧ EnvRel m' h' n env' a' ∧ Q e env' h'
  have hin' : dstsIn n l.toArray.toList = true := by simpa using hin
  have hsT' : ∀ j, j < T.length → sinkAt l.toArray (l0.length + 1 + j) = true := fun j hj => List.all_eq_true.1 hsT j (List.mem_range.2 hj)
  -- only what stands behind is left
  have phaseT : ∀ (T2 T1 : List Oper) (fuel : Nat) (listed : Array Bool) (env2 : Env) (m' : Map) (h2 : AHeap) (a' : Act) (w' : World), T = T1 ++ T2 → listed.size = l.toArray.size → left l.toArray.size listed ≤ fuel →
      (∀ i, i < l0.length + 1 + T1.length → listed.getD i false = true) → (∀ i, l0.length + 1 + T1.length ≤ i → listed.getD i false = false) →
      (∀ (i : Nat) (o : Oper), l.toArray[i]? = some o → listed.getD i false = true → ∀ e ∈ o.after, Region.binds .any e = true → listed.getD e.on false = true) →
      Rel m' h2 w' → Step m (H 0) w m' h2 w' → EnvRel m' h2 n env2 a' → ARun P l.toArray (Q .normal) T2 env2 h2 → wpAny P .any l.toArray G fuel listed a' w' := by
    intro T2
    induction T2 with
    | nil =>
      intro T1 fuel listed env2 m' h2 a' w' hTT hls hf hall hno hcl irel hst ienv har
      refine wpAny_done (fun j hj => hall j ?_) ⟨m', env2, h2, irel, hst, ienv, har⟩ fuel
      have : T.length = T1.length := by rw [hTT]; simp
      omega
    | cons o T2 ih =>
      intro T1 fuel listed env2 m' h2 a' w' hTT hls hf hall hno hcl irel hst ienv har
      have hT1 : T1.length < T.length := by rw [hTT]; simp
      have hoT : T[T1.length]? = some o := by rw [hTT]; simp
      have oo := oT _ _ hoT
      have hun : listed.getD (l0.length + 1 + T1.length) false = false := hno _ (Nat.le_refl _)
      have hgo : o.guard = none := by
        have := List.all_eq_true.1 hgT o (List.mem_of_getElem? hoT)
        simpa using this
      have hop : AOp P o (fun v h' => ARun P l.toArray (Q .normal) T2 (env2.put o.dst v) h') env2 h2 := by
        rcases har with ⟨_, q⟩ | ⟨q, _⟩
        · exact q
        · rw [wantedA_noguard hgo] at q; cases q
      cases fuel with
      | zero => exact absurd (left_pos (N := l.toArray.size) (by omega) hun) (by omega)
      | succ fuel =>
        refine ⟨fun hnil => absurd hnil (ready_some hls hd _ (by omega) hun), fun i hi => ?_⟩
        obtain ⟨q1, oi, q2, q3⟩ := mem_ready.1 hi
        have hlt := (Array.getElem?_eq_some_iff.1 q2).1
        have hiT : i = l0.length + 1 + T1.length := by
          refine Classical.byContradiction fun hx => ?_
          by_cases h7 : i < l0.length + 1 + T1.length
          · have h6 := hall i h7
            rw [getD_both q1] at h6; cases h6
          · have h5 := hsT' (i - (l0.length + 1)) (by omega)
            rw [show l0.length + 1 + (i - (l0.length + 1)) = i by omega] at h5
            have := sinkAt_all h5 hcl q2 q3 i (l0.length + 1 + T1.length) (by omega) (by omega)
            rw [hun] at this; cases this
        subst hiT
        rw [oo] at q2; cases q2
        have hset : (listed.setIfInBounds (l0.length + 1 + T1.length) true).getD (l0.length + 1 + T1.length) false = true := by
          have : l0.length + 1 + T1.length < listed.size := by rw [hls]; omega
          simp [Array.getD_eq_getD_getElem?, this]
        refine wpOp_of oo hin' hgo irel hst ienv hop fun u h1 m3 a3 w3 r3 s3 e3 hq => ih (T1 ++ [o]) fuel _ _ m3 h1 a3 w3 (by rw [hTT]; simp) (by rw [Array.size_setIfInBounds]; exact hls) ?_ (fun j hj => ?_) (fun j hj => ?_) (fun j x hx hl9 e he9 hb9 => ?_) r3 s3 e3 hq
        · have := left_lt hls (i := l0.length + 1 + T1.length) (by omega) hun
          omega
        · by_cases h9 : j = l0.length + 1 + T1.length
          · subst h9; exact hset
          · rw [getD_set_ne false (fun e => h9 e.symm)]
            refine hall j ?_
            simp at hj; omega
        · simp at hj
          rw [getD_set_ne false (by omega)]
          exact hno j (by omega)
        · by_cases h9 : e.on = l0.length + 1 + T1.length
          · rw [h9]; exact hset
          · rw [getD_set_ne false (fun e => h9 e.symm)]
            by_cases h8 : j = l0.length + 1 + T1.length
            · subst h8; rw [oo] at hx; cases hx; exact q3 e he9 hb9
            · rw [getD_set_ne false (fun e => h8 e.symm)] at hl9
              exact hcl j x hx hl9 e he9 hb9
  have hbut : ∀ listed : Array Bool, (∀ i, i < l0.length → i ≠ jE → listed.getD i false = true) → ∀ t, t ≠ dE → env1 t = dval (fun j => ((l.toArray)[j]?).bind (·.dst)) V env (fun j => listed.getD j false) l0.length t := fun listed hpre t ht => by
    rw [← hdv1]
    refine (dval_agree (q := fun _ => true) _ fun j hj hd9 => hpre j hj fun e => ?_).symm
    subst e
    simp only [oE, Option.bind_some, hdE, Option.some.injEq] at hd9
    exact ht hd9.symm
  have phaseA : ∀ (fuel : Nat) (listed : Array Bool) (m' : Map) (a' : Act) (w' : World), left l.toArray.size listed ≤ fuel + 1 → (∀ e ∈ A.after, Region.binds .any e = true → listed.getD e.on false = true) → (∀ i, l0.length ≤ i → listed.getD i false = false) →
      DInv n l.toArray V H env m w listed m' a' w' → wpOp P l.toArray G l0.length (wpAny P .any l.toArray G fuel (listed.setIfInBounds l0.length true)) a' w' := by
    intro fuel listed m' a' w' hf hrd hno inv
    have hunA := hno l0.length (Nat.le_refl _)
    have hpre := fun i hi hne => sinkBut_all hsA inv.closed oA hrd l0.length i (by omega) hi hne
    have irel := inv.rel
    rw [hHN] at irel
    have hstep : Step m (H 0) w m' (H0 l0.length) w' := by
      rw [← hHN]
      exact ⟨fun k x hk => by
        have h1 := (List.getElem?_eq_some_iff.1 hk).1
        obtain ⟨e1, e2⟩ := inv.ext0 k h1
        exact ⟨x, by rw [hH h1]; exact hk, Nat.le_refl _, rfl, rfl, fun l1 hl => ⟨l1, e1 l1 hl, fun _ => rfl⟩, e2⟩, inv.size, inv.os, inv.tape, inv.output, inv.frame, inv.own⟩
    have ienv := inv.env
    rw [hHN, hsz, dval_cut (k := l0.length) _ (by omega) (fun j hj _ => hno j hj)] at ienv
    have hleft := left_lt inv.lsize (i := l0.length) (by omega) hunA
    have hls : (listed.setIfInBounds l0.length true).size = l.toArray.size := by rw [Array.size_setIfInBounds]; exact inv.lsize
    have hset : (listed.setIfInBounds l0.length true).getD l0.length false = true := by
      have : l0.length < listed.size := by rw [inv.lsize]; omega
      simp [Array.getD_eq_getD_getElem?, this]
    have hclosed2 : ∀ (i : Nat) (o : Oper), l.toArray[i]? = some o → (listed.setIfInBounds l0.length true).getD i false = true → ∀ e ∈ o.after, Region.binds .any e = true → (listed.setIfInBounds l0.length true).getD e.on false = true := fun i o ho hl9 e he9 hb9 => by
      by_cases h9 : e.on = l0.length
      · rw [h9]; exact hset
      · rw [getD_set_ne false (fun e => h9 e.symm)]
        by_cases h8 : i = l0.length
        · subst h8; rw [oA] at ho; cases ho; exact hrd e he9 hb9
        · rw [getD_set_ne false (fun e => h8 e.symm)] at hl9
          exact inv.closed i o ho hl9 e he9 hb9
    have hno2 : ∀ i, l0.length + 1 ≤ i → (listed.setIfInBounds l0.length true).getD i false = false := fun i hi => by rw [getD_set_ne false (by omega)]; exact hno i (by omega)
    by_cases hM : listed.getD jE false = true
    · have e0 : dval (fun j => ((l.toArray)[j]?).bind (·.dst)) V env (fun j => listed.getD j false) l0.length = env1 := by
        rw [← hdv1]
        funext t
        refine dval_agree (q := fun _ => true) _ (fun j hj _ => ?_)
        by_cases h9 : j = jE
        · rw [h9]; exact hM
        · exact hpre j hj h9
      rw [e0] at ienv
      refine wpOp_of oA hin' hgA irel hstep ienv hA fun v h1 m3 a3 w3 r3 s3 e3 hq => ?_
      refine phaseT T [] fuel _ _ m3 h1 a3 w3 rfl hls (by omega) (fun i hi => ?_) (fun i hi => hno2 i (by simpa using hi)) hclosed2 r3 s3 e3 hq.2
      by_cases h9 : i = l0.length
      · subst h9; exact hset
      · rw [getD_set_ne false (fun e => h9 e.symm)]
        simp at hi
        by_cases h8 : i = jE
        · rw [h8]; exact hM
        · exact hpre i (by omega) h8
    · have hM' : listed.getD jE false = false := by simpa using hM
      have hag := hbut listed hpre
      generalize dval (fun j => ((l.toArray)[j]?).bind (·.dst)) V env (fun j => listed.getD j false) l0.length = envX at ienv hag
      refine wpOp_of oA hin' hgA irel hstep ienv (AOp.but hAE hag hA) fun v h1 m3 a3 w3 r3 s3 e3 hq => ?_
      have hunM : (listed.setIfInBounds l0.length true).getD jE false = false := by rw [getD_set_ne false (by omega)]; exact hM'
      cases fuel with
      | zero => exact absurd (left_pos (N := l.toArray.size) (by omega) hunM) (by omega)
      | succ fuel =>
        refine ⟨fun hnil => absurd hnil (ready_some hls hd _ (by omega) hunM), fun i hi => ?_⟩
        obtain ⟨q1, oi, q2, q3⟩ := mem_ready.1 hi
        have hlt := (Array.getElem?_eq_some_iff.1 q2).1
        have hiM : i = jE := by
          refine Classical.byContradiction fun hx => ?_
          by_cases h7 : l0.length + 1 ≤ i
          · have h5 := hsT' (i - (l0.length + 1)) (by omega)
            rw [show l0.length + 1 + (i - (l0.length + 1)) = i by omega] at h5
            have := sinkAt_all h5 hclosed2 q2 q3 i jE (by omega) (by omega)
            rw [hunM] at this; cases this
          · have h6 : (listed.setIfInBounds l0.length true).getD i false = true := by
              by_cases h9 : i = l0.length
              · subst h9; exact hset
              · rw [getD_set_ne false (fun e => h9 e.symm)]; exact hpre i (by omega) hx
            rw [getD_both q1] at h6; cases h6
        subst hiM
        have hag2 : ∀ t, t ≠ dE → (env1.put A.dst v) t = (envX.put A.dst v) t := fun t ht => by
          cases hAd : A.dst with
          | none => exact hag t ht
          | some da =>
            simp only [Env.put]
            by_cases c : t = da
            · simp only [c, if_true]
            · simp only [c, if_false]; exact hag t ht
        refine wpOp_of oE hin' hgE r3 s3 e3 (AOp.but hEE hag2 hq.1) fun v9 h9 m4 a4 w4 r4 s4 e4 hq4 => ?_
        obtain ⟨rfl, rfl⟩ := hq4
        have henvE : (envX.put A.dst v).put E.dst (env1 dE) = env1.put A.dst v := by
          funext t
          rw [hdE]
          by_cases c : t = dE
          · subst c
            cases hAd : A.dst with
            | none => simp only [Env.put, if_true]
            | some da =>
              simp only [Env.put, if_true]
              by_cases c2 : t = da
              · exact absurd (by rw [hAd, c2]) hneA
              · simp only [c2, if_false]
          · rw [hag2 t c]
            simp only [Env.put, c, if_false]
        rw [henvE] at e4
        have hleft2 := left_lt hls (i := i) (by omega) hunM
        have hsetM : ((listed.setIfInBounds l0.length true).setIfInBounds i true).getD i false = true := by
          have : i < (listed.setIfInBounds l0.length true).size := by rw [hls]; omega
          rw [Array.getD_eq_getD_getElem?, Array.getElem?_setIfInBounds_self_of_lt this]; rfl
        refine phaseT T [] fuel _ _ m4 h9 a4 w4 rfl (by rw [Array.size_setIfInBounds]; exact hls) (by omega) (fun j hj => ?_) (fun j hj => ?_) (fun j x hx hl9 e he9 hb9 => ?_) r4 s4 e4 hq.2
        · by_cases h9 : j = i
          · subst h9; exact hsetM
          · rw [getD_set_ne false (fun e => h9 e.symm)]
            by_cases h8 : j = l0.length
            · subst h8; exact hset
            · rw [getD_set_ne false (fun e => h8 e.symm)]
              simp at hj
              exact hpre j (by omega) h9
        · simp at hj
          rw [getD_set_ne false (by omega)]
          exact hno2 j (by omega)
        · by_cases h9 : e.on = i
          · rw [h9]; exact hsetM
          · rw [getD_set_ne false (fun e => h9 e.symm)]
            by_cases h8 : j = i
            · subst h8; rw [oE] at hx; cases hx; rw [oE] at q2; cases q2; exact q3 e he9 hb9
            · rw [getD_set_ne false (fun e => h8 e.symm)] at hl9
              exact hclosed2 j x hx hl9 e he9 hb9
  have main : ∀ (fuel : Nat) (listed : Array Bool) (m' : Map) (a' : Act) (w' : World), left l.toArray.size listed ≤ fuel → (∀ i, l0.length ≤ i → listed.getD i false = false) → DInv n l.toArray V H env m w listed m' a' w' →
      wpAny P .any l.toArray G fuel listed a' w' := by
    intro fuel
    induction fuel with
    | zero =>
      intro listed m' a' w' hf hno inv
      exact absurd (left_pos (N := l.toArray.size) (by omega) (hno l0.length (Nat.le_refl _))) (by omega)
    | succ fuel ih =>
      intro listed m' a' w' hf hno inv
      refine ⟨fun hnil => absurd hnil (ready_some inv.lsize hd _ (by omega) (hno l0.length (Nat.le_refl _))), fun i hi => ?_⟩
      obtain ⟨q1, oi, q2, q3⟩ := mem_ready.1 hi
      have hlt := (Array.getElem?_eq_some_iff.1 q2).1
      by_cases hiA : i = l0.length
      · subst hiA
        rw [oA] at q2; cases q2
        exact phaseA fuel listed m' a' w' hf q3 hno inv
      · by_cases hiT : l0.length + 1 ≤ i
        · have h5 := hsT' (i - (l0.length + 1)) (by omega)
          rw [show l0.length + 1 + (i - (l0.length + 1)) = i by omega] at h5
          have := sinkAt_all h5 inv.closed q2 q3 i l0.length (by omega) (by omega)
          rw [hno _ (Nat.le_refl _)] at this; cases this
        · refine inv.step hd hin' hst' hrel.closed (fun t => (he.vals t).within) q2 (hrun i oi (by omega) q2) (getD_both q1) q3 fun m2 a2 w2 inv2 => ih _ m2 a2 w2 ?_ (fun j hj => by rw [getD_set_ne false (by omega)]; exact hno j hj) inv2
          have := left_lt inv.lsize hlt (getD_both q1)
          omega
  refine wp_region_any hmix (main _ _ m1 a _ ?_ (fun i _ => getD_replicate_false _ _) inv0)
  unfold left
  exact Nat.le_trans List.countP_le_length (by simp)

theorem awp_drawE {P : Program} {n id : Nat} {l l0 T : List Oper} {A E : Oper} {dE : Tmp} {Q : Exit → Env → AHeap → Prop} {env : Env} {h : AHeap} (jA jE : Nat) (ht : l.take jA = l0) (hdr : l.drop jA = A :: T) (hmix : P.follows .mixedOrders = true)
    (hd : depOk l.toArray = true) (hsA : sinkBut l.toArray jE l0.length = true) (hsT : ((List.range T.length).all fun i => sinkAt l.toArray (l0.length + 1 + i)) = true) (hin : dstsIn n l = true)
    (hE : l0[jE]? = some E) (hdE : E.dst = some dE) (hgA : A.guard = none) (hgE : E.guard = none) (hgT : (T.all fun o => o.guard.isNone) = true) (hAE : noSlot dE A = true) (hEE : noSlot dE E = true) (hneA : decide (A.dst ≠ some dE) = true)
    (hone : ((List.range l0.length).all fun j => (j == jE) || decide ((l0[j]?).bind (·.dst) ≠ some dE)) = true)
    (hr : DRun P l.toArray (fun env1 h1 => AOp P A (fun v h2 => AOp P E (fun v' h' => v' = env1 dE ∧ h' = h2) (env1.put A.dst v) h2 ∧ ARun P l.toArray (Q .normal) T (env1.put A.dst v) h2) env1 h1) l0 env h) : AWp P n (.region id l.toArray true) Q env h :=
  awp_drawE0 hmix hd hsA hsT hin (by rw [← ht, ← hdr, List.take_append_drop]) hE hdE hgA hgE hgT hAE hEE (of_decide_eq_true hneA) hone hr

end Go.Am
