/-
  The abstract heap: what this claim needs of it. General: no program is named.
-/
import Derived.Test.YtfnopalingnilaaAmG4
namespace Go.Am
set_option linter.unusedSimpArgs false
set_option linter.unusedVariables false
open Go.RowKit
/-- A region of these operations, in each order, told of its acts. -/
def AWpA (P : Program) (n : Nat) (l : List Oper) (Q : Exit → Env → AHeap → Prop) (env : Env) (h : AHeap) : Prop :=
  ∀ m w a, Rel m h w → EnvRel m h n env a → wpAny P .any l.toArray (fun e a' w' => e = .normal ∧ ∃ m' env' h', Rel m' h' w' ∧ Step m h w m' h' w' ∧ EnvRel m' h' n env' a' ∧ Q e env' h') l.toArray.size (Array.replicate l.toArray.size false) a { w with drawn := w.drawn + 1 }
theorem awp_drawE0A {P : Program} {n : Nat} {l l0 T : List Oper} {A E : Oper} {dE : Tmp} {jE : Nat} {Q : Exit → Env → AHeap → Prop} {env : Env} {h : AHeap} 
    (hd : depOk l.toArray = true) (hsA : sinkBut l.toArray jE l0.length = true) (hsT : ((List.range T.length).all fun i => sinkAt l.toArray (l0.length + 1 + i)) = true) (hin : dstsIn n l = true) (hl : l = l0 ++ A :: T)
    (hE : l0[jE]? = some E) (hdE : E.dst = some dE) (hgA : A.guard = none) (hgE : E.guard = none) (hgT : (T.all fun o => o.guard.isNone) = true) (hAE : noSlot dE A = true) (hEE : noSlot dE E = true) (hneA : A.dst ≠ some dE)
    (hone : ((List.range l0.length).all fun j => (j == jE) || decide ((l0[j]?).bind (·.dst) ≠ some dE)) = true)
    (hr : DRun P l.toArray (fun env1 h1 => AOp P A (fun v h2 => AOp P E (fun v' h' => v' = env1 dE ∧ h' = h2) (env1.put A.dst v) h2 ∧ ARun P l.toArray (Q .normal) T (env1.put A.dst v) h2) env1 h1) l0 env h) : AWpA P n l Q env h := by
  intro m w a hrel he
  obtain ⟨V0, H0, rfl, hA, hst0⟩ := drun_run l0 env h hr
  generalize henv1 : dval (fun j => (l0[j]?).bind (·.dst)) V0 env (fun _ => true) l0.length = env1 at hA
  let V : Nat → Value := fun j => if j < l0.length then V0 j else undef
  let H : Nat → AHeap := fun j => if j ≤ l0.length then H0 j else H0 l0.length
  have hlen : l.length = l0.length + 1 + T.length := by rw [hl]; simp; omega
  have hsz : l.toArray.size = l0.length + 1 + T.length := by simp [hlen]
  have hH00 : H 0 = H0 0 := by simp [H]
  have hHj : ∀ j, l0.length ≤ j → H j = H0 l0.length := fun j hj => by
    by_cases e : j = l0.length
    · simp [H, e]
    · have : ¬ j ≤ l0.length := by omega
      simp [H, this]
  have oA : (l.toArray)[l0.length]? = some A := by rw [List.getElem?_toArray, hl]; simp
  have hjE : jE < l0.length := (List.getElem?_eq_some_iff.1 hE).1
  have oE : (l.toArray)[jE]? = some E := by rw [List.getElem?_toArray, hl, List.getElem?_append_left hjE]; exact hE
  have oT : ∀ (j : Nat) (o : Oper), T[j]? = some o → (l.toArray)[l0.length + 1 + j]? = some o := fun j o ho => by
    rw [List.getElem?_toArray, hl, List.getElem?_append_right (by omega), show l0.length + 1 + j - l0.length = j + 1 by omega, List.getElem?_cons_succ]; exact ho
  have hdst : ∀ j, j < l0.length → ((l.toArray)[j]?).bind (·.dst) = (l0[j]?).bind (·.dst) := fun j hj => by
    simp only [List.getElem?_toArray]; rw [hl, List.getElem?_append_left hj]
  have hdv : ∀ i, i ≤ l0.length → dval (fun j => ((l.toArray)[j]?).bind (·.dst)) V env (fun _ => true) i = dval (fun j => (l0[j]?).bind (·.dst)) V0 env (fun _ => true) i := fun i hi =>
    dval_congr i fun j hj => ⟨hdst j (by omega), by simp [V]; omega⟩
  have hdv1 : dval (fun j => ((l.toArray)[j]?).bind (·.dst)) V env (fun _ => true) l0.length = env1 := (hdv _ (Nat.le_refl _)).trans henv1
  have hrun : ∀ (i : Nat) (x : Oper), i < l0.length → (l.toArray)[i]? = some x → RunAt P l.toArray (fun j => ((l.toArray)[j]?).bind (·.dst)) V env H i x := fun i x hi hx => by
    have hx0 : l0[i]? = some x := by
      rw [List.getElem?_toArray, hl, List.getElem?_append_left hi] at hx; exact hx
    have := hst0 i x hx0
    unfold RunAt at this ⊢
    rw [hdv i (by omega)]
    have e1 : H i = H0 i := by simp [H]; omega
    have e2 : H (i + 1) = H0 (i + 1) := by simp [H]; omega
    have e3 : V i = V0 i := by simp [V, hi]
    rw [e1, e2, e3]; exact this
  have hst' : ∀ (i : Nat) (x : Oper), (l.toArray)[i]? = some x → ∃ g, H (i + 1) = H i ++ g ∧ (∀ y ∈ g, ∀ u ∈ y.cells, Within (H (i + 1)).length u) ∧ Within (H (i + 1)).length (V i) := fun i x hx => by
    by_cases hi : i < l0.length
    · obtain ⟨g, q1, q2, q3, _⟩ := hrun i x hi hx
      exact ⟨g, q1, q2, q3⟩
    · have e3 : V i = undef := by simp only [V, hi, if_false]
      exact ⟨[], by rw [hHj _ (by omega), hHj _ (by omega), List.append_nil], by simp, by rw [e3]; exact .tuple fun i h1 => by simp at h1⟩
  have hHN : H l.toArray.size = H0 l0.length := hHj _ (by omega)
  rw [← hH00] at hrel he ⊢
  have hsteps : ∀ j, j < l.toArray.size → ∃ g, H (j + 1) = H j ++ g := fun j hj => by
    obtain ⟨g, hg, _⟩ := hst' j _ (Array.getElem?_eq_getElem hj)
    exact ⟨g, hg⟩
  obtain ⟨g0, hg0⟩ := run_prefix hsteps 0 l.toArray.size (by omega) (Nat.le_refl _)
  have hH : ∀ {k : Nat}, k < (H 0).length → (H l.toArray.size)[k]? = (H 0)[k]? := fun {k} hk => by rw [hg0, List.getElem?_append_left hk]
  let m1 : Map := fun k => if k < (H 0).length then m k else none
  have hm1 : ∀ {k}, k < (H 0).length → m1 k = m k := fun {k} hk => by simp [m1, hk]
  have hm1' : ∀ {k l}, m1 k = some l → k < (H 0).length ∧ m k = some l := fun {k l} hk => by
    simp only [m1] at hk
    split at hk
    · exact ⟨‹_›, hk⟩
    · cases hk
  have ex : Ext m (H 0) m1 (H l.toArray.size) := fun k o hk => by
    have h1 := (List.getElem?_eq_some_iff.1 hk).1
    exact ⟨o, by rw [hH h1]; exact hk, Nat.le_refl _, rfl, rfl, fun l hl => ⟨l, by rw [hm1 h1]; exact hl, fun _ => rfl⟩⟩
  have hback : ∀ {k o l1}, (H l.toArray.size)[k]? = some o → m1 k = some l1 → (H 0)[k]? = some o ∧ m k = some l1 := fun {k o l1} hk hl => by
    obtain ⟨h1, h2⟩ := hm1' hl
    exact ⟨by rw [← hH h1]; exact hk, h2⟩
  have hcl : ∀ p, p ≤ l.toArray.size → Closed (H p) := fun p => by
    induction p with
    | zero => exact fun _ => hrel.closed
    | succ p ih =>
      intro hp k o hk u hu
      obtain ⟨g, hg, hcl, _⟩ := hst' p _ (Array.getElem?_eq_getElem (by omega))
      rw [hg] at hk
      rw [List.getElem?_append] at hk
      split at hk
      · exact (ih (by omega) k o hk u hu).mono (by rw [hg]; simp)
      · exact hcl o (List.mem_of_getElem? hk) u hu
  have inv0 : DInv n l.toArray V H env m w (Array.replicate l.toArray.size false) m1 a { w with drawn := w.drawn + 1 } := by
    refine ⟨⟨fun k o l1 hk hl hp => ?_, fun k1 k2 o1 o2 l1 l2 g1 g2 e1 e2 hne hm p1 p2 => ?_, hcl _ (Nat.le_refl _)⟩, fun k hk => ⟨fun l1 hl => by rw [hm1 hk]; exact hl, fun hn => by rw [hm1 hk]; exact hn⟩, fun k l1 hk hl => ?_,
      Nat.le_refl _, rfl, rfl, rfl, fun _ _ _ => rfl, fun k o l1 hk hl hp => ?_, ⟨he.size, he.defers, fun t => ?_⟩, by simp, fun i o hi hlj => ?_⟩
    · obtain ⟨q1, q2⟩ := hback hk hl
      obtain ⟨c, ty, fz, hb, hc, hm⟩ := hrel.holds k o l1 q1 q2 hp
      refine ⟨c, ty, fz, hb, fun j hj => ?_, hm⟩
      obtain ⟨r, r1, r2⟩ := hc j hj
      exact ⟨r, r1, r2.mono ex⟩
    · obtain ⟨q1, q2⟩ := hback g1 e1
      obtain ⟨q3, q4⟩ := hback g2 e2
      exact hrel.sep k1 k2 o1 o2 l1 l2 q1 q3 q2 q4 hne hm p1 p2
    · have := (hm1' hl).1; omega
    · obtain ⟨q1, q2⟩ := hback hk hl
      exact .inr ⟨k, o, l1, q1, q2, hp, rfl, fun hh => hh⟩
    · have : dval (fun j => ((l.toArray)[j]?).bind (·.dst)) V env (fun j => (Array.replicate l.toArray.size false).getD j false) l.toArray.size t = env t := by
        have h0 : ∀ N, dval (fun j => ((l.toArray)[j]?).bind (·.dst)) V env (fun j => (Array.replicate l.toArray.size false).getD j false) N = env := fun N => by
          induction N with
          | zero => rfl
          | succ N ih => simp only [dval]; rw [if_neg (by rw [getD_replicate_false]; simp), ih]
        rw [h0]
      rw [this]
      exact (he.vals t).mono ex
    · rw [getD_replicate_false] at hlj; cases hlj
  -- what is wanted at the end
  let G : Exit → Act → World → Prop := fun e a' w' => e = .normal ∧ ∃ m' env' h', Rel m' h' w' ∧ Step m (H 0) w m' h' w' ∧ EnvRel m' h' n env' a' ∧ Q e env' h'
  have hin' : dstsIn n l.toArray.toList = true := by simpa using hin
  have hsT' : ∀ j, j < T.length → sinkAt l.toArray (l0.length + 1 + j) = true := fun j hj => List.all_eq_true.1 hsT j (List.mem_range.2 hj)
  -- only what stands behind is left
  have phaseT : ∀ (T2 T1 : List Oper) (fuel : Nat) (listed : Array Bool) (env2 : Env) (m' : Map) (h2 : AHeap) (a' : Act) (w' : World), T = T1 ++ T2 → listed.size = l.toArray.size → left l.toArray.size listed ≤ fuel →
      (∀ i, i < l0.length + 1 + T1.length → listed.getD i false = true) → (∀ i, l0.length + 1 + T1.length ≤ i → listed.getD i false = false) →
      (∀ (i : Nat) (o : Oper), l.toArray[i]? = some o → listed.getD i false = true → ∀ e ∈ o.after, Region.binds .any e = true → listed.getD e.on false = true) →
      Rel m' h2 w' → Step m (H 0) w m' h2 w' → EnvRel m' h2 n env2 a' → ARun P l.toArray (Q .normal) T2 env2 h2 → wpAny P .any l.toArray G fuel listed a' w' := by
    intro T2
    induction T2 with
    | nil =>
      intro T1 fuel listed env2 m' h2 a' w' hTT hls hf hall hno hcl irel hst ienv har
      refine wpAny_done (fun j hj => hall j ?_) ⟨rfl, m', env2, h2, irel, hst, ienv, har⟩ fuel
      have : T.length = T1.length := by rw [hTT]; simp
      omega
    | cons o T2 ih =>
      intro T1 fuel listed env2 m' h2 a' w' hTT hls hf hall hno hcl irel hst ienv har
      have hT1 : T1.length < T.length := by rw [hTT]; simp
      have hoT : T[T1.length]? = some o := by rw [hTT]; simp
      have oo := oT _ _ hoT
      have hun : listed.getD (l0.length + 1 + T1.length) false = false := hno _ (Nat.le_refl _)
      have hgo : o.guard = none := by
        have := List.all_eq_true.1 hgT o (List.mem_of_getElem? hoT)
        simpa using this
      have hop : AOp P o (fun v h' => ARun P l.toArray (Q .normal) T2 (env2.put o.dst v) h') env2 h2 := by
        rcases har with ⟨_, q⟩ | ⟨q, _⟩
        · exact q
        · rw [wantedA_noguard hgo] at q; cases q
      cases fuel with
      | zero => exact absurd (left_pos (N := l.toArray.size) (by omega) hun) (by omega)
      | succ fuel =>
        refine ⟨fun hnil => absurd hnil (ready_some hls hd _ (by omega) hun), fun i hi => ?_⟩
        obtain ⟨q1, oi, q2, q3⟩ := mem_ready.1 hi
        have hlt := (Array.getElem?_eq_some_iff.1 q2).1
        have hiT : i = l0.length + 1 + T1.length := by
          refine Classical.byContradiction fun hx => ?_
          by_cases h7 : i < l0.length + 1 + T1.length
          · have h6 := hall i h7
            rw [getD_both q1] at h6; cases h6
          · have h5 := hsT' (i - (l0.length + 1)) (by omega)
            rw [show l0.length + 1 + (i - (l0.length + 1)) = i by omega] at h5
            have := sinkAt_all h5 hcl q2 q3 i (l0.length + 1 + T1.length) (by omega) (by omega)
            rw [hun] at this; cases this
        subst hiT
        rw [oo] at q2; cases q2
        have hset : (listed.setIfInBounds (l0.length + 1 + T1.length) true).getD (l0.length + 1 + T1.length) false = true := by
          have : l0.length + 1 + T1.length < listed.size := by rw [hls]; omega
          simp [Array.getD_eq_getD_getElem?, this]
        refine wpOp_of oo hin' hgo irel hst ienv hop fun u h1 m3 a3 w3 r3 s3 e3 hq => ih (T1 ++ [o]) fuel _ _ m3 h1 a3 w3 (by rw [hTT]; simp) (by rw [Array.size_setIfInBounds]; exact hls) ?_ (fun j hj => ?_) (fun j hj => ?_) (fun j x hx hl9 e he9 hb9 => ?_) r3 s3 e3 hq
        · have := left_lt hls (i := l0.length + 1 + T1.length) (by omega) hun
          omega
        · by_cases h9 : j = l0.length + 1 + T1.length
          · subst h9; exact hset
          · rw [getD_set_ne false (fun e => h9 e.symm)]
            refine hall j ?_
            simp at hj; omega
        · simp at hj
          rw [getD_set_ne false (by omega)]
          exact hno j (by omega)
        · by_cases h9 : e.on = l0.length + 1 + T1.length
          · rw [h9]; exact hset
          · rw [getD_set_ne false (fun e => h9 e.symm)]
            by_cases h8 : j = l0.length + 1 + T1.length
            · subst h8; rw [oo] at hx; cases hx; exact q3 e he9 hb9
            · rw [getD_set_ne false (fun e => h8 e.symm)] at hl9
              exact hcl j x hx hl9 e he9 hb9
  have hbut : ∀ listed : Array Bool, (∀ i, i < l0.length → i ≠ jE → listed.getD i false = true) → ∀ t, t ≠ dE → env1 t = dval (fun j => ((l.toArray)[j]?).bind (·.dst)) V env (fun j => listed.getD j false) l0.length t := fun listed hpre t ht => by
    rw [← hdv1]
    refine (dval_agree (q := fun _ => true) _ fun j hj hd9 => hpre j hj fun e => ?_).symm
    subst e
    simp only [oE, Option.bind_some, hdE, Option.some.injEq] at hd9
    exact ht hd9.symm
  have phaseA : ∀ (fuel : Nat) (listed : Array Bool) (m' : Map) (a' : Act) (w' : World), left l.toArray.size listed ≤ fuel + 1 → (∀ e ∈ A.after, Region.binds .any e = true → listed.getD e.on false = true) → (∀ i, l0.length ≤ i → listed.getD i false = false) →
      DInv n l.toArray V H env m w listed m' a' w' → wpOp P l.toArray G l0.length (wpAny P .any l.toArray G fuel (listed.setIfInBounds l0.length true)) a' w' := by
    intro fuel listed m' a' w' hf hrd hno inv
    have hunA := hno l0.length (Nat.le_refl _)
    have hpre := fun i hi hne => sinkBut_all hsA inv.closed oA hrd l0.length i (by omega) hi hne
    have irel := inv.rel
    rw [hHN] at irel
    have hstep : Step m (H 0) w m' (H0 l0.length) w' := by
      rw [← hHN]
      exact ⟨fun k x hk => by
        have h1 := (List.getElem?_eq_some_iff.1 hk).1
        obtain ⟨e1, e2⟩ := inv.ext0 k h1
        exact ⟨x, by rw [hH h1]; exact hk, Nat.le_refl _, rfl, rfl, fun l1 hl => ⟨l1, e1 l1 hl, fun _ => rfl⟩, e2⟩, inv.size, inv.os, inv.tape, inv.output, inv.frame, inv.own⟩
    have ienv := inv.env
    rw [hHN, hsz, dval_cut (k := l0.length) _ (by omega) (fun j hj _ => hno j hj)] at ienv
    have hleft := left_lt inv.lsize (i := l0.length) (by omega) hunA
    have hls : (listed.setIfInBounds l0.length true).size = l.toArray.size := by rw [Array.size_setIfInBounds]; exact inv.lsize
    have hset : (listed.setIfInBounds l0.length true).getD l0.length false = true := by
      have : l0.length < listed.size := by rw [inv.lsize]; omega
      simp [Array.getD_eq_getD_getElem?, this]
    have hclosed2 : ∀ (i : Nat) (o : Oper), l.toArray[i]? = some o → (listed.setIfInBounds l0.length true).getD i false = true → ∀ e ∈ o.after, Region.binds .any e = true → (listed.setIfInBounds l0.length true).getD e.on false = true := fun i o ho hl9 e he9 hb9 => by
      by_cases h9 : e.on = l0.length
      · rw [h9]; exact hset
      · rw [getD_set_ne false (fun e => h9 e.symm)]
        by_cases h8 : i = l0.length
        · subst h8; rw [oA] at ho; cases ho; exact hrd e he9 hb9
        · rw [getD_set_ne false (fun e => h8 e.symm)] at hl9
          exact inv.closed i o ho hl9 e he9 hb9
    have hno2 : ∀ i, l0.length + 1 ≤ i → (listed.setIfInBounds l0.length true).getD i false = false := fun i hi => by rw [getD_set_ne false (by omega)]; exact hno i (by omega)
    by_cases hM : listed.getD jE false = true
    · have e0 : dval (fun j => ((l.toArray)[j]?).bind (·.dst)) V env (fun j => listed.getD j false) l0.length = env1 := by
        rw [← hdv1]
        funext t
        refine dval_agree (q := fun _ => true) _ (fun j hj _ => ?_)
        by_cases h9 : j = jE
        · rw [h9]; exact hM
        · exact hpre j hj h9
      rw [e0] at ienv
      refine wpOp_of oA hin' hgA irel hstep ienv hA fun v h1 m3 a3 w3 r3 s3 e3 hq => ?_
      refine phaseT T [] fuel _ _ m3 h1 a3 w3 rfl hls (by omega) (fun i hi => ?_) (fun i hi => hno2 i (by simpa using hi)) hclosed2 r3 s3 e3 hq.2
      by_cases h9 : i = l0.length
      · subst h9; exact hset
      · rw [getD_set_ne false (fun e => h9 e.symm)]
        simp at hi
        by_cases h8 : i = jE
        · rw [h8]; exact hM
        · exact hpre i (by omega) h8
    · have hM' : listed.getD jE false = false := by simpa using hM
      have hag := hbut listed hpre
      generalize dval (fun j => ((l.toArray)[j]?).bind (·.dst)) V env (fun j => listed.getD j false) l0.length = envX at ienv hag
      refine wpOp_of oA hin' hgA irel hstep ienv (AOp.but hAE hag hA) fun v h1 m3 a3 w3 r3 s3 e3 hq => ?_
      have hunM : (listed.setIfInBounds l0.length true).getD jE false = false := by rw [getD_set_ne false (by omega)]; exact hM'
      cases fuel with
      | zero => exact absurd (left_pos (N := l.toArray.size) (by omega) hunM) (by omega)
      | succ fuel =>
        refine ⟨fun hnil => absurd hnil (ready_some hls hd _ (by omega) hunM), fun i hi => ?_⟩
        obtain ⟨q1, oi, q2, q3⟩ := mem_ready.1 hi
        have hlt := (Array.getElem?_eq_some_iff.1 q2).1
        have hiM : i = jE := by
          refine Classical.byContradiction fun hx => ?_
          by_cases h7 : l0.length + 1 ≤ i
          · have h5 := hsT' (i - (l0.length + 1)) (by omega)
            rw [show l0.length + 1 + (i - (l0.length + 1)) = i by omega] at h5
            have := sinkAt_all h5 hclosed2 q2 q3 i jE (by omega) (by omega)
            rw [hunM] at this; cases this
          · have h6 : (listed.setIfInBounds l0.length true).getD i false = true := by
              by_cases h9 : i = l0.length
              · subst h9; exact hset
              · rw [getD_set_ne false (fun e => h9 e.symm)]; exact hpre i (by omega) hx
            rw [getD_both q1] at h6; cases h6
        subst hiM
        have hag2 : ∀ t, t ≠ dE → (env1.put A.dst v) t = (envX.put A.dst v) t := fun t ht => by
          cases hAd : A.dst with
          | none => exact hag t ht
          | some da =>
            simp only [Env.put]
            by_cases c : t = da
            · simp only [c, if_true]
            · simp only [c, if_false]; exact hag t ht
        refine wpOp_of oE hin' hgE r3 s3 e3 (AOp.but hEE hag2 hq.1) fun v9 h9 m4 a4 w4 r4 s4 e4 hq4 => ?_
        obtain ⟨rfl, rfl⟩ := hq4
        have henvE : (envX.put A.dst v).put E.dst (env1 dE) = env1.put A.dst v := by
          funext t
          rw [hdE]
          by_cases c : t = dE
          · subst c
            cases hAd : A.dst with
            | none => simp only [Env.put, if_true]
            | some da =>
              simp only [Env.put, if_true]
              by_cases c2 : t = da
              · exact absurd (by rw [hAd, c2]) hneA
              · simp only [c2, if_false]
          · rw [hag2 t c]
            simp only [Env.put, c, if_false]
        rw [henvE] at e4
        have hleft2 := left_lt hls (i := i) (by omega) hunM
        have hsetM : ((listed.setIfInBounds l0.length true).setIfInBounds i true).getD i false = true := by
          have : i < (listed.setIfInBounds l0.length true).size := by rw [hls]; omega
          rw [Array.getD_eq_getD_getElem?, Array.getElem?_setIfInBounds_self_of_lt this]; rfl
        refine phaseT T [] fuel _ _ m4 h9 a4 w4 rfl (by rw [Array.size_setIfInBounds]; exact hls) (by omega) (fun j hj => ?_) (fun j hj => ?_) (fun j x hx hl9 e he9 hb9 => ?_) r4 s4 e4 hq.2
        · by_cases h9 : j = i
          · subst h9; exact hsetM
          · rw [getD_set_ne false (fun e => h9 e.symm)]
            by_cases h8 : j = l0.length
            · subst h8; exact hset
            · rw [getD_set_ne false (fun e => h8 e.symm)]
              simp at hj
              exact hpre j (by omega) h9
        · simp at hj
          rw [getD_set_ne false (by omega)]
          exact hno2 j (by omega)
        · by_cases h9 : e.on = i
          · rw [h9]; exact hsetM
          · rw [getD_set_ne false (fun e => h9 e.symm)]
            by_cases h8 : j = i
            · subst h8; rw [oE] at hx; cases hx; rw [oE] at q2; cases q2; exact q3 e he9 hb9
            · rw [getD_set_ne false (fun e => h8 e.symm)] at hl9
              exact hclosed2 j x hx hl9 e he9 hb9
  have main : ∀ (fuel : Nat) (listed : Array Bool) (m' : Map) (a' : Act) (w' : World), left l.toArray.size listed ≤ fuel → (∀ i, l0.length ≤ i → listed.getD i false = false) → DInv n l.toArray V H env m w listed m' a' w' →
      wpAny P .any l.toArray G fuel listed a' w' := by
    intro fuel
    induction fuel with
    | zero =>
      intro listed m' a' w' hf hno inv
      exact absurd (left_pos (N := l.toArray.size) (by omega) (hno l0.length (Nat.le_refl _))) (by omega)
    | succ fuel ih =>
      intro listed m' a' w' hf hno inv
      refine ⟨fun hnil => absurd hnil (ready_some inv.lsize hd _ (by omega) (hno l0.length (Nat.le_refl _))), fun i hi => ?_⟩
      obtain ⟨q1, oi, q2, q3⟩ := mem_ready.1 hi
      have hlt := (Array.getElem?_eq_some_iff.1 q2).1
      by_cases hiA : i = l0.length
      · subst hiA
        rw [oA] at q2; cases q2
        exact phaseA fuel listed m' a' w' hf q3 hno inv
      · by_cases hiT : l0.length + 1 ≤ i
        · have h5 := hsT' (i - (l0.length + 1)) (by omega)
          rw [show l0.length + 1 + (i - (l0.length + 1)) = i by omega] at h5
          have := sinkAt_all h5 inv.closed q2 q3 i l0.length (by omega) (by omega)
          rw [hno _ (Nat.le_refl _)] at this; cases this
        · refine inv.step hd hin' hst' hrel.closed (fun t => (he.vals t).within) q2 (hrun i oi (by omega) q2) (getD_both q1) q3 fun m2 a2 w2 inv2 => ih _ m2 a2 w2 ?_ (fun j hj => by rw [getD_set_ne false (by omega)]; exact hno j hj) inv2
          have := left_lt inv.lsize hlt (getD_both q1)
          omega
  refine main _ _ m1 a _ ?_ (fun i _ => getD_replicate_false _ _) inv0
  unfold left
  exact Nat.le_trans List.countP_le_length (by simp)


theorem awp_drawEA {P : Program} {n : Nat} {l l0 T : List Oper} {A E : Oper} {dE : Tmp} {Q : Exit → Env → AHeap → Prop} {env : Env} {h : AHeap} (jA jE : Nat) (ht : l.take jA = l0) (hdr : l.drop jA = A :: T)
    (hd : depOk l.toArray = true) (hsA : sinkBut l.toArray jE l0.length = true) (hsT : ((List.range T.length).all fun i => sinkAt l.toArray (l0.length + 1 + i)) = true) (hin : dstsIn n l = true)
    (hE : l0[jE]? = some E) (hdE : E.dst = some dE) (hgA : A.guard = none) (hgE : E.guard = none) (hgT : (T.all fun o => o.guard.isNone) = true) (hAE : noSlot dE A = true) (hEE : noSlot dE E = true) (hneA : decide (A.dst ≠ some dE) = true)
    (hone : ((List.range l0.length).all fun j => (j == jE) || decide ((l0[j]?).bind (·.dst) ≠ some dE)) = true)
    (hr : DRun P l.toArray (fun env1 h1 => AOp P A (fun v h2 => AOp P E (fun v' h' => v' = env1 dE ∧ h' = h2) (env1.put A.dst v) h2 ∧ ARun P l.toArray (Q .normal) T (env1.put A.dst v) h2) env1 h1) l0 env h) : AWpA P n l Q env h :=
  awp_drawE0A hd hsA hsT hin (by rw [← ht, ← hdr, List.take_append_drop]) hE hdE hgA hgE hgT hAE hEE (of_decide_eq_true hneA) hone hr

/-! ## Another order of the text -/
def relab (s : List Nat) (o : Oper) : Oper := ⟨o.dst, o.op, o.type, o.pos, (o.after.filter fun e => s.contains e.on).map fun e => ⟨s.idxOf e.on, e.ground⟩, o.guard⟩
def permL (l : List Oper) (s r : List Nat) : List Oper := r.filterMap fun i => (l[i]?).map (relab s)
def permOk (l : List Oper) (s : List Nat) : Bool := ((List.range s.length).all fun j => decide (s.getD j 0 < l.length) && s.idxOf (s.getD j 0) == j) && l.all fun o => o.guard.isNone && o.after.all fun e => decide (e.on < l.length)
theorem permL_get {l : List Oper} {s : List Nat} : ∀ {r : List Nat} (_ : ∀ i ∈ r, i < l.length) (j : Nat), (permL l s r)[j]? = (r[j]?).bind fun i => (l[i]?).map (relab s)
  | [], _, j => by simp [permL]
  | i :: r, h, j => by
    have hi := h i (by simp)
    have e : permL l s (i :: r) = relab s l[i] :: permL l s r := by simp [permL, List.filterMap_cons, List.getElem?_eq_getElem hi]
    rw [e]
    cases j with
    | zero => simp [List.getElem?_eq_getElem hi]
    | succ j => simpa using permL_get (r := r) (fun i hi => h i (by simp [hi])) j
theorem wpOp_relab {P : Program} {ops ops' : Array Oper} {Q : Exit → Act → World → Prop} {i j : Nat} {o : Oper} {s : List Nat} (hi : ops[i]? = some o) (hj : ops'[j]? = some (relab s o)) (hg : o.guard = none) {K : Act → World → Prop} {a : Act} {w : World}
    (h : wpOp P ops' Q j K a w) : wpOp P ops Q i K a w := by
  unfold wpOp at h ⊢
  simp only [hi]
  simp only [hj] at h
  have w1 : Region.wanted o (yielded ops a.tmps) = true := by unfold Region.wanted; rw [hg]
  have w2 : Region.wanted (relab s o) (yielded ops' a.tmps) = true := by unfold Region.wanted relab; simp only [hg]
  rw [if_pos w1]
  rw [if_pos w2] at h
  have e : execOp a.eval (relab s o) = execOp a.eval o := by obtain ⟨d, op, ty, ps, af, g⟩ := o; cases op <;> rfl
  rcases h with h | ⟨h, h2⟩
  · refine .inl ?_
    unfold Oper.wp at h ⊢
    rw [e] at h
    exact h
  · refine .inr ⟨?_, h2⟩
    unfold Oper.asks at h ⊢
    rw [e] at h
    exact h
theorem wpAny_perm {P : Program} {l : List Oper} {s : List Nat} {Q : Exit → Act → World → Prop} (hok : permOk l s = true) : ∀ (fuel : Nat) (listed listed' : Array Bool) (a : Act) (w : World), listed.size = l.length → listed'.size = s.length →
    (∀ j, j < s.length → listed'.getD j false = listed.getD (s.getD j 0) false) → (∀ i, i < l.length → i ∉ s → listed.getD i false = true) →
    wpAny P .any (permL l s s).toArray Q fuel listed' a w → wpAny P .any l.toArray Q fuel listed a w := by
  rw [permOk, Bool.and_eq_true] at hok
  have h1 : ∀ j, j < s.length → s.getD j 0 < l.length ∧ s.idxOf (s.getD j 0) = j := fun j hj => by
    have := List.all_eq_true.1 hok.1 j (List.mem_range.2 hj)
    simpa using this
  have h2 : ∀ o ∈ l, o.guard = none ∧ ∀ e ∈ o.after, e.on < l.length := fun o ho => by
    have := List.all_eq_true.1 hok.2 o ho
    rw [Bool.and_eq_true] at this
    refine ⟨by simpa using this.1, fun e he => ?_⟩
    have := Array.all_eq_true'.1 this.2 e he
    simpa using this
  have hmem : ∀ i ∈ s, i < l.length := fun i hi => by
    obtain ⟨j, hj, e⟩ := List.getElem_of_mem hi
    have := (h1 j hj).1
    rwa [show s.getD j 0 = s[j] by simp [List.getD, hj], e] at this
  have hat : ∀ i, i ∈ s → s.idxOf i < s.length ∧ s.getD (s.idxOf i) 0 = i := fun i hi => by
    obtain ⟨j, hj, e⟩ := List.getElem_of_mem hi
    have h3 := h1 j hj
    rw [show s.getD j 0 = s[j] by simp [List.getD, hj], e] at h3
    rw [h3.2]
    exact ⟨hj, by rw [show s.getD j 0 = s[j] by simp [List.getD, hj], e]⟩
  have hget : ∀ j, j < s.length → ∀ o, l[s.getD j 0]? = some o → (permL l s s).toArray[j]? = some (relab s o) := fun j hj o ho => by
    rw [List.getElem?_toArray, permL_get hmem, List.getElem?_eq_getElem hj]
    rw [show s.getD j 0 = s[j] by simp [List.getD, hj]] at ho
    simp [ho]
  -- what is ready here is ready there
  have there : ∀ (listed listed' : Array Bool), listed.size = l.length → listed'.size = s.length → (∀ j, j < s.length → listed'.getD j false = listed.getD (s.getD j 0) false) → (∀ i, i < l.length → i ∉ s → listed.getD i false = true) →
      (∀ i, i ∈ Region.ready .any l.toArray listed → i ∈ s ∧ s.idxOf i ∈ Region.ready .any (permL l s s).toArray listed') ∧ (∀ j, j ∈ Region.ready .any (permL l s s).toArray listed' → s.getD j 0 ∈ Region.ready .any l.toArray listed) := by
    intro listed listed' hls hls' hA hB
    have both : ∀ (x : Array Bool) (N i : Nat), x.size = N → i < N → x.getD i true = x.getD i false := fun x N i hx hi => by
      have : i < x.size := by omega
      simp [Array.getD_eq_getD_getElem?, this]
    constructor
    · intro i hi
      obtain ⟨q1, o, q2, q3⟩ := mem_ready.1 hi
      have hil : i < l.length := by have := (Array.getElem?_eq_some_iff.1 q2).1; simpa using this
      rw [List.getElem?_toArray] at q2
      have his : i ∈ s := Classical.byContradiction fun hx => by
        have := hB i hil hx
        rw [both listed _ i hls hil, this] at q1; cases q1
      obtain ⟨a1, a2⟩ := hat i his
      refine ⟨his, mem_ready.2 ⟨?_, relab s o, hget _ a1 o (by rw [a2]; exact q2), fun e he hb => ?_⟩⟩
      · rw [both listed' _ _ hls' a1, hA _ a1, a2, ← both listed _ i hls hil]; exact q1
      · simp only [relab, Array.mem_map, Array.mem_filter] at he
        obtain ⟨e0, ⟨m1, m2⟩, rfl⟩ := he
        have m3 : e0.on ∈ s := by simpa using m2
        obtain ⟨b1, b2⟩ := hat _ m3
        show listed'.getD (s.idxOf e0.on) false = true
        rw [hA _ b1, b2]
        exact q3 e0 m1 hb
    · intro j hj
      obtain ⟨q1, o', q2, q3⟩ := mem_ready.1 hj
      have hjl : j < s.length := by
        refine Classical.byContradiction fun hx => ?_
        have : listed'.getD j true = true := by
          have : ¬ j < listed'.size := by omega
          simp [Array.getD_eq_getD_getElem?, this]
        rw [this] at q1; cases q1
      obtain ⟨c1, c2⟩ := h1 j hjl
      have ho : l[s.getD j 0]? = some l[s.getD j 0] := List.getElem?_eq_getElem c1
      rw [hget j hjl _ ho] at q2
      cases q2
      refine mem_ready.2 ⟨?_, _, by rw [List.getElem?_toArray]; exact ho, fun e he hb => ?_⟩
      · rw [both listed _ _ hls c1, ← hA j hjl, ← both listed' _ _ hls' hjl]; exact q1
      · by_cases hx : e.on ∈ s
        · obtain ⟨b1, b2⟩ := hat _ hx
          have := q3 ⟨s.idxOf e.on, e.ground⟩ (by simp only [relab, Array.mem_map, Array.mem_filter]; exact ⟨e, ⟨he, by simpa using hx⟩, rfl⟩) hb
          rw [← b2, ← hA _ b1]; exact this
        · exact hB _ ((h2 _ (List.getElem_mem c1)).2 e he) hx
  intro fuel
  induction fuel with
  | zero =>
    intro listed listed' a w hls hls' hA hB h
    refine ⟨?_, h.2⟩
    refine List.eq_nil_iff_forall_not_mem.2 fun i hi => ?_
    have := ((there listed listed' hls hls' hA hB).1 i hi).2
    rw [h.1] at this; cases this
  | succ fuel ih =>
    intro listed listed' a w hls hls' hA hB h
    obtain ⟨t1, t2⟩ := there listed listed' hls hls' hA hB
    refine ⟨fun hn => h.1 (List.eq_nil_iff_forall_not_mem.2 fun j hj => ?_), fun i hi => ?_⟩
    · have := t2 j hj
      rw [hn] at this; cases this
    · obtain ⟨his, hr⟩ := t1 i hi
      obtain ⟨a1, a2⟩ := hat i his
      have hil := hmem i his
      have ho : l[i]? = some l[i] := List.getElem?_eq_getElem hil
      refine wpOp_relab (s := s) (by rw [List.getElem?_toArray]; exact ho) (hget _ a1 _ (by rw [a2]; exact ho)) (h2 _ (List.getElem_mem hil)).1 (wpOp_mono (fun a1' w1' hk => ih _ _ _ _ (by rw [Array.size_setIfInBounds]; exact hls) (by rw [Array.size_setIfInBounds]; exact hls') (fun j hj => ?_) (fun i2 hi2 hx => ?_) hk) (h.2 _ hr))
      · by_cases e : j = s.idxOf i
        · subst e
          rw [a2]
          have z1 : s.idxOf i < listed'.size := by omega
          have z2 : i < listed.size := by omega
          simp [Array.getD_eq_getD_getElem?, z1, z2]
        · have e2 : i ≠ s.getD j 0 := fun e3 => by
            have := (h1 j hj).2
            rw [← e3] at this
            exact e this.symm
          rw [getD_set_ne false (fun e3 => e e3.symm), getD_set_ne false e2]
          exact hA j hj
      · have e2 : i ≠ i2 := fun e3 => hx (e3 ▸ his)
        rw [getD_set_ne false e2]
        exact hB i2 hi2 hx
/-- A move that may come late comes first; what is left, in another order. -/
theorem awp_hoist {P : Program} {n id : Nat} {l : List Oper} {Q : Exit → Env → AHeap → Prop} {env : Env} {h : AHeap} {x : Operand} {v : Value} {df : Tmp} {ty : TypeId} {ps : String} {af : Array Edge} (f : Nat) (s : List Nat) (hmix : P.follows .mixedOrders = true)
    (hf : l[f]? = some ⟨some df, .move x, ty, ps, af, none⟩) (hsel : Region.noSelect l.toArray = true) (hfr : Region.free .any l.toArray (Array.replicate l.toArray.size false) f = true) (hrd : (Region.ready .any l.toArray (Array.replicate l.toArray.size false)).contains f = true)
    (hok : permOk l s = true) (hsf : (s.length + 1 == l.length && !s.contains f && (List.range l.length).all fun i => i == f || s.contains i) = true) (hin : decide (df < n) = true) (hx : (match x with | .tmp _ => true | _ => false) = true)
    (hv : aeval env x = v) (hr : AWpA P n (permL l s s) Q (env.put (some df) v) h) : AWp P n (.region id l.toArray true) Q env h := by
  intro m w a hrel he
  subst hv
  simp only [Bool.and_eq_true, beq_iff_eq] at hsf
  obtain ⟨⟨hs1, hs2⟩, hs3⟩ := hsf
  obtain ⟨t, rfl⟩ : ∃ t, x = .tmp t := by cases x <;> first | exact ⟨_, rfl⟩ | cases hx
  have hsz : l.toArray.size = s.length + 1 := by simp [hs1]
  have hpl : (permL l s s).length = s.length := by
    have hmem : ∀ i ∈ s, i < l.length := by
      rw [permOk, Bool.and_eq_true] at hok
      intro i hi
      obtain ⟨j, hj, e⟩ := List.getElem_of_mem hi
      have := List.all_eq_true.1 hok.1 j (List.mem_range.2 hj)
      simp only [Bool.and_eq_true, decide_eq_true_eq] at this
      have := this.1
      rwa [show s.getD j 0 = s[j] by simp [List.getD, hj], e] at this
    refine Nat.le_antisymm (List.length_filterMap_le _ _) (Nat.le_of_not_lt fun hlt => ?_)
    have h5 := permL_get (l := l) (s := s) hmem (permL l s s).length
    have h6 : (permL l s s).length < s.length := hlt
    rw [List.getElem?_eq_none (Nat.le_refl _), List.getElem?_eq_getElem h6] at h5
    have h7 := hmem _ (List.getElem_mem h6)
    simp [List.getElem?_eq_getElem h7] at h5
  have hfl : f < l.length := by
    have := (List.getElem?_eq_some_iff.1 hf).1; exact this
  have henv : EnvRel m h n (env.put (some df) (aeval env (.tmp t))) (a.put (some df) (a.eval (.tmp t))) := he.put (fun d hd => by cases hd; exact of_decide_eq_true hin) (he.vals t)
  have H := hr m w _ hrel henv
  refine wp_mono (wp_region_any hmix ?_) fun e a' w' (q : e = .normal ∧ ∃ m' env' h', Rel m' h' w' ∧ Step m h w m' h' w' ∧ EnvRel m' h' n env' a' ∧ Q e env' h') => q.2
  rw [hsz]
  have hf' : l.toArray[f]? = some ⟨some df, .move (.tmp t), ty, ps, af, none⟩ := by rw [List.getElem?_toArray]; exact hf
  rw [hsz] at hfr hrd
  refine wpAny_take (v := a.eval (.tmp t)) hf' hsel hfr hrd (fun c a w hq => absurd hq.1 (by simp)) (.inl ⟨rfl, fun w => rfl⟩) ?_
  have hsz2 : (permL l s s).toArray.size = s.length := by simp [hpl]
  rw [hsz2] at H
  refine wpAny_perm hok _ _ _ _ _ (by rw [Array.size_setIfInBounds, Array.size_replicate]; omega) (by rw [Array.size_replicate]) (fun j hj => ?_) (fun i hi hx => ?_) H
  · have hne : f ≠ s.getD j 0 := fun e => by
      have : f ∈ s := by rw [e, show s.getD j 0 = s[j] by simp [List.getD, hj]]; exact List.getElem_mem hj
      simp [this] at hs2
    rw [getD_set_ne false hne, getD_replicate_false, getD_replicate_false]
  · have := List.all_eq_true.1 hs3 i (List.mem_range.2 hi)
    rw [Bool.or_eq_true] at this
    rcases this with h9 | h9
    · have e : i = f := by simpa using h9
      subst e
      have : i < (Array.replicate (s.length + 1) false).size := by rw [Array.size_replicate]; omega
      simp [Array.getD_eq_getD_getElem?, this]
      omega
    · exact absurd (by simpa using h9) hx
end Go.Am

namespace Go.Am
set_option linter.unusedSimpArgs false
set_option linter.unusedVariables false
section
variable {P : Program} {K : Value → AHeap → Prop} {env : Env} {h : AHeap} {dst : Option Tmp} {ty : TypeId} {pos : String} {after : Array Edge} {guard : Option (Nat × Bool)}
/-- s[l:r:m], not used. -/
theorem o_slice3 {t e : TypeId} {x y1 y2 y3 : Operand} {k n L l r b : Nat} {zs : List Int} {z0 : Value} {k1 k2 k3 : IntKind} {z1 z2 z3 : Int} (hu : P.underlying t = some (.slice e)) (hi : InfoIs P e z0 1 b)
    (hx : aeval env x = .slice (some ⟨k, 0, some L⟩) n L) (ho : h[k]? = some (lst zs)) (hn : zs.length = L) (hy1 : aeval env y1 = .int k1 z1) (hy2 : aeval env y2 = .int k2 z2) (hy3 : aeval env y3 = .int k3 z3) (e3 : z3 = (n : Int)) (e1 : z1 = (l : Int)) (e2 : z2 = (r : Int))
    (hlr : l ≤ r) (hr : r ≤ n) (hnL : n ≤ L) (h0 : 0 < L)
    (hK : K (.slice (some ⟨k, 0, some 0⟩) 0 0) h) : AOp P ⟨dst, .slice t x (some y1) (some y2) (some y3), ty, pos, after, guard⟩ K env h :=
  .of_run fun m w a hr9 hop => by
    subst e1 e2 e3
    obtain ⟨i, g1, _, g3, _⟩ := hi.get
    have hp := hop x (by simp [Op.operands])
    rw [hx] at hp
    have hver : (lst zs).cells.length = L := by simp [lst, hn]
    obtain ⟨lc, hl, bb, cap', he, c1, c2, c3, c4, c5⟩ := hp.slice_inv ho hver
    have p1 := hop y1 (by simp [Op.operands])
    rw [hy1] at p1
    have p2 := hop y2 (by simp [Op.operands])
    rw [hy2] at p2
    have p3 := hop y3 (by simp [Op.operands])
    rw [hy3] at p3
    have hb : (Instr.sliceBounds true n cap' (some (.int k1 (l : Int))) (some (.int k2 (r : Int))) (some (.int k3 (n : Int)))).run P w = .ok (l, r, n) w := by
      have s3 : ∀ code, (Instr.sliceBound (.int k3 (n : Int)) cap' code).run P w = .ok n w := fun code => by
        simp [Instr.sliceBound, asIntOf, show n ≤ cap' by omega]
      have s2 : ∀ code, (Instr.sliceBound (.int k2 (r : Int)) n code).run P w = .ok r w := fun code => by
        simp [Instr.sliceBound, asIntOf, hr]
      have s1 : ∀ code, (Instr.sliceBound (.int k1 (l : Int)) r code).run P w = .ok l w := fun code => by
        simp [Instr.sliceBound, asIntOf, hlr]
      simp [Instr.sliceBounds, s1, s2, s3]
    refine ⟨_, .slice (if n = l then bb else bb.map (·.add (l * i.size))) (r - l) (n - l), m, h, w, ?_, hr9, Step.refl, ?_, hK⟩
    · simp only [execOp, he, Instr.sliceAt, Sem.run_bind, run_underlying hu, Result.andThen_ok, Instr.slice, Option.map_some, p1.int, p2.int, p3.int, hb, sizeOf, typeInfo]
      simp [g1]
    · exact .slice ho (by omega) ⟨_, _, _, rfl⟩ fun e => absurd e (by omega)
theorem o_sliceAt {t e : TypeId} {x y1 y2 : Operand} {k n L l r b : Nat} {zs : List Int} {z0 : Value} {k1 k2 : IntKind} {z1 z2 : Int} (hu : P.underlying t = some (.slice e)) (hi : InfoIs P e z0 1 b)
    (hx : aeval env x = .slice (some ⟨k, 0, some L⟩) n L) (ho : h[k]? = some (lst zs)) (hn : zs.length = L) (hy1 : aeval env y1 = .int k1 z1) (hy2 : aeval env y2 = .int k2 z2) (e1 : z1 = (l : Int)) (e2 : z2 = (r : Int)) (hlr : l ≤ r) (hr : r ≤ L)
    (hK : K (.slice (some ⟨k, l, some L⟩) (r - l) (L - l)) h) : AOp P ⟨dst, .slice t x (some y1) (some y2) none, ty, pos, after, guard⟩ K env h := by
  obtain ⟨i, h1, _, h3, _⟩ := hi.get
  subst e1 e2
  refine aop_slice (l := l) (r := r) hu h1 (by rw [h3]; rfl) hx ho (by simp [lst, hn]) (.inr ⟨y1, k1, rfl, hy1⟩) (.inr ⟨y2, k2, rfl, hy2⟩) hlr hr ?_
  show K (.slice (some ⟨k, 0 + l * 1, some L⟩) (r - l) (L - l)) h
  simpa using hK
theorem o_sliceFrom {t e : TypeId} {x y1 : Operand} {k n L l b : Nat} {zs : List Int} {z0 : Value} {k1 : IntKind} {z1 : Int} (hu : P.underlying t = some (.slice e)) (hi : InfoIs P e z0 1 b)
    (hx : aeval env x = .slice (some ⟨k, 0, some L⟩) n L) (ho : h[k]? = some (lst zs)) (hn : zs.length = L) (hy1 : aeval env y1 = .int k1 z1) (e1 : z1 = (l : Int)) (hlr : l ≤ n) (hr : n ≤ L)
    (hK : K (.slice (some ⟨k, l, some L⟩) (n - l) (L - l)) h) : AOp P ⟨dst, .slice t x (some y1) none none, ty, pos, after, guard⟩ K env h := by
  obtain ⟨i, h1, _, h3, _⟩ := hi.get
  subst e1
  refine aop_slice (l := l) (r := n) hu h1 (by rw [h3]; rfl) hx ho (by simp [lst, hn]) (.inr ⟨y1, k1, rfl, hy1⟩) (.inl ⟨rfl, rfl⟩) hlr hr ?_
  show K (.slice (some ⟨k, 0 + l * 1, some L⟩) (n - l) (L - l)) h
  simpa using hK
/-- What stands when those behind have moved up. -/
def delB (zs : List Int) (i m : Nat) : List Int := zs.eraseIdx i ++ ([zs.getD (zs.length - 1) 0] ++ List.replicate m 0)
theorem delB_len {zs : List Int} {i m : Nat} (hi : i < zs.length) : (delB zs i m).length = zs.length + m := by
  rw [delB, List.length_append, List.length_append, List.length_eraseIdx, if_pos hi, List.length_replicate, List.length_singleton]; omega
theorem drop_lastE {zs : List Int} (h : 0 < zs.length) : zs.drop (zs.length - 1) = [zs.getD (zs.length - 1) 0] := by
  apply List.ext_getElem?
  intro j
  rw [List.getElem?_drop]
  cases j with
  | zero => simp [List.getD, List.getElem?_eq_getElem (show zs.length - 1 < zs.length by omega)]
  | succ j => rw [List.getElem?_eq_none (by omega), List.getElem?_eq_none (by simp)]
theorem delB_app {zs : List Int} {i m n : Nat} (hn : zs.length = n) (hi : i < n) : (zs ++ List.replicate m 0).take i ++ zs.drop (i + 1) ++ (zs ++ List.replicate m 0).drop (i + (n - (i + 1))) = delB zs i m := by
  rw [delB, List.eraseIdx_eq_take_drop_succ, List.take_append_of_le_length (by omega), List.drop_append_of_le_length (by omega), show i + (n - (i + 1)) = zs.length - 1 by omega, drop_lastE (by omega)]
theorem delB_last {zs : List Int} {i m n : Nat} (hn : zs.length = n) (hi : i + 1 = n) : zs ++ List.replicate m 0 = delB zs i m := by
  rw [← delB_app hn (by omega), List.drop_eq_nil_of_le (by omega), List.append_nil, show i + (n - (i + 1)) = i by omega, List.take_append_drop]
theorem delB_fin {zs : List Int} {i m n : Nat} (hn : zs.length = n) (hi : i < n) : (delB zs i m).take (n - 1) ++ List.replicate 1 0 ++ (delB zs i m).drop (n - 1 + 1) = zs.eraseIdx i ++ List.replicate (m + 1) 0 := by
  have he : (zs.eraseIdx i).length = n - 1 := by rw [List.length_eraseIdx, if_pos (by omega)]; omega
  rw [delB, List.take_append_of_le_length (by omega), List.take_of_length_le (by omega), List.drop_append, he, List.drop_eq_nil_of_le (by omega), List.nil_append, show n - 1 + 1 - (n - 1) = 1 by omega, List.append_assoc]
  rfl
theorem o_del {t e : TypeId} {s x : Operand} {k n m L i : Nat} {zs : List Int} {h' : AHeap} (hu : P.underlying t = some (.slice e)) (hi : InfoIs P e (i64 0) 1 8)
    (hx : aeval env s = .slice (some ⟨k, 0, some L⟩) i L) (ho : h[k]? = some (lst (zs ++ List.replicate m 0))) (hn : zs.length = n) (hL : n + m = L) (hin : i < n) (hy : aeval env x = .slice (some ⟨k, i + 1, some L⟩) (n - (i + 1)) (L - (i + 1)))
    (hs : h.set k (lst (delB zs i m)) = h') (hK : K (.slice (some ⟨k, 0, some L⟩) (n - 1) L) h') :
    AOp P ⟨dst, .call { callee := .builtin .append, args := #[s, x], argTypes := #[t, t] }, ty, pos, after, guard⟩ K env h := by
  have hlen : (zs ++ List.replicate m 0).length = L := by rw [List.length_append, List.length_replicate]; omega
  by_cases c : i + 1 = n
  · obtain ⟨inf, g1, g2, g3, g4⟩ := hi.get
    have hver : (lst (zs ++ List.replicate m 0)).cells.length = L := by simp only [lst, List.length_map]; exact hlen
    rw [← delB_last hn c, set_same ho] at hs
    subst hs
    refine aop_appendNone (q := some ⟨k, i + 1, some L⟩) (c2 := L - (i + 1)) hu g1 (.inr ⟨k, 0, L, i, L, _, hx, ho, hver⟩) (by rw [hy, c, Nat.sub_self]) (.inr ⟨k, i + 1, L, _, rfl, ho, hver⟩) ?_
    rw [hx, show i = n - 1 by omega]
    exact hK
  · have hI : Ints h (.slice (some ⟨k, i + 1, some L⟩) (n - (i + 1)) (L - (i + 1))) (zs.drop (i + 1)) := by
      refine .inr ⟨k, i + 1, L, L - (i + 1), lst (zs ++ List.replicate m 0), by rw [List.length_drop, hn], ho, by simp only [lst, List.length_map]; exact hlen, rfl, by rw [List.length_drop]; omega, by omega, fun j z hz => ?_⟩
      rw [List.getElem?_drop] at hz
      have hj : i + 1 + j < zs.length := (List.getElem?_eq_some_iff.1 hz).1
      show (List.map i64 (zs ++ List.replicate m 0))[i + 1 + j]? = some (i64 z)
      rw [List.getElem?_map, List.getElem?_append_left hj, hz]; rfl
    have hdl : (zs.drop (i + 1)).length = n - (i + 1) := by rw [List.length_drop, hn]
    subst hs
    refine o_appendIn (h' := h.set k (lst (delB zs i m))) hu hi hx ho hlen hy hI (by omega) (by omega) (by rw [hdl, delB_app hn hin]) ?_
    rw [hdl, show i + (n - (i + 1)) = n - 1 by omega]
    exact hK
end

/-! ## A list of numbers and one of floats -/
def fgs (xs : List Int) (ys : List Nat) : List AObj := [lst xs, lstF ys]
theorem ret2f_of {P : Program} {f : FuncId} {args : List Value} {h : AHeap} {xs : List Int} {ys : List Nat}
    (t : Tri P f args h fun v h' => ∃ kA kB, v = .tuple #[sl kA xs.length, sl kB ys.length, .bool true] ∧ Grown h h' ∧ h'[kA]? = some (lst xs) ∧ h'[kB]? = some (lstF ys) ∧ h.length ≤ kA ∧ h.length ≤ kB ∧ kA ≠ kB) : RetG P f args h (VT2 xs.length ys.length) (fun _ => fgs xs ys) :=
  t.keeps fun hcl v1 h1 ⟨kA, kB, e1, ⟨g, e2⟩, oA, oB, lA, lB, hne⟩ => by
    subst e1
    let s : Nat → Nat := fun j => if j < h.length then j else if j = h.length then kA else kB
    have s1 : ∀ j, j < h.length → s j = j := fun j hj => by simp [s, hj]
    have s2 : s h.length = kA := by simp [s]
    have s3 : s (h.length + 1) = kB := by
      simp only [s]
      rw [if_neg (by omega), if_neg (by omega)]
    have hlen : (h ++ fgs xs ys).length = h.length + 2 := by simp [fgs]
    refine ⟨s, h ++ fgs xs ys, .tuple #[sl h.length xs.length, sl (h.length + 1) ys.length, .bool true], ⟨s1, by rw [hlen]; omega, fun i j hi hj he => ?_, fun k o2 hk => ?_⟩, .tup3 (.slice (by rw [hlen]; omega)) (.slice (by rw [hlen]; omega)) (.prim rfl), ?_, rfl, rfl⟩
    · rw [hlen] at hi hj
      have cls : ∀ i, i < h.length + 2 → (i < h.length ∧ s i = i) ∨ (i = h.length ∧ s i = kA) ∨ (i = h.length + 1 ∧ s i = kB) := fun i hi => by
        by_cases c1 : i < h.length
        · exact .inl ⟨c1, s1 i c1⟩
        · by_cases c2 : i = h.length
          · exact .inr (.inl ⟨c2, by rw [c2, s2]⟩)
          · have c3 : i = h.length + 1 := by omega
            exact .inr (.inr ⟨c3, by rw [c3, s3]⟩)
      rcases cls i hi with ⟨a1, a2⟩ | ⟨a1, a2⟩ | ⟨a1, a2⟩ <;> rcases cls j hj with ⟨b1, b2⟩ | ⟨b1, b2⟩ | ⟨b1, b2⟩ <;> rw [a2, b2] at he <;> omega
    · by_cases c1 : k < h.length
      · rw [List.getElem?_append_left c1] at hk
        refine ⟨o2, by rw [s1 k c1, e2, List.getElem?_append_left c1]; exact hk, rfl, rfl, rfl, fun i v hv => ?_⟩
        have := hcl k o2 hk v (List.mem_of_getElem? hv)
        exact ⟨this.mono (by rw [hlen]; omega), v, hv, .id this s1⟩
      · have hkl := (List.getElem?_eq_some_iff.1 hk).1
        rw [hlen] at hkl
        have prm : ∀ o : AObj, (∀ v ∈ o.cells, isPrim v = true) → ∀ (i : Nat) (v : Value), o.cells[i]? = some v → Within (h ++ fgs xs ys).length v ∧ ∃ v', o.cells[i]? = some v' ∧ VRen s v v' := fun o ho i v hv => by
          have := ho v (List.mem_of_getElem? hv)
          exact ⟨.prim this, v, hv, .prim this⟩
        by_cases c2 : k = h.length
        · subst c2
          rw [List.getElem?_append_right (Nat.le_refl _), Nat.sub_self] at hk
          simp only [fgs, List.getElem?_cons_zero, Option.some.injEq] at hk
          subst hk
          exact ⟨_, by rw [s2]; exact oA, rfl, rfl, rfl, prm _ lst_prim⟩
        · have c3 : k = h.length + 1 := by omega
          subst c3
          rw [List.getElem?_append_right (by omega), show h.length + 1 - h.length = 1 by omega] at hk
          simp only [fgs, List.getElem?_cons_succ, List.getElem?_cons_zero, Option.some.injEq] at hk
          subst hk
          exact ⟨_, by rw [s3]; exact oB, rfl, rfl, rfl, prm _ lstF_prim⟩
    · have a := VRen.slice (s := s) (k := h.length) (off := 0) (ver := xs.length) (len := xs.length) (cap := xs.length)
      have b := VRen.slice (s := s) (k := h.length + 1) (off := 0) (ver := ys.length) (len := ys.length) (cap := ys.length)
      rw [s2] at a
      rw [s3] at b
      exact .tup3 a b (.prim rfl)
theorem retof2_of {P : Program} {f : FuncId} {args : List Value} {h : AHeap} {ok : Bool} {xs : List Int} {ys : List Nat}
    (t : Tri P f args h fun v h' => (ok = true ∧ ∃ kA kB, v = .tuple #[sl kA xs.length, sl kB ys.length, .bool true] ∧ Grown h h' ∧ h'[kA]? = some (lst xs) ∧ h'[kB]? = some (lstF ys) ∧ h.length ≤ kA ∧ h.length ≤ kB ∧ kA ≠ kB) ∨ (ok = false ∧ v = NL2 ∧ Grown h h')) :
    RetOG P f args h ok (VT2 xs.length ys.length) (fun _ => fgs xs ys) NL2 :=
  ⟨fun e => ret2f_of (t.mono fun v h' q => by
      rcases q with ⟨_, q⟩ | ⟨e2, _⟩
      · exact q
      · rw [e] at e2; cases e2),
   fun e => ret_of within_nl2 (t.mono fun v h' q => by
      rcases q with ⟨e2, _⟩ | ⟨_, q⟩
      · rw [e] at e2; cases e2
      · exact q)⟩
theorem RetG.toLF {P : Program} {K : Value → AHeap → Prop} {h : AHeap} {f : FuncId} {vs : List Value} {xs : List Int} {ys : List Nat} (r : RetG P f vs h (VT2 xs.length ys.length) (fun _ => fgs xs ys))
    (hK : ∀ k, k = h.length → ((h ++ [lst xs] ++ [lstF ys])[k]? = some (lst xs) ∧ (h ++ [lst xs] ++ [lstF ys])[k + 1]? = some (lstF ys)) → K (VT2 xs.length ys.length k) (h ++ [lst xs] ++ [lstF ys])) : Tri P f vs h K :=
  r.toG fun k hk => by
    have := hK k hk ⟨lk_prev (lk_last hk), lk_last (by simp [hk])⟩
    rwa [List.append_assoc] at this


/-! ## A list without one, element by element -/
def erT (xs : List Int) (b i : Nat) : List Int := (xs.take i).eraseIdx b
theorem erT_out {xs : List Int} {b i : Nat} (h : i = b) (hb : b < xs.length) : erT xs b (i + 1) = erT xs b i := by
  subst h
  have e1 : erT xs i i = xs.take i := by rw [erT, List.eraseIdx_of_length_le (by rw [List.length_take]; exact Nat.min_le_left _ _)]
  have e2 : erT xs i (i + 1) = xs.take i := by
    rw [erT, List.eraseIdx_eq_take_drop_succ, List.take_take, List.drop_eq_nil_of_le (by rw [List.length_take]; exact Nat.min_le_left _ _), List.append_nil, Nat.min_eq_left (by omega)]
  rw [e1, e2]
theorem take_snocE {xs : List Int} {i : Nat} (hi : i < xs.length) : xs.take (i + 1) = xs.take i ++ [xs.getD i 0] := by
  rw [List.take_add_one, List.getElem?_eq_getElem hi]
  simp [List.getD, List.getElem?_eq_getElem hi]
theorem erT_in {xs : List Int} {b i : Nat} (h : i ≠ b) (hi : i < xs.length) : erT xs b (i + 1) = erT xs b i ++ [xs.getD i 0] := by
  rw [erT, erT, take_snocE hi]
  by_cases c : b < i
  · rw [List.eraseIdx_append_of_lt_length (by rw [List.length_take]; omega)]
  · rw [List.eraseIdx_of_length_le (by rw [List.length_append, List.length_take, List.length_singleton]; omega), List.eraseIdx_of_length_le (by rw [List.length_take]; omega)]
theorem erT_all {xs : List Int} {b : Nat} : erT xs b xs.length = xs.eraseIdx b := by rw [erT, List.take_of_length_le (Nat.le_refl _)]
theorem erT_len {xs : List Int} {b i : Nat} : (erT xs b i).length ≤ i := by
  rw [erT, List.length_eraseIdx]
  have : (xs.take i).length ≤ i := by rw [List.length_take]; omega
  split <;> omega
/-- What lies elsewhere stays. -/
theorem far2 {A gs : AHeap} {a a' b b' o : AObj} {k : Nat} (h : (A ++ [a] ++ [b] ++ gs)[k]? = some o) (h1 : k ≠ A.length) (h2 : k ≠ A.length + 1) : (A ++ [a'] ++ [b'] ++ gs)[k]? = some o := by
  by_cases c : k < A.length
  · rw [List.append_assoc, List.append_assoc, List.getElem?_append_left c] at h ⊢
    exact h
  · rw [List.getElem?_append_right (by simp; omega)] at h ⊢
    simpa using h

/-! ## The knife, as the walks see it -/
def kOs (p q : Int) (xs : List Int) : List Int := (kS p q xs (p.toNat - 1)).os ++ [(kS p q xs (p.toNat - 1)).left.getD 0 0]
def kCs (p q : Int) (xs : List Int) : List Nat := (kS p q xs (p.toNat - 1)).cs ++ [fI q]
theorem kS_left {p q : Int} {xs : List Int} {t : Nat} : (kS p q xs (t + 1)).left = (kS p q xs t).left.eraseIdx (kB (kM p q xs (kS p q xs t).x) (kS p q xs t).left (kS p q xs t).left.length).1 := rfl
theorem kS_os {p q : Int} {xs : List Int} {t : Nat} : (kS p q xs (t + 1)).os = (kS p q xs t).os ++ [(kS p q xs t).left.getD (kB (kM p q xs (kS p q xs t).x) (kS p q xs t).left (kS p q xs t).left.length).1 0] := rfl
theorem kS_cs {p q : Int} {xs : List Int} {t : Nat} : (kS p q xs (t + 1)).cs = (kS p q xs t).cs ++ [(kB (kM p q xs (kS p q xs t).x) (kS p q xs t).left (kS p q xs t).left.length).2] := rfl
theorem kOs_len {p q : Int} {xs : List Int} {t : Nat} (h : (kS p q xs t).os.length = t) (ht : t = p.toNat - 1) : (kOs p q xs).length = t + 1 := by
  subst ht
  rw [kOs, List.length_append, h]; rfl
theorem kCs_len {p q : Int} {xs : List Int} {t : Nat} (h : (kS p q xs t).cs.length = t) (ht : t = p.toNat - 1) : (kCs p q xs).length = t + 1 := by
  subst ht
  rw [kCs, List.length_append, h]; rfl
theorem kS_zero {p q : Int} {xs : List Int} : kS p q xs 0 = ⟨cntL p.toNat, 0, [], []⟩ := rfl
theorem kB_y1 {f : Int → Nat} {zs : List Int} {k : Nat} (h : k = 0) : kB f zs (k + 1) = (k, f (zs.getD k 0)) := by rw [kB, h]; rfl
theorem kB_y2 {f : Int → Nat} {zs : List Int} {k : Nat} (h : ltB (f (zs.getD k 0)) (kB f zs k).2 = true) : kB f zs (k + 1) = (k, f (zs.getD k 0)) := by rw [kB, h, Bool.or_true]; rfl
theorem kB_n {f : Int → Nat} {zs : List Int} {k : Nat} (h : k ≠ 0) (h2 : ltB (f (zs.getD k 0)) (kB f zs k).2 = false) : kB f zs (k + 1) = kB f zs k := by rw [kB, h2, decide_eq_false h]; rfl
theorem kJ_pos {f : Int → Nat} {zs : List Int} {k : Nat} (h : k ≠ 0) : kJ f zs k = ((kB f zs k).1 : Int) := by rw [kJ, if_neg h]
theorem kJ_neg {f : Int → Nat} {zs : List Int} {k : Nat} (h : kJ f zs k < 0) : k = 0 := by
  by_cases c : k = 0
  · exact c
  · rw [kJ_pos c] at h; omega
theorem kJ_nn {f : Int → Nat} {zs : List Int} {k : Nat} (h : ¬ kJ f zs k < 0) : k ≠ 0 := by
  rintro rfl
  exact h (by rw [kJ, if_pos rfl]; decide)
theorem k_lb {p q : Int} {xs : List Int} (h : validC p q xs = true) : (kOs p q xs).length ≤ 6 ∧ (kCs p q xs).length ≤ 6 := by
  obtain ⟨hp, _⟩ := validC_get h
  have hi := kS_inv h (p.toNat - 1) (by omega)
  rw [kOs_len hi.ol rfl, kCs_len hi.cl rfl]
  omega
end Go.Am

namespace Go.Am
set_option linter.unusedSimpArgs false
set_option linter.unusedVariables false
end Go.Am
