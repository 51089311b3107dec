/-
  The abstract heap: a region that draws its order and ends with 'append, the place, the store': the append comes after all ahead of it; the place may come at any time. General: no program is named.
-/
import Derived.Test.YtnfefjofojmokaaAmSink
namespace Go.Am
set_option linter.unusedSimpArgs false
set_option linter.unusedVariables false
open Go.RowKit
def sinkAt (ops : Array Oper) (N : Nat) : Bool := (List.range N).all fun i => (List.range (N + 1)).any fun j => decide (i < j) && match ops[j]? with
  | some o => o.after.toList.any fun e => Region.binds .any e && e.on == i
  | none => false

theorem sinkAt_all {ops : Array Oper} {listed : Array Bool} {N : Nat} (hs : sinkAt ops N = true) (hcl : ∀ (i : Nat) (o : Oper), ops[i]? = some o → listed.getD i false = true → ∀ e ∈ o.after, Region.binds .any e = true → listed.getD e.on false = true)
    {o : Oper} (ho : ops[N]? = some o) (hr : ∀ e ∈ o.after, Region.binds .any e = true → listed.getD e.on false = true) : ∀ (d i : Nat), N - i ≤ d → i < N → listed.getD i false = true := by
  intro d
  have hN : N < ops.size := (Array.getElem?_eq_some_iff.1 ho).1
  induction d with
  | zero => intro i h1 h2; omega
  | succ d ih =>
    intro i h1 h2
    have := List.all_eq_true.1 hs i (List.mem_range.2 h2)
    obtain ⟨j, hj, h3⟩ := List.any_eq_true.1 this
    have hj' := List.mem_range.1 hj
    have hj2 : j < ops.size := by omega
    simp only [Bool.and_eq_true, decide_eq_true_eq] at h3
    obtain ⟨h4, h5⟩ := h3
    rw [Array.getElem?_eq_getElem hj2] at h5
    obtain ⟨e, he, h6⟩ := List.any_eq_true.1 h5
    simp only [Bool.and_eq_true, beq_iff_eq] at h6
    have he' : e ∈ ops[j].after := by simpa using he
    rw [← h6.2]
    by_cases hl : j = N
    · subst hl
      rw [Array.getElem?_eq_getElem hj2] at ho
      cases ho
      exact hr e he' h6.1
    · exact hcl j _ (Array.getElem?_eq_getElem hj2) (ih j (by omega) (by omega)) e he' h6.1

theorem left_lt {N : Nat} {listed : Array Bool} (hsz : listed.size = N) {i : Nat} (hlt : i < N) (hun : listed.getD i false = false) : left N (listed.setIfInBounds i true) < left N listed := by
  have hset : (listed.setIfInBounds i true).getD i false = true := by
    have hlt2 : i < listed.size := by omega
    simp [Array.getD_eq_getD_getElem?, hlt2]
  refine countP_lt _ (fun x hx => ?_) ⟨i, List.mem_range.2 hlt, by simp [hun], by simp [hset]⟩
  by_cases hix : i = x
  · subst hix
    rw [hun]; rfl
  · rwa [getD_set_ne false hix] at hx

theorem left_pos {N : Nat} {listed : Array Bool} {i : Nat} (hlt : i < N) (hun : listed.getD i false = false) : 0 < left N listed :=
  List.countP_pos_iff.2 ⟨i, List.mem_range.2 hlt, by simp [hun]⟩

theorem wantedA_noguard {ops : Array Oper} {env : Env} {o : Oper} (h : o.guard = none) : wantedA ops env o = some true := by
  unfold wantedA; rw [h]

/-- One operation, in any state. -/
theorem wpOp_of {P : Program} {n : Nat} {ops : Array Oper} {Q : Exit → Act → World → Prop} {j : Nat} {o : Oper} {next : Act → World → Prop} {m : Map} {h0 : AHeap} {w : World} {m' : Map} {h' : AHeap} {w' : World} {a' : Act} {env' : Env} {K : Value → AHeap → Prop}
    (ho : ops[j]? = some o) (hin : dstsIn n ops.toList = true) (hg : o.guard = none) (irel : Rel m' h' w') (hst : Step m h0 w m' h' w') (ienv : EnvRel m' h' n env' a') (hop : AOp P o K env' h')
    (hnext : ∀ v h1 m1 a1 w1, Rel m1 h1 w1 → Step m h0 w m1 h1 w1 → EnvRel m1 h1 n (env'.put o.dst v) a1 → K v h1 → next a1 w1) : wpOp P ops Q j next a' w' := by
  have hmem : o ∈ ops.toList := by
    obtain ⟨h1, rfl⟩ := Array.getElem?_eq_some_iff.1 ho
    simp
  have hok := List.all_eq_true.1 hin o hmem
  simp only [Bool.and_eq_true] at hok
  have hdsto : ∀ d, o.dst = some d → d < n := fun d hx => by simpa [hx] using hok.1
  unfold wpOp
  simp only [ho]
  have hw' := wantedA_spec2 (fun t _ => ienv.vals t) (wantedA_noguard (ops := ops) (env := env') hg)
  simp only [hw', if_true]
  refine .inl (Oper.wp_mono2 ?_ (hop m' w' a' irel fun x hx => ?_))
  · rintro a1 w1 ⟨v, r, m1, h1, rfl, r1, s1, v1, hq⟩
    exact hnext v h1 m1 _ w1 r1 (hst.trans s1) ((ienv.mono s1.toExt).put hdsto v1) hq
  · have hx' := List.all_eq_true.1 hok.2 x hx
    cases x with
    | tmp t => exact ienv.vals t
    | const v => exact .const _ _ hx'
    | global g => cases hx'
    | func f => exact .func rfl rfl (fun i h1 _ => by simp at h1) (fun i h1 _ => by simp at h1)

theorem AOp.congr {P : Program} {o : Oper} {K : Value → AHeap → Prop} {env env' : Env} {h : AHeap} (he : ∀ x ∈ o.op.operands.toList, aeval env x = aeval env' x) (a : AOp P o K env h) : AOp P o K env' h :=
  fun m w x hr hop => a m w x hr fun y hy => by rw [he y hy]; exact hop y hy

theorem awp_drawA {P : Program} {n id : Nat} {l l0 : List Oper} {A M S : Oper} {Q : Exit → Env → AHeap → Prop} {env : Env} {h : AHeap} (hmix : P.follows .mixedOrders = true)
    (hd : depOk l.toArray = true) (hs : sinkAt l.toArray (l0.length + 2) = true) (hsA : sinkAt l.toArray l0.length = true) (hin : dstsIn n l = true) (hl : l = l0 ++ [A, M, S])
    (hgA : A.guard = none) (hgM : M.guard = none) (hgS : S.guard = none) (hAM : (A.op.operands.toList.all fun x => match x with | .tmp t => decide (M.dst ≠ some t) | _ => true) = true) (hne : A.dst ≠ M.dst)
    (hr : DRun P l.toArray (fun env1 h1 => ∃ vM, Within h1.length vM ∧ AOp P M (fun v h' => v = vM ∧ h' = h1) (env1.put A.dst undef) h1 ∧
      AOp P A (fun v h2 => AOp P M (fun v' h' => v' = vM ∧ h' = h2) (env1.put A.dst v) h2 ∧
        AOp P S (fun u h3 => Q .normal (((env1.put A.dst v).put M.dst vM).put S.dst u) h3) ((env1.put A.dst v).put M.dst vM) h2) env1 h1) l0 env h) : AWp P n (.region id l.toArray true) Q env h := by
  intro m w a hrel he
  obtain ⟨V0, H0, rfl, ⟨vM, hwM, hM1, hA⟩, hst0⟩ := drun_run l0 env h hr
  generalize henv1 : dval (fun j => (l0[j]?).bind (·.dst)) V0 env (fun _ => true) l0.length = env1 at hM1 hA
  let V : Nat → Value := fun j => if j < l0.length then V0 j else if j = l0.length + 1 then vM else undef
  let H : Nat → AHeap := fun j => if j ≤ l0.length then H0 j else H0 l0.length
  have hlen : l.length = l0.length + 3 := by rw [hl]; simp
  have hsz : l.toArray.size = l0.length + 3 := by simp [hlen]
  have hH00 : H 0 = H0 0 := by simp [H]
  have hHj : ∀ j, l0.length ≤ j → H j = H0 l0.length := fun j hj => by
    by_cases e : j = l0.length
    · simp [H, e]
    · have : ¬ j ≤ l0.length := by omega
      simp [H, this]
  have oA : (l.toArray)[l0.length]? = some A := by rw [List.getElem?_toArray, hl]; simp
  have oM : (l.toArray)[l0.length + 1]? = some M := by rw [List.getElem?_toArray, hl, List.getElem?_append_right (by omega)]; simp
  have oS : (l.toArray)[l0.length + 2]? = some S := by rw [List.getElem?_toArray, hl, List.getElem?_append_right (by omega)]; simp
  have hdst : ∀ j, j < l0.length → ((l.toArray)[j]?).bind (·.dst) = (l0[j]?).bind (·.dst) := fun j hj => by
    simp only [List.getElem?_toArray]; rw [hl, List.getElem?_append_left hj]
  have hdv : ∀ i, i ≤ l0.length → dval (fun j => ((l.toArray)[j]?).bind (·.dst)) V env (fun _ => true) i = dval (fun j => (l0[j]?).bind (·.dst)) V0 env (fun _ => true) i := fun i hi =>
    dval_congr i fun j hj => ⟨hdst j (by omega), by simp [V]; omega⟩
  have hdv1 : dval (fun j => ((l.toArray)[j]?).bind (·.dst)) V env (fun _ => true) l0.length = env1 := (hdv _ (Nat.le_refl _)).trans henv1
  have hVM : V (l0.length + 1) = vM := by simp only [V]; rw [if_neg (by omega), if_pos trivial]
  have hVA : V l0.length = undef := by simp [V]
  have hrun : ∀ (i : Nat) (x : Oper), i < l0.length ∨ i = l0.length + 1 → (l.toArray)[i]? = some x → RunAt P l.toArray (fun j => ((l.toArray)[j]?).bind (·.dst)) V env H i x := fun i x hi hx => by
    rcases hi with hi | rfl
    · have hx0 : l0[i]? = some x := by
        rw [List.getElem?_toArray, hl, List.getElem?_append_left hi] at hx; exact hx
      have := hst0 i x hx0
      unfold RunAt at this ⊢
      rw [hdv i (by omega)]
      have e1 : H i = H0 i := by simp [H]; omega
      have e2 : H (i + 1) = H0 (i + 1) := by simp [H]; omega
      have e3 : V i = V0 i := by simp [V, hi]
      rw [e1, e2, e3]; exact this
    · rw [oM] at hx; cases hx
      unfold RunAt
      rw [hHj _ (by omega), hHj _ (by omega), hVM, dval, if_pos rfl, hdv1]
      simp only [oA, Option.bind_some, hVA]
      exact ⟨[], by simp, by simp, hwM, .inl ⟨wantedA_noguard hgM, hM1⟩⟩
  have hst' : ∀ (i : Nat) (x : Oper), (l.toArray)[i]? = some x → ∃ g, H (i + 1) = H i ++ g ∧ (∀ y ∈ g, ∀ u ∈ y.cells, Within (H (i + 1)).length u) ∧ Within (H (i + 1)).length (V i) := fun i x hx => by
    by_cases hi : i < l0.length ∨ i = l0.length + 1
    · obtain ⟨g, q1, q2, q3, _⟩ := hrun i x hi hx
      exact ⟨g, q1, q2, q3⟩
    · have e3 : V i = undef := by
        have h1 : ¬ i < l0.length := fun e => hi (.inl e)
        have h2 : ¬ i = l0.length + 1 := fun e => hi (.inr e)
        simp only [V, h1, h2, if_false]
      exact ⟨[], by rw [hHj _ (by omega), hHj _ (by omega), List.append_nil], by simp, by rw [e3]; exact .tuple fun i h1 => by simp at h1⟩
  have hHN : H l.toArray.size = H0 l0.length := hHj _ (by omega)
  rw [← hH00] at hrel he ⊢
  have hsteps : ∀ j, j < l.toArray.size → ∃ g, H (j + 1) = H j ++ g := fun j hj => by
    obtain ⟨g, hg, _⟩ := hst' j _ (Array.getElem?_eq_getElem hj)
    exact ⟨g, hg⟩
  obtain ⟨g0, hg0⟩ := run_prefix hsteps 0 l.toArray.size (by omega) (Nat.le_refl _)
  have hH : ∀ {k : Nat}, k < (H 0).length → (H l.toArray.size)[k]? = (H 0)[k]? := fun {k} hk => by rw [hg0, List.getElem?_append_left hk]
  let m1 : Map := fun k => if k < (H 0).length then m k else none
  have hm1 : ∀ {k}, k < (H 0).length → m1 k = m k := fun {k} hk => by simp [m1, hk]
  have hm1' : ∀ {k l}, m1 k = some l → k < (H 0).length ∧ m k = some l := fun {k l} hk => by
    simp only [m1] at hk
    split at hk
    · exact ⟨‹_›, hk⟩
    · cases hk
  have ex : Ext m (H 0) m1 (H l.toArray.size) := fun k o hk => by
    have h1 := (List.getElem?_eq_some_iff.1 hk).1
    exact ⟨o, by rw [hH h1]; exact hk, Nat.le_refl _, rfl, rfl, fun l hl => ⟨l, by rw [hm1 h1]; exact hl, fun _ => rfl⟩⟩
  have hback : ∀ {k o l1}, (H l.toArray.size)[k]? = some o → m1 k = some l1 → (H 0)[k]? = some o ∧ m k = some l1 := fun {k o l1} hk hl => by
    obtain ⟨h1, h2⟩ := hm1' hl
    exact ⟨by rw [← hH h1]; exact hk, h2⟩
  have hcl : ∀ p, p ≤ l.toArray.size → Closed (H p) := fun p => by
    induction p with
    | zero => exact fun _ => hrel.closed
    | succ p ih =>
      intro hp k o hk u hu
      obtain ⟨g, hg, hcl, _⟩ := hst' p _ (Array.getElem?_eq_getElem (by omega))
      rw [hg] at hk
      rw [List.getElem?_append] at hk
      split at hk
      · exact (ih (by omega) k o hk u hu).mono (by rw [hg]; simp)
      · exact hcl o (List.mem_of_getElem? hk) u hu
  have inv0 : DInv n l.toArray V H env m w (Array.replicate l.toArray.size false) m1 a { w with drawn := w.drawn + 1 } := by
    refine ⟨⟨fun k o l1 hk hl hp => ?_, fun k1 k2 o1 o2 l1 l2 g1 g2 e1 e2 hne hm p1 p2 => ?_, hcl _ (Nat.le_refl _)⟩, fun k hk => ⟨fun l1 hl => by rw [hm1 hk]; exact hl, fun hn => by rw [hm1 hk]; exact hn⟩, fun k l1 hk hl => ?_,
      Nat.le_refl _, rfl, rfl, rfl, fun _ _ _ => rfl, fun k o l1 hk hl hp => ?_, ⟨he.size, he.defers, fun t => ?_⟩, by simp, fun i o hi hlj => ?_⟩
    · obtain ⟨q1, q2⟩ := hback hk hl
      obtain ⟨c, ty, fz, hb, hc, hm⟩ := hrel.holds k o l1 q1 q2 hp
      refine ⟨c, ty, fz, hb, fun j hj => ?_, hm⟩
      obtain ⟨r, r1, r2⟩ := hc j hj
      exact ⟨r, r1, r2.mono ex⟩
    · obtain ⟨q1, q2⟩ := hback g1 e1
      obtain ⟨q3, q4⟩ := hback g2 e2
      exact hrel.sep k1 k2 o1 o2 l1 l2 q1 q3 q2 q4 hne hm p1 p2
    · have := (hm1' hl).1; omega
    · obtain ⟨q1, q2⟩ := hback hk hl
      exact .inr ⟨k, o, l1, q1, q2, hp, rfl, fun hh => hh⟩
    · have : dval (fun j => ((l.toArray)[j]?).bind (·.dst)) V env (fun j => (Array.replicate l.toArray.size false).getD j false) l.toArray.size t = env t := by
        have h0 : ∀ N, dval (fun j => ((l.toArray)[j]?).bind (·.dst)) V env (fun j => (Array.replicate l.toArray.size false).getD j false) N = env := fun N => by
          induction N with
          | zero => rfl
          | succ N ih => simp only [dval]; rw [if_neg (by rw [getD_replicate_false]; simp), ih]
        rw [h0]
      rw [this]
      exact (he.vals t).mono ex
    · rw [getD_replicate_false] at hlj; cases hlj
  -- what is wanted at the end
  let G : Exit → Act → World → Prop := fun e a' w' => ∃ m' env' h', Rel m' h' w' ∧ Step m (H 0) w m' h' w' ∧ EnvRel m' h' n env' a' ∧ Q e env' h'
  have hin' : dstsIn n l.toArray.toList = true := by simpa using hin
  -- only the store is left
  have phaseS : ∀ (fuel : Nat) (listed : Array Bool) (v : Value) (m' : Map) (h2 : AHeap) (a' : Act) (w' : World), listed.size = l.toArray.size → left l.toArray.size listed ≤ fuel → (∀ i, i < l0.length + 2 → listed.getD i false = true) → listed.getD (l0.length + 2) false = false →
      Rel m' h2 w' → Step m (H 0) w m' h2 w' → EnvRel m' h2 n ((env1.put A.dst v).put M.dst vM) a' →
      AOp P S (fun u h3 => Q .normal (((env1.put A.dst v).put M.dst vM).put S.dst u) h3) ((env1.put A.dst v).put M.dst vM) h2 → wpAny P .any l.toArray G fuel listed a' w' := by
    intro fuel listed v m' h2 a' w' hls hf hall hun irel hst ienv hop
    cases fuel with
    | zero => exact absurd (left_pos (N := l.toArray.size) (by omega) hun) (by omega)
    | succ fuel =>
      refine ⟨fun hnil => absurd hnil (ready_some hls hd _ (by omega) hun), fun i hi => ?_⟩
      obtain ⟨q1, oi, q2, q3⟩ := mem_ready.1 hi
      have hlt := (Array.getElem?_eq_some_iff.1 q2).1
      have hiS : i = l0.length + 2 := by
        refine Classical.byContradiction fun hx => ?_
        have := hall i (by omega)
        rw [getD_both q1] at this; cases this
      subst hiS
      refine wpOp_of oS hin' hgS irel hst ienv hop fun u h1 m3 a3 w3 r3 s3 e3 hq => wpAny_done (fun j hj => ?_) ⟨m3, _, h1, r3, s3, e3, hq⟩ fuel
      by_cases hjl : j = l0.length + 2
      · subst hjl
        have : l0.length + 2 < listed.size := by omega
        simp [Array.getD_eq_getD_getElem?, this]
      · rw [getD_set_ne false (fun e => hjl e.symm)]
        exact hall j (by omega)
  have phaseA : ∀ (fuel : Nat) (listed : Array Bool) (m' : Map) (a' : Act) (w' : World), left l.toArray.size listed ≤ fuel + 1 → (∀ e ∈ A.after, Region.binds .any e = true → listed.getD e.on false = true) → listed.getD l0.length false = false → listed.getD (l0.length + 2) false = false →
      DInv n l.toArray V H env m w listed m' a' w' → wpOp P l.toArray G l0.length (wpAny P .any l.toArray G fuel (listed.setIfInBounds l0.length true)) a' w' := by
    intro fuel listed m' a' w' hf hrd hunA hunS inv
    have hpre := fun i hi => sinkAt_all hsA inv.closed oA hrd l0.length i (by omega) hi
    have irel := inv.rel
    rw [hHN] at irel
    have hstep : Step m (H 0) w m' (H0 l0.length) w' := by
      rw [← hHN]
      exact ⟨fun k x hk => by
        have h1 := (List.getElem?_eq_some_iff.1 hk).1
        obtain ⟨e1, e2⟩ := inv.ext0 k h1
        exact ⟨x, by rw [hH h1]; exact hk, Nat.le_refl _, rfl, rfl, fun l1 hl => ⟨l1, e1 l1 hl, fun _ => rfl⟩, e2⟩, inv.size, inv.os, inv.tape, inv.output, inv.frame, inv.own⟩
    have e0 : dval (fun j => ((l.toArray)[j]?).bind (·.dst)) V env (fun j => listed.getD j false) l0.length = env1 := by
      rw [← hdv1]
      funext t
      exact dval_agree (q := fun _ => true) _ (fun j hj _ => hpre j hj)
    have e1 : dval (fun j => ((l.toArray)[j]?).bind (·.dst)) V env (fun j => listed.getD j false) (l0.length + 1) = env1 := by
      rw [dval, if_neg (by rw [hunA]; simp), e0]
    have ienv := inv.env
    rw [hHN, hsz, dval, if_neg (by rw [hunS]; simp)] at ienv
    have hleft := left_lt inv.lsize (i := l0.length) (by omega) hunA
    have hls : (listed.setIfInBounds l0.length true).size = l.toArray.size := by rw [Array.size_setIfInBounds]; exact inv.lsize
    have hset : (listed.setIfInBounds l0.length true).getD l0.length false = true := by
      have : l0.length < listed.size := by rw [inv.lsize]; omega
      simp [Array.getD_eq_getD_getElem?, this]
    by_cases hM : listed.getD (l0.length + 1) false = true
    · rw [dval, if_pos hM, e1, hVM] at ienv
      simp only [oM, Option.bind_some] at ienv
      have hA' : AOp P A _ (env1.put M.dst vM) (H0 l0.length) := AOp.congr (fun x hx => by
        have := List.all_eq_true.1 hAM x hx
        cases x with
        | tmp t =>
          simp only [decide_eq_true_eq] at this
          exact (Env.put_ne this).symm
        | _ => rfl) hA
      refine wpOp_of oA hin' hgA irel hstep ienv hA' fun v h1 m3 a3 w3 r3 s3 e3 hq => ?_
      have hcomm : (env1.put M.dst vM).put A.dst v = (env1.put A.dst v).put M.dst vM := by
        funext t
        cases hMd : M.dst with
        | none => rfl
        | some dm =>
          cases hAd : A.dst with
          | none => rfl
          | some da =>
            simp only [Env.put]
            by_cases c1 : t = dm
            · by_cases c2 : t = da
              · exact absurd (by rw [hMd, hAd, ← c2, c1]) hne
              · simp only [c2, if_false]
            · by_cases c2 : t = da
              · simp only [c1, if_false]
              · simp only [c1, c2, if_false]
      rw [hcomm] at e3
      refine phaseS fuel _ v m3 h1 a3 w3 hls (by omega) (fun i hi => ?_) ?_ r3 s3 e3 hq.2
      · by_cases h9 : i = l0.length
        · subst h9; exact hset
        · rw [getD_set_ne false (fun e => h9 e.symm)]
          by_cases h8 : i = l0.length + 1
          · subst h8; exact hM
          · exact hpre i (by omega)
      · rw [getD_set_ne false (by omega)]; exact hunS
    · have hM' : listed.getD (l0.length + 1) false = false := by simpa using hM
      rw [dval, if_neg hM, e1] at ienv
      refine wpOp_of oA hin' hgA irel hstep ienv hA fun v h1 m3 a3 w3 r3 s3 e3 hq => ?_
      have hunM : (listed.setIfInBounds l0.length true).getD (l0.length + 1) false = false := by rw [getD_set_ne false (by omega)]; exact hM'
      have hunS' : (listed.setIfInBounds l0.length true).getD (l0.length + 2) false = false := by rw [getD_set_ne false (by omega)]; exact hunS
      cases fuel with
      | zero => exact absurd (left_pos (N := l.toArray.size) (by omega) hunM) (by omega)
      | succ fuel =>
        refine ⟨fun hnil => absurd hnil (ready_some hls hd _ (by omega) hunM), fun i hi => ?_⟩
        obtain ⟨q1, oi, q2, q3⟩ := mem_ready.1 hi
        have hlt := (Array.getElem?_eq_some_iff.1 q2).1
        have hclosed2 : ∀ (i : Nat) (o : Oper), l.toArray[i]? = some o → (listed.setIfInBounds l0.length true).getD i false = true → ∀ e ∈ o.after, Region.binds .any e = true → (listed.setIfInBounds l0.length true).getD e.on false = true := fun i o ho hl9 e he9 hb9 => by
          by_cases h9 : e.on = l0.length
          · rw [h9]; exact hset
          · rw [getD_set_ne false (fun e => h9 e.symm)]
            by_cases h8 : i = l0.length
            · subst h8; rw [oA] at ho; cases ho; exact hrd e he9 hb9
            · rw [getD_set_ne false (fun e => h8 e.symm)] at hl9
              exact inv.closed i o ho hl9 e he9 hb9
        have hiM : i = l0.length + 1 := by
          refine Classical.byContradiction fun hx => ?_
          by_cases h7 : i = l0.length + 2
          · subst h7
            rw [oS] at q2; cases q2
            have := sinkAt_all hs hclosed2 oS q3 (l0.length + 2) (l0.length + 1) (by omega) (by omega)
            rw [hunM] at this; cases this
          · have h6 : (listed.setIfInBounds l0.length true).getD i false = true := by
              by_cases h9 : i = l0.length
              · subst h9; exact hset
              · rw [getD_set_ne false (fun e => h9 e.symm)]; exact hpre i (by omega)
            rw [getD_both q1] at h6; cases h6
        subst hiM
        refine wpOp_of oM hin' hgM r3 s3 e3 hq.1 fun v9 h9 m4 a4 w4 r4 s4 e4 hq4 => ?_
        obtain ⟨rfl, rfl⟩ := hq4
        have hleft2 := left_lt hls (i := l0.length + 1) (by omega) hunM
        refine phaseS fuel _ v m4 h9 a4 w4 (by rw [Array.size_setIfInBounds]; exact hls) (by omega) (fun i hi => ?_) ?_ r4 s4 e4 hq.2
        · by_cases h9 : i = l0.length + 1
          · subst h9
            have : l0.length + 1 < (listed.setIfInBounds l0.length true).size := by rw [hls]; omega
            rw [Array.getD_eq_getD_getElem?, Array.getElem?_setIfInBounds_self_of_lt this]; rfl
          · rw [getD_set_ne false (fun e => h9 e.symm)]
            by_cases h8 : i = l0.length
            · subst h8; exact hset
            · rw [getD_set_ne false (fun e => h8 e.symm)]; exact hpre i (by omega)
        · rw [getD_set_ne false (by omega)]; exact hunS'
  have main : ∀ (fuel : Nat) (listed : Array Bool) (m' : Map) (a' : Act) (w' : World), left l.toArray.size listed ≤ fuel → listed.getD l0.length false = false → listed.getD (l0.length + 2) false = false → DInv n l.toArray V H env m w listed m' a' w' →
      wpAny P .any l.toArray G fuel listed a' w' := by
    intro fuel
    induction fuel with
    | zero =>
      intro listed m' a' w' hf hunA hunS inv
      exact absurd (left_pos (N := l.toArray.size) (by omega) hunS) (by omega)
    | succ fuel ih =>
      intro listed m' a' w' hf hunA hunS inv
      refine ⟨fun hnil => absurd hnil (ready_some inv.lsize hd _ (by omega) hunS), fun i hi => ?_⟩
      obtain ⟨q1, oi, q2, q3⟩ := mem_ready.1 hi
      have hlt := (Array.getElem?_eq_some_iff.1 q2).1
      by_cases hiS : i = l0.length + 2
      · subst hiS
        rw [oS] at q2; cases q2
        have := sinkAt_all hs inv.closed oS q3 (l0.length + 2) l0.length (by omega) (by omega)
        rw [hunA] at this; cases this
      · by_cases hiA : i = l0.length
        · subst hiA
          rw [oA] at q2; cases q2
          exact phaseA fuel listed m' a' w' hf q3 hunA hunS inv
        · refine inv.step hd hin' hst' hrel.closed (fun t => (he.vals t).within) q2 (hrun i oi (by omega) q2) (getD_both q1) q3 fun m2 a2 w2 inv2 => ih _ m2 a2 w2 ?_ (by rw [getD_set_ne false hiA]; exact hunA) (by rw [getD_set_ne false hiS]; exact hunS) inv2
          have := left_lt inv.lsize hlt (getD_both q1)
          omega
  refine wp_region_any hmix (main _ _ m1 a _ ?_ (getD_replicate_false _ _) (getD_replicate_false _ _) inv0)
  unfold left
  exact Nat.le_trans List.countP_le_length (by simp)

theorem awp_drawAt {P : Program} {n id : Nat} {l l0 : List Oper} {A M S : Oper} {Q : Exit → Env → AHeap → Prop} {env : Env} {h : AHeap} (j : Nat) (ht : l.take j = l0) (hdr : l.drop j = [A, M, S]) (hmix : P.follows .mixedOrders = true)
    (hd : depOk l.toArray = true) (hs : sinkAt l.toArray (l0.length + 2) = true) (hsA : sinkAt l.toArray l0.length = true) (hin : dstsIn n l = true)
    (hgA : A.guard = none) (hgM : M.guard = none) (hgS : S.guard = none) (hAM : (A.op.operands.toList.all fun x => match x with | .tmp t => decide (M.dst ≠ some t) | _ => true) = true) (hne : decide (A.dst ≠ M.dst) = true)
    (hr : DRun P l.toArray (fun env1 h1 => ∃ vM, Within h1.length vM ∧ AOp P M (fun v h' => v = vM ∧ h' = h1) (env1.put A.dst undef) h1 ∧
      AOp P A (fun v h2 => AOp P M (fun v' h' => v' = vM ∧ h' = h2) (env1.put A.dst v) h2 ∧
        AOp P S (fun u h3 => Q .normal (((env1.put A.dst v).put M.dst vM).put S.dst u) h3) ((env1.put A.dst v).put M.dst vM) h2) env1 h1) l0 env h) : AWp P n (.region id l.toArray true) Q env h :=
  awp_drawA hmix hd hs hsA hin (by rw [← ht, ← hdr, List.take_append_drop]) hgA hgM hgS hAM (of_decide_eq_true hne) hr

end Go.Am
