/-
  The abstract heap: a region that draws its order, and whose last op (a store, say) comes after all others in each order. General: no program is named.
-/
import Derived.Test.YtnbpakikglpkcaaAmDraw
namespace Go.Am
set_option linter.unusedSimpArgs false
set_option linter.unusedVariables false
open Go.RowKit
def sinkOk (ops : Array Oper) : Bool := (List.range (ops.size - 1)).all fun i => (List.range ops.size).any fun j => decide (i < j) && match ops[j]? with
  | some o => o.after.toList.any fun e => Region.binds .any e && e.on == i
  | none => false

/-- Where the last op is ready, all others have run. -/
theorem sink_all {ops : Array Oper} {listed : Array Bool} (hs : sinkOk ops = true) (hcl : ∀ (i : Nat) (o : Oper), ops[i]? = some o → listed.getD i false = true → ∀ e ∈ o.after, Region.binds .any e = true → listed.getD e.on false = true)
    {o : Oper} (ho : ops[ops.size - 1]? = some o) (hr : ∀ e ∈ o.after, Region.binds .any e = true → listed.getD e.on false = true) : ∀ (d i : Nat), ops.size - 1 - i ≤ d → i < ops.size - 1 → listed.getD i false = true := by
  intro d
  induction d with
  | zero => intro i h1 h2; omega
  | succ d ih =>
    intro i h1 h2
    have := List.all_eq_true.1 hs i (List.mem_range.2 h2)
    obtain ⟨j, hj, h3⟩ := List.any_eq_true.1 this
    have hj' := List.mem_range.1 hj
    simp only [Bool.and_eq_true, decide_eq_true_eq] at h3
    obtain ⟨h4, h5⟩ := h3
    rw [Array.getElem?_eq_getElem hj'] at h5
    obtain ⟨e, he, h6⟩ := List.any_eq_true.1 h5
    simp only [Bool.and_eq_true, beq_iff_eq] at h6
    have he' : e ∈ ops[j].after := by simpa using he
    rw [← h6.2]
    by_cases hl : j = ops.size - 1
    · subst hl
      rw [Array.getElem?_eq_getElem hj'] at ho
      cases ho
      exact hr e he' h6.1
    · exact hcl j _ (Array.getElem?_eq_getElem hj') (ih j (by omega) (by omega)) e he' h6.1

theorem wpAny_done {P : Program} {ops : Array Oper} {Q : Exit → Act → World → Prop} {listed : Array Bool} {a : Act} {w : World} (hall : ∀ i, i < ops.size → listed.getD i false = true) (hq : Q .normal a w) : ∀ fuel, wpAny P .any ops Q fuel listed a w := by
  have hr : Region.ready .any ops listed = [] := by
    cases hr : Region.ready .any ops listed with
    | nil => rfl
    | cons i rest =>
      have hi : i ∈ Region.ready .any ops listed := by rw [hr]; simp
      obtain ⟨h1, oi, h2, _⟩ := mem_ready.1 hi
      have := hall i (Array.getElem?_eq_some_iff.1 h2).1
      have h3 := getD_both h1
      rw [this] at h3; cases h3
  intro fuel
  cases fuel with
  | zero => exact ⟨hr, hq⟩
  | succ fuel => exact ⟨fun _ => hq, fun i hi => by rw [hr] at hi; cases hi⟩


theorem dval_congr {dst dst' : Nat → Option Tmp} {V V' : Nat → Value} {env0 : Env} : ∀ n, (∀ j, j < n → dst j = dst' j ∧ V j = V' j) → dval dst V env0 (fun _ => true) n = dval dst' V' env0 (fun _ => true) n
  | 0, _ => rfl
  | n + 1, h => by
    rw [dval, dval, dval_congr n (fun j hj => h j (by omega)), (h n (by omega)).1, (h n (by omega)).2]

theorem awp_drawS {P : Program} {n id : Nat} {l l0 : List Oper} {o : Oper} {Q : Exit → Env → AHeap → Prop} {env : Env} {h : AHeap} (hm : P.follows .mixedOrders = true)
    (hd : depOk l.toArray = true) (hs : sinkOk l.toArray = true) (hin : dstsIn n l = true) (hl0 : l.dropLast = l0) (hlast : l.getLast? = some o)
    (hr : DRun P l.toArray (fun env1 h1 => wantedA l.toArray env1 o = some true ∧ AOp P o (fun v h2 => Q .normal (env1.put o.dst v) h2) env1 h1) l0 env h) : AWp P n (.region id l.toArray true) Q env h := by
  intro m w a hrel he
  have hl : l = l0 ++ [o] := by
    subst hl0
    obtain ⟨ys, e⟩ := List.getLast?_eq_some_iff.1 hlast
    subst e; simp
  obtain ⟨V0, H0, rfl, hQ, hst0⟩ := drun_run l0 env h hr
  let V : Nat → Value := fun j => if j < l0.length then V0 j else undef
  let H : Nat → AHeap := fun j => if j ≤ l0.length then H0 j else H0 l0.length
  have hlen : l.length = l0.length + 1 := by rw [hl]; simp
  have hH00 : H 0 = H0 0 := by simp [H]
  have hdst : ∀ j, j < l0.length → ((l.toArray)[j]?).bind (·.dst) = (l0[j]?).bind (·.dst) := fun j hj => by
    simp only [List.getElem?_toArray]; rw [hl, List.getElem?_append_left hj]
  have hdv : ∀ i, i ≤ l0.length → dval (fun j => ((l.toArray)[j]?).bind (·.dst)) V env (fun _ => true) i = dval (fun j => (l0[j]?).bind (·.dst)) V0 env (fun _ => true) i := fun i hi =>
    dval_congr i fun j hj => ⟨hdst j (by omega), by simp [V]; omega⟩
  have hrun : ∀ (i : Nat) (x : Oper), i < l0.length → (l.toArray)[i]? = some x → RunAt P l.toArray (fun j => ((l.toArray)[j]?).bind (·.dst)) V env H i x := fun i x hi hx => by
    have hx0 : l0[i]? = some x := by
      rw [List.getElem?_toArray, hl, List.getElem?_append_left hi] at hx; exact hx
    have := hst0 i x hx0
    unfold RunAt at this ⊢
    rw [hdv i (by omega)]
    have e1 : H i = H0 i := by simp [H]; omega
    have e2 : H (i + 1) = H0 (i + 1) := by simp [H]; omega
    have e3 : V i = V0 i := by simp [V, hi]
    rw [e1, e2, e3]; exact this
  have hst' : ∀ (i : Nat) (x : Oper), (l.toArray)[i]? = some x → ∃ g, H (i + 1) = H i ++ g ∧ (∀ y ∈ g, ∀ u ∈ y.cells, Within (H (i + 1)).length u) ∧ Within (H (i + 1)).length (V i) := fun i x hx => by
    by_cases hi : i < l0.length
    · obtain ⟨g, q1, q2, q3, _⟩ := hrun i x hi hx
      exact ⟨g, q1, q2, q3⟩
    · have hi2 : i < l.length := by simpa using (Array.getElem?_eq_some_iff.1 hx).1
      have e1 : H i = H0 l0.length := by
        have : i = l0.length := by omega
        simp [H, this]
      have e2 : H (i + 1) = H0 l0.length := by simp [H]; omega
      have e3 : V i = undef := by simp [V, hi]
      exact ⟨[], by rw [e1, e2, List.append_nil], by simp, by rw [e3]; exact .tuple fun i h1 => by simp at h1⟩
  have hHN : H l.toArray.size = H0 l0.length := by
    have : ¬ l.toArray.size ≤ l0.length := by simp [hlen]
    simp only [H, this, if_false]
  rw [← hH00] at hrel he ⊢
  have hsz : l.toArray.size = l.length := by simp
  have hsteps : ∀ j, j < l.toArray.size → ∃ g, H (j + 1) = H j ++ g := fun j hj => by
    obtain ⟨g, hg, _⟩ := hst' j _ (Array.getElem?_eq_getElem hj)
    exact ⟨g, hg⟩
  obtain ⟨g0, hg0⟩ := run_prefix hsteps 0 l.toArray.size (by omega) (Nat.le_refl _)
  have hH : ∀ {k : Nat}, k < (H 0).length → (H l.toArray.size)[k]? = (H 0)[k]? := fun {k} hk => by rw [hg0, List.getElem?_append_left hk]
  have hHl : (H 0).length ≤ (H l.toArray.size).length := by rw [hg0]; simp
  let m1 : Map := fun k => if k < (H 0).length then m k else none
  have hm1 : ∀ {k}, k < (H 0).length → m1 k = m k := fun {k} hk => by simp [m1, hk]
  have hm1' : ∀ {k l}, m1 k = some l → k < (H 0).length ∧ m k = some l := fun {k l} hk => by
    simp only [m1] at hk
    split at hk
    · exact ⟨‹_›, hk⟩
    · cases hk
  have ex : Ext m (H 0) m1 (H l.toArray.size) := fun k o hk => by
    have h1 := (List.getElem?_eq_some_iff.1 hk).1
    exact ⟨o, by rw [hH h1]; exact hk, Nat.le_refl _, rfl, rfl, fun l hl => ⟨l, by rw [hm1 h1]; exact hl, fun _ => rfl⟩⟩
  have hback : ∀ {k o l1}, (H l.toArray.size)[k]? = some o → m1 k = some l1 → (H 0)[k]? = some o ∧ m k = some l1 := fun {k o l1} hk hl => by
    obtain ⟨h1, h2⟩ := hm1' hl
    exact ⟨by rw [← hH h1]; exact hk, h2⟩
  have hcl : ∀ p, p ≤ l.toArray.size → Closed (H p) := fun p => by
    induction p with
    | zero => exact fun _ => hrel.closed
    | succ p ih =>
      intro hp k o hk u hu
      obtain ⟨g, hg, hcl, _⟩ := hst' p _ (Array.getElem?_eq_getElem (by omega))
      rw [hg] at hk
      rw [List.getElem?_append] at hk
      split at hk
      · exact (ih (by omega) k o hk u hu).mono (by rw [hg]; simp)
      · exact hcl o (List.mem_of_getElem? hk) u hu
  have inv0 : DInv n l.toArray V H env m w (Array.replicate l.toArray.size false) m1 a { w with drawn := w.drawn + 1 } := by
    refine ⟨⟨fun k o l1 hk hl hp => ?_, fun k1 k2 o1 o2 l1 l2 g1 g2 e1 e2 hne hm p1 p2 => ?_, hcl _ (Nat.le_refl _)⟩, fun k hk => ⟨fun l1 hl => by rw [hm1 hk]; exact hl, fun hn => by rw [hm1 hk]; exact hn⟩, fun k l1 hk hl => ?_,
      Nat.le_refl _, rfl, rfl, rfl, fun _ _ _ => rfl, fun k o l1 hk hl hp => ?_, ⟨he.size, he.defers, fun t => ?_⟩, by simp, fun i o hi hlj => ?_⟩
    · obtain ⟨q1, q2⟩ := hback hk hl
      obtain ⟨c, ty, fz, hb, hc, hm⟩ := hrel.holds k o l1 q1 q2 hp
      refine ⟨c, ty, fz, hb, fun j hj => ?_, hm⟩
      obtain ⟨r, r1, r2⟩ := hc j hj
      exact ⟨r, r1, r2.mono ex⟩
    · obtain ⟨q1, q2⟩ := hback g1 e1
      obtain ⟨q3, q4⟩ := hback g2 e2
      exact hrel.sep k1 k2 o1 o2 l1 l2 q1 q3 q2 q4 hne hm p1 p2
    · have := (hm1' hl).1; omega
    · obtain ⟨q1, q2⟩ := hback hk hl
      exact .inr ⟨k, o, l1, q1, q2, hp, rfl, fun hh => hh⟩
    · have : dval (fun j => ((l.toArray)[j]?).bind (·.dst)) V env (fun j => (Array.replicate l.toArray.size false).getD j false) l.toArray.size t = env t := by
        have h0 : ∀ N, dval (fun j => ((l.toArray)[j]?).bind (·.dst)) V env (fun j => (Array.replicate l.toArray.size false).getD j false) N = env := fun N => by
          induction N with
          | zero => rfl
          | succ N ih => simp only [dval]; rw [if_neg (by rw [getD_replicate_false]; simp), ih]
        rw [h0]
      rw [this]
      exact (he.vals t).mono ex
    · rw [getD_replicate_false] at hlj; cases hlj
  have main : ∀ (fuel : Nat) (listed : Array Bool) (m' : Map) (a' : Act) (w' : World), left l.toArray.size listed ≤ fuel → listed.getD (l.toArray.size - 1) false = false → DInv n l.toArray V H env m w listed m' a' w' →
      wpAny P .any l.toArray (fun e a' w' => ∃ m' env' h', Rel m' h' w' ∧ Step m (H 0) w m' h' w' ∧ EnvRel m' h' n env' a' ∧ Q e env' h') fuel listed a' w' := by
    have hlo : (l.toArray)[l.toArray.size - 1]? = some o := by
      have : l.toArray.size - 1 = l0.length := by simp [hlen]
      rw [this, List.getElem?_toArray, hl]; simp
    have last : ∀ (fuel : Nat) (listed : Array Bool) (m' : Map) (a' : Act) (w' : World), (∀ e ∈ o.after, Region.binds .any e = true → listed.getD e.on false = true) → listed.getD (l.toArray.size - 1) false = false → DInv n l.toArray V H env m w listed m' a' w' →
        wpOp P l.toArray (fun e a' w' => ∃ m' env' h', Rel m' h' w' ∧ Step m (H 0) w m' h' w' ∧ EnvRel m' h' n env' a' ∧ Q e env' h') (l.toArray.size - 1) (wpAny P .any l.toArray (fun e a' w' => ∃ m' env' h', Rel m' h' w' ∧ Step m (H 0) w m' h' w' ∧ EnvRel m' h' n env' a' ∧ Q e env' h') fuel (listed.setIfInBounds (l.toArray.size - 1) true)) a' w' := by
      intro fuel listed m' a' w' hr hun inv
      have hall := sink_all hs inv.closed hlo hr l.toArray.size
      have hsize : l.toArray.size - 1 = l0.length := by simp [hlen]
      have henv : dval (fun j => ((l.toArray)[j]?).bind (·.dst)) V env (fun j => listed.getD j false) l.toArray.size = dval (fun j => (l0[j]?).bind (·.dst)) V0 env (fun _ => true) l0.length := by
        have e1 : l.toArray.size = l0.length + 1 := by simp [hlen]
        rw [e1, dval, if_neg (by rw [← hsize, hun]; simp), ← hdv l0.length (Nat.le_refl _)]
        funext t
        exact dval_agree (q := fun _ => true) _ (fun j hj _ => hall j (by omega) (by omega))
      have ienv := inv.env
      rw [henv, hHN] at ienv
      have irel := inv.rel
      rw [hHN] at irel
      obtain ⟨hw, hop⟩ := hQ
      have hstep : Step m (H 0) w m' (H0 l0.length) w' := by
        rw [← hHN]
        exact ⟨fun k x hk => by
          have h1 := (List.getElem?_eq_some_iff.1 hk).1
          obtain ⟨e1, e2⟩ := inv.ext0 k h1
          exact ⟨x, by rw [hH h1]; exact hk, Nat.le_refl _, rfl, rfl, fun l1 hl => ⟨l1, e1 l1 hl, fun _ => rfl⟩, e2⟩, inv.size, inv.os, inv.tape, inv.output, inv.frame, inv.own⟩
      have hokd := List.all_eq_true.1 hin o (by rw [hl]; simp)
      simp only [Bool.and_eq_true] at hokd
      have hdsto : ∀ d, o.dst = some d → d < n := fun d hx => by simpa [hx] using hokd.1
      unfold wpOp
      simp only [hlo]
      have hw' := wantedA_spec2 (fun t _ => ienv.vals t) hw
      simp only [hw', if_true]
      refine .inl (Oper.wp_mono2 ?_ (hop m' w' a' irel fun x hx => ?_))
      · rintro a1 w1 ⟨v, r, m1, h1, rfl, r1, s1, v1, hq⟩
        refine wpAny_done (fun i hi => ?_) ⟨m1, _, h1, r1, hstep.trans s1, (ienv.mono s1.toExt).put hdsto v1, hq⟩ fuel
        by_cases hil : i = l.toArray.size - 1
        · subst hil
          have hi' : l.toArray.size - 1 < l.toArray.size := hi
          simp [Array.getD_eq_getD_getElem?, inv.lsize]; omega
        · rw [getD_set_ne false (fun e => hil e.symm)]
          exact hall i (by omega) (by omega)
      · have hok := List.all_eq_true.1 hin o (by rw [hl]; simp)
        simp only [Bool.and_eq_true] at hok
        have hx' := List.all_eq_true.1 hok.2 x hx
        cases x with
        | tmp t => exact ienv.vals t
        | const v => exact .const _ _ hx'
        | global g => cases hx'
        | func f => exact .func rfl rfl (fun i h1 _ => by simp at h1) (fun i h1 _ => by simp at h1)
    have main : ∀ (fuel : Nat) (listed : Array Bool) (m' : Map) (a' : Act) (w' : World), left l.toArray.size listed ≤ fuel → listed.getD (l.toArray.size - 1) false = false → DInv n l.toArray V H env m w listed m' a' w' →
      wpAny P .any l.toArray (fun e a' w' => ∃ m' env' h', Rel m' h' w' ∧ Step m (H 0) w m' h' w' ∧ EnvRel m' h' n env' a' ∧ Q e env' h') fuel listed a' w' := by
      have hNlt : l.toArray.size - 1 < l.toArray.size := by simp [hlen]
      intro fuel
      induction fuel with
      | zero =>
        intro listed m' a' w' hf hun inv
        have h0 : left l.toArray.size listed = 0 := by omega
        have := List.countP_eq_zero.1 h0 (l.toArray.size - 1) (List.mem_range.2 hNlt)
        rw [hun] at this
        exact absurd rfl this
      | succ fuel ih =>
        intro listed m' a' w' hf hun inv
        refine ⟨fun hnil => absurd hnil (ready_some inv.lsize hd _ hNlt hun), fun i hi => ?_⟩
        obtain ⟨h1, oi, h2, h3⟩ := mem_ready.1 hi
        have hlt := (Array.getElem?_eq_some_iff.1 h2).1
        by_cases hil : i = l.toArray.size - 1
        · subst hil
          rw [hlo] at h2; cases h2
          exact last fuel listed m' a' w' h3 hun inv
        · have hi0 : i < l0.length := by
            have : l.toArray.size = l0.length + 1 := by simp [hlen]
            omega
          refine inv.step hd (by simpa using hin) hst' hrel.closed (fun t => (he.vals t).within) h2 (hrun i oi hi0 h2) (getD_both h1) h3 fun m2 a2 w2 inv2 => ih _ m2 a2 w2 ?_ (by rw [getD_set_ne false hil]; exact hun) inv2
          have hset : (listed.setIfInBounds i true).getD i false = true := by
            have hlt2 : i < listed.size := by rw [inv.lsize]; exact hlt
            simp [Array.getD_eq_getD_getElem?, hlt2]
          have : left l.toArray.size (listed.setIfInBounds i true) < left l.toArray.size listed := by
            refine countP_lt _ (fun x hx => ?_) ⟨i, List.mem_range.2 hlt, by simp [getD_both h1], by simp [hset]⟩
            by_cases hix : i = x
            · subst hix
              rw [getD_both h1]; rfl
            · rwa [getD_set_ne false hix] at hx
          omega
    exact main
  refine wp_region_any hm (main _ _ m1 a _ ?_ (getD_replicate_false _ _) inv0)
  unfold left
  exact Nat.le_trans List.countP_le_length (by simp)

end Go.Am
