/-
  The abstract heap: regions in the order of their text, and the law of each operation. General: no program is named.
-/
import Derived.Test.YtejlkmepnamodaaAmBase
import Derived.Laws.Entries
import Derived.Laws.Small
namespace Go.Am
set_option linter.unusedSimpArgs false
set_option linter.unusedVariables false

def okX : Operand → Bool
  | .tmp _ => true
  | .const v => isConst v
  | .func _ => true
  | .global _ => false

/-- The operation's operands stand for one another. -/
def OpsRel (m : Map) (h : AHeap) (env : Env) (a : Act) (o : Oper) : Prop :=
  ∀ x, x ∈ o.op.operands.toList → VRel m h (aeval env x) (a.eval x)

/-- What one operation gives. -/
def AOp (P : Program) (o : Oper) (K : Value → AHeap → Prop) (env : Env) (h : AHeap) : Prop :=
  ∀ m w a, Rel m h w → OpsRel m h env a o → o.wp P a w (fun a' w' =>
    ∃ v r m' h', a' = a.put o.dst r ∧ Rel m' h' w' ∧ Step m h w m' h' w' ∧ VRel m' h' v r ∧ K v h') (fun _ _ _ => False)

def wantedA (ops : Array Oper) (env : Env) (o : Oper) : Option Bool :=
  match o.guard with
  | none => some true
  | some (j, want) =>
    match (ops[j]?).bind (·.dst) with
    | none => some false
    | some d =>
      match env d with
      | .bool b => some (b == want)
      | .tuple _ => some false
      | _ => none

theorem wantedA_spec {m h n env a} {ops : Array Oper} {o : Oper} {b : Bool} (he : EnvRel m h n env a) (hw : wantedA ops env o = some b) :
    Region.wanted o (yielded ops a.tmps) = b := by
  unfold wantedA at hw
  unfold Region.wanted
  split at hw <;> rename_i hg <;> simp only [hg]
  · simpa using hw
  · rename_i j want
    unfold yielded
    split at hw <;> rename_i hd <;> simp only [hd]
    · simp only [Option.bind_none, Option.some.injEq] at hw ⊢; subst hw; rfl
    · rename_i d
      have hv := he.vals d
      have hq : ∀ r, a.tmps.getD d undef = r → (∀ x, r ≠ .bool x) → (match a.tmps[d]? with | some (Value.bool b) => some b | _ => none) = none := by
        intro r hr hx
        cases ht : a.tmps[d]? with
        | none => rfl
        | some y =>
          have : a.tmps.getD d undef = y := by simp [Array.getD_eq_getD_getElem?, ht]
          rw [this] at hr; subst hr
          cases y <;> first | rfl | exact absurd rfl (hx _)
      simp only [Option.bind_some]
      split at hw <;> rename_i he
      · rename_i x
        rw [he] at hv
        have hb := hv.bool
        cases ht : a.tmps[d]? with
        | none => simp [Array.getD_eq_getD_getElem?, ht, undef] at hb
        | some y =>
          have : y = .bool x := by simpa [Array.getD_eq_getD_getElem?, ht] using hb
          subst this
          simp only [Option.some.injEq] at hw
          subst hw
          cases x <;> cases want <;> rfl
      · rw [he] at hv
        have hn := hq _ rfl (by intro x hx; rw [hx] at hv; cases hv)
        simp only [Option.some.injEq] at hw; subst hw
        cases ht : a.tmps[d]? with
        | none => rfl
        | some y => rw [ht] at hn; cases y <;> first | rfl | (simp at hn)
      · cases hw

/-- A region's operations, one behind the other. -/
def ARun (P : Program) (ops : Array Oper) (K : Env → AHeap → Prop) : List Oper → Env → AHeap → Prop
  | [], env, h => K env h
  | o :: os, env, h =>
    (wantedA ops env o = some true ∧ AOp P o (fun v h' => ARun P ops K os (env.put o.dst v) h') env h) ∨
    (wantedA ops env o = some false ∧ ARun P ops K os (env.put o.dst undef) h)

theorem Oper.wp_mono2 {P : Program} {o : Oper} {a : Act} {w : World} {K K' : Act → World → Prop} {Q : Exit → Act → World → Prop}
    (h : ∀ a w, K a w → K' a w) (hh : o.wp P a w K (fun _ _ _ => False)) : o.wp P a w K' Q := by
  unfold Oper.wp at *
  generalize (execOp a.eval o).run P w = r at *
  cases r with
  | ok n w' =>
    cases n <;> simp only [Oper.upon] at hh ⊢ <;>
      first
        | exact h _ _ hh
        | exact Calls.mono hh (fun e w'' he => by
            cases e <;> first
              | exact h _ _ he
              | exact he.elim
              | (obtain ⟨_, _, hf⟩ := he; exact hf.elim))
        | exact Rows.mono hh (fun _ _ he => h _ _ he)
  | halt x w' => cases x <;> simp only [Oper.upon] at hh ⊢

def dstsIn (n : Nat) (ops : List Oper) : Bool := ops.all fun o =>
  (match o.dst with | some d => decide (d < n) | none => true) && o.op.operands.toList.all okX

theorem EnvRel.ops {m h n env a} {o : Oper} (he : EnvRel m h n env a) (hx : o.op.operands.toList.all okX = true) : OpsRel m h env a o := by
  intro x hm
  have := List.all_eq_true.1 hx x hm
  exact he.eval x (fun v hv => by subst hv; exact this) (fun g hg => by subst hg; cases this)

theorem arun_sound {P : Program} {n : Nat} {ops : Array Oper} {Q : Exit → Env → AHeap → Prop} {m0 h0 w0} :
    ∀ (l : List Oper) (env : Env) (h : AHeap) (m : Map) (w : World) (a : Act), dstsIn n l = true → ARun P ops (Q .normal) l env h →
      Rel m h w → Step m0 h0 w0 m h w → EnvRel m h n env a →
      wpList P ops (fun e a' w' => ∃ m' env' h', Rel m' h' w' ∧ Step m0 h0 w0 m' h' w' ∧ EnvRel m' h' n env' a' ∧ Q e env' h') l a w
  | [], env, h, m, w, a, _, hq, hr, hs, he => wpList_nil ⟨m, env, h, hr, hs, he, hq⟩
  | o :: os, env, h, m, w, a, hd, hq, hr, hs, he => by
    simp only [dstsIn, List.all_cons, Bool.and_eq_true] at hd
    obtain ⟨⟨hd1, hd2⟩, hd3⟩ := hd
    have hdst : ∀ d, o.dst = some d → d < n := fun d hx => by simpa [hx] using hd1
    rcases hq with ⟨hw, hq⟩ | ⟨hw, hq⟩
    · have hw' := wantedA_spec he hw
      simp only [wpList, hw', if_true]
      refine .inl (Oper.wp_mono2 ?_ (hq m w a hr (he.ops hd2)))
      rintro a1 w1 ⟨v, r, m1, h1, rfl, r1, s1, v1, k1⟩
      exact arun_sound os _ _ m1 w1 _ hd3 k1 r1 (hs.trans s1) ((he.mono s1.toExt).put hdst v1)
    · have hw' := wantedA_spec he hw
      simp only [wpList, hw', Bool.false_eq_true, if_false]
      exact arun_sound os _ _ m w _ hd3 hq hr hs (he.put hdst (.undef m h))

theorem awp_region {P : Program} {n id : Nat} {l : List Oper} {Q : Exit → Env → AHeap → Prop} {env : Env} {h : AHeap} (hd : dstsIn n l = true)
    (hr : ARun P l.toArray (Q .normal) l env h) : AWp P n (.region id l.toArray false) Q env h :=
  fun _ _ _ r e => wp_region_lit (arun_sound l env h _ _ _ hd hr r Step.refl e)

section
variable {P : Program} {ops : Array Oper} {K : Env → AHeap → Prop} {o : Oper} {os : List Oper} {env : Env} {h : AHeap}
end

/-! ## The operations -/

theorem AOp.of_run {P : Program} {o : Oper} {K : Value → AHeap → Prop} {env : Env} {h : AHeap}
    (H : ∀ m w a, Rel m h w → OpsRel m h env a o → ∃ v r m' h' w', (execOp a.eval o).run P w = .ok (.value r) w' ∧
      Rel m' h' w' ∧ Step m h w m' h' w' ∧ VRel m' h' v r ∧ K v h') : AOp P o K env h := by
  intro m w a hr ho
  obtain ⟨v, r, m', h', w', hrun, p1, p2, p3, p4⟩ := H m w a hr ho
  unfold Oper.wp
  rw [hrun]
  exact ⟨v, r, m', h', rfl, p1, p2, p3, p4⟩

theorem AOp.of_pure {P : Program} {o : Oper} {K : Value → AHeap → Prop} {env : Env} {h : AHeap} (v : Value)
    (H : ∀ m w a, Rel m h w → OpsRel m h env a o → ∃ r, (execOp a.eval o).run P w = .ok (.value r) w ∧ VRel m h v r) (hK : K v h) : AOp P o K env h :=
  AOp.of_run fun m w a hr ho => by
    obtain ⟨r, hrun, hv⟩ := H m w a hr ho
    exact ⟨v, r, m, h, w, hrun, hr, Step.refl, hv, hK⟩

section
variable {P : Program} {K : Value → AHeap → Prop} {env : Env} {h : AHeap} {dst : Option Tmp} {ty : TypeId} {pos : String} {after : Array Edge} {guard : Option (Nat × Bool)}

theorem aop_move {x : Operand} (hK : K (aeval env x) h) : AOp P ⟨dst, .move x, ty, pos, after, guard⟩ K env h :=
  .of_pure _ (fun m w a _ ho => ⟨a.eval x, by simp [execOp], ho x (by simp [Op.operands])⟩) hK

theorem aop_assign {x : Operand} (hK : K (aeval env x) h) : AOp P ⟨dst, .assign x, ty, pos, after, guard⟩ K env h :=
  .of_pure _ (fun m w a _ ho => ⟨a.eval x, by simp [execOp], ho x (by simp [Op.operands])⟩) hK

theorem aop_pick {c x y : Operand} {b : Bool} (hc : aeval env c = .bool b) (hK : K (if b then aeval env x else aeval env y) h) :
    AOp P ⟨dst, .pick c x y, ty, pos, after, guard⟩ K env h :=
  .of_pure _ (fun m w a _ ho => by
    have hv := ho c (by simp [Op.operands])
    rw [hc] at hv
    refine ⟨if b then a.eval x else a.eval y, by simp [execOp, hv.bool, asBool], ?_⟩
    cases b
    · exact ho y (by simp [Op.operands])
    · exact ho x (by simp [Op.operands])) hK

def binInt (op : BinOp) (k : IntKind) (p q : Int) : Option Value :=
  match op with
  | .add => some (.int k (k.wrap (p + q)))
  | .sub => some (.int k (k.wrap (p - q)))
  | .mul => some (.int k (k.wrap (p * q)))
  | .quo => if q = 0 then none else some (.int k (k.wrap (p.tdiv q)))
  | .rem => if q = 0 then none else some (.int k (p.tmod q))
  | .and => some (.int k (bits .and k p q))
  | .or => some (.int k (bits .or k p q))
  | .xor => some (.int k (bits .xor k p q))
  | .andNot => some (.int k (bits .andNot k p q))
  | .eql => some (.bool (p == q))
  | .neq => some (.bool (p != q))
  | .lss => some (.bool (decide (p < q)))
  | .leq => some (.bool (decide (p ≤ q)))
  | .gtr => some (.bool (decide (p > q)))
  | .geq => some (.bool (decide (p ≥ q)))
  | _ => none

theorem run_binInt {op : BinOp} {t : TypeId} {k : IntKind} {p q : Int} {v : Value} (hv : binInt op k p q = some v) (w : World) :
    (binOp op t (.int k p) (.int k q)).run P w = .ok v w := by
  cases op <;> simp only [binInt, Option.some.injEq, reduceCtorEq] at hv <;>
    first
      | (subst hv; simp [binOp, Op.intArith, Op.intCmp, Op.intBits, bits]; done)
      | (split at hv <;> simp only [Option.some.injEq, reduceCtorEq] at hv; subst hv; simp [binOp, Op.intDiv, *])

theorem VRel.of_binInt {m : Map} {op : BinOp} {k : IntKind} {p q : Int} {v : Value} (hv : binInt op k p q = some v) : VRel m h v v := by
  cases op <;> simp only [binInt, Option.some.injEq, reduceCtorEq] at hv <;>
    first
      | (subst hv; exact .prim rfl)
      | (split at hv <;> simp only [Option.some.injEq, reduceCtorEq] at hv; subst hv; exact .prim rfl)

theorem aop_bin {op : BinOp} {t yt : TypeId} {x y : Operand} {k : IntKind} {p q : Int} {v : Value} (hx : aeval env x = .int k p) (hy : aeval env y = .int k q)
    (hv : binInt op k p q = some v) (hK : K v h) : AOp P ⟨dst, .binOp op t x y yt, ty, pos, after, guard⟩ K env h :=
  .of_pure v (fun m w a _ ho => by
    have h1 := ho x (by simp [Op.operands])
    have h2 := ho y (by simp [Op.operands])
    rw [hx] at h1; rw [hy] at h2
    refine ⟨v, ?_, .of_binInt hv⟩
    simp [execOp, h1.int, h2.int, eqGuard_at_int, run_binInt hv]) hK

theorem aop_bool_eq {op : BinOp} {t yt : TypeId} {x y : Operand} {p q : Bool} {b : Bool} (hu : P.underlying t = some .bool) (hx : aeval env x = .bool p) (hy : aeval env y = .bool q)
    (hv : (op = .eql ∧ b = (p == q)) ∨ (op = .neq ∧ b = (p != q))) (hK : K (.bool b) h) : AOp P ⟨dst, .binOp op t x y yt, ty, pos, after, guard⟩ K env h :=
  .of_pure (.bool b) (fun m w a _ ho => by
    have h1 := ho x (by simp [Op.operands])
    have h2 := ho y (by simp [Op.operands])
    rw [hx] at h1; rw [hy] at h2
    refine ⟨.bool b, ?_, .prim rfl⟩
    rcases hv with ⟨rfl, rfl⟩ | ⟨rfl, rfl⟩
    · simp [execOp, h1.bool, h2.bool, eqGuard_at_bool, run_eql_bool w t p q hu]
    · simp [execOp, h1.bool, h2.bool, eqGuard_at_bool, run_neq_bool w t p q hu, bne]) hK

theorem aop_not {t : TypeId} {x : Operand} {b : Bool} (hx : aeval env x = .bool b) (hK : K (.bool (!b)) h) : AOp P ⟨dst, .unOp .not t x, ty, pos, after, guard⟩ K env h :=
  .of_pure _ (fun m w a _ ho => by
    have h1 := ho x (by simp [Op.operands])
    rw [hx] at h1
    exact ⟨.bool (!b), by simp [execOp, h1.bool, Op.unary], .prim rfl⟩) hK

theorem aop_nilCheck {x : Operand} {ad : Addr} (hx : aeval env x = .pointer (some ad)) (hK : K (aeval env x) h) : AOp P ⟨dst, .nilCheck x, ty, pos, after, guard⟩ K env h :=
  .of_pure _ (fun m w a _ ho => by
    have h1 := ho x (by simp [Op.operands])
    refine ⟨a.eval x, ?_, h1⟩
    rw [hx] at h1
    obtain ⟨b, hb⟩ : ∃ b, a.eval x = .pointer (some b) := by
      generalize a.eval x = r at h1
      cases h1 with
      | prim hp => simp [isPrim] at hp
      | ptr _ _ hs _ => exact hs
    simp [execOp, hb]) hK

theorem aop_extract {x : Operand} {i : Nat} {vs : Array Value} {v : Value} (hx : aeval env x = .tuple vs) (hv : vs[i]? = some v) (hK : K v h) :
    AOp P ⟨dst, .extract x i, ty, pos, after, guard⟩ K env h :=
  .of_pure _ (fun m w a _ ho => by
    have h1 := ho x (by simp [Op.operands])
    rw [hx] at h1
    obtain ⟨hi, hvi⟩ := Array.getElem?_eq_some_iff.1 hv
    obtain ⟨b, hb, hs, hc⟩ : ∃ b : Array Value, a.eval x = .tuple b ∧ vs.size = b.size ∧ ∀ i (h1 : i < vs.size) (h2 : i < b.size), VRel m h vs[i] b[i] := by
      generalize a.eval x = r at h1
      cases h1 with
      | prim hp => simp [isPrim] at hp
      | tuple hs hc => exact ⟨_, rfl, hs, hc⟩
    have hb' : b[i]? = some (b[i]'(by omega)) := Array.getElem?_eq_getElem _
    exact ⟨b[i]'(by omega), by simp [execOp, hb, Instr.extract, hb'], hvi ▸ hc i hi (by omega)⟩) hK

end
end Go.Am
