/-
  The abstract heap: numbers in single and double precision: what the operations give where no answer is open. General: no program is named.
-/
import Derived.Test.YtejlkmepnamodaaAmLib24
import Derived.Laws.FloatArith
namespace Go.Am
set_option linter.unusedSimpArgs false
set_option linter.unusedVariables false
open Ieee

/-! ## Operations -/
abbrev fl (x : Nat) : Value := .float .f32 x
abbrev fd (x : Nat) : Value := .float .f64 x
def fcmp (op : BinOp) (k : FloatKind) (x y : Nat) : Option Bool :=
  match op with
  | .eql => some (k.format.order x y == some .eq)
  | .neq => some (k.format.order x y != some .eq)
  | .lss => some (k.format.order x y == some .lt)
  | .leq => some (k.format.order x y == some .lt || k.format.order x y == some .eq)
  | .gtr => some (k.format.order x y == some .gt)
  | .geq => some (k.format.order x y == some .gt || k.format.order x y == some .eq)
  | _ => none
theorem run_fcmp {P : Program} {w : World} {op : BinOp} {t : TypeId} {k : FloatKind} {x y : Nat} {b : Bool} (h : fcmp op k x y = some b) : (binOp op t (.float k x) (.float k y)).run P w = .ok (.bool b) w := by
  unfold fcmp at h
  cases op <;> simp only [reduceCtorEq, Option.some.injEq] at h <;> subst h <;> simp [binOp, Op.floatCmp]
theorem VRel.float {m : Map} {h : AHeap} {k : FloatKind} {x : Nat} {r : Value} (v : VRel m h (.float k x) r) : r = .float k x := by cases v; rfl

section
variable {P : Program} {K : Value → AHeap → Prop} {env : Env} {h : AHeap} {dst : Option Tmp} {ty : TypeId} {pos : String} {after : Array Edge} {guard : Option (Nat × Bool)}
theorem o_fcmp {op : BinOp} {t yt : TypeId} {x y : Operand} {k : FloatKind} {p q : Nat} {b : Bool} (hx : aeval env x = .float k p) (hy : aeval env y = .float k q) (hb : fcmp op k p q = some b)
    (ht : b = true → K (.bool true) h) (hf : b = false → K (.bool false) h) : AOp P ⟨dst, .binOp op t x y yt, ty, pos, after, guard⟩ K env h :=
  .of_pure (.bool b) (fun m w a _ ho => by
    have h1 := ho x (by simp [Op.operands])
    have h2 := ho y (by simp [Op.operands])
    rw [hx] at h1; rw [hy] at h2
    refine ⟨.bool b, ?_, .prim rfl⟩
    simp [execOp, h1.float, h2.float, eqGuard_at_float, run_fcmp hb]) (by cases b; exact hf rfl; exact ht rfl)
theorem o_fbin {op : BinOp} {t yt : TypeId} {x y : Operand} {k : FloatKind} {p q r : Nat} (hx : aeval env x = .float k p) (hy : aeval env y = .float k q) (hb : floatBits op k p q = some r)
    (hK : K (.float k r) h) : AOp P ⟨dst, .binOp op t x y yt, ty, pos, after, guard⟩ K env h :=
  .of_pure (.float k r) (fun m w a _ ho => by
    have h1 := ho x (by simp [Op.operands])
    have h2 := ho y (by simp [Op.operands])
    rw [hx] at h1; rw [hy] at h2
    refine ⟨.float k r, ?_, .prim rfl⟩
    simp [execOp, h1.float, h2.float, eqGuard_at_float, run_float_arith w op t k p q r hb]) hK
theorem o_convIF {src d : TypeId} {x : Operand} {k : IntKind} {kf : FloatKind} {p : Int} {sd : TypeDesc} (hs : P.underlying src = some sd) (hd : P.underlying d = some (.float kf))
    (hx : aeval env x = .int k p) (hK : K (.float kf (kf.nearest p)) h) : AOp P ⟨dst, .convert src d x, ty, pos, after, guard⟩ K env h :=
  .of_pure (.float kf (kf.nearest p)) (fun m w a _ ho => by
    have h1 := ho x (by simp [Op.operands])
    rw [hx] at h1
    exact ⟨.float kf (kf.nearest p), by
      have e := run_convert_int_float w src d k kf p (by rw [hs]; rfl) hd
      simp [execOp, h1.int, e, floatOfInt], .prim rfl⟩) hK
theorem o_convFF {src d : TypeId} {x : Operand} {s k : FloatKind} {p r : Nat} {sd : TypeDesc} (hs : P.underlying src = some sd) (hd : P.underlying d = some (.float k))
    (hx : aeval env x = .float s p) (hr : floatToFloatBits s p k = some r) (hK : K (.float k r) h) : AOp P ⟨dst, .convert src d x, ty, pos, after, guard⟩ K env h :=
  .of_pure (.float k r) (fun m w a _ ho => by
    have h1 := ho x (by simp [Op.operands])
    rw [hx] at h1
    exact ⟨.float k r, by
      have e := run_convert_float_float w src d s k p r (by rw [hs]; rfl) hd hr
      simp [execOp, h1.float, e], .prim rfl⟩) hK
def fmaxB (k : FloatKind) (x y : Nat) : Option Nat :=
  match k.format.order x y with
  | none => none
  | some .lt => some y
  | some .gt => some x
  | some .eq => some (if (k.decode x).neg then y else x)
def fminB (k : FloatKind) (x y : Nat) : Option Nat :=
  match k.format.order x y with
  | none => none
  | some .lt => some x
  | some .gt => some y
  | some .eq => some (if (k.decode x).neg then x else y)
theorem o_fmax {ts : Array TypeId} {x y : Operand} {k : FloatKind} {p q r : Nat} (hx : aeval env x = .float k p) (hy : aeval env y = .float k q) (hr : fmaxB k p q = some r) (hK : K (.float k r) h) :
    AOp P ⟨dst, .call { callee := .builtin .max, args := #[x, y], argTypes := ts }, ty, pos, after, guard⟩ K env h :=
  .of_pure (.float k r) (fun m w a _ ho => by
    have h1 := ho x (by simp [Op.operands, Call.operands])
    have h2 := ho y (by simp [Op.operands, Call.operands])
    rw [hx] at h1; rw [hy] at h2
    refine ⟨.float k r, ?_, .prim rfl⟩
    unfold fmaxB at hr
    split at hr
    · cases hr
    all_goals (rename_i ho; cases hr; simp [execOp, resolve, invoke, builtin, h1.float, h2.float, Builtin.max_, Builtin.max2, ho])) hK
theorem o_fmin {ts : Array TypeId} {x y : Operand} {k : FloatKind} {p q r : Nat} (hx : aeval env x = .float k p) (hy : aeval env y = .float k q) (hr : fminB k p q = some r) (hK : K (.float k r) h) :
    AOp P ⟨dst, .call { callee := .builtin .min, args := #[x, y], argTypes := ts }, ty, pos, after, guard⟩ K env h :=
  .of_pure (.float k r) (fun m w a _ ho => by
    have h1 := ho x (by simp [Op.operands, Call.operands])
    have h2 := ho y (by simp [Op.operands, Call.operands])
    rw [hx] at h1; rw [hy] at h2
    refine ⟨.float k r, ?_, .prim rfl⟩
    unfold fminB at hr
    split at hr
    · cases hr
    all_goals (rename_i ho; cases hr; simp [execOp, resolve, invoke, builtin, h1.float, h2.float, Builtin.min_, Builtin.min2, ho])) hK
end
section
variable {P : Program} {ops : Array Oper} {KE : Env → AHeap → Prop} {os : List Oper} {env : Env} {h : AHeap} {d : Option Tmp} {ty : TypeId} {pos : String} {af : Array Edge} {g : Option (Nat × Bool)}
end
end Go.Am
