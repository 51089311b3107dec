/-
  The abstract heap: plain laws of sets of houses that could do better; bytes of a text; calls of values in drawn regions. General: no program is named.
-/
import Derived.Test.YtejlkmepnamodaaAmLib23
namespace Go.Am
set_option linter.unusedSimpArgs false
set_option linter.unusedVariables false

section
variable {P : Program} {K : Value → AHeap → Prop} {env : Env} {h : AHeap} {dst : Option Tmp} {ty : TypeId} {pos : String} {after : Array Edge} {guard : Option (Nat × Bool)}
end
section
variable {P : Program} {ops : Array Oper} {KE : Env → AHeap → Prop} {os : List Oper} {env : Env} {h : AHeap} {d : Option Tmp} {ty : TypeId} {pos : String} {af : Array Edge} {g : Option (Nat × Bool)}
end

/-! ## Sets -/
/-! ## Places in whole lists -/
/-! ## Who could do better -/
structure Blk where
  xss : List (List Int)
  ms : List Int
  ls : List Int
def Blk.who (B : Blk) (m : Nat) : Int := B.ls.getD (B.ls.length - (m + 1)) 0
def Blk.row (B : Blk) (m : Nat) : List Int := rowAt B.xss (B.who m).toNat
def Blk.has (B : Blk) (m : Nat) : Int := B.ms.getD (B.who m).toNat 0
def Blk.own (B : Blk) (m : Nat) : Nat := (plc (B.row m) (B.has m)).toNat
def takeT (T : Nat) (h : Int) : Nat := T ||| 2 ^ h.toNat
structure OkB (B : Blk) (n : Nat) : Prop where
  hF : okH B.xss = true
  hn : B.xss.length = n
  hm : wishL n B.ms = true
  hml : B.ms.length = n
  hls : ∀ x ∈ B.ls, 0 ≤ x ∧ x < (n : Int)
def RelB (n : Nat) (ls : List Int) (T : Nat) (F : List Bool) : Prop := F.length = n ∧ ∀ x : Int, 0 ≤ x → x < (n : Int) → F.getD x.toNat false = (decide (x ∈ ls) && !T.testBit x.toNat)
theorem take_bit {T j : Nat} {h : Int} : (takeT T h).testBit j = (T.testBit j || decide (h.toNat = j)) := by
  rw [takeT, Nat.testBit_or, Nat.testBit_two_pow]
theorem RelB.take {n : Nat} {ls : List Int} {T : Nat} {F : List Bool} {h : Int} (r : RelB n ls T F) (hh : 0 ≤ h ∧ h < (n : Int)) : RelB n ls (takeT T h) (F.set h.toNat false) := by
  refine ⟨by rw [List.length_set]; exact r.1, fun x h0 h1 => ?_⟩
  rw [take_bit]
  by_cases e : h.toNat = x.toNat
  · rw [e, decide_eq_true rfl, List.getD_eq_getElem?_getD, List.getElem?_set_self (by rw [r.1]; omega)]
    simp
  · rw [getB_set e, r.2 x h0 h1, decide_eq_false e, Bool.or_false]
/-! ## The walks -/
/-! ## The first set -/
section
variable {P : Program} {K : Value → AHeap → Prop} {env : Env} {h : AHeap} {dst : Option Tmp} {ty : TypeId} {pos : String} {after : Array Edge} {guard : Option (Nat × Bool)}
end
section
variable {P : Program} {ops : Array Oper} {KE : Env → AHeap → Prop} {os : List Oper} {env : Env} {h : AHeap} {d : Option Tmp} {ty : TypeId} {pos : String} {af : Array Edge} {g : Option (Nat × Bool)}
theorem d_sliceIW {t e : TypeId} {x y1 y2 : Operand} {v z : Value} {b : Nat} {xs : List Int} {k1 k2 : IntKind} {l r : Int} (hw : wantedA ops env ⟨d, .slice t x (some y1) (some y2) none, ty, pos, af, g⟩ = some true) (hu : P.underlying t = some (.slice e)) (hi : InfoIs P e z 1 b)
    (hx : aeval env x = v) (hv : Ints h v xs) (hy1 : aeval env y1 = .int k1 l) (hy2 : aeval env y2 = .int k2 r) (h0 : 0 < xs.length) (hl : 0 ≤ l) (hlr : l ≤ r) (hr : r ≤ xs.length)
    (hK : ∀ w, Ints h w (part xs l.toNat r.toNat) → DRun P ops KE os (env.put d w) h) : DRun P ops KE (⟨d, .slice t x (some y1) (some y2) none, ty, pos, af, g⟩ :: os) env h :=
  d_do hw (o_sliceI hu hi hx hv hy1 hy2 h0 hl hlr hr ⟨rfl, rfl⟩) (hv.sub h0 (by omega) (by omega)).within (hK _ (hv.sub h0 (by omega) (by omega)))
end
end Go.Am
