/-
  The abstract heap: lists of lists that are appended to; copies of empty lists. General: no program is named.
-/
import Derived.Test.YtnfefjofojmokaaAmLib17
namespace Go.Am
set_option linter.unusedSimpArgs false
set_option linter.unusedVariables false

section
variable {P : Program} {K : Value → AHeap → Prop} {env : Env} {h : AHeap} {dst : Option Tmp} {ty : TypeId} {pos : String} {after : Array Edge} {guard : Option (Nat × Bool)}
end

/-! ## Lists of lists whose rows lie anywhere -/
def rvals (r : Nat → Nat) (xss : List (List Int)) (s : Nat) : List Value := (List.range s).map fun i => sl (r i) (rowAt xss i).length
structure OwnS (b : Nat) (H : AHeap) (kO : Nat) (xss : List (List Int)) (s : Nat) (r : Nat → Nat) : Prop where
  out : H[kO]? = some (vls (rvals r xss s))
  low : b ≤ kO
  row : ∀ i, i < s → b ≤ r i ∧ r i ≠ kO ∧ H[r i]? = some (lst (rowAt xss i))
  inj : ∀ i j, i < s → j < s → r i = r j → i = j
section
variable {P : Program} {K : Value → AHeap → Prop} {env : Env} {h : AHeap} {dst : Option Tmp} {ty : TypeId} {pos : String} {after : Array Edge} {guard : Option (Nat × Bool)}
end

/-! ## Results with lists of lists, or none -/
def OptG (ok : Bool) (V : Nat → Value) (gs : Nat → List AObj) (N : Value) (h : AHeap) (v : Value) (h' : AHeap) : Prop :=
  (ok = true ∧ ∃ g0 g1 k, h' = h ++ g0 ++ gs k ++ g1 ∧ k = h.length + g0.length ∧ v = V k) ∨ (ok = false ∧ v = N ∧ Grown h h')
def RetOG (P : Program) (f : FuncId) (args : List Value) (h : AHeap) (ok : Bool) (V : Nat → Value) (gs : Nat → List AObj) (N : Value) : Prop :=
  (ok = true → RetG P f args h V gs) ∧ (ok = false → Ret P f args h N h)
/-! ## Marks of two lists of lists -/
end Go.Am
