/-
  The abstract heap: plain laws of all ways to give things. General: no program is named.
-/
import Derived.Test.YtnfefjofojmokaaAmLib6
namespace Go.Am
set_option linter.unusedSimpArgs false
set_option linter.unusedVariables false

/-- The next owners: from place k downwards. -/
def incK (p : Int) : List Int → Nat → List Int × Bool
  | l, 0 => (l, true)
  | l, k + 1 => if l.getD k 0 + 1 < p then (l.set k (l.getD k 0 + 1), false) else incK p (l.set k 0) k
/-- The n-th owners. -/
def ownN (p : Int) (q : Nat) : Nat → List Int
  | 0 => List.replicate q 0
  | n + 1 => (incK p (ownN p q n) q).1
end Go.Am
