/-
  The abstract heap: lists of truth values that are copied; houses in turn. General: no program is named.
-/
import Derived.Test.YtnbpakikglpkcaaAmLib15
namespace Go.Am
set_option linter.unusedSimpArgs false
set_option linter.unusedVariables false
section
variable {P : Program} {K : Value → AHeap → Prop} {env : Env} {h : AHeap} {dst : Option Tmp} {ty : TypeId} {pos : String} {after : Array Edge} {guard : Option (Nat × Bool)}
theorem o_lenV {t e : TypeId} {x : Operand} {k n : Nat} {us : List Value} (hu : P.underlying t = some (.slice e)) (hx : aeval env x = sl k n) (ho : h[k]? = some (vls us)) (hn : us.length = n) (hK : K (i64 n) h) :
    AOp P ⟨dst, .call { callee := .builtin .len, args := #[x], argTypes := #[t] }, ty, pos, after, guard⟩ K env h :=
  aop_len hu hx (fun ad ha => by cases ha; exact ⟨k, 0, n, vls us, rfl, ho, hn⟩) hK
end
end Go.Am
