/-
  The abstract heap: plain laws of taking things in turn; lists of one number. General: no program is named.
-/
import Derived.Test.YtnbpakikglpkcaaAmLib10
import Derived.Test.YtnbpakikglpkcaaAmCopy
namespace Go.Am
set_option linter.unusedSimpArgs false
set_option linter.unusedVariables false
/-! ## Lists of one number, made by copying -/
/-! ## Things in turn -/
theorem mod_lt {s n : Nat} (h : 1 ≤ n) : 0 ≤ (s : Int) % (n : Int) ∧ (s : Int) % (n : Int) < n := ⟨Int.emod_nonneg _ (by omega), Int.emod_lt_of_pos _ (by omega)⟩
section
variable {P : Program} {K : Value → AHeap → Prop} {env : Env} {h : AHeap} {dst : Option Tmp} {ty : TypeId} {pos : String} {after : Array Edge} {guard : Option (Nat × Bool)}
end
section
variable {P : Program} {ops : Array Oper} {KE : Env → AHeap → Prop} {os : List Oper} {env : Env} {h : AHeap} {d : Option Tmp} {ty : TypeId} {pos : String} {af : Array Edge} {g : Option (Nat × Bool)}
theorem d_sliceHiW {t e : TypeId} {x y2 : Operand} {v z : Value} {b : Nat} {xs : List Int} {k2 : IntKind} {r : Int} (hw : wantedA ops env ⟨d, .slice t x none (some y2) none, ty, pos, af, g⟩ = some true) (hu : P.underlying t = some (.slice e)) (hi : InfoIs P e z 1 b)
    (hx : aeval env x = v) (hv : Ints h v xs) (hy2 : aeval env y2 = .int k2 r) (h0 : 0 < xs.length) (hlr : 0 ≤ r) (hr : r ≤ xs.length)
    (hK : ∀ w, Ints h w (part xs 0 r.toNat) → DRun P ops KE os (env.put d w) h) : DRun P ops KE (⟨d, .slice t x none (some y2) none, ty, pos, af, g⟩ :: os) env h :=
  d_do hw (o_sliceHi hu hi hx hv hy2 h0 hlr hr ⟨rfl, rfl⟩) (hv.sub h0 (Nat.zero_le _) (by omega)).within (hK _ (hv.sub h0 (Nat.zero_le _) (by omega)))
end
end Go.Am
