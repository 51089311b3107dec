/-
  The abstract heap: lists that are built place by place, and the plain laws of the chapters. General: no program is named.
-/
import Derived.Test.YtejlkmepnamodaaAmLib
import Derived.Test.YtejlkmepnamodaaAmSink2
namespace Go.Am
set_option linter.unusedSimpArgs false
set_option linter.unusedVariables false

/-! ## Lists that are built -/
theorem map_len {f : Nat → Int} {s : Nat} : ((List.range s).map f).length = s := by simp
theorem map_get {f : Nat → Int} {s n : Nat} (h : s < n) : ((List.range n).map f).getD s 0 = f s := by
  rw [List.getD_eq_getElem?_getD, List.getElem?_map, List.getElem?_range h]; rfl

theorem Grown.eq {h h' g : AHeap} (p : Grown h h') (e : g = h) : Grown g h' := by subst e; exact p

/-! ## A nil slice in a variable, seen as an empty list -/
/-! ## Functions with a result that may fail -/
theorem within_nilb {n : Nat} : Within n (.tuple #[.slice none 0 0, .bool false]) := within_tup2 (.prim rfl) (.prim rfl)
theorem within_nilw {n : Nat} : Within n (.tuple #[.agg #[i64 0, .slice none 0 0], .bool false]) := within_tup2 (.agg2 (.prim rfl) (.prim rfl)) (.prim rfl)
section
variable {P : Program} {K : Value → AHeap → Prop} {env : Env} {h : AHeap} {dst : Option Tmp} {ty : TypeId} {pos : String} {after : Array Edge} {guard : Option (Nat × Bool)}
theorem o_makeZ {t e : TypeId} {x y : Operand} {b : Nat} {l : Int} {k1 k2 : IntKind} (hu : P.underlying t = some (.slice e)) (hi : InfoIs P e (i64 0) 1 b)
    (hx : aeval env x = .int k1 l) (hy : aeval env y = .int k2 l) (hb : 0 ≤ l ∧ b * l ≤ 281474976710656) (h63 : l ≤ 9223372036854775807)
    (hK : ∀ k, k = h.length → K (sl k l.toNat) (h ++ [lst (List.replicate l.toNat 0)])) : AOp P ⟨dst, .makeSlice t x y, ty, pos, after, guard⟩ K env h := by
  obtain ⟨n, rfl⟩ := Int.eq_ofNat_of_zero_le hb.1
  have h1 : ((n : Int)).toNat = n := Int.toNat_natCast n
  rw [h1] at hK
  have e1 : (b : Int) * (n : Int) = ((b * n : Nat) : Int) := (Int.natCast_mul b n).symm
  have e2 := hb.2
  rw [e1] at e2
  exact o_makeI hu hi hx hy (by omega) (by omega) hK
end

theorem ints_nil {h : AHeap} : Ints h (.slice none 0 0) [] := .inl ⟨rfl, rfl⟩
section
variable {P : Program} {K : Value → AHeap → Prop} {env : Env} {h : AHeap} {dst : Option Tmp} {ty : TypeId} {pos : String} {after : Array Edge} {guard : Option (Nat × Bool)}
end

section
variable {P : Program} {K : Value → AHeap → Prop} {env : Env} {h : AHeap} {dst : Option Tmp} {ty : TypeId} {pos : String} {after : Array Edge} {guard : Option (Nat × Bool)}
end
section
variable {P : Program} {ops : Array Oper} {KE : Env → AHeap → Prop} {os : List Oper} {env : Env} {h : AHeap} {d : Option Tmp} {ty : TypeId} {pos : String} {af : Array Edge} {g : Option (Nat × Bool)}
end

/-! ## Coalitions -/
theorem one2 {p : Int} {v : Value} (h : oneCellA v = true) : (Value.agg #[i64 p, v]).cells.toList.all oneCellA = true := by
  show (oneCellA (i64 p) && (oneCellA v && true)) = true
  rw [h]; rfl
theorem Ints.one {h : AHeap} {v : Value} {xs : List Int} (hv : Ints h v xs) : oneCellA v = true := by
  rcases hv with ⟨rfl, _⟩ | ⟨k, off, ver, cap, o, rfl, _⟩ <;> rfl
end Go.Am
