/-
  The abstract heap: lists that are built place by place, and the plain laws of the chapters. General: no program is named.
-/
import Derived.Test.YtnbpakikglpkcaaAmLib
import Derived.Test.YtnbpakikglpkcaaAmSink2
namespace Go.Am
set_option linter.unusedSimpArgs false
set_option linter.unusedVariables false

/-! ## Lists that are built -/
theorem map_len {f : Nat → Int} {s : Nat} : ((List.range s).map f).length = s := by simp
theorem map_get {f : Nat → Int} {s n : Nat} (h : s < n) : ((List.range n).map f).getD s 0 = f s := by
  rw [List.getD_eq_getElem?_getD, List.getElem?_map, List.getElem?_range h]; rfl

/-! ## A nil slice in a variable, seen as an empty list -/
/-! ## Functions with a result that may fail -/
def OptQ (ok : Bool) (V : Nat → Value) (o : AObj) (N : Value) (h : AHeap) (v : Value) (h' : AHeap) : Prop :=
  (ok = true ∧ ∃ k, v = V k ∧ Grown h h' ∧ h'[k]? = some o ∧ h.length ≤ k) ∨ (ok = false ∧ v = N ∧ Grown h h')
def RetO (P : Program) (f : FuncId) (args : List Value) (h : AHeap) (ok : Bool) (V : Nat → Value) (o : AObj) (N : Value) : Prop :=
  (ok = true → RetN P f args h V o) ∧ (ok = false → Ret P f args h N h)
theorem reto_of {P : Program} {f : FuncId} {args : List Value} {h : AHeap} {ok : Bool} {V : Nat → Value} {o : AObj} {N : Value} (hV : ∀ (s : Nat → Nat) (k : Nat), VRen s (V k) (V (s k))) (hW : Within (h.length + 1) (V h.length)) (ho : ∀ v ∈ o.cells, isPrim v = true)
    (hN : Within h.length N) (t : Tri P f args h (OptQ ok V o N h)) : RetO P f args h ok V o N :=
  ⟨fun e => ret1_of hV hW ho (t.mono fun v h' q => by
      rcases q with ⟨_, q⟩ | ⟨e2, _⟩
      · exact q
      · rw [e] at e2; cases e2),
   fun e => ret_of hN (t.mono fun v h' q => by
      rcases q with ⟨e2, _⟩ | ⟨_, q⟩
      · rw [e] at e2; cases e2
      · exact q)⟩
theorem within_nilb {n : Nat} : Within n (.tuple #[.slice none 0 0, .bool false]) := within_tup2 (.prim rfl) (.prim rfl)
theorem within_nilw {n : Nat} : Within n (.tuple #[.agg #[i64 0, .slice none 0 0], .bool false]) := within_tup2 (.agg2 (.prim rfl) (.prim rfl)) (.prim rfl)
/-- (list, true): a new list. -/
abbrev VL (n : Nat) (k : Nat) : Value := .tuple #[sl k n, .bool true]
abbrev NL : Value := .tuple #[.slice none 0 0, .bool false]
theorem retL_of {P : Program} {f : FuncId} {args : List Value} {h : AHeap} {ok : Bool} {n : Nat} {l : List Int} (t : Tri P f args h (OptQ ok (VL n) (lst l) NL h)) : RetO P f args h ok (VL n) (lst l) NL :=
  reto_of (fun _ _ => .tup2 .slice (.prim rfl)) (.tup2 (.slice (by omega)) (.prim rfl)) lst_prim within_nilb t
theorem held_upto {c : Int} {n : Nat} : held c (upto c n) = c + n := by rw [held, upto_len, if_pos rfl]

section
variable {P : Program} {K : Value → AHeap → Prop} {env : Env} {h : AHeap} {dst : Option Tmp} {ty : TypeId} {pos : String} {after : Array Edge} {guard : Option (Nat × Bool)}
theorem o_makeZ {t e : TypeId} {x y : Operand} {b : Nat} {l : Int} {k1 k2 : IntKind} (hu : P.underlying t = some (.slice e)) (hi : InfoIs P e (i64 0) 1 b)
    (hx : aeval env x = .int k1 l) (hy : aeval env y = .int k2 l) (hb : 0 ≤ l ∧ b * l ≤ 281474976710656) (h63 : l ≤ 9223372036854775807)
    (hK : ∀ k, k = h.length → K (sl k l.toNat) (h ++ [lst (List.replicate l.toNat 0)])) : AOp P ⟨dst, .makeSlice t x y, ty, pos, after, guard⟩ K env h := by
  obtain ⟨n, rfl⟩ := Int.eq_ofNat_of_zero_le hb.1
  have h1 : ((n : Int)).toNat = n := Int.toNat_natCast n
  rw [h1] at hK
  have e1 : (b : Int) * (n : Int) = ((b * n : Nat) : Int) := (Int.natCast_mul b n).symm
  have e2 := hb.2
  rw [e1] at e2
  exact o_makeI hu hi hx hy (by omega) (by omega) hK
end

theorem ints_nil {h : AHeap} : Ints h (.slice none 0 0) [] := .inl ⟨rfl, rfl⟩
section
variable {P : Program} {K : Value → AHeap → Prop} {env : Env} {h : AHeap} {dst : Option Tmp} {ty : TypeId} {pos : String} {after : Array Edge} {guard : Option (Nat × Bool)}
end

section
variable {P : Program} {K : Value → AHeap → Prop} {env : Env} {h : AHeap} {dst : Option Tmp} {ty : TypeId} {pos : String} {after : Array Edge} {guard : Option (Nat × Bool)}
end
section
variable {P : Program} {ops : Array Oper} {KE : Env → AHeap → Prop} {os : List Oper} {env : Env} {h : AHeap} {d : Option Tmp} {ty : TypeId} {pos : String} {af : Array Edge} {g : Option (Nat × Bool)}
end

/-! ## Coalitions -/
theorem within_func4 {n : Nat} {f : Fn} {a b c d : Value} (h1 : Within n a) (h2 : Within n b) (h3 : Within n c) (h4 : Within n d) : Within n (.func f #[] #[a, b, c, d]) := .func (fun i h => by simp at h) fun i h => by
  match i, h with
  | 0, _ => exact h1
  | 1, _ => exact h2
  | 2, _ => exact h3
  | 3, _ => exact h4
theorem Ints.one {h : AHeap} {v : Value} {xs : List Int} (hv : Ints h v xs) : oneCellA v = true := by
  rcases hv with ⟨rfl, _⟩ | ⟨k, off, ver, cap, o, rfl, _⟩ <;> rfl
end Go.Am
