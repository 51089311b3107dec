/-
  The abstract heap: the greatest and the least, and more plain laws of the chapters. General: no program is named.
-/
import Derived.Test.YtnbpakikglpkcaaAmLib2
import Derived.Laws.Small
namespace Go.Am
set_option linter.unusedSimpArgs false
set_option linter.unusedVariables false
section
variable {P : Program} {K : Value → AHeap → Prop} {env : Env} {h : AHeap} {dst : Option Tmp} {ty t : TypeId} {pos : String} {after : Array Edge} {guard : Option (Nat × Bool)} {x y : Operand} {p q : Int}
end

/-! ## Sets of players -/
/-! ## Lists of truth values of one's own -/
def lstB (bs : List Bool) : AObj := ⟨bs.map bo, true, 1⟩
section
variable {P : Program} {K : Value → AHeap → Prop} {env : Env} {h : AHeap} {dst : Option Tmp} {ty : TypeId} {pos : String} {after : Array Edge} {guard : Option (Nat × Bool)}
theorem o_makeB {t e : TypeId} {x y : Operand} {b : Nat} {l : Int} {k1 k2 : IntKind} (hu : P.underlying t = some (.slice e)) (hi : InfoIs P e (.bool false) 1 b)
    (hx : aeval env x = .int k1 l) (hy : aeval env y = .int k2 l) (hb : 0 ≤ l ∧ b * l ≤ 281474976710656) (h63 : l ≤ 9223372036854775807)
    (hK : ∀ k, k = h.length → K (sl k l.toNat) (h ++ [lstB (List.replicate l.toNat false)])) : AOp P ⟨dst, .makeSlice t x y, ty, pos, after, guard⟩ K env h := by
  refine o_make hu hi rfl rfl hx hy hb.1 (Int.le_refl _) hb.2 h63 ?_
  have := hK _ rfl
  simpa [lstB] using this
theorem o_indexB {t e : TypeId} {x y : Operand} {b k n : Nat} {bs : List Bool} {kd : IntKind} {i : Int} {z : Value} (hu : P.underlying t = some (.slice e)) (hi : InfoIs P e z 1 b)
    (hx : aeval env x = sl k n) (ho : h[k]? = some (lstB bs)) (hn : bs.length = n) (hy : aeval env y = .int kd i) (h0 : 0 ≤ i) (hlt : i < n) (hK : ∀ p, IsElem (sl k n) i.toNat p → K p h) : AOp P ⟨dst, .indexAddr t x y, ty, pos, after, guard⟩ K env h := by
  obtain ⟨inf, g1, _, g3, _⟩ := hi.get
  refine aop_indexAddr hu g1 (by rw [g3]; rfl) hx ho (by simp [lstB, hn]) hy h0 hlt (by show 0 < 1; decide) ?_
  refine hK _ ?_
  show _ = _
  simp [lstB]
theorem o_loadB {t : TypeId} {x : Operand} {p : Value} {dd : TypeDesc} {k n i : Nat} {bs : List Bool} (hu : P.underlying t = some dd) (hd : aggD dd = false) (hx : aeval env x = p) (hp : IsElem (sl k n) i p) (ho : h[k]? = some (lstB bs)) (hn : bs.length = n) (hlt : i < n)
    (ht : bs.getD i false = true → K (.bool true) h) (hf : bs.getD i false = false → K (.bool false) h) : AOp P ⟨dst, .load t x, ty, pos, after, guard⟩ K env h := by
  have hp' : p = .pointer (some ⟨k, 0 + i, some n⟩) := hp
  refine aop_load (v := .bool (bs.getD i false)) hu hd (hx.trans hp') ho (by simp [lstB, hn]) ?_ (k_split ht hf)
  rw [Nat.zero_add]
  simp only [lstB, List.getElem?_map, List.getElem?_eq_getElem (show i < bs.length by omega), List.getD_eq_getElem?_getD, Option.map_some, Option.getD_some]
theorem o_storeB {t : TypeId} {x y : Operand} {b k n i : Nat} {z : Value} {bs : List Bool} {p : Value} {q : Bool} {h' : AHeap} (hi : InfoIs P t z 1 b) (hx : aeval env x = p) (hp : IsElem (sl k n) i p)
    (ho : h[k]? = some (lstB bs)) (hn : bs.length = n) (hlt : i < n) (hy : aeval env y = .bool q) (hs : h.set k (lstB (bs.set i q)) = h') (hK : K undef h') : AOp P ⟨dst, .store t x y, ty, pos, after, guard⟩ K env h := by
  subst hn
  have hp' : p = .pointer (some ⟨k, 0 + i, some bs.length⟩) := hp
  refine o_store hi (hx.trans hp') ho (by simp [lstB]) rfl hy (by simpa using hlt) rfl ?_
  subst hs
  simpa [lstB, List.map_set] using hK
end
/-- Who has been seen. -/
def seenB (n : Nat) (l : List Int) : List Bool := (List.range n).map fun (j : Nat) => l.contains (j : Int)
theorem seenB_len {n : Nat} {l : List Int} : (seenB n l).length = n := by simp [seenB]
theorem seenB_nil {n : Nat} : List.replicate n false = seenB n [] := by
  apply List.ext_getElem
  · simp [seenB]
  · intro i h1 h2; simp [seenB]
theorem seenB_get {n : Nat} {l : List Int} {x : Int} (h : 0 ≤ x ∧ x < n) : (seenB n l).getD x.toNat false = l.contains x := by
  rw [List.getD_eq_getElem?_getD, seenB, List.getElem?_map, List.getElem?_range (by omega)]
  simp only [Option.map_some, Option.getD_some, Int.toNat_of_nonneg h.1]
theorem seenB_set {n : Nat} {l : List Int} {x : Int} (h : 0 ≤ x ∧ x < n) : (seenB n l).set x.toNat true = seenB n (l ++ [x]) := by
  apply List.ext_getElem
  · simp [seenB]
  · intro i h1 h2
    simp only [seenB, List.length_set, List.length_map, List.length_range] at h1
    rw [List.getElem_set]
    split
    · rename_i e
      simp only [seenB, List.getElem_map, List.getElem_range, List.contains_append]
      have : (i : Int) = x := by omega
      rw [this]; simp
    · rename_i e
      simp only [seenB, List.getElem_map, List.getElem_range, List.contains_append]
      have : ¬ (i : Int) = x := by omega
      have h3 : List.contains [x] (i : Int) = false := by simp [this]
      rw [h3, Bool.or_false]
/-- All numbers below the length, each once. -/
def permB (xs : List Int) (n : Nat) : Bool := (List.range n).all fun s => decide (0 ≤ xs.getD s 0 ∧ xs.getD s 0 ≤ (xs.length : Int) - 1) && !(xs.take s).contains (xs.getD s 0)
theorem permB_step {xs : List Int} {s : Nat} : permB xs (s + 1) = (permB xs s && (decide (0 ≤ xs.getD s 0 ∧ xs.getD s 0 ≤ (xs.length : Int) - 1) && !(xs.take s).contains (xs.getD s 0))) := by
  rw [permB, List.range_succ, List.all_append]; simp [permB]
theorem permB_no {xs : List Int} {s n : Nat} (hs : s < n) (h : (decide (0 ≤ xs.getD s 0 ∧ xs.getD s 0 ≤ (xs.length : Int) - 1) && !(xs.take s).contains (xs.getD s 0)) = false) : permB xs n = false := by
  rw [permB, List.all_eq_false]
  exact ⟨s, List.mem_range.2 hs, by simp only [h]; decide⟩
theorem take_app {xs : List Int} {s : Nat} (h : s < xs.length) : xs.take s ++ [xs.getD s 0] = xs.take (s + 1) := by
  rw [List.take_succ_eq_append_getElem h, getD_at h]

/-! ## Parts of things -/
/-! ## Shares by all orders -/
section
variable {P : Program} {K : Value → AHeap → Prop} {env : Env} {h : AHeap} {dst : Option Tmp} {ty t yt : TypeId} {pos : String} {after : Array Edge} {guard : Option (Nat × Bool)} {x y : Operand} {p q : Int} {k ky : IntKind}
theorem o_convW {src d : TypeId} {kd : IntKind} {sd : TypeDesc} (hs : P.underlying src = some sd) (hd : P.underlying d = some (.int kd)) (hx : aeval env x = .int k p) (hK : K (.int kd (kd.wrap p)) h) :
    AOp P ⟨dst, .convert src d x, ty, pos, after, guard⟩ K env h := aop_conv_int hs hd hx hK
end
/-- How many players a set has. -/
def popR : Nat → Nat → Nat
  | 0, _ => 0
  | f + 1, s => s % 2 + popR f (s / 2)
def pop (s : Nat) : Nat := popR 7 s
/-! ## Worths by costs and by votes -/
theorem ints_cells {h : AHeap} {v : Value} {xs : List Int} (hv : Ints h v xs) : v.cells.toList = [v] := by
  rcases hv with ⟨rfl, _⟩ | ⟨k, off, ver, cap, o, rfl, _⟩ <;> rfl
/-! ## Complaints -/
theorem awp_constF {P : Program} {n : Nat} {Q : Exit → Env → AHeap → Prop} {env : Env} {h : AHeap} {x y : Code} (hx : AWp P n y Q env h) : AWp P n (.cond (.const (.bool false)) x y) Q env h :=
  fun m w a hr he => wp_cond (t := false) (by simp [Act.eval]) (hx m w a hr he)

/-! ## Parts of things, more -/
end Go.Am
