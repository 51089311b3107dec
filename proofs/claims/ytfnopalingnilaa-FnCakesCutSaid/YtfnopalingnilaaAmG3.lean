/-
  The abstract heap: what this claim needs of it. General: no program is named.
-/
import Derived.Test.YtfnopalingnilaaAmG2
import Derived.Laws.Small
import Derived.Laws.IdiomCopy
import Derived.Laws.Entries
import Derived.Laws.FloatArith
import Derived.KernelRfl
namespace Go.Am
set_option linter.unusedSimpArgs false
set_option linter.unusedVariables false
section
variable {P : Program} {K : Value → AHeap → Prop} {env : Env} {h : AHeap} {dst : Option Tmp} {ty t : TypeId} {pos : String} {after : Array Edge} {guard : Option (Nat × Bool)} {x y : Operand} {p q : Int}
end

/-! ## Sets of players -/
/-! ## Lists of truth values of one's own -/
def lstB (bs : List Bool) : AObj := ⟨bs.map bo, true, 1⟩
section
variable {P : Program} {K : Value → AHeap → Prop} {env : Env} {h : AHeap} {dst : Option Tmp} {ty : TypeId} {pos : String} {after : Array Edge} {guard : Option (Nat × Bool)}
theorem o_makeB {t e : TypeId} {x y : Operand} {b : Nat} {l : Int} {k1 k2 : IntKind} (hu : P.underlying t = some (.slice e)) (hi : InfoIs P e (.bool false) 1 b)
    (hx : aeval env x = .int k1 l) (hy : aeval env y = .int k2 l) (hb : 0 ≤ l ∧ b * l ≤ 281474976710656) (h63 : l ≤ 9223372036854775807)
    (hK : ∀ k, k = h.length → K (sl k l.toNat) (h ++ [lstB (List.replicate l.toNat false)])) : AOp P ⟨dst, .makeSlice t x y, ty, pos, after, guard⟩ K env h := by
  refine o_make hu hi rfl rfl hx hy hb.1 (Int.le_refl _) hb.2 h63 ?_
  have := hK _ rfl
  simpa [lstB] using this
theorem o_indexB {t e : TypeId} {x y : Operand} {b k n : Nat} {bs : List Bool} {kd : IntKind} {i : Int} {z : Value} (hu : P.underlying t = some (.slice e)) (hi : InfoIs P e z 1 b)
    (hx : aeval env x = sl k n) (ho : h[k]? = some (lstB bs)) (hn : bs.length = n) (hy : aeval env y = .int kd i) (h0 : 0 ≤ i) (hlt : i < n) (hK : ∀ p, IsElem (sl k n) i.toNat p → K p h) : AOp P ⟨dst, .indexAddr t x y, ty, pos, after, guard⟩ K env h := by
  obtain ⟨inf, g1, _, g3, _⟩ := hi.get
  refine aop_indexAddr hu g1 (by rw [g3]; rfl) hx ho (by simp [lstB, hn]) hy h0 hlt (by show 0 < 1; decide) ?_
  refine hK _ ?_
  show _ = _
  simp [lstB]
theorem o_loadB {t : TypeId} {x : Operand} {p : Value} {dd : TypeDesc} {k n i : Nat} {bs : List Bool} (hu : P.underlying t = some dd) (hd : aggD dd = false) (hx : aeval env x = p) (hp : IsElem (sl k n) i p) (ho : h[k]? = some (lstB bs)) (hn : bs.length = n) (hlt : i < n)
    (ht : bs.getD i false = true → K (.bool true) h) (hf : bs.getD i false = false → K (.bool false) h) : AOp P ⟨dst, .load t x, ty, pos, after, guard⟩ K env h := by
  have hp' : p = .pointer (some ⟨k, 0 + i, some n⟩) := hp
  refine aop_load (v := .bool (bs.getD i false)) hu hd (hx.trans hp') ho (by simp [lstB, hn]) ?_ (k_split ht hf)
  rw [Nat.zero_add]
  simp only [lstB, List.getElem?_map, List.getElem?_eq_getElem (show i < bs.length by omega), List.getD_eq_getElem?_getD, Option.map_some, Option.getD_some]
theorem o_storeB {t : TypeId} {x y : Operand} {b k n i : Nat} {z : Value} {bs : List Bool} {p : Value} {q : Bool} {h' : AHeap} (hi : InfoIs P t z 1 b) (hx : aeval env x = p) (hp : IsElem (sl k n) i p)
    (ho : h[k]? = some (lstB bs)) (hn : bs.length = n) (hlt : i < n) (hy : aeval env y = .bool q) (hs : h.set k (lstB (bs.set i q)) = h') (hK : K undef h') : AOp P ⟨dst, .store t x y, ty, pos, after, guard⟩ K env h := by
  subst hn
  have hp' : p = .pointer (some ⟨k, 0 + i, some bs.length⟩) := hp
  refine o_store hi (hx.trans hp') ho (by simp [lstB]) rfl hy (by simpa using hlt) rfl ?_
  subst hs
  simpa [lstB, List.map_set] using hK
end
/-- Who has been seen. -/
def seenB (n : Nat) (l : List Int) : List Bool := (List.range n).map fun (j : Nat) => l.contains (j : Int)
theorem seenB_len {n : Nat} {l : List Int} : (seenB n l).length = n := by simp [seenB]
theorem seenB_nil {n : Nat} : List.replicate n false = seenB n [] := by
  apply List.ext_getElem
  · simp [seenB]
  · intro i h1 h2; simp [seenB]
theorem seenB_get {n : Nat} {l : List Int} {x : Int} (h : 0 ≤ x ∧ x < n) : (seenB n l).getD x.toNat false = l.contains x := by
  rw [List.getD_eq_getElem?_getD, seenB, List.getElem?_map, List.getElem?_range (by omega)]
  simp only [Option.map_some, Option.getD_some, Int.toNat_of_nonneg h.1]
theorem seenB_set {n : Nat} {l : List Int} {x : Int} (h : 0 ≤ x ∧ x < n) : (seenB n l).set x.toNat true = seenB n (l ++ [x]) := by
  apply List.ext_getElem
  · simp [seenB]
  · intro i h1 h2
    simp only [seenB, List.length_set, List.length_map, List.length_range] at h1
    rw [List.getElem_set]
    split
    · rename_i e
      simp only [seenB, List.getElem_map, List.getElem_range, List.contains_append]
      have : (i : Int) = x := by omega
      rw [this]; simp
    · rename_i e
      simp only [seenB, List.getElem_map, List.getElem_range, List.contains_append]
      have : ¬ (i : Int) = x := by omega
      have h3 : List.contains [x] (i : Int) = false := by simp [this]
      rw [h3, Bool.or_false]
/-- All numbers below the length, each once. -/
def permB (xs : List Int) (n : Nat) : Bool := (List.range n).all fun s => decide (0 ≤ xs.getD s 0 ∧ xs.getD s 0 ≤ (xs.length : Int) - 1) && !(xs.take s).contains (xs.getD s 0)
theorem permB_step {xs : List Int} {s : Nat} : permB xs (s + 1) = (permB xs s && (decide (0 ≤ xs.getD s 0 ∧ xs.getD s 0 ≤ (xs.length : Int) - 1) && !(xs.take s).contains (xs.getD s 0))) := by
  rw [permB, List.range_succ, List.all_append]; simp [permB]
theorem permB_no {xs : List Int} {s n : Nat} (hs : s < n) (h : (decide (0 ≤ xs.getD s 0 ∧ xs.getD s 0 ≤ (xs.length : Int) - 1) && !(xs.take s).contains (xs.getD s 0)) = false) : permB xs n = false := by
  rw [permB, List.all_eq_false]
  exact ⟨s, List.mem_range.2 hs, by simp only [h]; decide⟩
theorem permB_get {xs : List Int} {n s : Nat} (h : permB xs n = true) (hs : s < n) : (0 ≤ xs.getD s 0 ∧ xs.getD s 0 ≤ (xs.length : Int) - 1) ∧ (xs.take s).contains (xs.getD s 0) = false := by
  have := List.all_eq_true.1 h s (List.mem_range.2 hs)
  simp only [Bool.and_eq_true, decide_eq_true_eq, Bool.not_eq_true'] at this
  exact this
theorem take_app {xs : List Int} {s : Nat} (h : s < xs.length) : xs.take s ++ [xs.getD s 0] = xs.take (s + 1) := by
  rw [List.take_succ_eq_append_getElem h, getD_at h]

/-! ## Parts of things -/
/-! ## Shares by all orders -/
section
variable {P : Program} {K : Value → AHeap → Prop} {env : Env} {h : AHeap} {dst : Option Tmp} {ty t yt : TypeId} {pos : String} {after : Array Edge} {guard : Option (Nat × Bool)} {x y : Operand} {p q : Int} {k ky : IntKind}
theorem o_shrG (hx : aeval env x = .int k p) (hy : aeval env y = .int ky q) (h0 : 0 ≤ q) (hK : K (.int k (p.fdiv (2 ^ (min q.toNat k.bits)))) h) : AOp P ⟨dst, .binOp .shr t x y yt, ty, pos, after, guard⟩ K env h :=
  aop_shift hx hy h0 (.inr ⟨rfl, rfl⟩) hK
theorem o_convW {src d : TypeId} {kd : IntKind} {sd : TypeDesc} (hs : P.underlying src = some sd) (hd : P.underlying d = some (.int kd)) (hx : aeval env x = .int k p) (hK : K (.int kd (kd.wrap p)) h) :
    AOp P ⟨dst, .convert src d x, ty, pos, after, guard⟩ K env h := aop_conv_int hs hd hx hK
end
/-- How many players a set has. -/
def popR : Nat → Nat → Nat
  | 0, _ => 0
  | f + 1, s => s % 2 + popR f (s / 2)
def pop (s : Nat) : Nat := popR 7 s
/-! ## Worths by costs and by votes -/
theorem ints_cells {h : AHeap} {v : Value} {xs : List Int} (hv : Ints h v xs) : v.cells.toList = [v] := by
  rcases hv with ⟨rfl, _⟩ | ⟨k, off, ver, cap, o, rfl, _⟩ <;> rfl
theorem mapR_isW {f : Nat → Int} {p : Int} (hp : 1 ≤ p ∧ p ≤ 6) (h0 : f 0 = 0) (hb : ∀ s, -10000 ≤ f s ∧ f s ≤ 10000) : isW 10000 p (mapR f p) = true := by
  obtain ⟨e, h2, h3⟩ := pow_nat hp
  refine (isW_yes (decide_eq_true hp) ?_ ?_ ?_).symm
  · rw [mapR_len]; exact e
  · rw [mapR, map_get (by omega)]; exact h0
  · refine List.all_eq_true.2 fun x hx => ?_
    simp only [mapR, List.mem_map] at hx
    obtain ⟨s, _, rfl⟩ := hx
    exact decide_eq_true (hb s)
def atF (l : List Int) (s : Nat) : Int := l.getD s 0
/-! ## Complaints -/
/-! ## Parts of things, more -/
end Go.Am

namespace Go.Am
set_option linter.unusedSimpArgs false
set_option linter.unusedVariables false

/-! ## Even shares -/
theorem part_get {xs : List Int} {l r k : Nat} (hk : k < r - l) : (part xs l r).getD k 0 = xs.getD (l + k) 0 := by
  rw [part, List.getD_eq_getElem?_getD, List.getD_eq_getElem?_getD, List.getElem?_take_of_lt hk, List.getElem?_drop]
/-! ## The greatest of a list -/
/-! ## Rents -/
theorem has_step {ys : List Int} {s : Nat} {x : Int} (hs : s < ys.length) (h : (ys.take s).contains x = false) (c : ¬ ys.getD s 0 = x) : (ys.take (s + 1)).contains x = false := by
  rw [← take_app hs, List.contains_append, h]
  generalize ys.getD s 0 = y at c
  have : ¬ x = y := fun e => c e.symm
  simp [this]
theorem has_yes {ys : List Int} {s : Nat} {x : Int} (hs : s < ys.length) (c : ys.getD s 0 = x) : ys.contains x = true := by
  rw [List.contains_iff_mem, ← c, getD_at hs]
  exact List.getElem_mem hs
theorem part_zero {xs : List Int} {s : Nat} : part xs 0 s = xs.take s := by simp [part]
end Go.Am

namespace Go.Am
set_option linter.unusedSimpArgs false
set_option linter.unusedVariables false

/-! ## Least winners -/
def cntL (n : Nat) : List Int := (List.range n).map fun (i : Nat) => (i : Int)
theorem cntL_len {n : Nat} : (cntL n).length = n := by simp [cntL]
theorem cntL_get {n k : Nat} (h : k < n) : (cntL n).getD k 0 = (k : Int) := map_get (f := fun (i : Nat) => (i : Int)) h
/-- The first place of which something holds, before n; -1 for none. -/
def idxTo (g : Int → Bool) (ys : List Int) : Nat → Int
  | 0 => -1
  | n + 1 => if 0 ≤ idxTo g ys n then idxTo g ys n else if g (ys.getD n 0) then (n : Int) else -1
theorem idxTo_none {g : Int → Bool} {ys : List Int} {s : Nat} (h : idxTo g ys s = -1) (hg : g (ys.getD s 0) = false) : idxTo g ys (s + 1) = -1 := by
  rw [idxTo, h, if_neg (by omega), if_neg (by rw [hg]; decide)]
theorem idxTo_some {g : Int → Bool} {ys : List Int} {s : Nat} (h : idxTo g ys s = -1) (hg : g (ys.getD s 0) = true) : ∀ n, s + 1 ≤ n → idxTo g ys n = (s : Int)
  | 0, hn => by omega
  | n + 1, hn => by
    by_cases e : n = s
    · subst e; rw [idxTo, h, if_neg (by omega), if_pos hg]
    · rw [idxTo, idxTo_some h hg n (by omega), if_pos (by omega)]
theorem idxTo_lt {g : Int → Bool} {ys : List Int} : ∀ n, (0 ≤ idxTo g ys n → ∃ k, k < n ∧ g (ys.getD k 0) = true ∧ idxTo g ys n = (k : Int)) ∧ (idxTo g ys n < 0 → ∀ k, k < n → g (ys.getD k 0) = false)
  | 0 => ⟨fun h => by simp [idxTo] at h, fun _ k hk => by omega⟩
  | n + 1 => by
    obtain ⟨h1, h2⟩ := idxTo_lt (g := g) (ys := ys) n
    rw [idxTo]
    by_cases h : 0 ≤ idxTo g ys n
    · rw [if_pos h]
      obtain ⟨k, hk, hg, he⟩ := h1 h
      exact ⟨fun _ => ⟨k, by omega, hg, he⟩, fun h9 => by omega⟩
    · rw [if_neg h]
      by_cases hg : g (ys.getD n 0) = true
      · rw [if_pos hg]
        exact ⟨fun _ => ⟨n, by omega, hg, rfl⟩, fun h9 => by omega⟩
      · rw [if_neg hg]
        refine ⟨fun h9 => by omega, fun _ k hk => ?_⟩
        by_cases e : k = n
        · subst e; simpa using hg
        · exact h2 (by omega) k (by omega)
end Go.Am

namespace Go.Am
set_option linter.unusedSimpArgs false
set_option linter.unusedVariables false

end Go.Am

namespace Go.Am
set_option linter.unusedSimpArgs false
set_option linter.unusedVariables false

theorem getD_set {l : List Int} {i k : Nat} {x : Int} (hi : i < l.length) : (l.set i x).getD k 0 = if i = k then x else l.getD k 0 := by
  rw [List.getD_eq_getElem?_getD, List.getD_eq_getElem?_getD, List.getElem?_set]
  split
  · rename_i e; subst e; simp [hi]
  · rfl
end Go.Am

namespace Go.Am
set_option linter.unusedSimpArgs false
set_option linter.unusedVariables false

/-! ## Ways between places -/
/-! ## The least part, more -/
end Go.Am

namespace Go.Am
set_option linter.unusedSimpArgs false
set_option linter.unusedVariables false

/-! ## Ways -/
/-! ## Joining -/
/-- What stands behind t ways. -/
structure JOk (J P t : Nat) : Prop where
  lt : J < 128
  sub : (J &&& P) = J
  zero : J.testBit 0 = true
  cnt : pop J = t + 1
/-- Truth values of a set. -/
def bitsB (n J : Nat) : List Bool := (List.range n).map fun i => J.testBit i
theorem bitsB_len {n J : Nat} : (bitsB n J).length = n := by simp [bitsB]
/-! ## A list without its first item -/
abbrev slT (k n : Nat) : Value := .slice (some ⟨k, 1, some (n + 1)⟩) n n
theorem Ints.tail {h : AHeap} {k n : Nat} {x : Int} {xs : List Int} (ho : h[k]? = some (lst (x :: xs))) (hn : xs.length = n) : Ints h (slT k n) xs := by
  subst hn
  exact .inr ⟨k, 1, xs.length + 1, xs.length, _, rfl, ho, by simp [lst], rfl, Nat.le_refl _, by omega, fun i z hz => by
    rw [Nat.add_comm]; simp [lst, hz]⟩
end Go.Am

namespace Go.Am
set_option linter.unusedSimpArgs false
set_option linter.unusedVariables false
section
variable {P : Program} {ops : Array Oper} {KE : Env → AHeap → Prop} {env : Env} {h : AHeap} {d : Option Tmp} {ty : TypeId} {pos : String} {af : Array Edge} {g : Option (Nat × Bool)} {os : List Oper}
end

/-! ## Weighed worths -/
end Go.Am

namespace Go.Am
set_option linter.unusedSimpArgs false
set_option linter.unusedVariables false
section
variable {P : Program} {K : Value → AHeap → Prop} {env : Env} {h : AHeap} {dst : Option Tmp} {ty : TypeId} {pos : String} {after : Array Edge} {guard : Option (Nat × Bool)}

end
end Go.Am

namespace Go.Am
set_option linter.unusedSimpArgs false
set_option linter.unusedVariables false
/-! ## Lists of one number, made by copying -/
/-! ## Things in turn -/
theorem mod_lt {s n : Nat} (h : 1 ≤ n) : 0 ≤ (s : Int) % (n : Int) ∧ (s : Int) % (n : Int) < n := ⟨Int.emod_nonneg _ (by omega), Int.emod_lt_of_pos _ (by omega)⟩
section
variable {P : Program} {K : Value → AHeap → Prop} {env : Env} {h : AHeap} {dst : Option Tmp} {ty : TypeId} {pos : String} {after : Array Edge} {guard : Option (Nat × Bool)}
end
section
variable {P : Program} {ops : Array Oper} {KE : Env → AHeap → Prop} {os : List Oper} {env : Env} {h : AHeap} {d : Option Tmp} {ty : TypeId} {pos : String} {af : Array Edge} {g : Option (Nat × Bool)}
theorem d_sliceHiW {t e : TypeId} {x y2 : Operand} {v z : Value} {b : Nat} {xs : List Int} {k2 : IntKind} {r : Int} (hw : wantedA ops env ⟨d, .slice t x none (some y2) none, ty, pos, af, g⟩ = some true) (hu : P.underlying t = some (.slice e)) (hi : InfoIs P e z 1 b)
    (hx : aeval env x = v) (hv : Ints h v xs) (hy2 : aeval env y2 = .int k2 r) (h0 : 0 < xs.length) (hlr : 0 ≤ r) (hr : r ≤ xs.length)
    (hK : ∀ w, Ints h w (part xs 0 r.toNat) → DRun P ops KE os (env.put d w) h) : DRun P ops KE (⟨d, .slice t x none (some y2) none, ty, pos, af, g⟩ :: os) env h :=
  d_do hw (o_sliceHi hu hi hx hv hy2 h0 hlr hr ⟨rfl, rfl⟩) (hv.sub h0 (Nat.zero_le _) (by omega)).within (hK _ (hv.sub h0 (Nat.zero_le _) (by omega)))
end
end Go.Am

namespace Go.Am
set_option linter.unusedSimpArgs false
set_option linter.unusedVariables false

/-- A slice value that reads as lists of integers. -/
def Lists (h : AHeap) (v : Value) (xss : List (List Int)) : Prop :=
  (v = .slice none 0 0 ∧ xss = []) ∨
  ∃ k off ver cap o, v = .slice (some ⟨k, off, some ver⟩) xss.length cap ∧ h[k]? = some o ∧ o.cells.length = ver ∧ o.esz = 1 ∧ xss.length ≤ cap ∧ off + cap = ver ∧
    ∀ (i : Nat) (xs : List Int), xss[i]? = some xs → ∃ u, o.cells[off + i]? = some u ∧ Ints h u xs

theorem Lists.app {h : AHeap} {v : Value} {xss : List (List Int)} (hv : Lists h v xss) (g : List AObj) : Lists (h ++ g) v xss := by
  rcases hv with hv | ⟨k, off, ver, cap, o, h1, h2, h3, h4, h5, h6, h7⟩
  · exact .inl hv
  · exact .inr ⟨k, off, ver, cap, o, h1, lk_prev h2, h3, h4, h5, h6, fun i xs hi => by
      obtain ⟨u, g1, g2⟩ := h7 i xs hi
      exact ⟨u, g1, g2.app g⟩⟩

theorem Lists.within {h : AHeap} {v : Value} {xss : List (List Int)} (hv : Lists h v xss) : Within h.length v := by
  rcases hv with ⟨rfl, _⟩ | ⟨k, off, ver, cap, o, rfl, h2, _⟩
  · exact .prim rfl
  · exact .slice (List.getElem?_eq_some_iff.1 h2).1

def rowAt (xss : List (List Int)) (i : Nat) : List Int := xss.getD i []
theorem rowAt_some {xss : List (List Int)} {i : Nat} (h : i < xss.length) : xss[i]? = some (rowAt xss i) := by
  simp [rowAt, List.getD_eq_getElem?_getD, List.getElem?_eq_getElem h]
section
variable {P : Program} {K : Value → AHeap → Prop} {env : Env} {h : AHeap} {dst : Option Tmp} {ty : TypeId} {pos : String} {after : Array Edge} {guard : Option (Nat × Bool)}

end

section
variable {P : Program} {ops : Array Oper} {KE : Env → AHeap → Prop} {os : List Oper} {env : Env} {h : AHeap} {d : Option Tmp} {ty : TypeId} {pos : String} {af : Array Edge} {g : Option (Nat × Bool)}
end

/-! ## Own lists of lists -/

/-- A block of one's own with any values. -/
def vls (us : List Value) : AObj := ⟨us, true, 1⟩

/-- Slices over rows that lie one behind the other. -/
def vrows : Nat → List (List Int) → List Value
  | _, [] => []
  | k, x :: xs => sl k x.length :: vrows (k + 1) xs
theorem vrows_len : ∀ {k : Nat} {xss : List (List Int)}, (vrows k xss).length = xss.length
  | _, [] => rfl
  | k, x :: xs => by simp [vrows, vrows_len (k := k + 1) (xss := xs)]
theorem vrows_get : ∀ {k i : Nat} {xss : List (List Int)}, i < xss.length → (vrows k xss)[i]? = some (sl (k + i) (rowAt xss i).length)
  | k, 0, x :: xs, _ => rfl
  | k, i + 1, x :: xs, h => by
    have := vrows_get (k := k + 1) (i := i) (xss := xs) (by simpa using h)
    rw [vrows, List.getElem?_cons_succ, this]
    simp [rowAt, Nat.add_assoc, Nat.add_comm 1]
/-- Lists in new memory: the outer block at k, the rows behind it. -/
def lls (k : Nat) (xss : List (List Int)) : List AObj := vls (vrows (k + 1) xss) :: xss.map lst
@[simp] theorem lls_len {k : Nat} {xss : List (List Int)} : (lls k xss).length = xss.length + 1 := by simp [lls]

theorem take_row {xss : List (List Int)} {s : Nat} (h : s < xss.length) : xss.take (s + 1) = xss.take s ++ [rowAt xss s] := by
  rw [List.take_succ_eq_append_getElem h]
  have := rowAt_some h
  rw [List.getElem?_eq_getElem h, Option.some.injEq] at this
  rw [this]
section
variable {P : Program} {K : Value → AHeap → Prop} {env : Env} {h : AHeap} {dst : Option Tmp} {ty : TypeId} {pos : String} {after : Array Edge} {guard : Option (Nat × Bool)}

end

/-- Marks of all rows. -/
def markL : Int → List (List Int) → List (List Int)
  | _, [] => []
  | c, x :: xs => upto c x.length :: markL (c + x.length) xs
def total : List (List Int) → Nat
  | [] => 0
  | x :: xs => x.length + total xs
@[simp] theorem markL_len : ∀ {c : Int} {xss : List (List Int)}, (markL c xss).length = xss.length
  | _, [] => rfl
  | c, x :: xs => by simp [markL, markL_len (c := c + x.length) (xss := xs)]
theorem total_app : ∀ {a b : List (List Int)}, total (a ++ b) = total a + total b
  | [], b => by simp [total]
  | x :: a, b => by simp [total, total_app (a := a) (b := b), Nat.add_assoc]
theorem total_take {xss : List (List Int)} {s : Nat} (h : s < xss.length) : total (xss.take (s + 1)) = total (xss.take s) + (rowAt xss s).length := by
  rw [take_row h, total_app]; simp [total]
theorem total_le {xss : List (List Int)} {s : Nat} : total (xss.take s) ≤ total xss := by
  have : total xss = total (xss.take s) + total (xss.drop s) := by rw [← total_app, List.take_append_drop]
  omega
theorem total_row {xss : List (List Int)} {s : Nat} (h : s < xss.length) : total (xss.take s) + (rowAt xss s).length ≤ total xss := by
  rw [← total_take h]; exact total_le
section
variable {P : Program} {K : Value → AHeap → Prop} {env : Env} {h : AHeap} {dst : Option Tmp} {ty : TypeId} {pos : String} {after : Array Edge} {guard : Option (Nat × Bool)}
end
section
variable {P : Program} {ops : Array Oper} {KE : Env → AHeap → Prop} {os : List Oper} {env : Env} {h : AHeap} {d : Option Tmp} {ty : TypeId} {pos : String} {af : Array Edge} {g : Option (Nat × Bool)}
end

/-! ## New blocks that lie one behind the other -/
def shf (t d j : Nat) : Nat := if j < t then j else j + d
def ShG (gs : Nat → List AObj) : Prop := ∀ t n d, t ≤ n → (gs (n + d)).length = (gs n).length ∧ ∀ (i : Nat) (o : AObj), (gs n)[i]? = some o →
  ∃ o1, (gs (n + d))[i]? = some o1 ∧ o.cells.length = o1.cells.length ∧ o.mine = o1.mine ∧ o.esz = o1.esz ∧
    ∀ (j : Nat) (v : Value), o.cells[j]? = some v → Within (n + (gs n).length) v ∧ ∃ v1, o1.cells[j]? = some v1 ∧ VRen (shf t d) v v1
theorem ShG.one {o : AObj} (ho : ∀ v ∈ o.cells, isPrim v = true) : ShG (fun _ => [o]) := fun t n d _ => ⟨rfl, fun i x hx => ⟨x, hx, rfl, rfl, rfl, fun j v hv => by
  have : x = o := by cases i <;> simp at hx; exact hx.symm
  subst this
  have := ho v (List.mem_of_getElem? hv)
  exact ⟨.prim this, v, hv, .prim this⟩⟩⟩
theorem ShG.app {gs1 gs2 : Nat → List AObj} {l : Nat} (h1 : ShG gs1) (h2 : ShG gs2) (hl : ∀ n, (gs1 n).length = l) : ShG (fun k => gs1 k ++ gs2 (k + l)) := fun t n d ht => by
  obtain ⟨a1, a2⟩ := h1 t n d ht
  obtain ⟨b1, b2⟩ := h2 t (n + l) d (by omega)
  have e : n + d + l = n + l + d := by omega
  refine ⟨by simp only [List.length_append, e, a1, b1], fun i o hi => ?_⟩
  by_cases c : i < l
  · rw [List.getElem?_append_left (by rw [hl]; exact c)] at hi
    obtain ⟨o1, q1, q2, q3, q4, q5⟩ := a2 i o hi
    refine ⟨o1, by rw [List.getElem?_append_left (by rw [hl]; exact c)]; exact q1, q2, q3, q4, fun j v hv => ?_⟩
    obtain ⟨r1, r2⟩ := q5 j v hv
    exact ⟨r1.mono (by simp only [List.length_append]; omega), r2⟩
  · rw [List.getElem?_append_right (by rw [hl]; omega), hl] at hi
    obtain ⟨o1, q1, q2, q3, q4, q5⟩ := b2 _ o hi
    refine ⟨o1, by rw [List.getElem?_append_right (by rw [hl]; omega), hl, e]; exact q1, q2, q3, q4, fun j v hv => ?_⟩
    obtain ⟨r1, r2⟩ := q5 j v hv
    exact ⟨r1.mono (by simp only [List.length_append, hl]; omega), r2⟩
theorem ShG.lls {xss : List (List Int)} : ShG (fun k => lls k xss) := fun t n d ht => by
  refine ⟨by rw [lls_len, lls_len], fun i o hi => ?_⟩
  cases i with
  | zero =>
    have : o = vls (vrows (n + 1) xss) := by simp [Am.lls] at hi; exact hi.symm
    subst this
    refine ⟨vls (vrows (n + d + 1) xss), rfl, by simp [vls, vrows_len], rfl, rfl, fun j v hv => ?_⟩
    have hv' : (vrows (n + 1) xss)[j]? = some v := hv
    have hlt := (List.getElem?_eq_some_iff.1 hv').1
    rw [vrows_len] at hlt
    rw [vrows_get hlt, Option.some.injEq] at hv'
    subst hv'
    refine ⟨.slice (by rw [lls_len]; omega), _, vrows_get hlt, ?_⟩
    have := VRen.slice (s := shf t d) (k := n + 1 + j) (off := 0) (ver := (rowAt xss j).length) (len := (rowAt xss j).length) (cap := (rowAt xss j).length)
    rwa [show shf t d (n + 1 + j) = n + d + 1 + j by rw [shf, if_neg (by omega)]; omega] at this
  | succ i =>
    have hi' : (xss.map lst)[i]? = some o := by simpa [Am.lls] using hi
    refine ⟨o, by simpa [Am.lls] using hi', rfl, rfl, rfl, fun j v hv => ?_⟩
    simp only [List.getElem?_map, Option.map_eq_some_iff] at hi'
    obtain ⟨xs, _, rfl⟩ := hi'
    have := lst_prim v (List.mem_of_getElem? hv)
    exact ⟨.prim this, v, hv, .prim this⟩

/-- The contract of a function that makes new blocks that lie one behind the other. -/
def RetG (P : Program) (f : FuncId) (args : List Value) (h : AHeap) (V : Nat → Value) (gs : Nat → List AObj) : Prop := Ret P f args h (V h.length) (h ++ gs h.length)
theorem RetG.toG {P : Program} {K : Value → AHeap → Prop} {h : AHeap} {f : FuncId} {vs : List Value} {V : Nat → Value} {gs : Nat → List AObj} (r : RetG P f vs h V gs) (hK : ∀ k, k = h.length → K (V k) (h ++ gs k)) : Tri P f vs h K := Ret.to r (hK _ rfl)
/-- Two lists of lists, one behind the other. -/
def lls2 (k : Nat) (xss yss : List (List Int)) : List AObj := lls k xss ++ lls (k + (xss.length + 1)) yss
@[simp] theorem lls2_len {k : Nat} {xss yss : List (List Int)} : (lls2 k xss yss).length = xss.length + yss.length + 2 := by simp [lls2, lls_len]; omega
/-! ## Sizes and bounds -/
def LB (xss : List (List Int)) : Prop := xss.length ≤ 1048576 ∧ total xss ≤ 1048576
theorem LB.row {xss : List (List Int)} (h : LB xss) (i : Nat) : (rowAt xss i).length ≤ 1048576 := by
  by_cases c : i < xss.length
  · have := total_row c
    have := h.2
    omega
  · have : rowAt xss i = [] := by rw [rowAt, List.getD_eq_getElem?_getD, List.getElem?_eq_none (by omega)]; rfl
    rw [this]; simp
theorem LB.len {xss : List (List Int)} (h : LB xss) : xss.length ≤ 1048576 := h.1
section
variable {P : Program} {ops : Array Oper} {KE : Env → AHeap → Prop} {os : List Oper} {env : Env} {h : AHeap} {d : Option Tmp} {ty : TypeId} {pos : String} {af : Array Edge} {g : Option (Nat × Bool)}
end
section
variable {P : Program} {ops : Array Oper} {KE : Env → AHeap → Prop} {os : List Oper} {env : Env} {h : AHeap} {d : Option Tmp} {ty : TypeId} {pos : String} {af : Array Edge} {g : Option (Nat × Bool)}
end
end Go.Am

namespace Go.Am
set_option linter.unusedSimpArgs false
set_option linter.unusedVariables false
/-! ## Places in a list -/
def idxI (xs : List Int) (x : Int) : Int := idxTo (fun y => decide (x = y)) xs xs.length
/-! ## Numbers that are there twice -/
def hasAt (xs : List Int) (s : Nat) : Bool := (part xs 0 s).contains (xs.getD s 0)
def inR (n : Int) (x : Int) : Bool := decide (0 ≤ x ∧ x ≤ n - 1)
def rowT (n : Int) (xs : List Int) : Nat → Bool
  | 0 => true
  | t + 1 => rowT n xs t && (inR n (xs.getD t 0) && !hasAt xs t)
def wishL (n : Int) (xs : List Int) : Bool := rowT n xs xs.length
end Go.Am

namespace Go.Am
set_option linter.unusedSimpArgs false
set_option linter.unusedVariables false
section
variable {P : Program} {K : Value → AHeap → Prop} {env : Env} {h : AHeap} {dst : Option Tmp} {ty : TypeId} {pos : String} {after : Array Edge} {guard : Option (Nat × Bool)}
end
/-! ## The best so far -/
section
variable (p q : Int) (xs : List Int) (F : List Int → Int)
end
section
variable {p q : Int} {xs : List Int} {F : List Int → Int}
end

/-! ## Parts have a bound -/
theorem within_func0 {n : Nat} {f : Fn} : Within n (.func f #[] #[]) := .func (fun i h => by simp at h) fun i h => by simp at h
/-! ## The heap while the best is sought -/
section
variable (h : AHeap) (BX FB : AObj) (p q : Int) (xs : List Int) (F : List Int → Int)
end
section
variable {h : AHeap} {BX FB : AObj} {p q : Int} {xs : List Int} {F : List Int → Int}
/-! ## The best by the reference -/
end
end Go.Am

namespace Go.Am
set_option linter.unusedSimpArgs false
set_option linter.unusedVariables false
section
variable {p q : Int} {xs : List Int} {F : List Int → Int}
end
end Go.Am

namespace Go.Am
set_option linter.unusedSimpArgs false
set_option linter.unusedVariables false
/-! ## Places -/
def plc (xs : List Int) (x : Int) : Int := if 0 ≤ idxI xs x then idxI xs x else xs.length
/-! ## Orders -/
/-! ## Lists without repetition -/
theorem pigeon : ∀ (n : Nat) (l : List Int), (∀ x ∈ l, 0 ≤ x ∧ x < n) → l.Nodup → l.length ≤ n
  | 0, [], _, _ => Nat.le_refl _
  | 0, x :: l, h, _ => by have := h x (by simp); omega
  | n + 1, l, h, hd => by
    have h1 := pigeon n (l.filter fun x => decide (x ≠ (n : Int))) (fun x hx => by
      simp only [List.mem_filter, decide_eq_true_eq] at hx
      have := h x hx.1
      omega) (hd.filter _)
    have h2 : l.length ≤ (l.filter fun x => decide (x ≠ (n : Int))).length + 1 := by
      clear h h1
      induction l with
      | nil => simp
      | cons a l ih =>
        have hc := List.nodup_cons.1 hd
        by_cases e : a = (n : Int)
        · have : l.filter (fun x => decide (x ≠ (n : Int))) = l := by
            rw [List.filter_eq_self]
            intro x hx
            simp only [decide_eq_true_eq]
            intro e2
            exact hc.1 (by rw [e, ← e2]; exact hx)
          rw [List.filter_cons_of_neg (by simp [e]), this]
          simp
        · rw [List.filter_cons_of_pos (by simp [e])]
          have := ih hc.2
          simp only [List.length_cons]; omega
    omega
/-! ## Friends -/
/-! ## Rooms -/
end Go.Am

namespace Go.Am
set_option linter.unusedSimpArgs false
set_option linter.unusedVariables false
section
variable {P : Program} {K : Value → AHeap → Prop} {env : Env} {h : AHeap} {dst : Option Tmp} {ty : TypeId} {pos : String} {after : Array Edge} {guard : Option (Nat × Bool)}
end
end Go.Am

namespace Go.Am
set_option linter.unusedSimpArgs false
set_option linter.unusedVariables false
def hrow (n : Int) (xss : List (List Int)) (s : Nat) : Bool := wishL n (rowAt xss s) && decide (((rowAt xss s).length : Int) = n)
def okH (xss : List (List Int)) : Bool := decide (1 ≤ (xss.length : Int) ∧ (xss.length : Int) ≤ 8) && (List.range xss.length).all (hrow xss.length xss)
/-! ## Turns -/
def freeB (L : List Bool) : Nat := L.countP id
/-! ## Lists of lists somewhere in a heap -/
section
variable {P : Program} {K : Value → AHeap → Prop} {env : Env} {h : AHeap} {dst : Option Tmp} {ty : TypeId} {pos : String} {after : Array Edge} {guard : Option (Nat × Bool)}
end
section
variable {P : Program} {ops : Array Oper} {KE : Env → AHeap → Prop} {os : List Oper} {env : Env} {h : AHeap} {d : Option Tmp} {ty : TypeId} {pos : String} {af : Array Edge} {g : Option (Nat × Bool)}
end
end Go.Am

namespace Go.Am
set_option linter.unusedSimpArgs false
set_option linter.unusedVariables false

section
variable {P : Program} {K : Value → AHeap → Prop} {env : Env} {h : AHeap} {dst : Option Tmp} {ty : TypeId} {pos : String} {after : Array Edge} {guard : Option (Nat × Bool)}
end

/-! ## Lists of lists whose rows lie anywhere -/
def rvals (r : Nat → Nat) (xss : List (List Int)) (s : Nat) : List Value := (List.range s).map fun i => sl (r i) (rowAt xss i).length
theorem rvals_succ {r : Nat → Nat} {xss : List (List Int)} {s : Nat} : rvals r xss (s + 1) = rvals r xss s ++ [sl (r s) (rowAt xss s).length] := by simp [rvals, List.range_succ]
theorem rvals_congr {r r' : Nat → Nat} {xss : List (List Int)} {s : Nat} (h : ∀ i, i < s → r i = r' i) : rvals r xss s = rvals r' xss s := by
  unfold rvals
  apply List.map_congr_left
  intro i hi
  rw [h i (List.mem_range.1 hi)]
structure OwnS (b : Nat) (H : AHeap) (kO : Nat) (xss : List (List Int)) (s : Nat) (r : Nat → Nat) : Prop where
  out : H[kO]? = some (vls (rvals r xss s))
  low : b ≤ kO
  row : ∀ i, i < s → b ≤ r i ∧ r i ≠ kO ∧ H[r i]? = some (lst (rowAt xss i))
  inj : ∀ i j, i < s → j < s → r i = r j → i = j
theorem owns_step {b kO s kR : Nat} {H : AHeap} {xss : List (List Int)} {r : Nat → Nat} (o : OwnS b H kO xss s r) (hb : b ≤ H.length) (hk : kR = H.length) {t : AObj} :
    OwnS b ((H ++ [lst (rowAt xss s)] ++ [t]).set kO (vls (rvals r xss s ++ [sl kR (rowAt xss s).length]))) kO xss (s + 1) (fun i => if i = s then kR else r i) := by
  subst hk
  have hlt := (List.getElem?_eq_some_iff.1 o.out).1
  have hold : ∀ k, k < H.length → k ≠ kO → ((H ++ [lst (rowAt xss s)] ++ [t]).set kO (vls (rvals r xss s ++ [sl H.length (rowAt xss s).length])))[k]? = H[k]? := fun k hk hne => by
    rw [List.getElem?_set_ne (Ne.symm hne), List.append_assoc, List.getElem?_append_left hk]
  have hnew : ((H ++ [lst (rowAt xss s)] ++ [t]).set kO (vls (rvals r xss s ++ [sl H.length (rowAt xss s).length])))[H.length]? = some (lst (rowAt xss s)) := by
    rw [List.getElem?_set_ne (by omega), List.append_assoc, List.getElem?_append_right (Nat.le_refl _)]; simp
  refine ⟨?_, o.low, fun i hi => ?_, fun i j hi hj => ?_⟩
  · rw [List.getElem?_set_self (by simp; omega), rvals_succ]
    simp only [if_true]
    rw [rvals_congr (r := fun i => if i = s then H.length else r i) (r' := r) (fun i hi => by rw [if_neg (by omega)])]
  · by_cases e : i = s
    · subst e
      simp only [if_true]
      exact ⟨hb, by omega, hnew⟩
    · obtain ⟨h1, h2, h3⟩ := o.row i (by omega)
      simp only [if_neg e]
      exact ⟨h1, h2, by rw [hold _ (List.getElem?_eq_some_iff.1 h3).1 h2]; exact h3⟩
  · have hri : ∀ i, i < s → r i < H.length := fun i hi => (List.getElem?_eq_some_iff.1 (o.row i hi).2.2).1
    intro he
    by_cases e1 : i = s <;> by_cases e2 : j = s
    · omega
    · simp only [e1, if_true, if_neg e2] at he
      have := hri j (by omega); omega
    · simp only [e2, if_true, if_neg e1] at he
      have := hri i (by omega); omega
    · simp only [if_neg e1, if_neg e2] at he
      exact o.inj i j (by omega) (by omega) he
theorem owns_push {b kO s : Nat} {H g : AHeap} {xss : List (List Int)} {r : Nat → Nat} (o : OwnS b H kO xss s r) : OwnS b (H ++ g) kO xss s r :=
  ⟨lk_prev o.out, o.low, fun i hi => ⟨(o.row i hi).1, (o.row i hi).2.1, lk_prev (o.row i hi).2.2⟩, o.inj⟩
section
variable {P : Program} {K : Value → AHeap → Prop} {env : Env} {h : AHeap} {dst : Option Tmp} {ty : TypeId} {pos : String} {after : Array Edge} {guard : Option (Nat × Bool)}
end

/-! ## Results with lists of lists, or none -/
def RetOG (P : Program) (f : FuncId) (args : List Value) (h : AHeap) (ok : Bool) (V : Nat → Value) (gs : Nat → List AObj) (N : Value) : Prop :=
  (ok = true → RetG P f args h V gs) ∧ (ok = false → Ret P f args h N h)
/-! ## Marks of two lists of lists -/
end Go.Am

namespace Go.Am
set_option linter.unusedSimpArgs false
set_option linter.unusedVariables false
section
variable {P : Program} {K : Value → AHeap → Prop} {env : Env} {h : AHeap} {dst : Option Tmp} {ty : TypeId} {pos : String} {after : Array Edge} {guard : Option (Nat × Bool)}
/-- clear(s[off:]) of a list of one's own. -/
theorem o_clear {t e : TypeId} {x : Operand} {k off ver len cap b : Nat} {xs : List Int} {h' : AHeap} (hu : P.underlying t = some (.slice e)) (hi : InfoIs P e (i64 0) 1 b)
    (hx : aeval env x = .slice (some ⟨k, off, some ver⟩) len cap) (ho : h[k]? = some (lst xs)) (hver : xs.length = ver) (hfit : off + len ≤ ver) (hpos : 0 < len)
    (hs : h.set k (lst (xs.take off ++ List.replicate len 0 ++ xs.drop (off + len))) = h') (hK : K (.tuple #[]) h') :
    AOp P ⟨dst, .call { callee := .builtin .clear, args := #[x], argTypes := #[t] }, ty, pos, after, guard⟩ K env h :=
  .of_run fun mp w a hr hop => by
    have hp := hop x (by simp [Op.operands, Call.operands])
    rw [hx] at hp
    obtain ⟨i, hi1, hi2, hi3, hi4⟩ := hi.get
    have hcl : (lst xs).cells.length = ver := by simp [lst, hver]
    obtain ⟨l, hl, da, cap', hse, c1, c2, c3, c4, c5⟩ := hp.slice_inv ho hcl
    have hb := c4 (by omega)
    subst hb
    obtain ⟨w', hst, r1, s1⟩ := hr.storeCells (P := P) (k := k) (off := off) ho rfl hl (vs := List.replicate len (i64 0)) (rs := List.replicate len (i64 0)) rfl (by rw [hcl]; simp; omega) (by simp; omega)
      (fun j v r hv hr => by
        obtain ⟨h1, e1⟩ := List.getElem?_eq_some_iff.1 hv
        obtain ⟨h2, e2⟩ := List.getElem?_eq_some_iff.1 hr
        simp only [List.getElem_replicate] at e1 e2
        subst e1 e2
        exact .prim rfl)
      (fun r hm => by rw [List.eq_of_mem_replicate hm]; rfl)
    have hz : (Builtin.zeroCells (i64 0).cells len).toList = List.replicate len (i64 0) := by
      apply List.ext_getElem
      · simp [Builtin.zeroCells, Value.cells]
      · intro j h1 h2
        simp [Builtin.zeroCells, Value.cells, Nat.mod_one]
    have hrun : (Builtin.clear_ #[t] ty #[a.eval x]).run P w = .ok (.tuple #[]) w' := by
      rw [hse]
      have hne : len ≠ 0 := by omega
      obtain ⟨n, rfl⟩ : ∃ n, len = n + 1 := ⟨len - 1, by omega⟩
      simp [Builtin.clear_, run_underlying hu, zeroValue, typeInfo, hi1, hi2, hz, hst]
    have hsp : splice (lst xs).cells off (List.replicate len (i64 0)) = (lst (xs.take off ++ List.replicate len 0 ++ xs.drop (off + len))).cells := by
      rw [splice, List.length_replicate]
      simp [lst, List.map_take, List.map_drop]
    refine ⟨.tuple #[], .tuple #[], _, _, w', ?_, r1, s1, .tuple rfl (fun i h1 => by simp at h1), ?_⟩
    · simp only [execOp, resolve, invoke, builtin, Sem.run_bind, Sem.run_pure, Result.andThen_ok, List.map_toArray, List.map_cons, List.map_nil, hrun]
    · rw [hsp, show (lst xs).esz = 1 from rfl]
      rw [← hs] at hK
      exact hK
end

/-! ## All numbers but one -/
abbrev slP (k m n : Nat) : Value := .slice (some ⟨k, 0, some n⟩) m n
theorem Ints.pre {h : AHeap} {k m n : Nat} {xs ys : List Int} (ho : h[k]? = some (lst (xs ++ ys))) (hm : xs.length = m) (hn : (xs ++ ys).length = n) : Ints h (slP k m n) xs := by
  subst hm hn
  exact .inr ⟨k, 0, _, _, lst (xs ++ ys), rfl, ho, by simp [lst], rfl, by simp, by simp, fun i z hz => by
    have hi := (List.getElem?_eq_some_iff.1 hz).1
    simp only [lst, List.map_append, Nat.zero_add]
    rw [List.getElem?_append_left (by simpa using hi)]
    simp [hz]⟩

/-! ## Games -/
abbrev gv (p q : Int) (n m k : Nat) : Value := .agg #[i64 p, i64 q, sl k n, sl (k + 1) m]
theorem Within.agg4 {n : Nat} {a b c d : Value} (h1 : Within n a) (h2 : Within n b) (h3 : Within n c) (h4 : Within n d) : Within n (.agg #[a, b, c, d]) :=
  .agg fun i q1 => by
    match i, q1 with
    | 0, _ => exact h1
    | 1, _ => exact h2
    | 2, _ => exact h3
    | 3, _ => exact h4
theorem VRen.agg4 {s : Nat → Nat} {a b c d a' b' c' d' : Value} (h1 : VRen s a a') (h2 : VRen s b b') (h3 : VRen s c c') (h4 : VRen s d d') : VRen s (.agg #[a, b, c, d]) (.agg #[a', b', c', d']) :=
  .agg rfl fun i q1 q2 => by
    match i, q1 with
    | 0, _ => exact h1
    | 1, _ => exact h2
    | 2, _ => exact h3
    | 3, _ => exact h4
abbrev gt (p q : Int) (n m k : Nat) : Value := .tuple #[gv p q n m k, .bool true]
section
variable {P : Program} {ops : Array Oper} {KE : Env → AHeap → Prop} {os : List Oper} {env : Env} {h : AHeap} {d : Option Tmp} {ty : TypeId} {pos : String} {af : Array Edge} {g : Option (Nat × Bool)}
end

/-! ## The grid of a part of a game -/
section
variable {P : Program} {K : Value → AHeap → Prop} {env : Env} {h : AHeap} {dst : Option Tmp} {ty : TypeId} {pos : String} {after : Array Edge} {guard : Option (Nat × Bool)}
end

/-! ## A game less a row or a column -/
end Go.Am

namespace Go.Am
set_option linter.unusedSimpArgs false
set_option linter.unusedVariables false

/-! ## Rounds of a map -/
theorem idxTo_first {f : Int → Bool} {ys : List Int} {a b : Nat} : ∀ n, idxTo f ys n = (a : Int) → b < a → f (ys.getD b 0) = false
  | 0, h, _ => by simp [idxTo] at h
  | n + 1, h, hb => by
    rw [idxTo] at h
    by_cases c : 0 ≤ idxTo f ys n
    · rw [if_pos c] at h; exact idxTo_first n h hb
    · rw [if_neg c] at h
      have c2 := (idxTo_lt (g := f) (ys := ys) n).2 (by omega)
      split at h
      · have : n = a := by omega
        subst this
        exact c2 b hb
      · omega
/-! ## Parts, without bounds -/
/-! ## Who envies, who is free of it -/
/-! ## Turns until somebody is free -/
end Go.Am

namespace Go.Am
set_option linter.unusedSimpArgs false
set_option linter.unusedVariables false

/-! ## The ring in the walks -/
end Go.Am

namespace Go.Am
set_option linter.unusedSimpArgs false
set_option linter.unusedVariables false

/-! ## Who still has a house -/
def lftH (os : List Int) : List Bool := os.map fun x => decide (x < 0)
/-! ## One round -/
/-! ## How many are left -/
theorem getB_set {L : List Bool} {j k : Nat} (h : j ≠ k) : (L.set j false).getD k false = L.getD k false := by
  rw [List.getD_eq_getElem?_getD, List.getElem?_set, if_neg h, ← List.getD_eq_getElem?_getD]
/-! ## A ring is there -/
structure OkR (xss : List (List Int)) (os : List Int) : Prop where
  hH : okH xss = true
  hl : os.length = xss.length
  hr : 0 < freeB (lftH os)
/-! ## All rounds -/
/-! ## Rounds of envy, padded -/
end Go.Am

namespace Go.Am
set_option linter.unusedSimpArgs false
set_option linter.unusedVariables false
end Go.Am

namespace Go.Am
set_option linter.unusedSimpArgs false
set_option linter.unusedVariables false

section
variable {P : Program} {K : Value → AHeap → Prop} {env : Env} {h : AHeap} {dst : Option Tmp} {ty : TypeId} {pos : String} {after : Array Edge} {guard : Option (Nat × Bool)}
end
section
variable {P : Program} {ops : Array Oper} {KE : Env → AHeap → Prop} {os : List Oper} {env : Env} {h : AHeap} {d : Option Tmp} {ty : TypeId} {pos : String} {af : Array Edge} {g : Option (Nat × Bool)}
end

/-! ## Sets -/
/-! ## Places in whole lists -/
/-! ## Who could do better -/
structure Blk where
  xss : List (List Int)
  ms : List Int
  ls : List Int
def Blk.who (B : Blk) (m : Nat) : Int := B.ls.getD (B.ls.length - (m + 1)) 0
def Blk.row (B : Blk) (m : Nat) : List Int := rowAt B.xss (B.who m).toNat
def Blk.has (B : Blk) (m : Nat) : Int := B.ms.getD (B.who m).toNat 0
def Blk.own (B : Blk) (m : Nat) : Nat := (plc (B.row m) (B.has m)).toNat
def takeT (T : Nat) (h : Int) : Nat := T ||| 2 ^ h.toNat
structure OkB (B : Blk) (n : Nat) : Prop where
  hF : okH B.xss = true
  hn : B.xss.length = n
  hm : wishL n B.ms = true
  hml : B.ms.length = n
  hls : ∀ x ∈ B.ls, 0 ≤ x ∧ x < (n : Int)
def RelB (n : Nat) (ls : List Int) (T : Nat) (F : List Bool) : Prop := F.length = n ∧ ∀ x : Int, 0 ≤ x → x < (n : Int) → F.getD x.toNat false = (decide (x ∈ ls) && !T.testBit x.toNat)
theorem take_bit {T j : Nat} {h : Int} : (takeT T h).testBit j = (T.testBit j || decide (h.toNat = j)) := by
  rw [takeT, Nat.testBit_or, Nat.testBit_two_pow]
theorem RelB.take {n : Nat} {ls : List Int} {T : Nat} {F : List Bool} {h : Int} (r : RelB n ls T F) (hh : 0 ≤ h ∧ h < (n : Int)) : RelB n ls (takeT T h) (F.set h.toNat false) := by
  refine ⟨by rw [List.length_set]; exact r.1, fun x h0 h1 => ?_⟩
  rw [take_bit]
  by_cases e : h.toNat = x.toNat
  · rw [e, decide_eq_true rfl, List.getD_eq_getElem?_getD, List.getElem?_set_self (by rw [r.1]; omega)]
    simp
  · rw [getB_set e, r.2 x h0 h1, decide_eq_false e, Bool.or_false]
/-! ## The walks -/
/-! ## The first set -/
section
variable {P : Program} {K : Value → AHeap → Prop} {env : Env} {h : AHeap} {dst : Option Tmp} {ty : TypeId} {pos : String} {after : Array Edge} {guard : Option (Nat × Bool)}
end
section
variable {P : Program} {ops : Array Oper} {KE : Env → AHeap → Prop} {os : List Oper} {env : Env} {h : AHeap} {d : Option Tmp} {ty : TypeId} {pos : String} {af : Array Edge} {g : Option (Nat × Bool)}
end
end Go.Am

namespace Go.Am
set_option linter.unusedSimpArgs false
set_option linter.unusedVariables false
open Ieee

/-! ## Operations -/
abbrev fl (x : Nat) : Value := .float .f32 x
abbrev fd (x : Nat) : Value := .float .f64 x
def fcmp (op : BinOp) (k : FloatKind) (x y : Nat) : Option Bool :=
  match op with
  | .eql => some (k.format.order x y == some .eq)
  | .neq => some (k.format.order x y != some .eq)
  | .lss => some (k.format.order x y == some .lt)
  | .leq => some (k.format.order x y == some .lt || k.format.order x y == some .eq)
  | .gtr => some (k.format.order x y == some .gt)
  | .geq => some (k.format.order x y == some .gt || k.format.order x y == some .eq)
  | _ => none
theorem run_fcmp {P : Program} {w : World} {op : BinOp} {t : TypeId} {k : FloatKind} {x y : Nat} {b : Bool} (h : fcmp op k x y = some b) : (binOp op t (.float k x) (.float k y)).run P w = .ok (.bool b) w := by
  unfold fcmp at h
  cases op <;> simp only [reduceCtorEq, Option.some.injEq] at h <;> subst h <;> simp [binOp, Op.floatCmp]
theorem VRel.float {m : Map} {h : AHeap} {k : FloatKind} {x : Nat} {r : Value} (v : VRel m h (.float k x) r) : r = .float k x := by cases v; rfl

section
variable {P : Program} {K : Value → AHeap → Prop} {env : Env} {h : AHeap} {dst : Option Tmp} {ty : TypeId} {pos : String} {after : Array Edge} {guard : Option (Nat × Bool)}
theorem o_fcmp {op : BinOp} {t yt : TypeId} {x y : Operand} {k : FloatKind} {p q : Nat} {b : Bool} (hx : aeval env x = .float k p) (hy : aeval env y = .float k q) (hb : fcmp op k p q = some b)
    (ht : b = true → K (.bool true) h) (hf : b = false → K (.bool false) h) : AOp P ⟨dst, .binOp op t x y yt, ty, pos, after, guard⟩ K env h :=
  .of_pure (.bool b) (fun m w a _ ho => by
    have h1 := ho x (by simp [Op.operands])
    have h2 := ho y (by simp [Op.operands])
    rw [hx] at h1; rw [hy] at h2
    refine ⟨.bool b, ?_, .prim rfl⟩
    simp [execOp, h1.float, h2.float, eqGuard_at_float, run_fcmp hb]) (by cases b; exact hf rfl; exact ht rfl)
theorem o_fbin {op : BinOp} {t yt : TypeId} {x y : Operand} {k : FloatKind} {p q r : Nat} (hx : aeval env x = .float k p) (hy : aeval env y = .float k q) (hb : floatBits op k p q = some r)
    (hK : K (.float k r) h) : AOp P ⟨dst, .binOp op t x y yt, ty, pos, after, guard⟩ K env h :=
  .of_pure (.float k r) (fun m w a _ ho => by
    have h1 := ho x (by simp [Op.operands])
    have h2 := ho y (by simp [Op.operands])
    rw [hx] at h1; rw [hy] at h2
    refine ⟨.float k r, ?_, .prim rfl⟩
    simp [execOp, h1.float, h2.float, eqGuard_at_float, run_float_arith w op t k p q r hb]) hK
theorem o_convIF {src d : TypeId} {x : Operand} {k : IntKind} {kf : FloatKind} {p : Int} {sd : TypeDesc} (hs : P.underlying src = some sd) (hd : P.underlying d = some (.float kf))
    (hx : aeval env x = .int k p) (hK : K (.float kf (kf.nearest p)) h) : AOp P ⟨dst, .convert src d x, ty, pos, after, guard⟩ K env h :=
  .of_pure (.float kf (kf.nearest p)) (fun m w a _ ho => by
    have h1 := ho x (by simp [Op.operands])
    rw [hx] at h1
    exact ⟨.float kf (kf.nearest p), by
      have e := run_convert_int_float w src d k kf p (by rw [hs]; rfl) hd
      simp [execOp, h1.int, e, floatOfInt], .prim rfl⟩) hK
theorem o_convFF {src d : TypeId} {x : Operand} {s k : FloatKind} {p r : Nat} {sd : TypeDesc} (hs : P.underlying src = some sd) (hd : P.underlying d = some (.float k))
    (hx : aeval env x = .float s p) (hr : floatToFloatBits s p k = some r) (hK : K (.float k r) h) : AOp P ⟨dst, .convert src d x, ty, pos, after, guard⟩ K env h :=
  .of_pure (.float k r) (fun m w a _ ho => by
    have h1 := ho x (by simp [Op.operands])
    rw [hx] at h1
    exact ⟨.float k r, by
      have e := run_convert_float_float w src d s k p r (by rw [hs]; rfl) hd hr
      simp [execOp, h1.float, e], .prim rfl⟩) hK
def fmaxB (k : FloatKind) (x y : Nat) : Option Nat :=
  match k.format.order x y with
  | none => none
  | some .lt => some y
  | some .gt => some x
  | some .eq => some (if (k.decode x).neg then y else x)
def fminB (k : FloatKind) (x y : Nat) : Option Nat :=
  match k.format.order x y with
  | none => none
  | some .lt => some x
  | some .gt => some y
  | some .eq => some (if (k.decode x).neg then x else y)
theorem o_fmax {ts : Array TypeId} {x y : Operand} {k : FloatKind} {p q r : Nat} (hx : aeval env x = .float k p) (hy : aeval env y = .float k q) (hr : fmaxB k p q = some r) (hK : K (.float k r) h) :
    AOp P ⟨dst, .call { callee := .builtin .max, args := #[x, y], argTypes := ts }, ty, pos, after, guard⟩ K env h :=
  .of_pure (.float k r) (fun m w a _ ho => by
    have h1 := ho x (by simp [Op.operands, Call.operands])
    have h2 := ho y (by simp [Op.operands, Call.operands])
    rw [hx] at h1; rw [hy] at h2
    refine ⟨.float k r, ?_, .prim rfl⟩
    unfold fmaxB at hr
    split at hr
    · cases hr
    all_goals (rename_i ho; cases hr; simp [execOp, resolve, invoke, builtin, h1.float, h2.float, Builtin.max_, Builtin.max2, ho])) hK
theorem o_fmin {ts : Array TypeId} {x y : Operand} {k : FloatKind} {p q r : Nat} (hx : aeval env x = .float k p) (hy : aeval env y = .float k q) (hr : fminB k p q = some r) (hK : K (.float k r) h) :
    AOp P ⟨dst, .call { callee := .builtin .min, args := #[x, y], argTypes := ts }, ty, pos, after, guard⟩ K env h :=
  .of_pure (.float k r) (fun m w a _ ho => by
    have h1 := ho x (by simp [Op.operands, Call.operands])
    have h2 := ho y (by simp [Op.operands, Call.operands])
    rw [hx] at h1; rw [hy] at h2
    refine ⟨.float k r, ?_, .prim rfl⟩
    unfold fminB at hr
    split at hr
    · cases hr
    all_goals (rename_i ho; cases hr; simp [execOp, resolve, invoke, builtin, h1.float, h2.float, Builtin.min_, Builtin.min2, ho])) hK
end
section
variable {P : Program} {ops : Array Oper} {KE : Env → AHeap → Prop} {os : List Oper} {env : Env} {h : AHeap} {d : Option Tmp} {ty : TypeId} {pos : String} {af : Array Edge} {g : Option (Nat × Bool)}
theorem d_fcmp {op : BinOp} {t yt : TypeId} {x y : Operand} {k : FloatKind} {p q : Nat} {b : Bool} (hw : wantedA ops env ⟨d, .binOp op t x y yt, ty, pos, af, g⟩ = some true) (hx : aeval env x = .float k p) (hy : aeval env y = .float k q) (hb : fcmp op k p q = some b)
    (ht : b = true → DRun P ops KE os (env.put d (.bool true)) h) (hf : b = false → DRun P ops KE os (env.put d (.bool false)) h) : DRun P ops KE (⟨d, .binOp op t x y yt, ty, pos, af, g⟩ :: os) env h := by
  cases b
  · exact d_do hw (o_fcmp hx hy hb (fun c => by cases c) (fun _ => ⟨rfl, rfl⟩)) (.prim rfl) (hf rfl)
  · exact d_do hw (o_fcmp hx hy hb (fun _ => ⟨rfl, rfl⟩) (fun c => by cases c)) (.prim rfl) (ht rfl)
end
end Go.Am

namespace Go.Am
set_option linter.unusedSimpArgs false
set_option linter.unusedVariables false
open Ieee

theorem s_read (x : Nat) : single.read x = (if x % 2147483648 < 8388608 then .number (x / 2147483648 % 2 == 1) (x % 2147483648) (-149)
    else if x % 2147483648 < 2139095040 then .number (x / 2147483648 % 2 == 1) (8388608 + x % 2147483648 % 8388608) (-149 + (x % 2147483648 / 8388608 - 1 : Nat))
    else if x % 2147483648 = 2139095040 then .infinity (x / 2147483648 % 2 == 1) else .nan (x / 2147483648 % 2 == 1) (x % 2147483648 - 2139095040)) := rfl
theorem s_num {x m : Nat} {s : Bool} {i : Int} (h : single.read x = .number s m i) : m < 16777216 ∧ -149 ≤ i ∧ i ≤ 104 ∧ (m < 8388608 → i = -149) := by
  rw [s_read] at h
  split at h
  · injection h with h1 h2 h3; omega
  · split at h
    · injection h with h1 h2 h3; omega
    · split at h <;> cases h

/-! ## What is written -/
theorem lt_log2 {n : Nat} : n < 2 ^ (n.log2 + 1) := Nat.lt_log2_self
theorem log2_le {n k : Nat} (hn : n ≠ 0) (h : n < 2 ^ (k + 1)) : n.log2 ≤ k := by
  have := (Nat.log2_lt hn).2 h
  omega
theorem cut_le {neg : Bool} {n b f : Nat} (h : n.log2 ≤ f + b) : Toward.even.cut neg n b ≤ 2 ^ (f + 1) := by
  have hg : n / (1 <<< min b (n.log2 + 2)) < 2 ^ (f + 1) := by
    rw [Nat.one_shiftLeft, Nat.div_lt_iff_lt_mul (Nat.two_pow_pos _), ← Nat.pow_add]
    exact Nat.lt_of_lt_of_le lt_log2 (Nat.pow_le_pow_right (by decide) (by omega))
  have : Toward.even.cut neg n b ≤ n / (1 <<< min b (n.log2 + 2)) + 1 := by
    unfold Toward.cut
    simp only
    generalize (decide (1 <<< min b (n.log2 + 2) < 2 * (n % 1 <<< min b (n.log2 + 2))) || _) = c
    cases c <;> simp
  omega
theorem log2_shl {m a : Nat} (hm : m ≠ 0) : (m <<< a).log2 ≤ m.log2 + a := by
  rw [Nat.shiftLeft_eq]
  refine log2_le (Nat.mul_ne_zero hm (Nat.pos_iff_ne_zero.1 (Nat.two_pow_pos _))) ?_
  rw [show m.log2 + a + 1 = (m.log2 + 1) + a by omega, Nat.pow_add]
  exact Nat.mul_lt_mul_of_pos_right lt_log2 (Nat.two_pow_pos _)
theorem pow23 : 8388608 = 2 ^ (22 + 1) := by decide
theorem near_rung (f : Format) (neg : Bool) (mag : Nat) (place : Int) : ∃ r, f.nearest neg mag place = f.word neg r ∧ r ≤ f.infRung ∧
    ∀ E : Nat, (mag = 0 ∨ place + (mag.log2 : Int) - f.fractionBits - f.leastPlace ≤ E) → r ≤ E * f.binade + 2 * f.binade := by
  unfold Format.nearest
  by_cases h0 : mag = 0
  · exact ⟨0, by rw [if_pos h0], Nat.zero_le _, fun _ _ => Nat.zero_le _⟩
  · rw [if_neg h0]
    refine ⟨_, rfl, Nat.min_le_right _ _, fun E hE => ?_⟩
    have hE := hE.resolve_left h0
    generalize hl : max (place + (mag.log2 : Int) - (f.fractionBits : Int)) f.leastPlace = last
    have hk : Toward.even.cut neg (mag <<< (place - last).toNat) (last - place).toNat ≤ 2 * f.binade := by
      have h1 := log2_shl (a := (place - last).toNat) h0
      have := cut_le (neg := neg) (n := mag <<< (place - last).toNat) (b := (last - place).toNat) (f := f.fractionBits) (by omega)
      rw [Nat.pow_succ, Nat.mul_comm] at this
      exact this
    refine Nat.le_trans (Nat.min_le_left _ _) (Nat.add_le_add (Nat.mul_le_mul_right _ ?_) hk)
    omega
theorem s_parts (neg : Bool) (r : Nat) (hr : r < 2147483648) : single.word neg r % 2147483648 = r ∧ (single.word neg r / 2147483648 % 2 == 1) = neg := by
  have e : single.word neg r = if neg then 2147483648 + r else r := rfl
  rw [e]
  cases neg
  · simp only [Bool.false_eq_true, if_false]
    exact ⟨by omega, by rw [show r / 2147483648 % 2 = 0 by omega]; rfl⟩
  · simp only [if_true]
    exact ⟨by omega, by rw [show (2147483648 + r) / 2147483648 % 2 = 1 by omega]; rfl⟩
theorem s_word (neg : Bool) (r : Nat) (hr : r < 2139095040) : ∃ m i, single.read (single.word neg r) = .number neg m i ∧ (m = 0 ∨ i + (m.log2 : Int) ≤ (r / 8388608 : Nat) - 127) := by
  have hw := s_parts neg r (by omega)
  rw [s_read, hw.1, hw.2]
  by_cases c : r < 8388608
  · rw [if_pos c]
    refine ⟨r, -149, rfl, ?_⟩
    by_cases h0 : r = 0
    · exact .inl h0
    · right
      have : r.log2 ≤ 22 := log2_le h0 (pow23 ▸ c)
      omega
  · rw [if_neg c, if_pos hr]
    refine ⟨_, _, rfl, .inr ?_⟩
    have : (8388608 + r % 8388608).log2 ≤ 23 := log2_le (by omega) (by omega)
    omega
theorem s_inf (neg : Bool) : single.read (single.word neg 2139095040) = .infinity neg := by
  have hw := s_parts neg 2139095040 (by omega)
  rw [s_read, hw.1, hw.2, if_neg (by omega), if_neg (by omega), if_pos rfl]
/-- A number between -2^(E+1) and 2^(E+1). -/
def Sm (E : Int) (x : Nat) : Prop := ∃ s m i, single.read x = .number s m i ∧ (m = 0 ∨ i + (m.log2 : Int) ≤ E)
def NN (x : Nat) : Prop := (single.read x).isNaN = false
def Ps (x : Nat) : Prop := (∃ m i, single.read x = .number false m i) ∨ single.read x = .infinity false
theorem Sm.mono {E E' : Int} {x : Nat} (h : Sm E x) (he : E ≤ E') : Sm E' x := by
  obtain ⟨s, m, i, h1, h2⟩ := h
  exact ⟨s, m, i, h1, by omega⟩
theorem Sm.nn {E : Int} {x : Nat} (h : Sm E x) : NN x := by obtain ⟨s, m, i, h1, _⟩ := h; rw [NN, h1]; rfl
theorem Ps.nn {x : Nat} (h : Ps x) : NN x := by
  rcases h with ⟨m, i, h⟩ | h <;> rw [NN, h] <;> rfl
theorem write_small {neg : Bool} {mag : Nat} {place E : Int} (h : mag = 0 ∨ place + (mag.log2 : Int) ≤ E) (h1 : -126 ≤ E) (h2 : E ≤ 120) : ∃ m i, single.read (single.nearest neg mag place) = .number neg m i ∧ (m = 0 ∨ i + (m.log2 : Int) ≤ E + 1) := by
  obtain ⟨r, e, hr, hb⟩ := near_rung single neg mag place
  have hb := hb (E + 126).toNat (by
    rcases h with h | h
    · exact .inl h
    · right
      show place + (mag.log2 : Int) - (23 : Nat) - (-149) ≤ _
      omega)
  have hb : r ≤ (E + 126).toNat * 8388608 + 2 * 8388608 := hb
  obtain ⟨m, i, h3, h4⟩ := s_word neg r (by omega)
  rw [e]
  exact ⟨m, i, h3, by omega⟩
theorem write_any (neg : Bool) (mag : Nat) (place : Int) : (∃ m i, single.read (single.nearest neg mag place) = .number neg m i) ∨ single.read (single.nearest neg mag place) = .infinity neg := by
  obtain ⟨r, e, hr, _⟩ := near_rung single neg mag place
  have hr : r ≤ 2139095040 := hr
  rw [e]
  by_cases c : r = 2139095040
  · rw [c]; exact .inr (s_inf neg)
  · obtain ⟨m, i, h3, _⟩ := s_word neg r (by omega)
    exact .inl ⟨m, i, h3⟩
theorem write_nn (d : Datum) (h : d.isNaN = false) : NN (single.write d) := by
  cases d with
  | number s m i =>
    show NN (single.nearest s m i)
    rcases write_any s m i with ⟨a, b, h1⟩ | h1 <;> rw [NN, h1] <;> rfl
  | infinity s => rw [NN]; show (single.read (single.word s 2139095040)).isNaN = false; rw [s_inf]; rfl
  | nan s n => cases h

/-! ## The operations -/
def fAdd (x y : Nat) : Nat := (single.add x y).getD 0
def fSub (x y : Nat) : Nat := (single.sub x y).getD 0
def fMul (x y : Nat) : Nat := (single.mul x y).getD 0
def fDiv (x y : Nat) : Nat := (single.div x y).getD 0
theorem signed_le {s : Bool} {m a k : Nat} (h : m = 0 ∨ m.log2 + a < k) : (signed s m a).natAbs < 2 ^ k := by
  have hm : m <<< a < 2 ^ k := by
    rw [Nat.shiftLeft_eq]
    rcases h with h | h
    · subst h; rw [Nat.zero_mul]; exact Nat.two_pow_pos _
    · have h1 : m * 2 ^ a < 2 ^ (m.log2 + 1) * 2 ^ a := Nat.mul_lt_mul_of_pos_right lt_log2 (Nat.two_pow_pos _)
      rw [← Nat.pow_add] at h1
      exact Nat.lt_of_lt_of_le h1 (Nat.pow_le_pow_right (by decide) (by omega))
  cases s
  · show ((m <<< a : Nat) : Int).natAbs < _
    rw [Int.natAbs_natCast]; exact hm
  · show (-((m <<< a : Nat) : Int)).natAbs < _
    rw [Int.natAbs_neg, Int.natAbs_natCast]; exact hm
theorem sum_small {s t : Bool} {m n : Nat} {i j E : Int} (h1 : m = 0 ∨ i + (m.log2 : Int) ≤ E) (h2 : n = 0 ∨ j + (n.log2 : Int) ≤ E) : ∃ u g b, (Datum.number s m i).sum (.number t n j) = some (.number u g b) ∧ (g = 0 ∨ b + (g.log2 : Int) ≤ E + 1) := by
  refine ⟨_, _, _, rfl, ?_⟩
  generalize hb : min i j = b
  by_cases h0 : (signed s m (i - b).toNat + signed t n (j - b).toNat).natAbs = 0
  · exact .inl h0
  right
  have k1 := signed_le (s := s) (m := m) (a := (i - b).toNat) (k := (E + 1 - b).toNat) (by omega)
  have k2 := signed_le (s := t) (m := n) (a := (j - b).toNat) (k := (E + 1 - b).toNat) (by omega)
  have k3 : (signed s m (i - b).toNat + signed t n (j - b).toNat).natAbs < 2 ^ ((E + 1 - b).toNat + 1) := by
    have := Int.natAbs_add_le (signed s m (i - b).toNat) (signed t n (j - b).toNat)
    rw [Nat.pow_succ]; omega
  have k4 := log2_le h0 k3
  by_cases hE : 0 ≤ E + 1 - b
  · omega
  · exfalso
    rw [show (E + 1 - b).toNat = 0 by omega] at k1 k2
    simp only [Nat.pow_zero] at k1 k2
    have := Int.natAbs_add_le (signed s m (i - b).toNat) (signed t n (j - b).toNat)
    omega
theorem sub_small {x y : Nat} {E : Int} (hx : Sm E x) (hy : Sm E y) (h1 : -126 ≤ E) (h2 : E ≤ 110) : single.sub x y = some (fSub x y) ∧ Sm (E + 2) (fSub x y) := by
  obtain ⟨s, m, i, e1, b1⟩ := hx
  obtain ⟨t, n, j, e2, b2⟩ := hy
  obtain ⟨u, g, b, e3, b3⟩ := sum_small (s := s) (t := !t) b1 b2
  have e : single.sub x y = some (single.nearest u g b) := by
    rw [Format.sub, e1, e2]
    show ((Datum.number s m i).sum (.number (!t) n j)).map _ = _
    rw [e3]; rfl
  obtain ⟨a, c, e4, b4⟩ := write_small (neg := u) b3 (by omega) (by omega)
  refine ⟨by rw [fSub, e]; rfl, u, a, c, ?_, by omega⟩
  rw [fSub, e]
  exact e4
theorem mul_small {x y : Nat} {E F : Int} (hx : Sm E x) (hy : Sm F y) (h1 : -126 ≤ E + F) (h2 : E + F ≤ 110) : single.mul x y = some (fMul x y) ∧ Sm (E + F + 2) (fMul x y) := by
  obtain ⟨s, m, i, e1, b1⟩ := hx
  obtain ⟨t, n, j, e2, b2⟩ := hy
  have e : single.mul x y = some (single.nearest (s ^^ t) (m * n) (i + j)) := by
    rw [Format.mul, e1, e2]; rfl
  obtain ⟨a, c, e4, b4⟩ := write_small (neg := s ^^ t) (mag := m * n) (place := i + j) (E := E + F + 1) (by
    by_cases h0 : m * n = 0
    · exact .inl h0
    · right
      have hm : m ≠ 0 := fun h => h0 (by rw [h, Nat.zero_mul])
      have hn : n ≠ 0 := fun h => h0 (by rw [h, Nat.mul_zero])
      have : (m * n).log2 ≤ m.log2 + n.log2 + 1 := by
        refine log2_le h0 ?_
        rw [show m.log2 + n.log2 + 1 + 1 = (m.log2 + 1) + (n.log2 + 1) by omega, Nat.pow_add]
        exact Nat.mul_lt_mul'' lt_log2 lt_log2
      omega) (by omega) (by omega)
  refine ⟨by rw [fMul, e]; rfl, s ^^ t, a, c, ?_, by omega⟩
  rw [fMul, e]
  exact e4
theorem mul_pos {x y m n : Nat} {i j : Int} (hx : single.read x = .number false m i) (hy : single.read y = .number false n j) : single.mul x y = some (fMul x y) ∧ Ps (fMul x y) := by
  have e : single.mul x y = some (single.nearest false (m * n) (i + j)) := by rw [Format.mul, hx, hy]; rfl
  refine ⟨by rw [fMul, e]; rfl, ?_⟩
  rw [fMul, e]
  exact write_any false (m * n) (i + j)
theorem add_pos {x y : Nat} (hx : Ps x) (hy : Ps y) : single.add x y = some (fAdd x y) ∧ Ps (fAdd x y) := by
  rcases hx with ⟨m, i, hx⟩ | hx <;> rcases hy with ⟨n, j, hy⟩ | hy
  · have e : ∃ g b, (Datum.number false m i).sum (.number false n j) = some (.number false g b) := by
      refine ⟨(signed false m (i - min i j).toNat + signed false n (j - min i j).toNat).natAbs, min i j, ?_⟩
      show some (Datum.number (if signed false m (i - min i j).toNat + signed false n (j - min i j).toNat = 0 then false && false else decide (signed false m (i - min i j).toNat + signed false n (j - min i j).toNat < 0)) _ _) = _
      have : (if signed false m (i - min i j).toNat + signed false n (j - min i j).toNat = 0 then false && false else decide (signed false m (i - min i j).toNat + signed false n (j - min i j).toNat < 0)) = false := by
        split
        · rfl
        · rw [decide_eq_false]
          have h1 : 0 ≤ signed false m (i - min i j).toNat := Int.natCast_nonneg _
          have h2 : 0 ≤ signed false n (j - min i j).toNat := Int.natCast_nonneg _
          omega
      rw [this]
    obtain ⟨g, b, e⟩ := e
    have e2 : single.add x y = some (single.nearest false g b) := by rw [Format.add, hx, hy, e]; rfl
    exact ⟨by rw [fAdd, e2]; rfl, by rw [fAdd, e2]; exact write_any false g b⟩
  all_goals
    have e2 : single.add x y = some (single.word false 2139095040) := by rw [Format.add, hx, hy]; rfl
    exact ⟨by rw [fAdd, e2]; rfl, by rw [fAdd, e2]; exact .inr (s_inf false)⟩
theorem sub_nn {x y : Nat} {E : Int} (hx : NN x) (hy : Sm E y) : single.sub x y = some (fSub x y) ∧ NN (fSub x y) := by
  obtain ⟨t, n, j, e2, _⟩ := hy
  have key : ∃ d, (single.read x).sum (single.read y).opposite = some d ∧ d.isNaN = false := by
    rw [e2]
    rw [NN] at hx
    cases h : single.read x with
    | number s m i => exact ⟨_, rfl, rfl⟩
    | infinity s => exact ⟨_, rfl, rfl⟩
    | nan s n => rw [h] at hx; cases hx
  obtain ⟨d, e, hd⟩ := key
  have e3 : single.sub x y = some (single.write d) := by rw [Format.sub, e]; rfl
  exact ⟨by rw [fSub, e3]; rfl, by rw [fSub, e3]; exact write_nn d hd⟩
theorem add_nn {x y : Nat} {E : Int} (hx : Sm E x) (hy : NN y) : single.add x y = some (fAdd x y) ∧ NN (fAdd x y) := by
  obtain ⟨t, n, j, e2, _⟩ := hx
  have key : ∃ d, (single.read x).sum (single.read y) = some d ∧ d.isNaN = false := by
    rw [e2]
    rw [NN] at hy
    cases h : single.read y with
    | number s m i => exact ⟨_, rfl, rfl⟩
    | infinity s => exact ⟨_, rfl, rfl⟩
    | nan s n => rw [h] at hy; cases hy
  obtain ⟨d, e, hd⟩ := key
  have e3 : single.add x y = some (single.write d) := by rw [Format.add, e]; rfl
  exact ⟨by rw [fAdd, e3]; rfl, by rw [fAdd, e3]; exact write_nn d hd⟩
theorem div_nn {x y n : Nat} {j : Int} (hx : NN x) (hy : single.read y = .number false n j) (hn : n ≠ 0) : single.div x y = some (fDiv x y) ∧ NN (fDiv x y) := by
  have key : ∃ d, (single.read x).quotient (single.fractionBits + 2) (single.read y) = some d ∧ d.isNaN = false := by
    rw [hy]
    rw [NN] at hx
    cases h : single.read x with
    | number s m i =>
      have e : ∃ a b c, Datum.quotient (single.fractionBits + 2) (.number s m i) (.number false n j) = some (.number a b c) := by
        rw [Datum.quotient, if_neg hn]; exact ⟨_, _, _, rfl⟩
      obtain ⟨a, b, c, e⟩ := e
      exact ⟨_, e, rfl⟩
    | infinity s => exact ⟨_, rfl, rfl⟩
    | nan s n => rw [h] at hx; cases hx
  obtain ⟨d, e, hd⟩ := key
  have e3 : single.div x y = some (single.write d) := by rw [Format.div, e]; rfl
  exact ⟨by rw [fDiv, e3]; rfl, by rw [fDiv, e3]; exact write_nn d hd⟩
end Go.Am

namespace Go.Am
set_option linter.unusedSimpArgs false
set_option linter.unusedVariables false
open Ieee

/-! ## Small whole numbers -/
def fI (n : Int) : Nat := FloatKind.f32.nearest n
def chkF (n : Nat) : Bool := match single.read (fI (n : Int)) with
  | .number false m i => decide ((m = 0) ↔ (n = 0)) && decide (m = 0 ∨ i + (m.log2 : Int) ≤ 10) && (decide (16 < n) || decide (m = 0 ∨ i + (m.log2 : Int) ≤ 4))
  | _ => false
theorem chk_all : ((List.range 1001).all chkF) = true := by kernel_rfl
theorem fI_read {n : Int} (h0 : 0 ≤ n) (h1 : n ≤ 1000) : ∃ m i, single.read (fI n) = .number false m i ∧ ((m = 0) ↔ (n = 0)) ∧ (m = 0 ∨ i + (m.log2 : Int) ≤ 10) ∧ (n ≤ 16 → (m = 0 ∨ i + (m.log2 : Int) ≤ 4)) := by
  have h := List.all_eq_true.1 chk_all n.toNat (List.mem_range.2 (by omega))
  unfold chkF at h
  rw [show ((n.toNat : Nat) : Int) = n by omega] at h
  split at h
  · rename_i m i e
    simp only [Bool.and_eq_true, Bool.or_eq_true, decide_eq_true_eq] at h
    exact ⟨m, i, e, by rw [h.1.1]; omega, h.1.2, fun hn => by omega⟩
  · cases h
theorem fI_sm {n : Int} (h0 : 0 ≤ n) (h1 : n ≤ 1000) : Sm 10 (fI n) := by
  obtain ⟨m, i, e, _, h, _⟩ := fI_read h0 h1
  exact ⟨false, m, i, e, h⟩
theorem read_zero : single.read 0 = .number false 0 (-149) := by rw [s_read]; rfl

/-! ## Orders -/
abbrev ord (x y : Nat) : Option Ordering := single.order x y
theorem ord_def {x y : Nat} : ord x y = (single.read x).order (single.read y) := rfl
theorem ord_some {x y : Nat} (hx : NN x) (hy : NN y) : ∃ o, ord x y = some o := by
  rw [ord_def]; rw [NN] at hx hy
  cases h : single.read x <;> cases h2 : single.read y <;> first | (rw [h] at hx; cases hx; done) | (rw [h2] at hy; cases hy; done) | exact ⟨_, rfl⟩
theorem nn_of_ord {x y : Nat} {o : Ordering} (h : ord x y = some o) : NN x ∧ NN y := by
  rw [ord_def] at h
  constructor <;> rw [NN]
  · cases e : single.read x with
    | nan s n => rw [e] at h; cases h2 : single.read y <;> rw [h2] at h <;> cases h
    | _ => rfl
  · cases e : single.read y with
    | nan s n => rw [e] at h; cases h2 : single.read x <;> rw [h2] at h <;> cases h
    | _ => rfl
def geB (x y : Nat) : Bool := ord x y == some .gt || ord x y == some .eq
def leB (x y : Nat) : Bool := ord x y == some .lt || ord x y == some .eq
def gtB (x y : Nat) : Bool := ord x y == some .gt
def ltB (x y : Nat) : Bool := ord x y == some .lt
theorem not_gt {x y : Nat} (hx : NN x) (hy : NN y) : (!gtB x y) = leB x y := by
  obtain ⟨o, e⟩ := ord_some hx hy
  rw [gtB, leB, e]; cases o <;> rfl

/-- A place of a cake. -/
def plF (p : Int) (x : Nat) : Bool := geB x 0 && leB x (fI p)
def PlD (x : Nat) : Prop := ∃ s m i, single.read x = .number s m i ∧ (s = true → m = 0) ∧ (m = 0 ∨ i + (m.log2 : Int) ≤ 10)
theorem PlD.sm {x : Nat} (h : PlD x) : Sm 10 x := by obtain ⟨s, m, i, e, _, h⟩ := h; exact ⟨s, m, i, e, h⟩
theorem PlD.nn {x : Nat} (h : PlD x) : NN x := h.sm.nn
theorem fI_pl {n : Int} (h0 : 0 ≤ n) (h1 : n ≤ 1000) : PlD (fI n) := by
  obtain ⟨m, i, e, _, h, _⟩ := fI_read h0 h1
  exact ⟨false, m, i, e, by simp, h⟩
theorem signed_false {m a : Nat} : signed false m a = ((m * 2 ^ a : Nat) : Int) := by
  show ((m <<< a : Nat) : Int) = _
  rw [Nat.shiftLeft_eq]
theorem signed_true {m a : Nat} : signed true m a = -((m * 2 ^ a : Nat) : Int) := by
  show -((m <<< a : Nat) : Int) = _
  rw [Nat.shiftLeft_eq]
theorem pow_log2 {m : Nat} (h : m ≠ 0) : 2 ^ m.log2 ≤ m := Nat.log2_self_le h
theorem cmp_small {m n : Nat} {i j E : Int} (h : (n : Nat) = 0 ∨ j + (n.log2 : Int) ≤ E) (c : m * 2 ^ (i - min i j).toNat ≤ n * 2 ^ (j - min i j).toNat) : m = 0 ∨ i + (m.log2 : Int) ≤ E := by
  by_cases hm : m = 0
  · exact .inl hm
  right
  have hpos : 0 < m * 2 ^ (i - min i j).toNat := Nat.mul_pos (by omega) (Nat.two_pow_pos _)
  have hn : n ≠ 0 := by
    rintro rfl
    rw [Nat.zero_mul] at c; omega
  have h := h.resolve_left hn
  have h1 : 2 ^ (m.log2 + (i - min i j).toNat) ≤ m * 2 ^ (i - min i j).toNat := by
    rw [Nat.pow_add]; exact Nat.mul_le_mul_right _ (pow_log2 hm)
  have h2 : n * 2 ^ (j - min i j).toNat < 2 ^ (n.log2 + 1 + (j - min i j).toNat) := by
    rw [Nat.pow_add]; exact Nat.mul_lt_mul_of_pos_right lt_log2 (Nat.two_pow_pos _)
  have h3 := (Nat.pow_lt_pow_iff_right (a := 2) (by decide)).1 (Nat.lt_of_le_of_lt h1 (Nat.lt_of_le_of_lt c h2))
  omega
theorem compare_le {a b : Int} (h : compare a b = .lt ∨ compare a b = .eq) : a ≤ b := by
  rcases h with h | h
  · have := Int.compare_eq_lt.1 h; omega
  · have := Int.compare_eq_eq.1 h; omega
theorem compare_ge {a b : Int} (h : compare a b = .gt ∨ compare a b = .eq) : b ≤ a := by
  rcases h with h | h
  · have := Int.compare_eq_gt.1 h; omega
  · have := Int.compare_eq_eq.1 h; omega
theorem pl_of {p : Int} {x : Nat} (hp : 0 ≤ p ∧ p ≤ 16) (h : plF p x = true) : PlD x := by
  rw [plF, Bool.and_eq_true] at h
  obtain ⟨n, j, e, _, hb, _⟩ := fI_read hp.1 (by omega)
  have h1 := h.1
  have h2 := h.2
  simp only [geB, leB, Bool.or_eq_true, beq_iff_eq] at h1 h2
  rw [ord_def, read_zero] at h1
  rw [ord_def, e] at h2
  cases hx : single.read x with
  | nan s f => rw [hx] at h1; rcases h1 with h1 | h1 <;> cases h1
  | infinity s =>
    rw [hx] at h1 h2
    cases s
    · rcases h2 with h2 | h2 <;> cases h2
    · rcases h1 with h1 | h1 <;> cases h1
  | number s m i =>
    rw [hx] at h1 h2
    have k1 := compare_ge (a := signed s m (i - min i (-149)).toNat) (b := signed false 0 ((-149) - min i (-149)).toNat) (by
      rcases h1 with h1 | h1
      · exact .inl (Option.some.inj h1)
      · exact .inr (Option.some.inj h1))
    have k2 := compare_le (a := signed s m (i - min i j).toNat) (b := signed false n (j - min i j).toNat) (by
      rcases h2 with h2 | h2
      · exact .inl (Option.some.inj h2)
      · exact .inr (Option.some.inj h2))
    rw [signed_false, Nat.zero_mul] at k1
    rw [signed_false] at k2
    cases s
    · rw [signed_false] at k1 k2
      exact ⟨false, m, i, hx, by simp, cmp_small hb (Int.ofNat_le.1 k2)⟩
    · rw [signed_true] at k1
      have : m * 2 ^ (i - min i (-149)).toNat = 0 := by omega
      have hm : m = 0 := by
        rcases Nat.mul_eq_zero.1 this with h | h
        · exact h
        · exact absurd h (Nat.pos_iff_ne_zero.1 (Nat.two_pow_pos _))
      exact ⟨true, m, i, hx, fun _ => hm, .inl hm⟩
theorem ord_eq_read {x y m n : Nat} {i j : Int} (hx : single.read x = .number false m i) (hy : single.read y = .number false n j) (h : ord x y = some .eq) : single.read x = single.read y := by
  have a := s_num hx
  have b := s_num hy
  rw [ord_def, hx, hy] at h
  have k : signed false m (i - min i j).toNat = signed false n (j - min i j).toNat := Int.compare_eq_eq.1 (Option.some.inj h)
  rw [signed_false, signed_false] at k
  have k := Int.ofNat_inj.1 k
  rw [hx, hy]
  rcases Int.lt_trichotomy i j with c | c | c
  · exfalso
    rw [show (i - min i j).toNat = 0 by omega, Nat.pow_zero, Nat.mul_one] at k
    obtain ⟨d, hd⟩ : ∃ d, (j - min i j).toNat = d + 1 := ⟨(j - min i j).toNat - 1, by omega⟩
    rw [hd, Nat.pow_succ] at k
    have hp := Nat.two_pow_pos d
    have : n * 2 ≤ n * (2 ^ d * 2) := Nat.mul_le_mul_left _ (by omega)
    omega
  · subst c
    rw [show (i - min i i).toNat = 0 by omega, Nat.pow_zero, Nat.mul_one, Nat.mul_one] at k
    rw [k]
  · exfalso
    rw [show (j - min i j).toNat = 0 by omega, Nat.pow_zero, Nat.mul_one] at k
    obtain ⟨d, hd⟩ : ∃ d, (i - min i j).toNat = d + 1 := ⟨(i - min i j).toNat - 1, by omega⟩
    rw [hd, Nat.pow_succ] at k
    have hp := Nat.two_pow_pos d
    have : m * 2 ≤ m * (2 ^ d * 2) := Nat.mul_le_mul_left _ (by omega)
    omega

/-! ## A part of a piece -/
def cA (x : Nat) (k : Nat) : Nat := if gtB x (fI k) then x else fI k
def cB (y : Nat) (k : Nat) : Nat := if ltB y (fI ((k : Int) + 1)) then y else fI ((k : Int) + 1)
theorem cA_pl {x k : Nat} (hx : PlD x) (hk : k ≤ 16) : PlD (cA x k) := by
  unfold cA; split
  · exact hx
  · exact fI_pl (by omega) (by omega)
theorem cB_pl {y k : Nat} (hy : PlD y) (hk : k ≤ 16) : PlD (cB y k) := by
  unfold cB; split
  · exact hy
  · exact fI_pl (by omega) (by omega)
theorem cA_yes {x k : Nat} (h : gtB x (fI k) = true) : cA x k = x := by rw [cA, if_pos h]
theorem cA_no {x k : Nat} (h : gtB x (fI k) = false) : cA x k = fI k := by rw [cA, if_neg (by rw [h]; exact Bool.false_ne_true)]
theorem cB_yes {y k : Nat} (h : ltB y (fI ((k : Int) + 1)) = true) : cB y k = y := by rw [cB, if_pos h]
theorem cB_no {y k : Nat} (h : ltB y (fI ((k : Int) + 1)) = false) : cB y k = fI ((k : Int) + 1) := by rw [cB, if_neg (by rw [h]; exact Bool.false_ne_true)]
theorem gtB_of {x y : Nat} {o : Ordering} (h : ord x y = some o) : gtB x y = (some o == some .gt) := by rw [gtB, h]
theorem ltB_of {x y : Nat} {o : Ordering} (h : ord x y = some o) : ltB x y = (some o == some .lt) := by rw [ltB, h]
theorem fmax_of {x y : Nat} {o : Ordering} (h : ord x y = some o) : fmaxB .f32 x y = (match o with | .lt => some y | .gt => some x | .eq => some (if (single.read x).neg then y else x)) := by
  have h' : FloatKind.f32.format.order x y = some o := h
  unfold fmaxB
  rw [h']
  cases o <;> rfl
theorem fmin_of {x y : Nat} {o : Ordering} (h : ord x y = some o) : fminB .f32 x y = (match o with | .lt => some x | .gt => some y | .eq => some (if (single.read x).neg then x else y)) := by
  have h' : FloatKind.f32.format.order x y = some o := h
  unfold fminB
  rw [h']
  cases o <;> rfl
theorem neg_false {x m : Nat} {i : Int} {a b : Nat} (e : single.read x = .number false m i) : (if (single.read x).neg then a else b) = b := by rw [e]; rfl
theorem neg_true {x m : Nat} {i : Int} {a b : Nat} (e : single.read x = .number true m i) : (if (single.read x).neg then a else b) = a := by rw [e]; rfl
theorem max_gen {x y : Nat} (hx : PlD x) {n : Nat} {j : Int} (e2 : single.read y = .number false n j) : ∃ a, fmaxB .f32 x y = some a ∧ single.read a = single.read (if gtB x y then x else y) := by
  obtain ⟨s, m, i, e, hs, hb⟩ := hx
  have hnx : NN x := by rw [NN, e]; rfl
  have hnf : NN y := by rw [NN, e2]; rfl
  obtain ⟨o, ho⟩ := ord_some hnx hnf
  rw [fmax_of ho, gtB_of ho]
  cases o with
  | lt => exact ⟨_, rfl, rfl⟩
  | gt => exact ⟨_, rfl, rfl⟩
  | eq =>
    refine ⟨_, rfl, ?_⟩
    cases s
    · rw [neg_false e]
      exact ord_eq_read e e2 ho
    · rw [neg_true e]; rfl
theorem max_cA {x k : Nat} (hx : PlD x) (hk : k ≤ 16) : ∃ a, fmaxB .f32 x (fI k) = some a ∧ single.read a = single.read (cA x k) := by
  obtain ⟨n, j, e2, _⟩ := fI_read (n := (k : Int)) (by omega) (by omega)
  exact max_gen hx e2
theorem min_gen {x y : Nat} (hx : PlD x) {n : Nat} {j : Int} (e2 : single.read y = .number false n j) (hn : n ≠ 0) : ∃ a, fminB .f32 x y = some a ∧ single.read a = single.read (if ltB x y then x else y) := by
  obtain ⟨s, m, i, e, hs, hb⟩ := hx
  have hnx : NN x := by rw [NN, e]; rfl
  have hnf : NN y := by rw [NN, e2]; rfl
  obtain ⟨o, ho⟩ := ord_some hnx hnf
  rw [fmin_of ho, ltB_of ho]
  cases o with
  | lt => exact ⟨_, rfl, rfl⟩
  | gt => exact ⟨_, rfl, rfl⟩
  | eq =>
    refine ⟨_, rfl, ?_⟩
    cases s
    · rw [neg_false e]; rfl
    · exfalso
      have hm := hs rfl
      subst hm
      rw [ord_def, e, e2] at ho
      have k1 : signed true 0 (i - min i j).toNat = signed false n (j - min i j).toNat := Int.compare_eq_eq.1 (Option.some.inj ho)
      rw [signed_true, signed_false, Nat.zero_mul] at k1
      have : n * 2 ^ (j - min i j).toNat = 0 := by omega
      rcases Nat.mul_eq_zero.1 this with h | h
      · exact hn h
      · exact absurd h (Nat.pos_iff_ne_zero.1 (Nat.two_pow_pos _))
theorem min_cB {y k : Nat} (hy : PlD y) (hk : k ≤ 16) : ∃ b, fminB .f32 y (fI ((k : Int) + 1)) = some b ∧ single.read b = single.read (cB y k) := by
  obtain ⟨n, j, e2, hn, _⟩ := fI_read (n := (k : Int) + 1) (by omega) (by omega)
  exact min_gen hy e2 (fun h => by have := hn.1 h; omega)
theorem sub_read {a a' b b' : Nat} (h1 : single.read a = single.read a') (h2 : single.read b = single.read b') : single.sub a b = single.sub a' b' := by rw [Format.sub, h1, h2]; rfl
def cD (x y k : Nat) : Nat := fSub (cB y k) (cA x k)
theorem cD_ok {x y k : Nat} (hx : PlD x) (hy : PlD y) (hk : k ≤ 16) : single.sub (cB y k) (cA x k) = some (cD x y k) ∧ Sm 12 (cD x y k) := sub_small (cB_pl hy hk).sm (cA_pl hx hk).sm (by decide) (by decide)
theorem cD_imp {x y k a b : Nat} (hx : PlD x) (hy : PlD y) (hk : k ≤ 16) (ha : single.read a = single.read (cA x k)) (hb : single.read b = single.read (cB y k)) : floatBits .sub .f32 b a = some (cD x y k) := by
  show single.sub b a = _
  rw [sub_read hb ha]; exact (cD_ok hx hy hk).1
theorem gt_zero {E : Int} {d : Nat} (h : Sm E d) (c : gtB d 0 = true) : ∃ m i, single.read d = .number false m i := by
  obtain ⟨s, m, i, e, _⟩ := h
  cases s
  · exact ⟨m, i, e⟩
  · exfalso
    rw [gtB, ord_def, e, read_zero, beq_iff_eq] at c
    have := Int.compare_eq_gt.1 (Option.some.inj c)
    rw [signed_true, signed_false] at this
    have h2 : (0 : Int) ≤ ((m * 2 ^ (i - min i (-149)).toNat : Nat) : Int) := Int.natCast_nonneg _
    omega
def cSum (x y : Nat) (ws : List Int) : Nat → Nat
  | 0 => 0
  | k + 1 => if gtB (cD x y k) 0 then fAdd (cSum x y ws k) (fMul (fI (ws.getD k 0)) (cD x y k)) else cSum x y ws k
def okW (ws : List Int) : Prop := ws.length ≤ 16 ∧ ∀ k, k < ws.length → 0 ≤ ws.getD k 0 ∧ ws.getD k 0 ≤ 1000
theorem ps_zero : Ps 0 := .inl ⟨0, -149, read_zero⟩
theorem cSum_step {x y : Nat} {ws : List Int} {k : Nat} (hx : PlD x) (hy : PlD y) (hw : okW ws) (hk : k < ws.length) (hs : Ps (cSum x y ws k)) (c : gtB (cD x y k) 0 = true) :
    single.mul (fI (ws.getD k 0)) (cD x y k) = some (fMul (fI (ws.getD k 0)) (cD x y k)) ∧ single.add (cSum x y ws k) (fMul (fI (ws.getD k 0)) (cD x y k)) = some (cSum x y ws (k + 1)) ∧ Ps (cSum x y ws (k + 1)) := by
  have hd := (cD_ok hx hy (k := k) (by have := hw.1; omega)).2
  obtain ⟨n, j, e2⟩ := gt_zero hd c
  have hb := hw.2 k hk
  obtain ⟨m, i, e1, _⟩ := fI_read hb.1 hb.2
  have h1 := mul_pos e1 e2
  have h2 := add_pos hs h1.2
  refine ⟨h1.1, ?_, ?_⟩
  · rw [cSum, if_pos c]; exact h2.1
  · rw [cSum, if_pos c]; exact h2.2
theorem cSum_skip {x y : Nat} {ws : List Int} {k : Nat} (c : gtB (cD x y k) 0 = false) : cSum x y ws k = cSum x y ws (k + 1) := by
  rw [cSum, c]; rfl
theorem cSum_ps {x y : Nat} {ws : List Int} (hx : PlD x) (hy : PlD y) (hw : okW ws) : ∀ k, k ≤ ws.length → Ps (cSum x y ws k)
  | 0, _ => ps_zero
  | k + 1, hk => by
    have ih := cSum_ps hx hy hw k (by omega)
    by_cases c : gtB (cD x y k) 0 = true
    · exact (cSum_step hx hy hw (by omega) ih c).2.2
    · rw [← cSum_skip (by simpa using c)]; exact ih

/-! ## In double precision -/
theorem d_read (x : Nat) : double.read x = (if x % 9223372036854775808 < 4503599627370496 then .number (x / 9223372036854775808 % 2 == 1) (x % 9223372036854775808) (-1074)
    else if x % 9223372036854775808 < 9218868437227405312 then .number (x / 9223372036854775808 % 2 == 1) (4503599627370496 + x % 9223372036854775808 % 4503599627370496) (-1074 + (x % 9223372036854775808 / 4503599627370496 - 1 : Nat))
    else if x % 9223372036854775808 = 9218868437227405312 then .infinity (x / 9223372036854775808 % 2 == 1) else .nan (x / 9223372036854775808 % 2 == 1) (x % 9223372036854775808 - 9218868437227405312)) := rfl
theorem d_parts (neg : Bool) (r : Nat) (hr : r < 9223372036854775808) : double.word neg r % 9223372036854775808 = r ∧ (double.word neg r / 9223372036854775808 % 2 == 1) = neg := by
  have e : double.word neg r = if neg then 9223372036854775808 + r else r := rfl
  rw [e]
  cases neg
  · simp only [Bool.false_eq_true, if_false]
    exact ⟨by omega, by rw [show r / 9223372036854775808 % 2 = 0 by omega]; rfl⟩
  · simp only [if_true]
    exact ⟨by omega, by rw [show (9223372036854775808 + r) / 9223372036854775808 % 2 = 1 by omega]; rfl⟩
theorem d_inf (neg : Bool) : double.read (double.word neg 9218868437227405312) = .infinity neg := by
  have hw := d_parts neg 9218868437227405312 (by omega)
  rw [d_read, hw.1, hw.2, if_neg (by omega), if_neg (by omega), if_pos rfl]
theorem d_word (neg : Bool) (r : Nat) (hr : r < 9218868437227405312) : ∃ m i, double.read (double.word neg r) = .number neg m i := by
  have hw := d_parts neg r (by omega)
  rw [d_read, hw.1, hw.2]
  by_cases c : r < 4503599627370496
  · rw [if_pos c]; exact ⟨_, _, rfl⟩
  · rw [if_neg c, if_pos hr]; exact ⟨_, _, rfl⟩
/-- What is wide of a number. -/
def wid (x : Nat) : Nat := (floatToFloatBits .f32 x .f64).getD 0
theorem wid_ok {x : Nat} (h : NN x) : floatToFloatBits .f32 x .f64 = some (wid x) ∧ (double.read (wid x)).isNaN = false := by
  have key : ∃ r, floatToFloatBits .f32 x .f64 = some r ∧ (double.read r).isNaN = false := by
    unfold floatToFloatBits
    rw [if_neg (by decide)]
    rw [NN] at h
    show ∃ r, (match single.read x with
      | .nan _ _ => none
      | .infinity s => some (double.write (.infinity s))
      | .number s m e => if (double.read (double.write (.number s m e))).isInfinity then none else some (double.write (.number s m e))) = some r ∧ _
    cases e : single.read x with
    | nan s n => rw [e] at h; cases h
    | infinity s =>
      refine ⟨_, rfl, ?_⟩
      show (double.read (double.word s 9218868437227405312)).isNaN = false
      rw [d_inf]; rfl
    | number s m i =>
      have hb := s_num e
      obtain ⟨r, e2, hr, hl⟩ := near_rung double s m i
      have hl : r ≤ 1149 * 4503599627370496 + 2 * 4503599627370496 := hl 1149 (by
        by_cases h0 : m = 0
        · exact .inl h0
        · right
          have : m.log2 ≤ 23 := log2_le h0 (by omega)
          show i + (m.log2 : Int) - (52 : Nat) - (-1074) ≤ _
          omega)
      obtain ⟨a, b, e3⟩ := d_word s r (by omega)
      have e4 : double.read (double.write (.number s m i)) = .number s a b := by
        show double.read (double.nearest s m i) = _
        rw [e2]; exact e3
      refine ⟨double.write (.number s m i), ?_, ?_⟩
      · show (if (double.read (double.write (.number s m i))).isInfinity then none else some (double.write (.number s m i))) = _
        rw [e4]; rfl
      · rw [e4]; rfl
  obtain ⟨r, e, hr⟩ := key
  have : wid x = r := by rw [wid, e]; rfl
  rw [this]
  exact ⟨e, hr⟩
end Go.Am

namespace Go.Am
set_option linter.unusedSimpArgs false
set_option linter.unusedVariables false
open Ieee
section
variable {P : Program} {K : Value → AHeap → Prop} {env : Env} {h : AHeap} {dst : Option Tmp} {ty : TypeId} {pos : String} {after : Array Edge} {guard : Option (Nat × Bool)}
theorem o_convI32 {src d : TypeId} {x : Operand} {k : IntKind} {p : Int} {sd : TypeDesc} (hs : P.underlying src = some sd) (hd : P.underlying d = some (.float .f32))
    (hx : aeval env x = .int k p) (hK : K (.float .f32 (fI p)) h) : AOp P ⟨dst, .convert src d x, ty, pos, after, guard⟩ K env h := o_convIF hs hd hx hK
end
theorem validC_get {p q : Int} {xs : List Int} (h : validC p q xs = true) : (1 ≤ p ∧ p ≤ 6) ∧ (1 ≤ q ∧ q ≤ 16) ∧ (xs.length : Int) = p * q ∧ ∀ k, k < xs.length → 0 ≤ xs.getD k 0 ∧ xs.getD k 0 ≤ 1000 := by
  simp only [validC, Bool.and_eq_true, decide_eq_true_eq] at h
  refine ⟨h.1.1.1.1, h.1.1.1.2, h.1.1.2, fun k hk => ?_⟩
  rw [getD_at hk]
  exact of_decide_eq_true (List.all_eq_true.1 h.1.2 _ (List.getElem_mem hk))
abbrev rowC (q i : Int) (xs : List Int) : List Int := part xs (i * q).toNat ((i + 1) * q).toNat
theorem rowC_ok {p q i : Int} {xs : List Int} (h : validC p q xs = true) (hi : 0 ≤ i ∧ i ≤ p - 1) : (0 ≤ i * q ∧ i * q ≤ (i + 1) * q ∧ (i + 1) * q ≤ xs.length) ∧ i * q + q = (i + 1) * q ∧ ((rowC q i xs).length : Int) = q ∧ okW (rowC q i xs) ∧ xs.length ≤ 96 ∧ 0 < xs.length := by
  obtain ⟨h1, h2, h3, h4⟩ := validC_get h
  have hr := row_bound hi.1 (by omega) (by omega) h3
  have he : i * q + q = (i + 1) * q := by rw [Int.add_mul, Int.one_mul]
  have hl : (rowC q i xs).length = ((i + 1) * q).toNat - (i * q).toNat := part_len (by omega) (by omega)
  have hm := mul_bound (p := p) (q := q) (a := 6) (b := 16) (by omega) (by omega)
  refine ⟨hr, he, by omega, ⟨by omega, fun k hk => ?_⟩, by omega, by omega⟩
  rw [rowC, part_get (by omega)]
  exact h4 _ (by omega)
def cwK (p q i : Int) (xs : List Int) (x y : Nat) : Bool := (validC p q xs && decide (0 ≤ i ∧ i ≤ p - 1)) && (plF q x && (plF q y && !gtB x y))
def cwR (p q i : Int) (xs : List Int) (x y : Nat) : Nat := if cwK p q i xs x y then cSum x y (rowC q i xs) q.toNat else 0
def cwT (p q i : Int) (xs : List Int) (x y : Nat) : Value := .tuple #[fl (cwR p q i xs x y), .bool (cwK p q i xs x y)]
variable {p q i : Int} {xs : List Int} {x y : Nat}
theorem cw_no (h : cwK p q i xs x y = false) : Value.tuple #[fl 0, .bool false] = cwT p q i xs x y := by rw [cwT, cwR, h]; rfl
theorem cw_yes (h : cwK p q i xs x y = true) : Value.tuple #[fl (cSum x y (rowC q i xs) q.toNat), .bool true] = cwT p q i xs x y := by rw [cwT, cwR, h]; rfl
theorem cwK_1 (h : (validC p q xs && decide (0 ≤ i ∧ i ≤ p - 1)) = false) : cwK p q i xs x y = false := by rw [cwK, h]; rfl
theorem cwK_2 (h : plF q x = false) : cwK p q i xs x y = false := by rw [cwK, h]; simp
theorem cwK_3 (h : plF q y = false) : cwK p q i xs x y = false := by rw [cwK, h]; simp
theorem cwK_4 (h : gtB x y = true) : cwK p q i xs x y = false := by rw [cwK, h]; simp
theorem cwK_yes (h1 : (validC p q xs && decide (0 ≤ i ∧ i ≤ p - 1)) = true) (h2 : plF q x = true) (h3 : plF q y = true) (h4 : gtB x y = false) : cwK p q i xs x y = true := by rw [cwK, h1, h2, h3, h4]; rfl
theorem hasC_get (h : (validC p q xs && decide (0 ≤ i ∧ i ≤ p - 1)) = true) : validC p q xs = true ∧ (0 ≤ i ∧ i ≤ p - 1) := by
  simp only [Bool.and_eq_true, decide_eq_true_eq] at h; exact h
theorem hasC_yes (h : validC p q xs = true) (hi : decide (0 ≤ i ∧ i ≤ p - 1) = true) : (validC p q xs && decide (0 ≤ i ∧ i ≤ p - 1)) = true := by rw [h, hi]; rfl
theorem hasC_no1 (h : validC p q xs = false) : (validC p q xs && decide (0 ≤ i ∧ i ≤ p - 1)) = false := by rw [h]; rfl
theorem hasC_no2 (hi : decide (0 ≤ i ∧ i ≤ p - 1) = false) : (validC p q xs && decide (0 ≤ i ∧ i ≤ p - 1)) = false := by rw [hi, Bool.and_false]
theorem pl_no1 (h : geB x 0 = false) : false = plF q x := by rw [plF, h]; rfl
theorem pl_at (h : geB x 0 = true) {b : Bool} (h2 : leB x (fI q) = b) : b = plF q x := by rw [plF, h, h2]; rfl
theorem fb_mul {a b c : Nat} (h : single.mul a b = some c) : floatBits .mul .f32 a b = some c := h
theorem fb_add {a b c : Nat} (h : single.add a b = some c) : floatBits .add .f32 a b = some c := h
theorem fb_sub {a b c : Nat} (h : single.sub a b = some c) : floatBits .sub .f32 a b = some c := h
theorem fb_div {a b c : Nat} (h : single.div a b = some c) : floatBits .quo .f32 a b = some c := h
end Go.Am

namespace Go.Am
set_option linter.unusedSimpArgs false
set_option linter.unusedVariables false
open Ieee

/-! ## A number less itself -/
def finB (x : Nat) : Bool := match single.read x with | .number .. => true | _ => false
theorem Step.drew1 {m : Map} {h : AHeap} {w : World} : Step m h w m h { w with drawn := w.drawn + 1 } := by
  have s : Step m h w m h w := Step.refl
  exact ⟨s.ext, s.size, s.os, s.tape, s.output, s.frame, s.own⟩
theorem sub_self_fin {x : Nat} (h : finB x = true) : single.sub x x = some 0 := by
  unfold finB at h
  cases e : single.read x with
  | nan s n => rw [e] at h; cases h
  | infinity s => rw [e] at h; cases h
  | number s m i =>
    rw [Format.sub, e]
    show (Datum.sum (.number s m i) (.number (!s) m i)).map single.write = some 0
    have : Datum.sum (.number s m i) (.number (!s) m i) = some (.number false 0 (min i i)) := by
      have hz : signed s m (i - min i i).toNat + signed (!s) m (i - min i i).toNat = 0 := by
        cases s
        · show signed false m _ + signed true m _ = 0
          rw [signed_true, signed_false]; omega
        · show signed true m _ + signed false m _ = 0
          rw [signed_true, signed_false]; omega
      show some (Datum.number (if signed s m (i - min i i).toNat + signed (!s) m (i - min i i).toNat = 0 then s && !s else _) (signed s m (i - min i i).toNat + signed (!s) m (i - min i i).toNat).natAbs (min i i)) = _
      rw [hz, if_pos rfl]
      cases s <;> rfl
    rw [this]; rfl
theorem sub_self_inf {x : Nat} (h : finB x = false) : single.sub x x = none := by
  unfold finB at h
  cases e : single.read x with
  | nan s n => rw [Format.sub, e]; rfl
  | infinity s => rw [Format.sub, e]; cases s <;> rfl
  | number s m i => rw [e] at h; cases h
theorem isNaN_nan {s : Bool} {n : Nat} : (Datum.nan s n).isNaN = true := rfl
theorem nan_word (b c : Nat) (hb : b < 2) (hc : c < 8388607) : (single.read (b * 2147483648 + 2139095040 + 1 + c)).isNaN = true := by
  have e : (b * 2147483648 + 2139095040 + 1 + c) % 2147483648 = 2139095041 + c := by omega
  rw [s_read, e, if_neg (by omega), if_neg (by omega), if_neg (by omega)]
  exact isNaN_nan
theorem nan_chosen (p q t : Nat) : (single.read (Question.cut (.nanBits .f32 p q) t)).isNaN = true :=
  nan_word (t % 2) (t / 2 % 8388607) (Nat.mod_lt _ (by omega)) (Nat.mod_lt _ (by omega))
theorem ord_nan {x y : Nat} (h : (single.read x).isNaN = true) : ord x y = none := by
  cases e : ord x y with
  | none => rfl
  | some o =>
    have := (nn_of_ord e).1
    rw [NN, h] at this; cases this
section
variable {P : Program} {K : Value → AHeap → Prop} {env : Env} {h : AHeap} {dst : Option Tmp} {ty : TypeId} {pos : String} {after : Array Edge} {guard : Option (Nat × Bool)}
theorem o_fself {t yt : TypeId} {x y : Operand} {p : Nat} (hx : aeval env x = .float .f32 p) (hy : aeval env y = .float .f32 p)
    (hK : ∀ r, (FloatKind.f32.format.order r 0 == some .eq) = finB p → K (.float .f32 r) h) : AOp P ⟨dst, .binOp .sub t x y yt, ty, pos, after, guard⟩ K env h := by
  by_cases hf : finB p = true
  · refine o_fbin hx hy (r := 0) (fb_sub (sub_self_fin hf)) (hK 0 ?_)
    rw [hf]
    show (ord 0 0 == some .eq) = true
    rw [ord_def, read_zero]; rfl
  · rw [Bool.not_eq_true] at hf
    refine AOp.of_run fun m w a hr ho => ?_
    have h1 := ho x (by simp [Op.operands])
    have h2 := ho y (by simp [Op.operands])
    rw [hx] at h1; rw [hy] at h2
    have e1 := h1.float
    have e2 := h2.float
    refine ⟨.float .f32 (Question.cut (.nanBits .f32 p p) (w.tape w.drawn (.nanBits .f32 p p))), _, m, h, { w with drawn := w.drawn + 1 }, ?_, ⟨hr.1, hr.2, hr.3⟩, Step.drew1, .prim rfl, hK _ ?_⟩
    · have e3 : FloatKind.f32.format.sub p p = none := sub_self_inf hf
      simp [execOp, e1, e2, eqGuard_at_float, binOp, Op.floatArith, e3, choose, Sem.run, Question.forced]
    · rw [hf]
      show (ord _ 0 == some .eq) = false
      rw [ord_nan (nan_chosen p p _)]; rfl
end

/-! ## Marks -/
theorem fI_pos {n : Int} (h0 : 0 ≤ n) (h1 : n ≤ 1000) : gtB (fI n) 0 = decide (0 < n) := by
  obtain ⟨m, i, e, hm, _⟩ := fI_read h0 h1
  rw [gtB, ord_def, e, read_zero]
  show (some (compare (signed false m (i - min i (-149)).toNat) (signed false 0 (-149 - min i (-149)).toNat)) == some Ordering.gt) = _
  rw [signed_false, signed_false, Nat.zero_mul]
  by_cases c : 0 < n
  · have hpos : 0 < m * 2 ^ (i - min i (-149)).toNat := Nat.mul_pos (by omega) (Nat.two_pow_pos _)
    rw [decide_eq_true c, Int.compare_eq_gt.2 (show ((0 : Nat) : Int) < ((m * 2 ^ (i - min i (-149)).toNat : Nat) : Int) from Int.ofNat_lt.2 hpos)]; rfl
  · have : m = 0 := hm.2 (by omega)
    subst this
    rw [decide_eq_false c, Nat.zero_mul, Int.compare_eq_eq.2 rfl]; rfl
def mP (x : Nat) (ws : List Int) (k : Nat) : Nat := fMul (fI (ws.getD k 0)) (fSub (fI ((k : Int) + 1)) (cA x k))
def mLeft (x w : Nat) (ws : List Int) : Nat → Nat
  | 0 => w
  | k + 1 => if gtB (fI ((k : Int) + 1)) x then fSub (mLeft x w ws k) (mP x ws k) else mLeft x w ws k
def mHit (x w : Nat) (ws : List Int) (k : Nat) : Bool := gtB (fI ((k : Int) + 1)) x && (geB (mP x ws k) (mLeft x w ws k) && decide (0 < ws.getD k 0))
def mRes (x w : Nat) (ws : List Int) (k : Nat) : Nat := fAdd (cA x k) (fDiv (mLeft x w ws k) (fI (ws.getD k 0)))
def mHitI (x w : Nat) (ws : List Int) (z : Int) : Bool := mHit x w ws z.toNat
def mFir (x w : Nat) (ws : List Int) (n : Nat) : Int := idxTo (mHitI x w ws) (cntL n) n
def mAll (q : Int) (x w : Nat) (ws : List Int) : Nat := if 0 ≤ mFir x w ws q.toNat then mRes x w ws (mFir x w ws q.toNat).toNat else fI q
theorem mP_ok {x : Nat} {ws : List Int} {k : Nat} (hx : PlD x) (hw : okW ws) (hk : k < ws.length) :
    single.sub (fI ((k : Int) + 1)) (cA x k) = some (fSub (fI ((k : Int) + 1)) (cA x k)) ∧ single.mul (fI (ws.getD k 0)) (fSub (fI ((k : Int) + 1)) (cA x k)) = some (mP x ws k) ∧ Sm 24 (mP x ws k) := by
  have hb := hw.2 k hk
  have hl := hw.1
  have h1 := sub_small (fI_sm (n := (k : Int) + 1) (by omega) (by omega)) (cA_pl hx (k := k) (by omega)).sm (by decide) (by decide)
  have h2 := mul_small (fI_sm hb.1 hb.2) h1.2 (by decide) (by decide)
  exact ⟨h1.1, h2.1, h2.2⟩
theorem mLeft_nn {x w : Nat} {ws : List Int} (hx : PlD x) (hw : okW ws) (h0 : NN w) : ∀ k, k ≤ ws.length → NN (mLeft x w ws k)
  | 0, _ => h0
  | k + 1, hk => by
    have ih := mLeft_nn hx hw h0 k (by omega)
    rw [mLeft]
    split
    · exact (sub_nn ih (mP_ok hx hw (k := k) (by omega)).2.2).2
    · exact ih
theorem mLeft_on {x w : Nat} {ws : List Int} {k : Nat} (hx : PlD x) (hw : okW ws) (h0 : NN w) (hk : k < ws.length) (c : gtB (fI ((k : Int) + 1)) x = true) : single.sub (mLeft x w ws k) (mP x ws k) = some (mLeft x w ws (k + 1)) := by
  rw [mLeft, if_pos c]
  exact (sub_nn (mLeft_nn hx hw h0 k (by omega)) (mP_ok hx hw hk).2.2).1
theorem mLeft_skip {x w : Nat} {ws : List Int} {k : Nat} (c : gtB (fI ((k : Int) + 1)) x = false) : mLeft x w ws k = mLeft x w ws (k + 1) := by
  rw [mLeft, c]; rfl
theorem mRes_ok {x w : Nat} {ws : List Int} {k : Nat} (hx : PlD x) (hw : okW ws) (h0 : NN w) (hk : k < ws.length) (hn : 0 < ws.getD k 0) :
    single.div (mLeft x w ws k) (fI (ws.getD k 0)) = some (fDiv (mLeft x w ws k) (fI (ws.getD k 0))) ∧ single.add (cA x k) (fDiv (mLeft x w ws k) (fI (ws.getD k 0))) = some (mRes x w ws k) ∧ NN (mRes x w ws k) := by
  have hb := hw.2 k hk
  have hl := hw.1
  obtain ⟨m, i, e, hm, _⟩ := fI_read hb.1 hb.2
  have h1 := div_nn (mLeft_nn hx hw h0 k (by omega)) e (by omega)
  have h2 := add_nn (cA_pl hx (k := k) (by omega)).sm h1.2
  exact ⟨h1.1, h2.1, h2.2⟩
theorem add_read {a a' b : Nat} (h1 : single.read a = single.read a') : single.add a b = single.add a' b := by rw [Format.add, h1]; rfl
theorem hit_1 {x w : Nat} {ws : List Int} {k : Nat} (c : gtB (fI ((k : Int) + 1)) x = false) : mHit x w ws k = false := by rw [mHit, c]; rfl
theorem hit_2 {x w : Nat} {ws : List Int} {k : Nat} (c : geB (mP x ws k) (mLeft x w ws k) = false) : mHit x w ws k = false := by rw [mHit, c]; simp
theorem hit_3 {x w : Nat} {ws : List Int} {k : Nat} (c : ¬ 0 < ws.getD k 0) : mHit x w ws k = false := by rw [mHit, decide_eq_false c]; simp
theorem hit_yes {x w : Nat} {ws : List Int} {k : Nat} (c1 : gtB (fI ((k : Int) + 1)) x = true) (c2 : geB (mP x ws k) (mLeft x w ws k) = true) (c3 : 0 < ws.getD k 0) : mHit x w ws k = true := by rw [mHit, c1, c2, decide_eq_true c3]; rfl
theorem hit_at {x w : Nat} {ws : List Int} {k n : Nat} {b : Bool} (hk : k < n) (h : mHit x w ws k = b) : mHitI x w ws ((cntL n).getD k 0) = b := by rw [cntL_get hk]; exact h
theorem mAll_hit {q : Int} {x w : Nat} {ws : List Int} {k : Nat} (hk : k < q.toNat) (ha : idxTo (mHitI x w ws) (cntL q.toNat) k = -1) (h : mHit x w ws k = true) : mAll q x w ws = mRes x w ws k := by
  have : mFir x w ws q.toNat = (k : Int) := idxTo_some ha (hit_at hk h) _ (by omega)
  rw [mAll, this, if_pos (by omega)]; rfl
theorem mAll_none {q : Int} {x w : Nat} {ws : List Int} (ha : idxTo (mHitI x w ws) (cntL q.toNat) q.toNat = -1) : mAll q x w ws = fI q := by
  have : mFir x w ws q.toNat = -1 := ha
  rw [mAll, this, if_neg (by omega)]
def cmK (p q i : Int) (xs : List Int) (x w : Nat) : Bool := (validC p q xs && decide (0 ≤ i ∧ i ≤ p - 1)) && (plF q x && (geB w 0 && finB w))
def cmR (p q i : Int) (xs : List Int) (x w : Nat) : Nat := if cmK p q i xs x w then mAll q x w (rowC q i xs) else 0
def cmT (p q i : Int) (xs : List Int) (x w : Nat) : Value := .tuple #[fl (cmR p q i xs x w), .bool (cmK p q i xs x w)]
variable {p q i : Int} {xs : List Int} {x w : Nat}
theorem cm_no (h : cmK p q i xs x w = false) : Value.tuple #[fl 0, .bool false] = cmT p q i xs x w := by rw [cmT, cmR, h]; rfl
theorem cm_yes (h : cmK p q i xs x w = true) : Value.tuple #[fl (mAll q x w (rowC q i xs)), .bool true] = cmT p q i xs x w := by rw [cmT, cmR, h]; rfl
theorem cmK_1 (h : (validC p q xs && decide (0 ≤ i ∧ i ≤ p - 1)) = false) : cmK p q i xs x w = false := by rw [cmK, h]; rfl
theorem cmK_2 (h : plF q x = false) : cmK p q i xs x w = false := by rw [cmK, h]; simp
theorem cmK_3 (h : geB w 0 = false) : cmK p q i xs x w = false := by rw [cmK, h]; simp
theorem cmK_4 (h : finB w = false) : cmK p q i xs x w = false := by rw [cmK, h]; simp
theorem cmK_yes (h1 : (validC p q xs && decide (0 ≤ i ∧ i ≤ p - 1)) = true) (h2 : plF q x = true) (h3 : geB w 0 = true) (h4 : finB w = true) : cmK p q i xs x w = true := by rw [cmK, h1, h2, h3, h4]; rfl
theorem fin_nn (h : finB w = true) : NN w := by
  unfold finB at h
  rw [NN]
  cases e : single.read w with
  | nan s n => rw [e] at h; cases h
  | _ => rfl
end Go.Am

namespace Go.Am
set_option linter.unusedSimpArgs false
set_option linter.unusedVariables false
open Ieee

theorem log2_shl_eq {m a : Nat} (hm : m ≠ 0) : (m <<< a).log2 = m.log2 + a := by
  have h1 := log2_shl (a := a) hm
  have h2 : m.log2 + a ≤ (m <<< a).log2 := by
    refine (Nat.le_log2 ?_).2 ?_
    · rw [Nat.shiftLeft_eq]; exact Nat.mul_ne_zero hm (Nat.pos_iff_ne_zero.1 (Nat.two_pow_pos _))
    · rw [Nat.shiftLeft_eq, Nat.pow_add]; exact Nat.mul_le_mul_right _ (pow_log2 hm)
  omega
/-- What is cut, by the parts of a division. -/
def cutE (low rest gap : Nat) : Nat := low + (decide (gap < 2 * rest) || (gap == 2 * rest && low % 2 == 1)).toNat
theorem cut_eq {neg : Bool} {n d g : Nat} (hg : min d (n.log2 + 2) = g) : Toward.even.cut neg n d = cutE (n / 2 ^ g) (n % 2 ^ g) (2 ^ g) := by
  unfold Toward.cut cutE
  simp only [Nat.one_shiftLeft, hg]
theorem cutE_scale {l r g k : Nat} : cutE l (r * 2 ^ k) (2 ^ g * 2 ^ k) = cutE l r (2 ^ g) := by
  have hk := Nat.two_pow_pos k
  have e1 : decide (2 ^ g * 2 ^ k < 2 * (r * 2 ^ k)) = decide (2 ^ g < 2 * r) := by
    rw [← Nat.mul_assoc]
    by_cases c : 2 ^ g < 2 * r
    · rw [decide_eq_true c, decide_eq_true (Nat.mul_lt_mul_of_pos_right c hk)]
    · rw [decide_eq_false c, decide_eq_false]
      have := Nat.mul_le_mul_right (2 ^ k) (show 2 * r ≤ 2 ^ g by omega)
      omega
  have e2 : (2 ^ g * 2 ^ k == 2 * (r * 2 ^ k)) = (2 ^ g == 2 * r) := by
    rw [← Nat.mul_assoc]
    by_cases c : 2 ^ g = 2 * r
    · rw [c]; simp
    · rw [beq_eq_false_iff_ne.2 c, beq_eq_false_iff_ne]
      intro h
      exact c (Nat.eq_of_mul_eq_mul_right hk h)
  unfold cutE
  rw [e1, e2]
theorem cut_scale {neg : Bool} {n d k : Nat} (hn : n ≠ 0) : Toward.even.cut neg (n <<< k) (d + k) = Toward.even.cut neg n d := by
  rw [cut_eq (g := min d (n.log2 + 2) + k) (by rw [log2_shl_eq hn]; omega), cut_eq rfl, Nat.shiftLeft_eq, Nat.pow_add, Nat.mul_div_mul_right _ _ (Nat.two_pow_pos k), Nat.mul_mod_mul_right, cutE_scale]
theorem near_scale {f : Format} {neg : Bool} {m k : Nat} {p : Int} : f.nearest neg (m <<< k) (p - k) = f.nearest neg m p := by
  by_cases hm : m = 0
  · subst hm
    rw [Nat.zero_shiftLeft, Format.nearest, Format.nearest, if_pos rfl, if_pos rfl]
  · have hm2 : m <<< k ≠ 0 := by rw [Nat.shiftLeft_eq]; exact Nat.mul_ne_zero hm (Nat.pos_iff_ne_zero.1 (Nat.two_pow_pos _))
    unfold Format.nearest
    rw [if_neg hm, if_neg hm2, log2_shl_eq hm, show p - (k : Int) + ((m.log2 + k : Nat) : Int) - (f.fractionBits : Int) = p + (m.log2 : Int) - (f.fractionBits : Int) by omega]
    generalize max (p + (m.log2 : Int) - (f.fractionBits : Int)) f.leastPlace = last
    have hc : Toward.even.cut neg (m <<< k <<< (p - (k : Int) - last).toNat) (last - (p - (k : Int))).toNat = Toward.even.cut neg (m <<< (p - last).toNat) (last - p).toNat := by
      by_cases c : p ≤ last
      · rw [show (p - (k : Int) - last).toNat = 0 by omega, show (p - last).toNat = 0 by omega, show (last - (p - (k : Int))).toNat = (last - p).toNat + k by omega, Nat.shiftLeft_zero, Nat.shiftLeft_zero]
        exact cut_scale hm
      · by_cases c2 : (k : Int) ≤ p - last
        · rw [show (last - (p - (k : Int))).toNat = 0 by omega, show (last - p).toNat = 0 by omega, ← Nat.shiftLeft_add, show k + (p - (k : Int) - last).toNat = (p - last).toNat by omega]
        · rw [show (p - (k : Int) - last).toNat = 0 by omega, Nat.shiftLeft_zero, show (last - p).toNat = 0 by omega]
          have h3 : m <<< (p - last).toNat ≠ 0 := by rw [Nat.shiftLeft_eq]; exact Nat.mul_ne_zero hm (Nat.pos_iff_ne_zero.1 (Nat.two_pow_pos _))
          have := cut_scale (neg := neg) (n := m <<< (p - last).toNat) (d := 0) (k := (last - (p - (k : Int))).toNat) h3
          rw [Nat.zero_add, ← Nat.shiftLeft_add, show (p - last).toNat + (last - (p - (k : Int))).toNat = k by omega] at this
          exact this
    show f.word neg (min ((last - f.leastPlace).toNat * f.binade + Toward.even.cut neg (m <<< k <<< (p - (k : Int) - last).toNat) (last - (p - (k : Int))).toNat) f.infRung) = _
    rw [hc]

/-! ## Halves -/
theorem read_two : single.read 1073741824 = .number false 8388608 (-22) := by rw [s_read]; rfl
theorem read_half : single.read 1056964608 = .number false 8388608 (-24) := by rw [s_read]; rfl
theorem half_eq {x m : Nat} {s : Bool} {i : Int} (h : single.read x = .number s m i) : single.div x 1073741824 = some (single.nearest s m (i - 1)) ∧ single.mul 1056964608 x = some (single.nearest s m (i - 1)) := by
  have hb := s_num h
  have hlog : m.log2 ≤ 23 := by
    by_cases h0 : m = 0
    · subst h0; decide
    · exact log2_le h0 (by omega)
  constructor
  · rw [Format.div, h, read_two]
    have hq : Datum.quotient (single.fractionBits + 2) (.number s m i) (.number false 8388608 (-22)) = some (.number s (m <<< (26 - m.log2)) (i - 1 - ((26 - m.log2 : Nat) : Int))) := by
      rw [Datum.quotient, if_neg (by omega)]
      have hl : Nat.log2 8388608 = 23 := by decide
      show some (Datum.number (s ^^ false) (2 * ((m <<< (25 + Nat.log2 8388608 - m.log2)) / 8388608) + ((m <<< (25 + Nat.log2 8388608 - m.log2)) % 8388608 != 0).toNat) (i - (-22) - ((25 + Nat.log2 8388608 - m.log2 : Nat) : Int) - 1)) = _
      rw [hl]
      have e : m <<< (25 + 23 - m.log2) = (m <<< (25 - m.log2)) * 8388608 := by
        rw [Nat.shiftLeft_eq, Nat.shiftLeft_eq, show 25 + 23 - m.log2 = (25 - m.log2) + 23 by omega, Nat.pow_add, Nat.mul_assoc]
      have e2 : m <<< (26 - m.log2) = 2 * (m <<< (25 - m.log2)) := by
        rw [Nat.shiftLeft_eq, Nat.shiftLeft_eq, show 26 - m.log2 = (25 - m.log2) + 1 by omega, Nat.pow_succ]
        rw [← Nat.mul_assoc, Nat.mul_comm]
      rw [e, Nat.mul_div_cancel _ (by omega), Nat.mul_mod_left, e2, Bool.xor_false, show i - (-22) - ((25 + 23 - m.log2 : Nat) : Int) - 1 = i - 1 - ((26 - m.log2 : Nat) : Int) by omega]
      rfl
    rw [hq]
    show some (single.nearest s (m <<< (26 - m.log2)) (i - 1 - ((26 - m.log2 : Nat) : Int))) = _
    rw [near_scale]
  · rw [Format.mul, h, read_half]
    show some (single.nearest (false ^^ s) (8388608 * m) (-24 + i)) = _
    have e : 8388608 * m = m <<< 23 := by rw [Nat.shiftLeft_eq, Nat.mul_comm]
    rw [e, Bool.false_xor, show -24 + i = (i - 1) - ((23 : Nat) : Int) by omega, near_scale]

/-! ## Rounded to at most -/
def vle (m : Nat) (i : Int) (n : Nat) (j : Int) : Prop := m * 2 ^ (i - min i j).toNat ≤ n * 2 ^ (j - min i j).toNat
theorem leB_of_vle {x y m n : Nat} {i j : Int} (hx : single.read x = .number false m i) (hy : single.read y = .number false n j) (h : vle m i n j) : leB x y = true := by
  rw [leB, ord_def, hx, hy]
  show (some (compare (signed false m (i - min i j).toNat) (signed false n (j - min i j).toNat)) == some Ordering.lt || some (compare (signed false m (i - min i j).toNat) (signed false n (j - min i j).toNat)) == some Ordering.eq) = true
  rw [signed_false, signed_false]
  have h' : ((m * 2 ^ (i - min i j).toNat : Nat) : Int) ≤ ((n * 2 ^ (j - min i j).toNat : Nat) : Int) := Int.ofNat_le.2 h
  rcases Int.lt_or_eq_of_le h' with c | c
  · rw [Int.compare_eq_lt.2 c]; rfl
  · rw [Int.compare_eq_eq.2 c]; rfl
theorem vle_of_leB {x y m n : Nat} {i j : Int} (hx : single.read x = .number false m i) (hy : single.read y = .number false n j) (h : leB x y = true) : vle m i n j := by
  rw [leB, ord_def, hx, hy] at h
  have h : (some (compare (signed false m (i - min i j).toNat) (signed false n (j - min i j).toNat)) == some Ordering.lt || some (compare (signed false m (i - min i j).toNat) (signed false n (j - min i j).toNat)) == some Ordering.eq) = true := h
  simp only [Bool.or_eq_true, beq_iff_eq, Option.some.injEq] at h
  have := compare_le h
  rw [signed_false, signed_false] at this
  exact Int.ofNat_le.1 this
theorem cut_le_int {neg : Bool} {n d M : Nat} (h : n ≤ M * 2 ^ d) : Toward.even.cut neg n d ≤ M := by
  rw [cut_eq rfl]
  unfold cutE
  by_cases c : d ≤ n.log2 + 2
  · rw [Nat.min_eq_left c]
    have hp := Nat.two_pow_pos d
    have h1 : n / 2 ^ d ≤ M := Nat.div_le_of_le_mul (by rw [Nat.mul_comm]; exact h)
    by_cases e : n / 2 ^ d = M
    · have h2 := Nat.div_add_mod n (2 ^ d)
      rw [e, Nat.mul_comm] at h2
      have h3 : n % 2 ^ d = 0 := by omega
      rw [h3, e, decide_eq_false (by omega), beq_eq_false_iff_ne.2 (by omega)]
      simp
    · have : (decide (2 ^ d < 2 * (n % 2 ^ d)) || (2 ^ d == 2 * (n % 2 ^ d) && n / 2 ^ d % 2 == 1)).toNat ≤ 1 := Bool.toNat_le _
      omega
  · rw [Nat.min_eq_right (by omega)]
    have h1 := lt_log2 (n := n)
    have h2 : 2 ^ (n.log2 + 2) = 2 * 2 ^ (n.log2 + 1) := by rw [Nat.pow_succ, Nat.mul_comm]
    rw [Nat.div_eq_of_lt (by omega), Nat.mod_eq_of_lt (by omega), decide_eq_false (by omega), beq_eq_false_iff_ne.2 (by omega)]
    simp
theorem near_le {y mag m0 : Nat} {place i0 : Int} (hy : single.read y = .number false m0 i0) (h : vle mag place m0 i0) : (∃ m i, single.read (single.nearest false mag place) = .number false m i) ∧ leB (single.nearest false mag place) y = true := by
  have hb := s_num hy
  -- the rung
  have hr : ∃ r, single.nearest false mag place = single.word false r ∧ (r : Int) ≤ (i0 + 149) * 8388608 + m0 := by
    by_cases hm : mag = 0
    · refine ⟨0, by rw [Format.nearest, if_pos hm], ?_⟩
      have : (0 : Int) ≤ (i0 + 149) * 8388608 := Int.mul_nonneg (by omega) (by omega)
      omega
    · have hc := (cmp_small (E := i0 + (m0.log2 : Int)) (.inr (Int.le_refl _)) h).resolve_left hm
      have hl0 : m0.log2 ≤ 23 := by
        by_cases h0 : m0 = 0
        · subst h0; decide
        · exact log2_le h0 (by omega)
      rw [Format.nearest, if_neg hm]
      refine ⟨_, rfl, ?_⟩
      show ((min ((max (place + (mag.log2 : Int) - (23 : Nat)) (-149) - (-149)).toNat * 8388608 + Toward.even.cut false (mag <<< (place - max (place + (mag.log2 : Int) - (23 : Nat)) (-149)).toNat) (max (place + (mag.log2 : Int) - (23 : Nat)) (-149) - place).toNat) 2139095040 : Nat) : Int) ≤ _
      generalize hlast : max (place + (mag.log2 : Int) - (23 : Nat)) (-149) = last
      by_cases c : last = i0
      · subst c
        have hk : Toward.even.cut false (mag <<< (place - last).toNat) (last - place).toNat ≤ m0 := by
          refine cut_le_int ?_
          rw [Nat.shiftLeft_eq]
          unfold vle at h
          by_cases c2 : place ≤ last
          · rw [show (place - min place last).toNat = 0 by omega, show (last - min place last).toNat = (last - place).toNat by omega] at h
            rw [show (place - last).toNat = 0 by omega]; exact h
          · rw [show (place - min place last).toNat = (place - last).toNat by omega, show (last - min place last).toNat = 0 by omega] at h
            rw [show (last - place).toNat = 0 by omega]; exact h
        have := Nat.min_le_left ((last - (-149)).toNat * 8388608 + Toward.even.cut false (mag <<< (place - last).toNat) (last - place).toNat) 2139095040
        omega
      · have hk := cut_le (neg := false) (n := mag <<< (place - last).toNat) (b := (last - place).toNat) (f := 23) (by have := log2_shl (a := (place - last).toNat) hm; omega)
        have := Nat.min_le_left ((last - (-149)).toNat * 8388608 + Toward.even.cut false (mag <<< (place - last).toNat) (last - place).toNat) 2139095040
        have h24 : (2 : Nat) ^ (23 + 1) = 16777216 := by decide
        rw [h24] at hk
        omega
  obtain ⟨r, e, hle⟩ := hr
  have hw := s_parts false r (by omega)
  rw [e]
  have key : ∃ m i, single.read (single.word false r) = .number false m i ∧ vle m i m0 i0 := by
    rw [s_read, hw.1, hw.2]
    by_cases c : r < 8388608
    · rw [if_pos c]
      refine ⟨r, -149, rfl, ?_⟩
      unfold vle
      rw [show (-149 - min (-149) i0).toNat = 0 by omega, Nat.pow_zero, Nat.mul_one]
      by_cases c2 : i0 = -149
      · subst c2
        rw [show (-149 - min (-149) (-149 : Int)).toNat = 0 by omega, Nat.pow_zero, Nat.mul_one]; omega
      · have := Nat.le_mul_of_pos_right m0 (Nat.two_pow_pos (i0 - min (-149) i0).toNat)
        omega
    · rw [if_neg c, if_pos (by omega)]
      refine ⟨_, _, rfl, ?_⟩
      generalize hi : (-149 + ((r / 8388608 - 1 : Nat) : Int)) = i
      generalize hm : 8388608 + r % 8388608 = m
      unfold vle
      rcases Int.lt_trichotomy i i0 with c2 | c2 | c2
      · rw [show (i - min i i0).toNat = 0 by omega, Nat.pow_zero, Nat.mul_one]
        obtain ⟨d, hd⟩ : ∃ d, (i0 - min i i0).toNat = d + 1 := ⟨(i0 - min i i0).toNat - 1, by omega⟩
        rw [hd, Nat.pow_succ]
        have hp := Nat.two_pow_pos d
        have : m0 * 2 ≤ m0 * (2 ^ d * 2) := Nat.mul_le_mul_left _ (by omega)
        omega
      · subst c2
        rw [show (i - min i i).toNat = 0 by omega, Nat.pow_zero, Nat.mul_one, Nat.mul_one]
        omega
      · exfalso; omega
  obtain ⟨m, i, e3, hv⟩ := key
  exact ⟨⟨m, i, e3⟩, leB_of_vle e3 hy hv⟩
end Go.Am

namespace Go.Am
set_option linter.unusedSimpArgs false
set_option linter.unusedVariables false
open Ieee

/-! ## Numbers not below zero, and not too great -/
def NF (E : Int) (x : Nat) : Prop := ∃ m i, single.read x = .number false m i ∧ (m = 0 ∨ i + (m.log2 : Int) ≤ E)
theorem NF.sm {E : Int} {x : Nat} (h : NF E x) : Sm E x := by obtain ⟨m, i, e, b⟩ := h; exact ⟨false, m, i, e, b⟩
theorem NF.mono {E E' : Int} {x : Nat} (h : NF E x) (he : E ≤ E') : NF E' x := by obtain ⟨m, i, e, b⟩ := h; exact ⟨m, i, e, by omega⟩
theorem NF.fin {E : Int} {x : Nat} (h : NF E x) : finB x = true := by obtain ⟨m, i, e, b⟩ := h; rw [finB, e]
def NB (x : Nat) : Prop := ∃ m i, single.read x = .number false m i
theorem NF.nb {E : Int} {x : Nat} (h : NF E x) : NB x := by obtain ⟨m, i, e, b⟩ := h; exact ⟨m, i, e⟩
theorem NB.ge0 {x : Nat} (h : NB x) : geB x 0 = true := by
  obtain ⟨m, i, e⟩ := h
  rw [geB, ord_def, e, read_zero]
  show (some (compare (signed false m (i - min i (-149)).toNat) (signed false 0 (-149 - min i (-149)).toNat)) == some Ordering.gt || some (compare (signed false m (i - min i (-149)).toNat) (signed false 0 (-149 - min i (-149)).toNat)) == some Ordering.eq) = true
  rw [signed_false, signed_false, Nat.zero_mul]
  have h0 : ((0 : Nat) : Int) ≤ ((m * 2 ^ (i - min i (-149)).toNat : Nat) : Int) := Int.ofNat_le.2 (Nat.zero_le _)
  rcases Int.lt_or_eq_of_le h0 with c | c
  · rw [Int.compare_eq_gt.2 c]; rfl
  · rw [Int.compare_eq_eq.2 c.symm]; rfl
theorem NB.gt0 {x : Nat} (h : NB x) : gtB 0 x = false := by
  obtain ⟨m, i, e⟩ := h
  rw [gtB, ord_def, e, read_zero]
  show (some (compare (signed false 0 (-149 - min (-149) i).toNat) (signed false m (i - min (-149) i).toNat)) == some Ordering.gt) = false
  rw [signed_false, signed_false, Nat.zero_mul]
  have h0 : ((0 : Nat) : Int) ≤ ((m * 2 ^ (i - min (-149) i).toNat : Nat) : Int) := Int.ofNat_le.2 (Nat.zero_le _)
  rcases Int.lt_or_eq_of_le h0 with c | c
  · rw [Int.compare_eq_lt.2 c]; rfl
  · rw [Int.compare_eq_eq.2 c]; rfl
theorem le_gt {x y : Nat} (h : leB x y = true) : gtB x y = false := by
  rw [leB] at h
  rw [gtB]
  cases e : ord x y with
  | none => rfl
  | some o => rw [e] at h; cases o <;> first | rfl | cases h
theorem sum_nf {m n : Nat} {i j E : Int} (h1 : m = 0 ∨ i + (m.log2 : Int) ≤ E) (h2 : n = 0 ∨ j + (n.log2 : Int) ≤ E) : ∃ g b, (Datum.number false m i).sum (.number false n j) = some (.number false g b) ∧ (g = 0 ∨ b + (g.log2 : Int) ≤ E + 1) := by
  obtain ⟨u, g, b, e, hb⟩ := sum_small (s := false) (t := false) h1 h2
  have hs : u = false := by
    have e' : some (Datum.number (if signed false m (i - min i j).toNat + signed false n (j - min i j).toNat = 0 then false && false else decide (signed false m (i - min i j).toNat + signed false n (j - min i j).toNat < 0)) (signed false m (i - min i j).toNat + signed false n (j - min i j).toNat).natAbs (min i j)) = some (.number u g b) := e
    injection e' with e'
    injection e' with e1 e2 e3
    rw [← e1]
    split
    · rfl
    · rw [decide_eq_false]
      have h1 : 0 ≤ signed false m (i - min i j).toNat := Int.natCast_nonneg _
      have h2 : 0 ≤ signed false n (j - min i j).toNat := Int.natCast_nonneg _
      omega
  subst hs
  exact ⟨g, b, e, hb⟩
theorem add_nf {E : Int} {x y : Nat} (hx : NF E x) (hy : NF E y) (h1 : -126 ≤ E) (h2 : E ≤ 110) : NF (E + 2) (fAdd x y) := by
  obtain ⟨m, i, e1, b1⟩ := hx
  obtain ⟨n, j, e2, b2⟩ := hy
  obtain ⟨g, b, e3, b3⟩ := sum_nf b1 b2
  obtain ⟨a, c, e4, b4⟩ := write_small (neg := false) b3 (by omega) (by omega)
  have e : single.add x y = some (single.nearest false g b) := by rw [Format.add, e1, e2, e3]; rfl
  refine ⟨a, c, ?_, by omega⟩
  rw [fAdd, e]; exact e4
theorem sub_nf {E : Int} {x y : Nat} (hx : NF E x) (hy : NF E y) (hle : leB y x = true) (h1 : -126 ≤ E) (h2 : E ≤ 110) : NF (E + 2) (fSub x y) := by
  obtain ⟨m, i, e1, b1⟩ := hx
  obtain ⟨n, j, e2, b2⟩ := hy
  have hv := vle_of_leB e2 e1 hle
  obtain ⟨u, g, b, e3, b3⟩ := sum_small (s := false) (t := true) b1 b2
  have hs : u = false := by
    have e' : some (Datum.number (if signed false m (i - min i j).toNat + signed true n (j - min i j).toNat = 0 then false && true else decide (signed false m (i - min i j).toNat + signed true n (j - min i j).toNat < 0)) (signed false m (i - min i j).toNat + signed true n (j - min i j).toNat).natAbs (min i j)) = some (.number u g b) := e3
    injection e' with e'
    injection e' with e1 e2 e3
    rw [← e1]
    split
    · rfl
    · rw [decide_eq_false]
      rw [signed_false, signed_true]
      unfold vle at hv
      rw [Int.min_comm j i] at hv
      have := Int.ofNat_le.2 hv
      omega
  subst hs
  obtain ⟨a, c, e4, b4⟩ := write_small (neg := false) b3 (by omega) (by omega)
  have e : single.sub x y = some (single.nearest false g b) := by
    rw [Format.sub, e1, e2]
    show ((Datum.number false m i).sum (.number true n j)).map _ = _
    rw [e3]; rfl
  refine ⟨a, c, ?_, by omega⟩
  rw [fSub, e]; exact e4
theorem mul_nf {x y : Nat} {E F : Int} (hx : NF E x) (hy : NF F y) (h1 : -126 ≤ E + F) (h2 : E + F ≤ 110) : NF (E + F + 2) (fMul x y) := by
  obtain ⟨m, i, e1, b1⟩ := hx
  obtain ⟨n, j, e2, b2⟩ := hy
  have e : single.mul x y = some (single.nearest false (m * n) (i + j)) := by rw [Format.mul, e1, e2]; rfl
  obtain ⟨a, c, e4, b4⟩ := write_small (neg := false) (mag := m * n) (place := i + j) (E := E + F + 1) (by
    by_cases h0 : m * n = 0
    · exact .inl h0
    · right
      have hm : m ≠ 0 := fun h => h0 (by rw [h, Nat.zero_mul])
      have hn : n ≠ 0 := fun h => h0 (by rw [h, Nat.mul_zero])
      have : (m * n).log2 ≤ m.log2 + n.log2 + 1 := by
        refine log2_le h0 ?_
        rw [show m.log2 + n.log2 + 1 + 1 = (m.log2 + 1) + (n.log2 + 1) by omega, Nat.pow_add]
        exact Nat.mul_lt_mul'' lt_log2 lt_log2
      omega) (by omega) (by omega)
  refine ⟨a, c, ?_, by omega⟩
  rw [fMul, e]; exact e4
theorem fI_nf {n : Int} (h0 : 0 ≤ n) (h1 : n ≤ 1000) : NF 10 (fI n) := by
  obtain ⟨m, i, e, _, h, _⟩ := fI_read h0 h1
  exact ⟨m, i, e, h⟩
theorem cSum_nf {x y : Nat} {ws : List Int} (hx : PlD x) (hy : PlD y) (hw : okW ws) : ∀ k : Nat, k ≤ ws.length → NF (24 + 2 * k) (cSum x y ws k)
  | 0, _ => ⟨0, -149, read_zero, .inl rfl⟩
  | k + 1, hk => by
    have ih := cSum_nf hx hy hw k (by omega)
    have hl := hw.1
    rw [cSum]
    split
    · rename_i c
      have hd := (cD_ok hx hy (k := k) (by omega)).2
      have hd2 : NF 12 (cD x y k) := by
        obtain ⟨n, j, e2⟩ := gt_zero hd c
        obtain ⟨s, m, i, e3, b3⟩ := hd
        rw [e2] at e3
        injection e3 with h1 h2 h3
        subst h1 h2 h3
        exact ⟨n, j, e2, b3⟩
      have hb := hw.2 k (by omega)
      have h1 := mul_nf (fI_nf hb.1 hb.2) hd2 (by decide) (by decide)
      exact (add_nf ih (h1.mono (by omega)) (by omega) (by omega)).mono (by omega)
    · exact ih.mono (by omega)
def hf (x : Nat) : Nat := fDiv x 1073741824
theorem half_ok {E : Int} {x : Nat} (h : NF E x) (h1 : 0 ≤ E) (h2 : E ≤ 100) : floatBits .quo .f32 x 1073741824 = some (hf x) ∧ floatBits .mul .f32 1056964608 x = some (hf x) ∧ NF (E + 1) (hf x) := by
  obtain ⟨m, i, e, b⟩ := h
  have hh := half_eq e
  have hd : hf x = single.nearest false m (i - 1) := by rw [hf, fDiv, hh.1]; rfl
  rw [hd]
  obtain ⟨a, c, e4, b4⟩ := write_small (neg := false) (mag := m) (place := i - 1) (E := E) (by omega) (by omega) (by omega)
  exact ⟨hh.1, hh.2, a, c, e4, b4⟩

/-! ## Whole numbers -/
theorem t_one : ((List.range 16).all fun k => fSub (fI ((k : Int) + 1)) (fI (k : Int)) == fI 1) = true := by kernel_rfl
theorem t_mul : ((List.range 1001).all fun n => fMul (fI (n : Int)) (fI 1) == fI (n : Int)) = true := by kernel_rfl
def chkK (k : Nat) : Bool := match single.read (fI (k : Int)) with
  | .number false m i => decide (i ≤ 0) && (m == k * 2 ^ (-i).toNat)
  | _ => false
theorem t_val : ((List.range 17).all chkK) = true := by kernel_rfl
theorem fI_val {k : Nat} (h : k ≤ 16) : ∃ m i, single.read (fI (k : Int)) = .number false m i ∧ i ≤ 0 ∧ m = k * 2 ^ (-i).toNat := by
  have hh := List.all_eq_true.1 t_val k (List.mem_range.2 (by omega))
  unfold chkK at hh
  split at hh
  · rename_i m i e
    rw [Bool.and_eq_true, decide_eq_true_eq, beq_iff_eq] at hh
    exact ⟨m, i, e, hh.1, hh.2⟩
  · cases hh
theorem read_one : single.read (fI 1) = .number false 8388608 (-23) := by
  have : fI 1 = 1065353216 := by kernel_rfl
  rw [this, s_read]; rfl
theorem cA_zero {k : Nat} (h : k ≤ 16) : cA 0 k = fI (k : Int) := cA_no (NB.gt0 (fI_nf (n := (k : Int)) (by omega) (by omega)).nb)
theorem mP_zero {ws : List Int} {k : Nat} (hw : okW ws) (hk : k < ws.length) : mP 0 ws k = fI (ws.getD k 0) := by
  have hl := hw.1
  have hb := hw.2 k hk
  rw [mP, cA_zero (by omega)]
  have h1 := List.all_eq_true.1 t_one k (List.mem_range.2 (by omega))
  rw [beq_iff_eq] at h1
  have h2 := List.all_eq_true.1 t_mul (ws.getD k 0).toNat (List.mem_range.2 (by omega))
  rw [beq_iff_eq, show (((ws.getD k 0).toNat : Nat) : Int) = ws.getD k 0 by omega] at h2
  rw [h1, h2]
theorem gt_next {k : Nat} (h : k < 16) : gtB (fI ((k : Int) + 1)) 0 = true := by
  rw [fI_pos (by omega) (by omega), decide_eq_true (by omega)]
theorem mLeft_nf {w : Nat} {ws : List Int} {E : Int} (hw : okW ws) (h0 : NF E w) (hE : 10 ≤ E ∧ E ≤ 60) : ∀ k : Nat, k ≤ ws.length → (∀ j, j < k → mHit 0 w ws j = false) → NF (E + 2 * k) (mLeft 0 w ws k)
  | 0, _, _ => h0.mono (by omega)
  | k + 1, hk, hj => by
    have hl := hw.1
    have hb := hw.2 k (by omega)
    have ih := mLeft_nf hw h0 hE k (by omega) fun j hjk => hj j (by omega)
    rw [mLeft, if_pos (gt_next (by omega)), mP_zero hw (by omega)]
    have hn := fI_nf hb.1 hb.2
    have hle : leB (fI (ws.getD k 0)) (mLeft 0 w ws k) = true := by
      have hh := hj k (by omega)
      rw [mHit, gt_next (by omega), mP_zero hw (by omega), Bool.true_and, Bool.and_eq_false_iff] at hh
      rcases hh with hh | hh
      · obtain ⟨o, ho⟩ := ord_some hn.sm.nn ih.sm.nn
        rw [geB, ho] at hh
        rw [leB, ho]
        cases o <;> first | rfl | cases hh
      · have : ws.getD k 0 = 0 := by have := of_decide_eq_false hh; omega
        rw [this]
        obtain ⟨m, i, e, _⟩ := ih
        obtain ⟨a, c, e2, h2, _⟩ := fI_read (n := 0) (by decide) (by decide)
        refine leB_of_vle e2 e ?_
        rw [vle, h2.2 rfl, Nat.zero_mul]; exact Nat.zero_le _
    exact (sub_nf ih (hn.mono (by omega)) hle (by omega) (by omega)).mono (by omega)
theorem div_le {l n : Nat} (hl : NB l) (hn : NB n) (hpos : ∃ m i, single.read n = .number false m i ∧ m ≠ 0) (hle : leB l n = true) : NB (fDiv l n) ∧ leB (fDiv l n) (fI 1) = true := by
  obtain ⟨ml, il, e1⟩ := hl
  obtain ⟨mn, jn, e2, hmn⟩ := hpos
  have hv := vle_of_leB e1 e2 hle
  have hb1 := s_num e1
  have hb2 := s_num e2
  generalize hmore : 25 + mn.log2 - ml.log2 = more
  have hq : single.div l n = some (single.nearest false (2 * ((ml <<< more) / mn) + ((ml <<< more) % mn != 0).toNat) (il - jn - (more : Int) - 1)) := by
    rw [Format.div, e1, e2]
    show (Datum.quotient 25 (.number false ml il) (.number false mn jn)).map single.write = _
    rw [Datum.quotient, if_neg hmn, hmore]; rfl
  have hvl : vle (2 * ((ml <<< more) / mn) + ((ml <<< more) % mn != 0).toNat) (il - jn - (more : Int) - 1) 8388608 (-23) := by
    by_cases h0 : ml = 0
    · subst h0
      rw [Nat.zero_shiftLeft, Nat.zero_div, Nat.zero_mod, vle]
      simp
    have hlog := (cmp_small (E := jn + (mn.log2 : Int)) (.inr (Int.le_refl _)) hv).resolve_left h0
    obtain ⟨e, he⟩ : ∃ e : Nat, (e : Int) = (more : Int) + jn - il := ⟨((more : Int) + jn - il).toNat, by omega⟩
    have he25 : 25 ≤ e := by omega
    have hD : ml <<< more ≤ mn * 2 ^ e := by
      rw [Nat.shiftLeft_eq]
      unfold vle at hv
      by_cases c : il ≤ jn
      · rw [show (il - min il jn).toNat = 0 by omega, Nat.pow_zero, Nat.mul_one] at hv
        have := Nat.mul_le_mul_right (2 ^ more) hv
        rw [Nat.mul_assoc, ← Nat.pow_add, show (jn - min il jn).toNat + more = e by omega] at this
        exact this
      · rw [show (jn - min il jn).toNat = 0 by omega, Nat.pow_zero, Nat.mul_one] at hv
        have := Nat.mul_le_mul_right (2 ^ e) hv
        rw [Nat.mul_assoc, ← Nat.pow_add, show (il - min il jn).toNat + e = more by omega] at this
        exact this
    have hQ : 2 * ((ml <<< more) / mn) + ((ml <<< more) % mn != 0).toNat ≤ 2 * 2 ^ e := by
      generalize ml <<< more = D at hD
      have hpos : 0 < mn := by omega
      have h1 : D / mn ≤ 2 ^ e := Nat.div_le_of_le_mul hD
      have h2 : (D % mn != 0).toNat ≤ 1 := Bool.toNat_le _
      by_cases c : D / mn = 2 ^ e
      · have h3 := Nat.div_add_mod D mn
        rw [c] at h3
        have h4 : D % mn = 0 := by omega
        rw [h4, c]; simp
      · omega
    unfold vle
    rw [show (il - jn - (more : Int) - 1 - min (il - jn - (more : Int) - 1) (-23)).toNat = 0 by omega, Nat.pow_zero, Nat.mul_one]
    rw [show (-23 - min (il - jn - (more : Int) - 1) (-23)).toNat = e - 22 by omega, show 8388608 = 2 ^ 23 from by decide, ← Nat.pow_add, show 23 + (e - 22) = e + 1 by omega, Nat.pow_succ, Nat.mul_comm (2 ^ e)]
    exact hQ
  have hr := near_le read_one hvl
  rw [show fDiv l n = single.nearest false (2 * ((ml <<< more) / mn) + ((ml <<< more) % mn != 0).toNat) (il - jn - (more : Int) - 1) by rw [fDiv, hq]; rfl]
  exact hr
theorem one_le {r m : Nat} {i : Int} (e : single.read r = .number false m i) (h : leB r (fI 1) = true) : i ≤ 0 ∧ m ≤ 2 ^ (-i).toNat := by
  have hv := vle_of_leB e read_one h
  have hb := s_num e
  unfold vle at hv
  by_cases c : i ≤ -23
  · refine ⟨by omega, ?_⟩
    rw [show (i - min i (-23)).toNat = 0 by omega, Nat.pow_zero, Nat.mul_one, show 8388608 = 2 ^ 23 from by decide, ← Nat.pow_add, show 23 + (-23 - min i (-23)).toNat = (-i).toNat by omega] at hv
    exact hv
  · rw [show (-23 - min i (-23)).toNat = 0 by omega, Nat.pow_zero, Nat.mul_one, show (i - min i (-23)).toNat = (i + 23).toNat by omega] at hv
    by_cases c2 : i ≤ 0
    · refine ⟨c2, ?_⟩
      rw [show 8388608 = 2 ^ ((-i).toNat + (i + 23).toNat) by rw [show (-i).toNat + (i + 23).toNat = 23 by omega], Nat.pow_add] at hv
      exact Nat.le_of_mul_le_mul_right hv (Nat.two_pow_pos _)
    · exfalso
      have h24 : 16777216 ≤ 2 ^ (i + 23).toNat := by
        rw [show 16777216 = 2 ^ 24 from by decide]; exact Nat.pow_le_pow_right (by decide) (by omega)
      have hm : m ≠ 0 := by rintro rfl; omega
      have := Nat.mul_le_mul (show 1 ≤ m by omega) h24
      omega
theorem add_le {k r : Nat} {q : Int} (hk : (k : Int) + 1 ≤ q) (hq : q ≤ 16) (hr : NB r) (h1 : leB r (fI 1) = true) : NB (fAdd (fI (k : Int)) r) ∧ leB (fAdd (fI (k : Int)) r) (fI q) = true := by
  obtain ⟨mk, ik, e1, hik, hmk⟩ := fI_val (k := k) (by omega)
  obtain ⟨m, i, e2⟩ := hr
  have ho := one_le e2 h1
  obtain ⟨M, J, e3, hJ, hM⟩ := fI_val (k := q.toNat) (by omega)
  rw [show ((q.toNat : Nat) : Int) = q by omega] at e3
  have hs : (Datum.number false mk ik).sum (.number false m i) = some (.number false (mk * 2 ^ (ik - min ik i).toNat + m * 2 ^ (i - min ik i).toNat) (min ik i)) := by
    show some (Datum.number (if signed false mk (ik - min ik i).toNat + signed false m (i - min ik i).toNat = 0 then false && false else decide (signed false mk (ik - min ik i).toNat + signed false m (i - min ik i).toNat < 0)) (signed false mk (ik - min ik i).toNat + signed false m (i - min ik i).toNat).natAbs (min ik i)) = _
    rw [signed_false, signed_false, ← Int.natCast_add, Int.natAbs_natCast]
    have : (if ((mk * 2 ^ (ik - min ik i).toNat + m * 2 ^ (i - min ik i).toNat : Nat) : Int) = 0 then false && false else decide (((mk * 2 ^ (ik - min ik i).toNat + m * 2 ^ (i - min ik i).toNat : Nat) : Int) < 0)) = false := by
      split
      · rfl
      · rw [decide_eq_false]
        have := Int.natCast_nonneg (mk * 2 ^ (ik - min ik i).toNat + m * 2 ^ (i - min ik i).toNat)
        omega
    rw [this]
  have e : single.add (fI (k : Int)) r = some (single.nearest false (mk * 2 ^ (ik - min ik i).toNat + m * 2 ^ (i - min ik i).toNat) (min ik i)) := by rw [Format.add, e1, e2, hs]; rfl
  have hv : vle (mk * 2 ^ (ik - min ik i).toNat + m * 2 ^ (i - min ik i).toNat) (min ik i) M J := by
    have a1 : mk * 2 ^ (ik - min ik i).toNat = k * 2 ^ (-min ik i).toNat := by
      rw [hmk, Nat.mul_assoc, ← Nat.pow_add, show (-ik).toNat + (ik - min ik i).toNat = (-min ik i).toNat by omega]
    have a2 : m * 2 ^ (i - min ik i).toNat ≤ 2 ^ (-min ik i).toNat := by
      have := Nat.mul_le_mul_right (2 ^ (i - min ik i).toNat) ho.2
      rw [← Nat.pow_add, show (-i).toNat + (i - min ik i).toNat = (-min ik i).toNat by omega] at this
      exact this
    generalize hb : min ik i = b at *
    have a3 : mk * 2 ^ (ik - b).toNat + m * 2 ^ (i - b).toNat ≤ q.toNat * 2 ^ (-b).toNat := by
      have h3 : (k + 1) * 2 ^ (-b).toNat ≤ q.toNat * 2 ^ (-b).toNat := Nat.mul_le_mul_right _ (by omega)
      rw [Nat.add_mul, Nat.one_mul] at h3
      omega
    unfold vle
    have a4 := Nat.mul_le_mul_right (2 ^ (b - min b J).toNat) a3
    rw [Nat.mul_assoc q.toNat, ← Nat.pow_add, show (-b).toNat + (b - min b J).toNat = (-min b J).toNat by omega] at a4
    rw [hM, Nat.mul_assoc, ← Nat.pow_add, show (-J).toNat + (J - min b J).toNat = (-min b J).toNat by omega]
    exact a4
  have hr := near_le e3 hv
  rw [show fAdd (fI (k : Int)) r = single.nearest false (mk * 2 ^ (ik - min ik i).toNat + m * 2 ^ (i - min ik i).toNat) (min ik i) by rw [fAdd, e]; rfl]
  exact hr
theorem ge_le {x y : Nat} (hx : NB x) (hy : NB y) (h : geB x y = true) : leB y x = true := by
  obtain ⟨m, i, e1⟩ := hx
  obtain ⟨n, j, e2⟩ := hy
  rw [geB, ord_def, e1, e2] at h
  have h : (some (compare (signed false m (i - min i j).toNat) (signed false n (j - min i j).toNat)) == some Ordering.gt || some (compare (signed false m (i - min i j).toNat) (signed false n (j - min i j).toNat)) == some Ordering.eq) = true := h
  simp only [Bool.or_eq_true, beq_iff_eq, Option.some.injEq] at h
  have := compare_ge h
  rw [signed_false, signed_false] at this
  refine leB_of_vle e2 e1 ?_
  unfold vle
  rw [Int.min_comm j i]
  exact Int.ofNat_le.1 this
theorem le_self {x : Nat} (h : NB x) : leB x x = true := by
  obtain ⟨m, i, e⟩ := h
  exact leB_of_vle e e (Nat.le_refl _)
/-- A cut lies in the cake. -/
theorem cut_in {q : Int} {w : Nat} {ws : List Int} {E : Int} (hq : 1 ≤ q ∧ q ≤ 16) (hl : (ws.length : Int) = q) (hw : okW ws) (h0 : NF E w) (hE : 10 ≤ E ∧ E ≤ 60) : NB (mAll q 0 w ws) ∧ leB (mAll q 0 w ws) (fI q) = true := by
  have hfq := (fI_nf (n := q) (by omega) (by omega)).nb
  rw [mAll]
  split
  · rename_i hc
    obtain ⟨k, hk, hh, he⟩ := (idxTo_lt (g := mHitI 0 w ws) (ys := cntL q.toNat) q.toNat).1 hc
    have he' : mFir 0 w ws q.toNat = (k : Int) := he
    have hbefore : ∀ j, j < k → mHit 0 w ws j = false := fun j hj => by
      have := idxTo_first (f := mHitI 0 w ws) _ he hj
      rw [cntL_get (by omega)] at this
      exact this
    rw [he']
    rw [cntL_get hk] at hh
    have hh' : mHit 0 w ws k = true := hh
    have hkl : k < ws.length := by omega
    have hb := hw.2 k hkl
    simp only [mHit, Bool.and_eq_true, decide_eq_true_eq] at hh'
    rw [mP_zero hw hkl] at hh'
    have hL := (mLeft_nf hw h0 hE k (by omega) hbefore).nb
    have hN := (fI_nf hb.1 hb.2).nb
    obtain ⟨a, c, e2, h2, _⟩ := fI_read hb.1 hb.2
    have hd := div_le hL hN ⟨a, c, e2, fun h => by have := h2.1 h; omega⟩ (ge_le hN hL hh'.2.1)
    show NB (mRes 0 w ws k) ∧ leB (mRes 0 w ws k) (fI q) = true
    rw [mRes, cA_zero (by omega)]
    exact add_le (by omega) hq.2 hd.1 hd.2
  · exact ⟨hfq, le_self hfq⟩
end Go.Am

namespace Go.Am
set_option linter.unusedSimpArgs false
set_option linter.unusedVariables false
open Ieee
abbrev ccW (q : Int) (xs : List Int) : Nat := cSum 0 (fI q) (rowC q 0 xs) q.toNat
abbrev ccA (q : Int) (xs : List Int) : Nat := mAll q 0 (hf (ccW q xs)) (rowC q 0 xs)
abbrev ccX (q : Int) (xs : List Int) : Nat := cSum 0 (ccA q xs) (rowC q 1 xs) q.toNat
abbrev ccY (q : Int) (xs : List Int) : Nat := cSum (ccA q xs) (fI q) (rowC q 1 xs) q.toNat
def ccK (p q : Int) (xs : List Int) : Bool := validC p q xs && decide (p = 2)
def ccRA (p q : Int) (xs : List Int) : Nat := if ccK p q xs then ccA q xs else 0
def ccRB (p q : Int) (xs : List Int) : Bool := ccK p q xs && geB (ccX q xs) (ccY q xs)
def ccT (p q : Int) (xs : List Int) : Value := .tuple #[fl (ccRA p q xs), .bool (ccRB p q xs), .bool (ccK p q xs)]
structure CC (p q : Int) (xs : List Int) : Prop where
  w0 : (validC p q xs && decide ((0 : Int) ≤ 0 ∧ (0 : Int) ≤ p - 1)) = true
  w1 : (validC p q xs && decide ((0 : Int) ≤ 1 ∧ (1 : Int) ≤ p - 1)) = true
  h0 : plF q 0 = true
  h1 : plF q (fI q) = true
  h2 : plF q (ccA q xs) = true
  g1 : gtB 0 (fI q) = false
  g2 : gtB 0 (ccA q xs) = false
  g3 : gtB (ccA q xs) (fI q) = false
  f5 : floatBits .quo .f32 (ccW q xs) 1073741824 = some (hf (ccW q xs))
  f6 : floatBits .mul .f32 1056964608 (ccW q xs) = some (hf (ccW q xs))
  m1 : geB (hf (ccW q xs)) 0 = true
  m2 : finB (hf (ccW q xs)) = true
  nn : NN (ccA q xs)
theorem zero_nb : NB 0 := ⟨0, -149, read_zero⟩
theorem cc_of {p q : Int} {xs : List Int} (h : validC p q xs = true) (hp : p = 2) : CC p q xs := by
  subst hp
  obtain ⟨_, hq, hxq, _⟩ := validC_get h
  have hfq := fI_nf (n := q) (by omega) (by omega)
  have hr0 := rowC_ok (i := 0) h (by omega)
  have hX : PlD 0 := ⟨false, 0, -149, read_zero, by simp, .inl rfl⟩
  have hY : PlD (fI q) := fI_pl (by omega) (by omega)
  have hs := (cSum_nf hX hY hr0.2.2.2.1 q.toNat (by have := hr0.2.2.1; omega)).mono (E' := 56) (by omega)
  have hh := half_ok hs (by decide) (by decide)
  have hc := cut_in hq hr0.2.2.1 hr0.2.2.2.1 (hh.2.2.mono (E' := 60) (by decide)) (by decide)
  have hle0 : leB 0 (fI q) = true := by
    obtain ⟨m, i, e, _⟩ := hfq
    exact leB_of_vle read_zero e (by rw [vle, Nat.zero_mul]; exact Nat.zero_le _)
  have p0 : plF q 0 = true := by rw [plF, zero_nb.ge0, hle0]; rfl
  have p1 : plF q (fI q) = true := by rw [plF, hfq.nb.ge0, le_self hfq.nb]; rfl
  have p2 : plF q (ccA q xs) = true := by rw [plF, hc.1.ge0, hc.2]; rfl
  refine ⟨by rw [h]; rfl, by rw [h]; rfl, p0, p1, p2, hfq.nb.gt0, hc.1.gt0, le_gt hc.2, hh.1, hh.2.1, hh.2.2.nb.ge0, hh.2.2.fin, ?_⟩
  obtain ⟨m, i, e⟩ := hc.1
  rw [NN, e]; rfl
section
variable {p q : Int} {xs : List Int}
theorem CC.k1 (c : CC p q xs) : cwK p q 0 xs 0 (fI q) = true := cwK_yes c.w0 c.h0 c.h1 c.g1
theorem CC.k2 (c : CC p q xs) : cmK p q 0 xs 0 (hf (ccW q xs)) = true := cmK_yes c.w0 c.h0 c.m1 c.m2
theorem CC.k3 (c : CC p q xs) : cwK p q 1 xs 0 (ccA q xs) = true := cwK_yes c.w1 c.h0 c.h2 c.g2
theorem CC.k4 (c : CC p q xs) : cwK p q 1 xs (ccA q xs) (fI q) = true := cwK_yes c.w1 c.h2 c.h1 c.g3
theorem cc_no1 (h : validC p q xs = false) : ccK p q xs = false := by rw [ccK, h]; rfl
theorem cc_no2 (h : ¬ p = 2) : ccK p q xs = false := by rw [ccK, decide_eq_false h, Bool.and_false]
theorem ccK_yes (h : validC p q xs = true) (hp : p = 2) : ccK p q xs = true := by rw [ccK, h, decide_eq_true hp]; rfl
theorem cc_no (h : ccK p q xs = false) : Value.tuple #[fl 0, .bool false, .bool false] = ccT p q xs := by rw [ccT, ccRA, ccRB, h]; rfl
theorem cc_yes (h : ccK p q xs = true) {b : Bool} (hb : geB (ccX q xs) (ccY q xs) = b) : Value.tuple #[fl (ccA q xs), .bool b, .bool true] = ccT p q xs := by rw [ccT, ccRA, ccRB, h, hb]; rfl
end
end Go.Am
