/-
  The abstract heap: what this claim needs of it. General: no program is named.
-/
import Derived.Test.YtcemfhppopmamaaAmG2
import Derived.Laws.Small
import Derived.Laws.IdiomCopy
import Derived.Laws.Entries
import Derived.Laws.FloatArith
import Derived.KernelRfl
namespace Go.Am
set_option linter.unusedSimpArgs false
set_option linter.unusedVariables false

/-- A part of a slice. -/
def subv (v : Value) (l r : Nat) : Value := match v with
  | .slice (some ⟨k, off, ver⟩) _ c => .slice (some ⟨k, off + l, ver⟩) (r - l) (c - l)
  | x => x

/-- A part of a list. -/
def part (xs : List Int) (l r : Nat) : List Int := (xs.drop l).take (r - l)

theorem part_len {xs : List Int} {l r : Nat} (h1 : l ≤ r) (h2 : r ≤ xs.length) : (part xs l r).length = r - l := by
  simp [part]; omega

theorem Ints.sub {h : AHeap} {v : Value} {xs : List Int} (hv : Ints h v xs) {l r : Nat} (h0 : 0 < xs.length) (h1 : l ≤ r) (h2 : r ≤ xs.length) : Ints h (subv v l r) (part xs l r) := by
  rcases hv with ⟨rfl, rfl⟩ | ⟨k, off, ver, cap, o, rfl, g2, g3, g4, g5, g6, g7⟩
  · simp at h0
  · refine .inr ⟨k, off + l, ver, cap - l, o, by rw [part_len h1 h2]; rfl, g2, g3, g4, by rw [part_len h1 h2]; omega, by omega, fun i z hz => ?_⟩
    rw [Nat.add_assoc]
    refine g7 _ z ?_
    have hi : i < (part xs l r).length := (List.getElem?_eq_some_iff.1 hz).1
    rw [part_len h1 h2] at hi
    simp only [part, List.getElem?_take_of_lt hi, List.getElem?_drop] at hz
    exact hz

theorem within_sub {n : Nat} {v : Value} {l r : Nat} (hv : Within n v) : Within n (subv v l r) := by
  unfold subv
  split
  · cases hv with
    | prim h => cases h
    | slice h => exact .slice h
  · exact hv

section
variable {P : Program} {K : Value → AHeap → Prop} {env : Env} {h : AHeap} {dst : Option Tmp} {ty : TypeId} {pos : String} {after : Array Edge} {guard : Option (Nat × Bool)}
theorem o_sliceHi {t e : TypeId} {x y2 : Operand} {v z : Value} {b : Nat} {xs : List Int} {k2 : IntKind} {r : Int} (hu : P.underlying t = some (.slice e)) (hi : InfoIs P e z 1 b)
    (hx : aeval env x = v) (hv : Ints h v xs) (hy2 : aeval env y2 = .int k2 r) (h0 : 0 < xs.length) (hlr : 0 ≤ r) (hr : r ≤ xs.length)
    (hK : K (subv v 0 r.toNat) h) : AOp P ⟨dst, .slice t x none (some y2) none, ty, pos, after, guard⟩ K env h := by
  obtain ⟨inf, g1, _, g3, _⟩ := hi.get
  rcases hv with ⟨rfl, rfl⟩ | ⟨k, off, ver, cap, o, rfl, h2, h3, h4, h5, h6, h7⟩
  · simp at h0
  · refine aop_slice (l := 0) (r := r.toNat) hu g1 (by rw [g3, h4]) hx h2 h3 (.inl ⟨rfl, rfl⟩) (.inr ⟨y2, k2, rfl, by rw [hy2, Int.toNat_of_nonneg (by omega)]⟩) (by omega) (by omega) ?_
    rw [h4, Nat.mul_one]
    exact hK
end

/-- The sum of a list, as the program counts. -/
def sumW (xs : List Int) : Int := xs.foldl (fun a x => IntKind.i64.wrap (a + x)) 0
theorem sumW_step {xs : List Int} {k : Nat} (hk : k < xs.length) : IntKind.i64.wrap (sumW (xs.take k) + xs.getD k 0) = sumW (xs.take (k + 1)) := by
  rw [sumW, sumW, List.take_succ_eq_append_getElem hk, List.foldl_append, getD_at hk]; rfl
theorem sumW_full {xs : List Int} {k : Nat} (hk : ¬ k < xs.length) : sumW (xs.take k) = sumW xs := by rw [List.take_of_length_le (by omega)]

theorem range_all_step {f : Nat → Bool} {s : Nat} (h : (List.range s).all f = true) (hf : f s = true) : (List.range (s + 1)).all f = true := by
  rw [List.range_succ, List.all_append, h]; simpa using hf

/-- A valid cake. -/
def validC (p q : Int) (xs : List Int) : Bool :=
  decide (1 ≤ p ∧ p ≤ 6) && decide (1 ≤ q ∧ q ≤ 16) && decide ((xs.length : Int) = p * q) && xs.all (fun n => decide (0 ≤ n ∧ n ≤ 1000)) &&
    (List.range p.toNat).all fun i => decide (¬ sumW (part xs ((i : Int) * q).toNat (((i : Int) + 1) * q).toNat) = 0)
theorem many_of {n : Int} {xs : List Int} {b : Bool} (c : (decide (n ≤ xs.length ∧ xs.length ≤ n) && b) = true) : (xs.length : Int) = n ∧ b = true := by
  simp only [Bool.and_eq_true, decide_eq_true_eq] at c; exact ⟨by omega, c.2⟩

/-! ## Bits -/
/-- A set without another one. -/
def andn (a b : Nat) : Nat := a ^^^ (a &&& b)
section
variable {P : Program} {K : Value → AHeap → Prop} {env : Env} {h : AHeap} {dst : Option Tmp} {ty t yt : TypeId} {pos : String} {after : Array Edge} {guard : Option (Nat × Bool)} {x y : Operand}
end
theorem amap0 {f : Operand → Value} : (#[] : Array Operand).map f = #[] := by simp
theorem amap3 {f : Operand → Value} {x y z : Operand} {v w u : Value} (h : f x = v) (h2 : f y = w) (h3 : f z = u) : #[x, y, z].map f = #[v, w, u] := by simp [h, h2, h3]

theorem amap4 {f : Operand → Value} {x y z a : Operand} {v w u t : Value} (h : f x = v) (h2 : f y = w) (h3 : f z = u) (h4 : f a = t) : #[x, y, z, a].map f = #[v, w, u, t] := by simp [h, h2, h3, h4]
theorem pow_bound {n : Int} (h : 1 ≤ n ∧ n ≤ 6) : (2 : Int) ≤ 2 ^ n.toNat ∧ (2 : Int) ^ n.toNat ≤ 64 := by
  obtain ⟨h1, h2⟩ := h
  have : n = 1 ∨ n = 2 ∨ n = 3 ∨ n = 4 ∨ n = 5 ∨ n = 6 := by omega
  rcases this with rfl | rfl | rfl | rfl | rfl | rfl <;> decide

/-! ## Worths of sets -/
def isW (m n : Int) (xs : List Int) : Bool :=
  decide (1 ≤ n ∧ n ≤ 6) && decide ((xs.length : Int) = 2 ^ n.toNat) && decide (xs.getD 0 0 = 0) && xs.all (fun x => decide (-m ≤ x ∧ x ≤ m))
theorem isW_yes {m n : Int} {xs : List Int} (c1 : decide (1 ≤ n ∧ n ≤ 6) = true) (c2 : (xs.length : Int) = 2 ^ n.toNat) (c3 : xs.getD 0 0 = 0) (c4 : xs.all (fun x => decide (-m ≤ x ∧ x ≤ m)) = true) : true = isW m n xs := by
  rw [isW, c1, decide_eq_true c2, decide_eq_true c3, c4]; rfl
theorem tup2 {a b a' b' : Bool} (h1 : a = a') (h2 : b = b') : packR [.bool a, .bool b] = .tuple #[.bool a', .bool b'] := by rw [h1, h2]; rfl
theorem within_tup2 {n : Nat} {a b : Value} (h1 : Within n a) (h2 : Within n b) : Within n (.tuple #[a, b]) := .tuple fun i hi => by
  match i, hi with
  | 0, _ => exact h1
  | 1, _ => exact h2
theorem rise_row {n : Int} {s : Nat} {f : Nat → Bool} (h : (List.range s).all f = true) (hs : ¬ (s : Int) < n) : (List.range n.toNat).all f = true :=
  List.all_eq_true.2 fun x hx => List.all_eq_true.1 h x (List.mem_range.2 (by have := List.mem_range.1 hx; omega))
/-! ## Functions that change a block -/
theorem Closed.set {h : AHeap} (hc : Closed h) {k : Nat} {o : AObj} (ho : ∀ v ∈ o.cells, isPrim v = true) : Closed (h.set k o) := fun j x hx v hv => by
  rw [List.length_set]
  by_cases hj : j = k
  · subst hj
    by_cases hlt : j < h.length
    · rw [List.getElem?_set_self hlt] at hx; cases hx
      exact .prim (ho v hv)
    · rw [List.getElem?_eq_none (by simpa using hlt)] at hx; cases hx
  · rw [List.getElem?_set_ne (fun e => hj e.symm)] at hx
    exact hc j x hx v hv
theorem Ret.heap {P : Program} {f : FuncId} {a : List Value} {h h1 h2 : AHeap} {v : Value} (r : Ret P f a h v h1) (e : h1 = h2) : Ret P f a h v h2 := e ▸ r

/-! ## Marks -/
/-- The numbers from c on. -/
def upto (c : Int) (n : Nat) : List Int := (List.range n).map fun (i : Nat) => c + (i : Int)
theorem upto_len {c : Int} {n : Nat} : (upto c n).length = n := by simp [upto]
theorem set_same {h : AHeap} {k : Nat} {o : AObj} (ho : h[k]? = some o) : h.set k o = h := by
  obtain ⟨hk, e⟩ := List.getElem?_eq_some_iff.1 ho
  subst e; exact List.set_getElem_self hk
theorem set_set {h : AHeap} {k : Nat} {o o' : AObj} : (h.set k o).set k o' = h.set k o' := List.set_set ..
theorem lk_set {h : AHeap} {k : Nat} {o : AObj} (hk : k < h.length) : (h.set k o)[k]? = some o := List.getElem?_set_self hk
/-! ## Growing lists -/
section
variable {P : Program} {K : Value → AHeap → Prop} {env : Env} {h : AHeap} {dst : Option Tmp} {ty : TypeId} {pos : String} {after : Array Edge} {guard : Option (Nat × Bool)}
theorem news_ints {off : Nat} {o : AObj} {ys : List Int} (hz : ∀ (i : Nat) (z : Int), ys[i]? = some z → o.cells[off + i]? = some (i64 z)) : news o off (ys.length * 1) = ys.map i64 := by
  apply List.ext_getElem?
  intro i
  rw [Nat.mul_one]
  simp only [news, List.getElem?_map]
  by_cases hi : i < ys.length
  · rw [List.getElem?_take_of_lt hi, List.getElem?_drop, hz i _ (List.getElem?_eq_getElem hi), List.getElem?_eq_getElem hi]; rfl
  · rw [List.getElem?_eq_none (by simp; omega), List.getElem?_eq_none (by omega)]; rfl
/-- append(s, x...) of integers to a list of one's own. -/
theorem o_appendI {t e : TypeId} {s x : Operand} {k n : Nat} {xs ys : List Int} {v : Value} {h' : AHeap} (hu : P.underlying t = some (.slice e)) (hi : InfoIs P e (i64 0) 1 8)
    (hx : aeval env s = sl k n) (ho : h[k]? = some (lst xs)) (hn : xs.length = n) (hy : aeval env x = v) (hv : Ints h v ys)
    (hb : n + ys.length ≤ 1000000000) (hs : h.set k (lst (xs ++ ys)) = h') (hK : K (sl k (n + ys.length)) h') :
    AOp P ⟨dst, .call { callee := .builtin .append, args := #[s, x], argTypes := #[t, t] }, ty, pos, after, guard⟩ K env h := by
  obtain ⟨inf, g1, g2, g3, g4⟩ := hi.get
  subst hs hn
  have hno : (lst xs).cells.length = xs.length := by simp [lst]
  by_cases h0 : ys = []
  · subst h0
    refine aop_appendNone (q := match v with | .slice a _ _ => a | _ => none) (c2 := match v with | .slice _ _ c => c | _ => 0) hu g1 (.inr ⟨k, 0, _, _, _, lst xs, hx, ho, hno⟩) ?_ ?_ ?_
    · rcases hv with ⟨rfl, _⟩ | ⟨k2, off, ver, cap, o, rfl, _⟩ <;> exact hy
    · rcases hv with ⟨rfl, _⟩ | ⟨k2, off, ver, cap, o, rfl, h2, h3, _⟩
      · exact .inl ⟨rfl, rfl⟩
      · exact .inr ⟨k2, off, ver, o, rfl, h2, h3⟩
    · rw [hx]
      have : h.set k (lst (xs ++ [])) = h := by rw [List.append_nil]; exact set_same ho
      rw [this] at hK
      exact hK
  · rcases hv with ⟨_, rfl⟩ | ⟨k2, off, ver, cap, o, rfl, h2, h3, h4, h5, h6, h7⟩
    · exact absurd rfl h0
    · have hpos : 0 < ys.length := List.length_pos_iff.2 h0
      have hnews := news_ints h7
      refine aop_append (o := lst xs) (o2 := o) (m := ys.length) hu g1 g2 (by rw [g3]; rfl) (by rw [g3]; rfl) (by show 0 < 1; decide) (by rw [h4]; rfl) hx ho hno (by show xs.length * 1 = _; omega) rfl hy h2 h3
        (by show (news o off (ys.length * 1)).all oneCellA = true; rw [hnews]; simp [List.all_map]; intro a _; rfl) hpos (by rw [g4]; omega) (by omega) ?_
      have e1 : (lst xs).esz = 1 := rfl
      rw [e1, hnews]
      have e2 : (⟨(lst xs).cells ++ ys.map i64, true, 1⟩ : AObj) = lst (xs ++ ys) := by simp [lst]
      rw [e2, Nat.mul_one]
      exact hK
end

section
variable {P : Program} {K : Value → AHeap → Prop} {env : Env} {h : AHeap} {dst : Option Tmp} {ty : TypeId} {pos : String} {after : Array Edge} {guard : Option (Nat × Bool)}
theorem fill1 (p : Int) : Instr.fill (fun k => some (k * 1, 1)) (Array.map (fun x => (i64 0).cells[x % (i64 0).cells.size]!) (Array.range (1 * 1))) [(0, i64 p)] = some #[i64 p] := by
  have e : Array.range (1 * 1) = #[0] := by decide
  rw [e]
  simp [Instr.fill, Value.cells]
theorem o_buildI0 {t e : TypeId} {b : Nat} (hu : P.underlying t = some (.slice e)) (hi : InfoIs P e (i64 0) 1 b) (hK : ∀ k, k = h.length → K (sl k 0) (h ++ [lst []])) :
    AOp P ⟨dst, .buildSlice t 0 #[], ty, pos, after, guard⟩ K env h := by
  obtain ⟨inf, g1, g2, g3, g4⟩ := hi.get
  refine aop_buildSlice (out := #[]) hu g1 g2 rfl (by rw [g3]; rfl) (by omega) (by omega) (by simp [Instr.fill]) (by simp) ?_
  have := hK h.length rfl
  rw [g3]; exact this
theorem o_buildI1 {t e : TypeId} {b : Nat} {x : Operand} {p : Int} (hu : P.underlying t = some (.slice e)) (hi : InfoIs P e (i64 0) 1 b) (hx : aeval env x = i64 p) (hK : ∀ k, k = h.length → K (sl k 1) (h ++ [lst [p]])) :
    AOp P ⟨dst, .buildSlice t 1 #[(0, x)], ty, pos, after, guard⟩ K env h := by
  obtain ⟨inf, g1, g2, g3, g4⟩ := hi.get
  refine aop_buildSlice (out := #[i64 p]) hu g1 g2 rfl (by rw [g3]; rfl) (by omega) (by omega) (by rw [g3]; simp only [List.map_cons, List.map_nil, hx]; exact fill1 p) (by simp [g3]) ?_
  have := hK h.length rfl
  rw [g3]; exact this
end
theorem lst_prim {xs : List Int} : ∀ v ∈ (lst xs).cells, isPrim v = true := fun v hv => by
  simp only [lst, List.mem_map] at hv
  obtain ⟨z, _, rfl⟩ := hv
  rfl
end Go.Am

namespace Go.Am
set_option linter.unusedSimpArgs false
set_option linter.unusedVariables false

/-! ## Lists that are built -/
theorem map_len {f : Nat → Int} {s : Nat} : ((List.range s).map f).length = s := by simp
theorem map_get {f : Nat → Int} {s n : Nat} (h : s < n) : ((List.range n).map f).getD s 0 = f s := by
  rw [List.getD_eq_getElem?_getD, List.getElem?_map, List.getElem?_range h]; rfl

theorem Grown.eq {h h' g : AHeap} (p : Grown h h') (e : g = h) : Grown g h' := by subst e; exact p

/-! ## A nil slice in a variable, seen as an empty list -/
theorem vrel_ghost {m : Map} {h : AHeap} {l : Loc} {k : Nat} (ho : h[k]? = some (lst [])) (hm : m k = some l) : VRel m h (sl k 0) (.slice none 0 0) :=
  .slice ho (Nat.zero_le _) ⟨_, _, _, rfl⟩ fun _ => ⟨l, hm, none, 0, rfl, Nat.le_refl _, Nat.le_refl _, rfl, fun hlt => absurd hlt (by simp [lst]), fun _ => ⟨fun hlt => absurd hlt (by simp [lst]), fun _ => rfl⟩⟩
/-! ## Functions with a result that may fail -/
theorem within_nilb {n : Nat} : Within n (.tuple #[.slice none 0 0, .bool false]) := within_tup2 (.prim rfl) (.prim rfl)
theorem within_nilw {n : Nat} : Within n (.tuple #[.agg #[i64 0, .slice none 0 0], .bool false]) := within_tup2 (.agg2 (.prim rfl) (.prim rfl)) (.prim rfl)
section
variable {P : Program} {K : Value → AHeap → Prop} {env : Env} {h : AHeap} {dst : Option Tmp} {ty : TypeId} {pos : String} {after : Array Edge} {guard : Option (Nat × Bool)}
theorem o_makeZ {t e : TypeId} {x y : Operand} {b : Nat} {l : Int} {k1 k2 : IntKind} (hu : P.underlying t = some (.slice e)) (hi : InfoIs P e (i64 0) 1 b)
    (hx : aeval env x = .int k1 l) (hy : aeval env y = .int k2 l) (hb : 0 ≤ l ∧ b * l ≤ 281474976710656) (h63 : l ≤ 9223372036854775807)
    (hK : ∀ k, k = h.length → K (sl k l.toNat) (h ++ [lst (List.replicate l.toNat 0)])) : AOp P ⟨dst, .makeSlice t x y, ty, pos, after, guard⟩ K env h := by
  obtain ⟨n, rfl⟩ := Int.eq_ofNat_of_zero_le hb.1
  have h1 : ((n : Int)).toNat = n := Int.toNat_natCast n
  rw [h1] at hK
  have e1 : (b : Int) * (n : Int) = ((b * n : Nat) : Int) := (Int.natCast_mul b n).symm
  have e2 := hb.2
  rw [e1] at e2
  exact o_makeI hu hi hx hy (by omega) (by omega) hK
end

theorem ints_nil {h : AHeap} : Ints h (.slice none 0 0) [] := .inl ⟨rfl, rfl⟩
section
variable {P : Program} {K : Value → AHeap → Prop} {env : Env} {h : AHeap} {dst : Option Tmp} {ty : TypeId} {pos : String} {after : Array Edge} {guard : Option (Nat × Bool)}
/-- A list with an element is not nil. -/
theorem o_someSlice {t e yt : TypeId} {x y : Operand} {v : Value} {xs : List Int} (hu : P.underlying t = some (.slice e)) (hx : aeval env x = v) (hv : Ints h v xs) (h0 : 0 < xs.length) (hy : aeval env y = .slice none 0 0)
    (hK : K (.bool false) h) : AOp P ⟨dst, .binOp .eql t x y yt, ty, pos, after, guard⟩ K env h :=
  .of_pure (.bool false) (fun m w a _ ho => by
    have h1 := ho x (by simp [Op.operands])
    have h2 := ho y (by simp [Op.operands])
    rw [hx] at h1; rw [hy] at h2
    rcases hv with ⟨rfl, rfl⟩ | ⟨k, off, ver, cap, o, rfl, g2, g3, g4, g5, g6, g7⟩
    · simp at h0
    · obtain ⟨l, hl, b, cap', he, c1, c2, c3, c4, c5⟩ := h1.slice_inv g2 g3
      have hlt := (List.getElem?_eq_some_iff.1 (g7 0 _ (List.getElem?_eq_getElem h0))).1
      have hb := c4 (by omega)
      subst hb
      refine ⟨.bool false, ?_, .prim rfl⟩
      have hr : ∀ d : Nat, (Op.equalIn (d + 1) t (.slice (some ⟨l.block, l.base + off, none⟩) xs.length cap') (.slice none 0 0)).run P w = .ok false w := fun d => by
        simp [Op.equalIn, run_underlying hu]
      simp only [execOp, he, h2.nil_inv, eqGuard_at_slice, Sem.run_bind, Sem.run_pure, Result.andThen_ok, binOp, Op.equal, Op.maxDepth, hr 9999]) hK
end

section
variable {P : Program} {K : Value → AHeap → Prop} {env : Env} {h : AHeap} {dst : Option Tmp} {ty : TypeId} {pos : String} {after : Array Edge} {guard : Option (Nat × Bool)}
end
section
variable {P : Program} {ops : Array Oper} {KE : Env → AHeap → Prop} {os : List Oper} {env : Env} {h : AHeap} {d : Option Tmp} {ty : TypeId} {pos : String} {af : Array Edge} {g : Option (Nat × Bool)}
theorem d_buildI1 {t e : TypeId} {b : Nat} {x : Operand} {p : Int} (hw : wantedA ops env ⟨d, .buildSlice t 1 #[(0, x)], ty, pos, af, g⟩ = some true) (hu : P.underlying t = some (.slice e)) (hi : InfoIs P e (i64 0) 1 b) (hx : aeval env x = i64 p)
    (hK : ∀ k, k = h.length → (h ++ [lst [p]])[k]? = some (lst [p]) → DRun P ops KE os (env.put d (sl k 1)) (h ++ [lst [p]])) : DRun P ops KE (⟨d, .buildSlice t 1 #[(0, x)], ty, pos, af, g⟩ :: os) env h :=
  d_new hw (o_buildI1 hu hi hx fun k hk => by subst hk; exact ⟨rfl, rfl⟩) (.slice (by simp)) (by simpa using fun u hu => Within.prim (lst_prim u hu)) (hK _ rfl (by simp))
end

/-! ## Coalitions -/
/-- A list with one player's step at all sets before s. -/
def rowW (f : Int → Int → Int) (i : Nat) (l : List Int) : Nat → List Int
  | 0 => l
  | s + 1 => if s.testBit i then (rowW f i l s).set s (f ((rowW f i l s).getD s 0) ((rowW f i l s).getD (s - 2 ^ i) 0)) else rowW f i l s
def allW (f : Int → Int → Int) (l : List Int) : Nat → List Int
  | 0 => l
  | i + 1 => rowW f i (allW f l i) l.length
theorem rowW_len {f : Int → Int → Int} {i : Nat} {l : List Int} : ∀ s, (rowW f i l s).length = l.length
  | 0 => rfl
  | s + 1 => by rw [rowW]; split <;> simp [rowW_len s]
theorem allW_len {f : Int → Int → Int} {l : List Int} : ∀ i, (allW f l i).length = l.length
  | 0 => rfl
  | i + 1 => by rw [allW, rowW_len, allW_len i]
def subW (a b : Int) : Int := IntKind.i64.wrap (a - b)
def addW (a b : Int) : Int := IntKind.i64.wrap (a + b)
theorem sub_bit : ∀ a < 64, ∀ i < 6, Nat.testBit a i = true → 2 ^ i ≤ a ∧ andn a (2 ^ i) = a - 2 ^ i := by decide +kernel
theorem one2 {p : Int} {v : Value} (h : oneCellA v = true) : (Value.agg #[i64 p, v]).cells.toList.all oneCellA = true := by
  show (oneCellA (i64 p) && (oneCellA v && true)) = true
  rw [h]; rfl
theorem Ints.one {h : AHeap} {v : Value} {xs : List Int} (hv : Ints h v xs) : oneCellA v = true := by
  rcases hv with ⟨rfl, _⟩ | ⟨k, off, ver, cap, o, rfl, _⟩ <;> rfl
/-- Worths by a rule. -/
abbrev mapR (fn : Nat → Int) (p : Int) : List Int := (List.range (2 ^ p.toNat)).map fn
theorem mapR_len {fn : Nat → Int} {p : Int} : (mapR fn p).length = 2 ^ p.toNat := map_len
theorem pow_nat {n : Int} (h : 1 ≤ n ∧ n ≤ 6) : ((2 ^ n.toNat : Nat) : Int) = (2 : Int) ^ n.toNat ∧ 2 ≤ 2 ^ n.toNat ∧ 2 ^ n.toNat ≤ 64 := by
  have h1 := pow_bound h
  have e : ((2 ^ n.toNat : Nat) : Int) = (2 : Int) ^ n.toNat := by simp
  exact ⟨e, by omega, by omega⟩
/-- What the whole loses without all others. -/
def othF (xs : List Int) (s : Nat) : Int := xs.getD (xs.length - 1) 0 - xs.getD (xs.length - 1 - s) 0
/-- The set of all that is the s-th one without a player. -/
def posO (q s : Nat) : Nat := (s &&& (2 ^ q - 1)) ||| (andn s (s &&& (2 ^ q - 1)) * 2)
def outF (xs : List Int) (q : Int) (s : Nat) : Int := xs.getD (posO q.toNat s) 0
end Go.Am

namespace Go.Am
set_option linter.unusedSimpArgs false
set_option linter.unusedVariables false
theorem am_max_ints {P : Program} (w : World) (ts : Array TypeId) (t : TypeId) (k k' : IntKind) (x y : Int) :
    (Builtin.max_ ts t #[.int k x, .int k' y]).run P w = .ok (.int k (max x y)) w := by
  have e : (if y > x then y else x) = max x y := by
    rw [Int.max_def]; split <;> split <;> omega
  simp [Builtin.max_, Builtin.max2, e]
section
variable {P : Program} {K : Value → AHeap → Prop} {env : Env} {h : AHeap} {dst : Option Tmp} {ty t : TypeId} {pos : String} {after : Array Edge} {guard : Option (Nat × Bool)} {x y : Operand} {p q : Int}
theorem o_max {ts : Array TypeId} (hx : aeval env x = i64 p) (hy : aeval env y = i64 q) (hK : K (i64 (max p q)) h) :
    AOp P ⟨dst, .call { callee := .builtin .max, args := #[x, y], argTypes := ts }, ty, pos, after, guard⟩ K env h :=
  .of_pure (i64 (max p q)) (fun m w a _ ho => by
    have h1 := ho x (by simp [Op.operands, Call.operands])
    have h2 := ho y (by simp [Op.operands, Call.operands])
    rw [hx] at h1; rw [hy] at h2
    refine ⟨i64 (max p q), ?_, .prim rfl⟩
    simp [execOp, resolve, invoke, builtin, h1.int, h2.int, am_max_ints]) hK
end

/-! ## Sets of players -/
/-! ## Lists of truth values of one's own -/
def lstB (bs : List Bool) : AObj := ⟨bs.map bo, true, 1⟩
section
variable {P : Program} {K : Value → AHeap → Prop} {env : Env} {h : AHeap} {dst : Option Tmp} {ty : TypeId} {pos : String} {after : Array Edge} {guard : Option (Nat × Bool)}
theorem o_makeB {t e : TypeId} {x y : Operand} {b : Nat} {l : Int} {k1 k2 : IntKind} (hu : P.underlying t = some (.slice e)) (hi : InfoIs P e (.bool false) 1 b)
    (hx : aeval env x = .int k1 l) (hy : aeval env y = .int k2 l) (hb : 0 ≤ l ∧ b * l ≤ 281474976710656) (h63 : l ≤ 9223372036854775807)
    (hK : ∀ k, k = h.length → K (sl k l.toNat) (h ++ [lstB (List.replicate l.toNat false)])) : AOp P ⟨dst, .makeSlice t x y, ty, pos, after, guard⟩ K env h := by
  refine o_make hu hi rfl rfl hx hy hb.1 (Int.le_refl _) hb.2 h63 ?_
  have := hK _ rfl
  simpa [lstB] using this
theorem o_indexB {t e : TypeId} {x y : Operand} {b k n : Nat} {bs : List Bool} {kd : IntKind} {i : Int} {z : Value} (hu : P.underlying t = some (.slice e)) (hi : InfoIs P e z 1 b)
    (hx : aeval env x = sl k n) (ho : h[k]? = some (lstB bs)) (hn : bs.length = n) (hy : aeval env y = .int kd i) (h0 : 0 ≤ i) (hlt : i < n) (hK : ∀ p, IsElem (sl k n) i.toNat p → K p h) : AOp P ⟨dst, .indexAddr t x y, ty, pos, after, guard⟩ K env h := by
  obtain ⟨inf, g1, _, g3, _⟩ := hi.get
  refine aop_indexAddr hu g1 (by rw [g3]; rfl) hx ho (by simp [lstB, hn]) hy h0 hlt (by show 0 < 1; decide) ?_
  refine hK _ ?_
  show _ = _
  simp [lstB]
theorem o_loadB {t : TypeId} {x : Operand} {p : Value} {dd : TypeDesc} {k n i : Nat} {bs : List Bool} (hu : P.underlying t = some dd) (hd : aggD dd = false) (hx : aeval env x = p) (hp : IsElem (sl k n) i p) (ho : h[k]? = some (lstB bs)) (hn : bs.length = n) (hlt : i < n)
    (ht : bs.getD i false = true → K (.bool true) h) (hf : bs.getD i false = false → K (.bool false) h) : AOp P ⟨dst, .load t x, ty, pos, after, guard⟩ K env h := by
  have hp' : p = .pointer (some ⟨k, 0 + i, some n⟩) := hp
  refine aop_load (v := .bool (bs.getD i false)) hu hd (hx.trans hp') ho (by simp [lstB, hn]) ?_ (k_split ht hf)
  rw [Nat.zero_add]
  simp only [lstB, List.getElem?_map, List.getElem?_eq_getElem (show i < bs.length by omega), List.getD_eq_getElem?_getD, Option.map_some, Option.getD_some]
theorem o_storeB {t : TypeId} {x y : Operand} {b k n i : Nat} {z : Value} {bs : List Bool} {p : Value} {q : Bool} {h' : AHeap} (hi : InfoIs P t z 1 b) (hx : aeval env x = p) (hp : IsElem (sl k n) i p)
    (ho : h[k]? = some (lstB bs)) (hn : bs.length = n) (hlt : i < n) (hy : aeval env y = .bool q) (hs : h.set k (lstB (bs.set i q)) = h') (hK : K undef h') : AOp P ⟨dst, .store t x y, ty, pos, after, guard⟩ K env h := by
  subst hn
  have hp' : p = .pointer (some ⟨k, 0 + i, some bs.length⟩) := hp
  refine o_store hi (hx.trans hp') ho (by simp [lstB]) rfl hy (by simpa using hlt) rfl ?_
  subst hs
  simpa [lstB, List.map_set] using hK
end
/-- Who has been seen. -/
def seenB (n : Nat) (l : List Int) : List Bool := (List.range n).map fun (j : Nat) => l.contains (j : Int)
theorem seenB_len {n : Nat} {l : List Int} : (seenB n l).length = n := by simp [seenB]
theorem seenB_nil {n : Nat} : List.replicate n false = seenB n [] := by
  apply List.ext_getElem
  · simp [seenB]
  · intro i h1 h2; simp [seenB]
theorem seenB_get {n : Nat} {l : List Int} {x : Int} (h : 0 ≤ x ∧ x < n) : (seenB n l).getD x.toNat false = l.contains x := by
  rw [List.getD_eq_getElem?_getD, seenB, List.getElem?_map, List.getElem?_range (by omega)]
  simp only [Option.map_some, Option.getD_some, Int.toNat_of_nonneg h.1]
theorem seenB_set {n : Nat} {l : List Int} {x : Int} (h : 0 ≤ x ∧ x < n) : (seenB n l).set x.toNat true = seenB n (l ++ [x]) := by
  apply List.ext_getElem
  · simp [seenB]
  · intro i h1 h2
    simp only [seenB, List.length_set, List.length_map, List.length_range] at h1
    rw [List.getElem_set]
    split
    · rename_i e
      simp only [seenB, List.getElem_map, List.getElem_range, List.contains_append]
      have : (i : Int) = x := by omega
      rw [this]; simp
    · rename_i e
      simp only [seenB, List.getElem_map, List.getElem_range, List.contains_append]
      have : ¬ (i : Int) = x := by omega
      have h3 : List.contains [x] (i : Int) = false := by simp [this]
      rw [h3, Bool.or_false]
/-- All numbers below the length, each once. -/
def permB (xs : List Int) (n : Nat) : Bool := (List.range n).all fun s => decide (0 ≤ xs.getD s 0 ∧ xs.getD s 0 ≤ (xs.length : Int) - 1) && !(xs.take s).contains (xs.getD s 0)
theorem permB_step {xs : List Int} {s : Nat} : permB xs (s + 1) = (permB xs s && (decide (0 ≤ xs.getD s 0 ∧ xs.getD s 0 ≤ (xs.length : Int) - 1) && !(xs.take s).contains (xs.getD s 0))) := by
  rw [permB, List.range_succ, List.all_append]; simp [permB]
theorem permB_no {xs : List Int} {s n : Nat} (hs : s < n) (h : (decide (0 ≤ xs.getD s 0 ∧ xs.getD s 0 ≤ (xs.length : Int) - 1) && !(xs.take s).contains (xs.getD s 0)) = false) : permB xs n = false := by
  rw [permB, List.all_eq_false]
  exact ⟨s, List.mem_range.2 hs, by simp only [h]; decide⟩
theorem permB_get {xs : List Int} {n s : Nat} (h : permB xs n = true) (hs : s < n) : (0 ≤ xs.getD s 0 ∧ xs.getD s 0 ≤ (xs.length : Int) - 1) ∧ (xs.take s).contains (xs.getD s 0) = false := by
  have := List.all_eq_true.1 h s (List.mem_range.2 hs)
  simp only [Bool.and_eq_true, decide_eq_true_eq, Bool.not_eq_true'] at this
  exact this
theorem take_app {xs : List Int} {s : Nat} (h : s < xs.length) : xs.take s ++ [xs.getD s 0] = xs.take (s + 1) := by
  rw [List.take_succ_eq_append_getElem h, getD_at h]

/-! ## Parts of things -/
theorem cell_bnd {i p q n : Int} {k : Nat} (hi : 0 ≤ i ∧ i < p) (hk : (k : Int) < q) (hn : n = p * q) : 0 ≤ i * q ∧ i * q ≤ n ∧ 0 ≤ i * q + (k : Int) ∧ i * q + (k : Int) < n := by
  subst hn
  have h1 : 0 ≤ i * q := Int.mul_nonneg hi.1 (by omega)
  have h2 : (i + 1) * q ≤ p * q := Int.mul_le_mul_of_nonneg_right (by omega) (by omega)
  have h3 : (i + 1) * q = i * q + q := by rw [Int.add_mul, Int.one_mul]
  exact ⟨h1, by omega, by omega, by omega⟩
theorem validV_get {p q : Int} {xs : List Int} (h : validV p q xs = true) : (1 ≤ p ∧ p ≤ 6) ∧ (1 ≤ q ∧ q ≤ 8) ∧ (xs.length : Int) = p * q ∧ xs.all (fun n => decide (0 ≤ n ∧ n ≤ 1000)) = true := by
  simp only [validV, Bool.and_eq_true, decide_eq_true_eq] at h
  exact ⟨h.1.1.1, h.1.1.2, h.1.2, h.2⟩
/-! ## Shares by all orders -/
section
variable {P : Program} {K : Value → AHeap → Prop} {env : Env} {h : AHeap} {dst : Option Tmp} {ty t yt : TypeId} {pos : String} {after : Array Edge} {guard : Option (Nat × Bool)} {x y : Operand} {p q : Int} {k ky : IntKind}
theorem o_shrG (hx : aeval env x = .int k p) (hy : aeval env y = .int ky q) (h0 : 0 ≤ q) (hK : K (.int k (p.fdiv (2 ^ (min q.toNat k.bits)))) h) : AOp P ⟨dst, .binOp .shr t x y yt, ty, pos, after, guard⟩ K env h :=
  aop_shift hx hy h0 (.inr ⟨rfl, rfl⟩) hK
theorem o_convW {src d : TypeId} {kd : IntKind} {sd : TypeDesc} (hs : P.underlying src = some sd) (hd : P.underlying d = some (.int kd)) (hx : aeval env x = .int k p) (hK : K (.int kd (kd.wrap p)) h) :
    AOp P ⟨dst, .convert src d x, ty, pos, after, guard⟩ K env h := aop_conv_int hs hd hx hK
end
/-- How many players a set has. -/
def popR : Nat → Nat → Nat
  | 0, _ => 0
  | f + 1, s => s % 2 + popR f (s / 2)
def pop (s : Nat) : Nat := popR 7 s
/-! ## Worths by costs and by votes -/
theorem ints_cells {h : AHeap} {v : Value} {xs : List Int} (hv : Ints h v xs) : v.cells.toList = [v] := by
  rcases hv with ⟨rfl, _⟩ | ⟨k, off, ver, cap, o, rfl, _⟩ <;> rfl
theorem mapR_isW {f : Nat → Int} {p : Int} (hp : 1 ≤ p ∧ p ≤ 6) (h0 : f 0 = 0) (hb : ∀ s, -10000 ≤ f s ∧ f s ≤ 10000) : isW 10000 p (mapR f p) = true := by
  obtain ⟨e, h2, h3⟩ := pow_nat hp
  refine (isW_yes (decide_eq_true hp) ?_ ?_ ?_).symm
  · rw [mapR_len]; exact e
  · rw [mapR, map_get (by omega)]; exact h0
  · refine List.all_eq_true.2 fun x hx => ?_
    simp only [mapR, List.mem_map] at hx
    obtain ⟨s, _, rfl⟩ := hx
    exact decide_eq_true (hb s)
def atF (l : List Int) (s : Nat) : Int := l.getD s 0
/-! ## Complaints -/
/-! ## Parts of things, more -/
theorem cell_bndZ {i p q n t : Int} (hi : 0 ≤ i ∧ i < p) (ht : 0 ≤ t ∧ t < q) (hn : n = p * q) : 0 ≤ i * q ∧ i * q ≤ n ∧ 0 ≤ i * q + t ∧ i * q + t < n := by
  obtain ⟨k, rfl⟩ := Int.eq_ofNat_of_zero_le ht.1
  exact cell_bnd hi ht.2 hn
def allN (n : Nat) (F : Nat → Nat → Bool) : Bool := (List.range n).all fun a => (List.range n).all (F a)
theorem allN_no {n s t : Nat} {F : Nat → Nat → Bool} (hs : s < n) (ht : t < n) (h : F s t = false) : allN n F = false := by
  rw [allN, List.all_eq_false]
  refine ⟨s, List.mem_range.2 hs, ?_⟩
  have : (List.range n).all (F s) = false := List.all_eq_false.2 ⟨t, List.mem_range.2 ht, by rw [h]; decide⟩
  rw [this]; decide
end Go.Am

namespace Go.Am
set_option linter.unusedSimpArgs false
set_option linter.unusedVariables false

theorem allN_yes {b : Bool} {p : Int} {s : Nat} {F : Nat → Nat → Bool} (hb : b = true) (h : (List.range s).all (fun a => (List.range p.toNat).all (F a)) = true) (hs : ¬ (s : Int) < p) : true = (b && allN p.toNat F) := by
  rw [hb, Bool.true_and]; exact (rise_row h hs).symm
theorem allN_off {b : Bool} {p : Int} {s t : Nat} {F : Nat → Nat → Bool} (hs : (s : Int) < p) (ht : (t : Int) < p) (h : F s t = false) : false = (b && allN p.toNat F) := by
  rw [allN_no (s := s) (t := t) (by omega) (by omega) h, Bool.and_false]
/-! ## Even shares -/
/-! ## The greatest of a list -/
/-! ## Rents -/
def rentV (p q : Int) (xs os ps : List Int) : Bool := validV p q xs && decide (p = q) && decide ((os.length : Int) = p) && permB os os.length && (decide ((ps.length : Int) = p) && ps.all fun n => decide (-1000000000 ≤ n ∧ n ≤ 1000000000))
def rentF (xs ps : List Int) (p q i j : Int) : Int := IntKind.i64.wrap (IntKind.i64.wrap (xs.getD (i * q + j).toNat 0 * p) - ps.getD j.toNat 0)
def fairS (xs os ps : List Int) (p q : Int) (i j : Nat) : Bool := decide (¬ rentF xs ps p q i (os.getD i 0) < rentF xs ps p q i j)
theorem has_step {ys : List Int} {s : Nat} {x : Int} (hs : s < ys.length) (h : (ys.take s).contains x = false) (c : ¬ ys.getD s 0 = x) : (ys.take (s + 1)).contains x = false := by
  rw [← take_app hs, List.contains_append, h]
  generalize ys.getD s 0 = y at c
  have : ¬ x = y := fun e => c e.symm
  simp [this]
theorem has_yes {ys : List Int} {s : Nat} {x : Int} (hs : s < ys.length) (c : ys.getD s 0 = x) : ys.contains x = true := by
  rw [List.contains_iff_mem, ← c, getD_at hs]
  exact List.getElem_mem hs
theorem part_zero {xs : List Int} {s : Nat} : part xs 0 s = xs.take s := by simp [part]
theorem rent_many {n : Int} {ps : List Int} (c : (decide (n ≤ ps.length ∧ (ps.length : Int) ≤ n) && ps.all fun x => decide (-1000000000 ≤ x ∧ x ≤ 1000000000)) = false) : (decide ((ps.length : Int) = n) && ps.all fun x => decide (-1000000000 ≤ x ∧ x ≤ 1000000000)) = false := by
  rcases Bool.and_eq_false_iff.1 c with c | c
  · rw [decide_eq_false (by have := of_decide_eq_false c; omega)]; rfl
  · rw [c]; simp
end Go.Am

namespace Go.Am
set_option linter.unusedSimpArgs false
set_option linter.unusedVariables false

/-! ## Least winners -/
def cntL (n : Nat) : List Int := (List.range n).map fun (i : Nat) => (i : Int)
/-- The first place of which something holds, before n; -1 for none. -/
def idxTo (g : Int → Bool) (ys : List Int) : Nat → Int
  | 0 => -1
  | n + 1 => if 0 ≤ idxTo g ys n then idxTo g ys n else if g (ys.getD n 0) then (n : Int) else -1
theorem idxTo_none {g : Int → Bool} {ys : List Int} {s : Nat} (h : idxTo g ys s = -1) (hg : g (ys.getD s 0) = false) : idxTo g ys (s + 1) = -1 := by
  rw [idxTo, h, if_neg (by omega), if_neg (by rw [hg]; decide)]
theorem idxTo_some {g : Int → Bool} {ys : List Int} {s : Nat} (h : idxTo g ys s = -1) (hg : g (ys.getD s 0) = true) : ∀ n, s + 1 ≤ n → idxTo g ys n = (s : Int)
  | 0, hn => by omega
  | n + 1, hn => by
    by_cases e : n = s
    · subst e; rw [idxTo, h, if_neg (by omega), if_pos hg]
    · rw [idxTo, idxTo_some h hg n (by omega), if_pos (by omega)]
theorem idxTo_lt {g : Int → Bool} {ys : List Int} : ∀ n, (0 ≤ idxTo g ys n → ∃ k, k < n ∧ g (ys.getD k 0) = true ∧ idxTo g ys n = (k : Int)) ∧ (idxTo g ys n < 0 → ∀ k, k < n → g (ys.getD k 0) = false)
  | 0 => ⟨fun h => by simp [idxTo] at h, fun _ k hk => by omega⟩
  | n + 1 => by
    obtain ⟨h1, h2⟩ := idxTo_lt (g := g) (ys := ys) n
    rw [idxTo]
    by_cases h : 0 ≤ idxTo g ys n
    · rw [if_pos h]
      obtain ⟨k, hk, hg, he⟩ := h1 h
      exact ⟨fun _ => ⟨k, by omega, hg, he⟩, fun h9 => by omega⟩
    · rw [if_neg h]
      by_cases hg : g (ys.getD n 0) = true
      · rw [if_pos hg]
        exact ⟨fun _ => ⟨n, by omega, hg, rfl⟩, fun h9 => by omega⟩
      · rw [if_neg hg]
        refine ⟨fun h9 => by omega, fun _ k hk => ?_⟩
        by_cases e : k = n
        · subst e; simpa using hg
        · exact h2 (by omega) k (by omega)
end Go.Am

namespace Go.Am
set_option linter.unusedSimpArgs false
set_option linter.unusedVariables false

end Go.Am

namespace Go.Am
set_option linter.unusedSimpArgs false
set_option linter.unusedVariables false

theorem getD_set {l : List Int} {i k : Nat} {x : Int} (hi : i < l.length) : (l.set i x).getD k 0 = if i = k then x else l.getD k 0 := by
  rw [List.getD_eq_getElem?_getD, List.getD_eq_getElem?_getD, List.getElem?_set]
  split
  · rename_i e; subst e; simp [hi]
  · rfl
end Go.Am

namespace Go.Am
set_option linter.unusedSimpArgs false
set_option linter.unusedVariables false

/-! ## Ways between places -/
/-! ## The least part, more -/
end Go.Am

namespace Go.Am
set_option linter.unusedSimpArgs false
set_option linter.unusedVariables false

/-! ## Ways -/
/-! ## Joining -/
/-- What stands behind t ways. -/
structure JOk (J P t : Nat) : Prop where
  lt : J < 128
  sub : (J &&& P) = J
  zero : J.testBit 0 = true
  cnt : pop J = t + 1
/-- Truth values of a set. -/
def bitsB (n J : Nat) : List Bool := (List.range n).map fun i => J.testBit i
theorem bitsB_len {n J : Nat} : (bitsB n J).length = n := by simp [bitsB]
/-! ## A list without its first item -/
abbrev slT (k n : Nat) : Value := .slice (some ⟨k, 1, some (n + 1)⟩) n n
theorem Ints.tail {h : AHeap} {k n : Nat} {x : Int} {xs : List Int} (ho : h[k]? = some (lst (x :: xs))) (hn : xs.length = n) : Ints h (slT k n) xs := by
  subst hn
  exact .inr ⟨k, 1, xs.length + 1, xs.length, _, rfl, ho, by simp [lst], rfl, Nat.le_refl _, by omega, fun i z hz => by
    rw [Nat.add_comm]; simp [lst, hz]⟩
end Go.Am

namespace Go.Am
set_option linter.unusedSimpArgs false
set_option linter.unusedVariables false
section
variable {P : Program} {ops : Array Oper} {KE : Env → AHeap → Prop} {env : Env} {h : AHeap} {d : Option Tmp} {ty : TypeId} {pos : String} {af : Array Edge} {g : Option (Nat × Bool)} {os : List Oper}
end

/-! ## Weighed worths -/
end Go.Am

namespace Go.Am
set_option linter.unusedSimpArgs false
set_option linter.unusedVariables false
section
variable {P : Program} {K : Value → AHeap → Prop} {env : Env} {h : AHeap} {dst : Option Tmp} {ty : TypeId} {pos : String} {after : Array Edge} {guard : Option (Nat × Bool)}

end
end Go.Am

namespace Go.Am
set_option linter.unusedSimpArgs false
set_option linter.unusedVariables false
/-! ## Lists of one number, made by copying -/
/-! ## Things in turn -/
theorem mod_lt {s n : Nat} (h : 1 ≤ n) : 0 ≤ (s : Int) % (n : Int) ∧ (s : Int) % (n : Int) < n := ⟨Int.emod_nonneg _ (by omega), Int.emod_lt_of_pos _ (by omega)⟩
section
variable {P : Program} {K : Value → AHeap → Prop} {env : Env} {h : AHeap} {dst : Option Tmp} {ty : TypeId} {pos : String} {after : Array Edge} {guard : Option (Nat × Bool)}
end
section
variable {P : Program} {ops : Array Oper} {KE : Env → AHeap → Prop} {os : List Oper} {env : Env} {h : AHeap} {d : Option Tmp} {ty : TypeId} {pos : String} {af : Array Edge} {g : Option (Nat × Bool)}
theorem d_sliceHiW {t e : TypeId} {x y2 : Operand} {v z : Value} {b : Nat} {xs : List Int} {k2 : IntKind} {r : Int} (hw : wantedA ops env ⟨d, .slice t x none (some y2) none, ty, pos, af, g⟩ = some true) (hu : P.underlying t = some (.slice e)) (hi : InfoIs P e z 1 b)
    (hx : aeval env x = v) (hv : Ints h v xs) (hy2 : aeval env y2 = .int k2 r) (h0 : 0 < xs.length) (hlr : 0 ≤ r) (hr : r ≤ xs.length)
    (hK : ∀ w, Ints h w (part xs 0 r.toNat) → DRun P ops KE os (env.put d w) h) : DRun P ops KE (⟨d, .slice t x none (some y2) none, ty, pos, af, g⟩ :: os) env h :=
  d_do hw (o_sliceHi hu hi hx hv hy2 h0 hlr hr ⟨rfl, rfl⟩) (hv.sub h0 (Nat.zero_le _) (by omega)).within (hK _ (hv.sub h0 (Nat.zero_le _) (by omega)))
end
end Go.Am

namespace Go.Am
set_option linter.unusedSimpArgs false
set_option linter.unusedVariables false

/-- A slice value that reads as lists of integers. -/
def Lists (h : AHeap) (v : Value) (xss : List (List Int)) : Prop :=
  (v = .slice none 0 0 ∧ xss = []) ∨
  ∃ k off ver cap o, v = .slice (some ⟨k, off, some ver⟩) xss.length cap ∧ h[k]? = some o ∧ o.cells.length = ver ∧ o.esz = 1 ∧ xss.length ≤ cap ∧ off + cap = ver ∧
    ∀ (i : Nat) (xs : List Int), xss[i]? = some xs → ∃ u, o.cells[off + i]? = some u ∧ Ints h u xs

theorem Lists.app {h : AHeap} {v : Value} {xss : List (List Int)} (hv : Lists h v xss) (g : List AObj) : Lists (h ++ g) v xss := by
  rcases hv with hv | ⟨k, off, ver, cap, o, h1, h2, h3, h4, h5, h6, h7⟩
  · exact .inl hv
  · exact .inr ⟨k, off, ver, cap, o, h1, lk_prev h2, h3, h4, h5, h6, fun i xs hi => by
      obtain ⟨u, g1, g2⟩ := h7 i xs hi
      exact ⟨u, g1, g2.app g⟩⟩

theorem Lists.within {h : AHeap} {v : Value} {xss : List (List Int)} (hv : Lists h v xss) : Within h.length v := by
  rcases hv with ⟨rfl, _⟩ | ⟨k, off, ver, cap, o, rfl, h2, _⟩
  · exact .prim rfl
  · exact .slice (List.getElem?_eq_some_iff.1 h2).1

def rowAt (xss : List (List Int)) (i : Nat) : List Int := xss.getD i []
theorem rowAt_some {xss : List (List Int)} {i : Nat} (h : i < xss.length) : xss[i]? = some (rowAt xss i) := by
  simp [rowAt, List.getD_eq_getElem?_getD, List.getElem?_eq_getElem h]
section
variable {P : Program} {K : Value → AHeap → Prop} {env : Env} {h : AHeap} {dst : Option Tmp} {ty : TypeId} {pos : String} {after : Array Edge} {guard : Option (Nat × Bool)}

end

section
variable {P : Program} {ops : Array Oper} {KE : Env → AHeap → Prop} {os : List Oper} {env : Env} {h : AHeap} {d : Option Tmp} {ty : TypeId} {pos : String} {af : Array Edge} {g : Option (Nat × Bool)}
end

/-! ## Own lists of lists -/

/-- A block of one's own with any values. -/
def vls (us : List Value) : AObj := ⟨us, true, 1⟩

/-- Slices over rows that lie one behind the other. -/
def vrows : Nat → List (List Int) → List Value
  | _, [] => []
  | k, x :: xs => sl k x.length :: vrows (k + 1) xs
theorem vrows_len : ∀ {k : Nat} {xss : List (List Int)}, (vrows k xss).length = xss.length
  | _, [] => rfl
  | k, x :: xs => by simp [vrows, vrows_len (k := k + 1) (xss := xs)]
theorem vrows_get : ∀ {k i : Nat} {xss : List (List Int)}, i < xss.length → (vrows k xss)[i]? = some (sl (k + i) (rowAt xss i).length)
  | k, 0, x :: xs, _ => rfl
  | k, i + 1, x :: xs, h => by
    have := vrows_get (k := k + 1) (i := i) (xss := xs) (by simpa using h)
    rw [vrows, List.getElem?_cons_succ, this]
    simp [rowAt, Nat.add_assoc, Nat.add_comm 1]
/-- Lists in new memory: the outer block at k, the rows behind it. -/
def lls (k : Nat) (xss : List (List Int)) : List AObj := vls (vrows (k + 1) xss) :: xss.map lst
@[simp] theorem lls_len {k : Nat} {xss : List (List Int)} : (lls k xss).length = xss.length + 1 := by simp [lls]

theorem take_row {xss : List (List Int)} {s : Nat} (h : s < xss.length) : xss.take (s + 1) = xss.take s ++ [rowAt xss s] := by
  rw [List.take_succ_eq_append_getElem h]
  have := rowAt_some h
  rw [List.getElem?_eq_getElem h, Option.some.injEq] at this
  rw [this]
section
variable {P : Program} {K : Value → AHeap → Prop} {env : Env} {h : AHeap} {dst : Option Tmp} {ty : TypeId} {pos : String} {after : Array Edge} {guard : Option (Nat × Bool)}

end

/-- Marks of all rows. -/
def markL : Int → List (List Int) → List (List Int)
  | _, [] => []
  | c, x :: xs => upto c x.length :: markL (c + x.length) xs
def total : List (List Int) → Nat
  | [] => 0
  | x :: xs => x.length + total xs
@[simp] theorem markL_len : ∀ {c : Int} {xss : List (List Int)}, (markL c xss).length = xss.length
  | _, [] => rfl
  | c, x :: xs => by simp [markL, markL_len (c := c + x.length) (xss := xs)]
theorem total_app : ∀ {a b : List (List Int)}, total (a ++ b) = total a + total b
  | [], b => by simp [total]
  | x :: a, b => by simp [total, total_app (a := a) (b := b), Nat.add_assoc]
theorem total_take {xss : List (List Int)} {s : Nat} (h : s < xss.length) : total (xss.take (s + 1)) = total (xss.take s) + (rowAt xss s).length := by
  rw [take_row h, total_app]; simp [total]
theorem total_le {xss : List (List Int)} {s : Nat} : total (xss.take s) ≤ total xss := by
  have : total xss = total (xss.take s) + total (xss.drop s) := by rw [← total_app, List.take_append_drop]
  omega
theorem total_row {xss : List (List Int)} {s : Nat} (h : s < xss.length) : total (xss.take s) + (rowAt xss s).length ≤ total xss := by
  rw [← total_take h]; exact total_le
section
variable {P : Program} {K : Value → AHeap → Prop} {env : Env} {h : AHeap} {dst : Option Tmp} {ty : TypeId} {pos : String} {after : Array Edge} {guard : Option (Nat × Bool)}
end
section
variable {P : Program} {ops : Array Oper} {KE : Env → AHeap → Prop} {os : List Oper} {env : Env} {h : AHeap} {d : Option Tmp} {ty : TypeId} {pos : String} {af : Array Edge} {g : Option (Nat × Bool)}
end

/-! ## New blocks that lie one behind the other -/
def shf (t d j : Nat) : Nat := if j < t then j else j + d
def ShG (gs : Nat → List AObj) : Prop := ∀ t n d, t ≤ n → (gs (n + d)).length = (gs n).length ∧ ∀ (i : Nat) (o : AObj), (gs n)[i]? = some o →
  ∃ o1, (gs (n + d))[i]? = some o1 ∧ o.cells.length = o1.cells.length ∧ o.mine = o1.mine ∧ o.esz = o1.esz ∧
    ∀ (j : Nat) (v : Value), o.cells[j]? = some v → Within (n + (gs n).length) v ∧ ∃ v1, o1.cells[j]? = some v1 ∧ VRen (shf t d) v v1
theorem ShG.one {o : AObj} (ho : ∀ v ∈ o.cells, isPrim v = true) : ShG (fun _ => [o]) := fun t n d _ => ⟨rfl, fun i x hx => ⟨x, hx, rfl, rfl, rfl, fun j v hv => by
  have : x = o := by cases i <;> simp at hx; exact hx.symm
  subst this
  have := ho v (List.mem_of_getElem? hv)
  exact ⟨.prim this, v, hv, .prim this⟩⟩⟩
theorem ShG.app {gs1 gs2 : Nat → List AObj} {l : Nat} (h1 : ShG gs1) (h2 : ShG gs2) (hl : ∀ n, (gs1 n).length = l) : ShG (fun k => gs1 k ++ gs2 (k + l)) := fun t n d ht => by
  obtain ⟨a1, a2⟩ := h1 t n d ht
  obtain ⟨b1, b2⟩ := h2 t (n + l) d (by omega)
  have e : n + d + l = n + l + d := by omega
  refine ⟨by simp only [List.length_append, e, a1, b1], fun i o hi => ?_⟩
  by_cases c : i < l
  · rw [List.getElem?_append_left (by rw [hl]; exact c)] at hi
    obtain ⟨o1, q1, q2, q3, q4, q5⟩ := a2 i o hi
    refine ⟨o1, by rw [List.getElem?_append_left (by rw [hl]; exact c)]; exact q1, q2, q3, q4, fun j v hv => ?_⟩
    obtain ⟨r1, r2⟩ := q5 j v hv
    exact ⟨r1.mono (by simp only [List.length_append]; omega), r2⟩
  · rw [List.getElem?_append_right (by rw [hl]; omega), hl] at hi
    obtain ⟨o1, q1, q2, q3, q4, q5⟩ := b2 _ o hi
    refine ⟨o1, by rw [List.getElem?_append_right (by rw [hl]; omega), hl, e]; exact q1, q2, q3, q4, fun j v hv => ?_⟩
    obtain ⟨r1, r2⟩ := q5 j v hv
    exact ⟨r1.mono (by simp only [List.length_append, hl]; omega), r2⟩
theorem ShG.lls {xss : List (List Int)} : ShG (fun k => lls k xss) := fun t n d ht => by
  refine ⟨by rw [lls_len, lls_len], fun i o hi => ?_⟩
  cases i with
  | zero =>
    have : o = vls (vrows (n + 1) xss) := by simp [Am.lls] at hi; exact hi.symm
    subst this
    refine ⟨vls (vrows (n + d + 1) xss), rfl, by simp [vls, vrows_len], rfl, rfl, fun j v hv => ?_⟩
    have hv' : (vrows (n + 1) xss)[j]? = some v := hv
    have hlt := (List.getElem?_eq_some_iff.1 hv').1
    rw [vrows_len] at hlt
    rw [vrows_get hlt, Option.some.injEq] at hv'
    subst hv'
    refine ⟨.slice (by rw [lls_len]; omega), _, vrows_get hlt, ?_⟩
    have := VRen.slice (s := shf t d) (k := n + 1 + j) (off := 0) (ver := (rowAt xss j).length) (len := (rowAt xss j).length) (cap := (rowAt xss j).length)
    rwa [show shf t d (n + 1 + j) = n + d + 1 + j by rw [shf, if_neg (by omega)]; omega] at this
  | succ i =>
    have hi' : (xss.map lst)[i]? = some o := by simpa [Am.lls] using hi
    refine ⟨o, by simpa [Am.lls] using hi', rfl, rfl, rfl, fun j v hv => ?_⟩
    simp only [List.getElem?_map, Option.map_eq_some_iff] at hi'
    obtain ⟨xs, _, rfl⟩ := hi'
    have := lst_prim v (List.mem_of_getElem? hv)
    exact ⟨.prim this, v, hv, .prim this⟩

/-- The contract of a function that makes new blocks that lie one behind the other. -/
def RetG (P : Program) (f : FuncId) (args : List Value) (h : AHeap) (V : Nat → Value) (gs : Nat → List AObj) : Prop := Ret P f args h (V h.length) (h ++ gs h.length)
theorem RetG.toG {P : Program} {K : Value → AHeap → Prop} {h : AHeap} {f : FuncId} {vs : List Value} {V : Nat → Value} {gs : Nat → List AObj} (r : RetG P f vs h V gs) (hK : ∀ k, k = h.length → K (V k) (h ++ gs k)) : Tri P f vs h K := Ret.to r (hK _ rfl)
/-- Two lists of lists, one behind the other. -/
def lls2 (k : Nat) (xss yss : List (List Int)) : List AObj := lls k xss ++ lls (k + (xss.length + 1)) yss
@[simp] theorem lls2_len {k : Nat} {xss yss : List (List Int)} : (lls2 k xss yss).length = xss.length + yss.length + 2 := by simp [lls2, lls_len]; omega
/-! ## Sizes and bounds -/
def LB (xss : List (List Int)) : Prop := xss.length ≤ 1048576 ∧ total xss ≤ 1048576
theorem LB.row {xss : List (List Int)} (h : LB xss) (i : Nat) : (rowAt xss i).length ≤ 1048576 := by
  by_cases c : i < xss.length
  · have := total_row c
    have := h.2
    omega
  · have : rowAt xss i = [] := by rw [rowAt, List.getD_eq_getElem?_getD, List.getElem?_eq_none (by omega)]; rfl
    rw [this]; simp
theorem LB.len {xss : List (List Int)} (h : LB xss) : xss.length ≤ 1048576 := h.1
section
variable {P : Program} {ops : Array Oper} {KE : Env → AHeap → Prop} {os : List Oper} {env : Env} {h : AHeap} {d : Option Tmp} {ty : TypeId} {pos : String} {af : Array Edge} {g : Option (Nat × Bool)}
end
section
variable {P : Program} {ops : Array Oper} {KE : Env → AHeap → Prop} {os : List Oper} {env : Env} {h : AHeap} {d : Option Tmp} {ty : TypeId} {pos : String} {af : Array Edge} {g : Option (Nat × Bool)}
end
end Go.Am

namespace Go.Am
set_option linter.unusedSimpArgs false
set_option linter.unusedVariables false
/-! ## Places in a list -/
def idxI (xs : List Int) (x : Int) : Int := idxTo (fun y => decide (x = y)) xs xs.length
theorem idx_has {xs : List Int} {x : Int} : decide (0 ≤ idxI xs x) = xs.contains x := by
  obtain ⟨h1, h2⟩ := idxTo_lt (g := fun y => decide (x = y)) (ys := xs) xs.length
  by_cases h : 0 ≤ idxI xs x
  · obtain ⟨k, hk, hg, _⟩ := h1 h
    rw [decide_eq_true h, has_yes hk (by have := of_decide_eq_true hg; exact this.symm)]
  · rw [decide_eq_false h]
    have h3 := h2 (by have : ¬ 0 ≤ idxTo (fun y => decide (x = y)) xs xs.length := h; omega)
    symm
    rw [← Bool.not_eq_true, List.contains_iff_mem]
    intro hm
    obtain ⟨k, hk, e⟩ := List.getElem_of_mem hm
    have := h3 k hk
    rw [getD_at hk, e] at this
    simp at this
/-! ## Numbers that are there twice -/
def hasAt (xs : List Int) (s : Nat) : Bool := (part xs 0 s).contains (xs.getD s 0)
def inR (n : Int) (x : Int) : Bool := decide (0 ≤ x ∧ x ≤ n - 1)
def rowT (n : Int) (xs : List Int) : Nat → Bool
  | 0 => true
  | t + 1 => rowT n xs t && (inR n (xs.getD t 0) && !hasAt xs t)
def wishL (n : Int) (xs : List Int) : Bool := rowT n xs xs.length
end Go.Am

namespace Go.Am
set_option linter.unusedSimpArgs false
set_option linter.unusedVariables false
section
variable {P : Program} {K : Value → AHeap → Prop} {env : Env} {h : AHeap} {dst : Option Tmp} {ty : TypeId} {pos : String} {after : Array Edge} {guard : Option (Nat × Bool)}
theorem o_nilSlice {t e yt : TypeId} {x y : Operand} (hu : P.underlying t = some (.slice e)) (hx : aeval env x = .slice none 0 0) (hy : aeval env y = .slice none 0 0)
    (hK : K (.bool true) h) : AOp P ⟨dst, .binOp .eql t x y yt, ty, pos, after, guard⟩ K env h :=
  .of_pure (.bool true) (fun m w a _ ho => by
    have h1 := ho x (by simp [Op.operands])
    have h2 := ho y (by simp [Op.operands])
    rw [hx] at h1; rw [hy] at h2
    have e1 := h1.nil_inv
    have e2 := h2.nil_inv
    refine ⟨.bool true, ?_, .prim rfl⟩
    have hr : ∀ d : Nat, (Op.equalIn (d + 1) t (.slice none 0 0) (.slice none 0 0)).run P w = .ok true w := fun d => by
      simp [Op.equalIn, run_underlying hu]
    simp only [execOp, e1, e2, eqGuard_at_slice, Sem.run_bind, Sem.run_pure, Result.andThen_ok, binOp, Op.equal, Op.maxDepth, hr 9999]) hK
end
/-! ## The best so far -/
section
variable (p q : Int) (xs : List Int) (F : List Int → Int)
end
section
variable {p q : Int} {xs : List Int} {F : List Int → Int}
end

/-! ## Parts have a bound -/
theorem within_func0 {n : Nat} {f : Fn} : Within n (.func f #[] #[]) := .func (fun i h => by simp at h) fun i h => by simp at h
/-! ## The heap while the best is sought -/
section
variable (h : AHeap) (BX FB : AObj) (p q : Int) (xs : List Int) (F : List Int → Int)
end
section
variable {h : AHeap} {BX FB : AObj} {p q : Int} {xs : List Int} {F : List Int → Int}
/-! ## The best by the reference -/
end
end Go.Am

namespace Go.Am
set_option linter.unusedSimpArgs false
set_option linter.unusedVariables false
section
variable {p q : Int} {xs : List Int} {F : List Int → Int}
end
end Go.Am

namespace Go.Am
set_option linter.unusedSimpArgs false
set_option linter.unusedVariables false
/-! ## Places -/
def plc (xs : List Int) (x : Int) : Int := if 0 ≤ idxI xs x then idxI xs x else xs.length
/-! ## Orders -/
/-! ## Lists without repetition -/
theorem pigeon : ∀ (n : Nat) (l : List Int), (∀ x ∈ l, 0 ≤ x ∧ x < n) → l.Nodup → l.length ≤ n
  | 0, [], _, _ => Nat.le_refl _
  | 0, x :: l, h, _ => by have := h x (by simp); omega
  | n + 1, l, h, hd => by
    have h1 := pigeon n (l.filter fun x => decide (x ≠ (n : Int))) (fun x hx => by
      simp only [List.mem_filter, decide_eq_true_eq] at hx
      have := h x hx.1
      omega) (hd.filter _)
    have h2 : l.length ≤ (l.filter fun x => decide (x ≠ (n : Int))).length + 1 := by
      clear h h1
      induction l with
      | nil => simp
      | cons a l ih =>
        have hc := List.nodup_cons.1 hd
        by_cases e : a = (n : Int)
        · have : l.filter (fun x => decide (x ≠ (n : Int))) = l := by
            rw [List.filter_eq_self]
            intro x hx
            simp only [decide_eq_true_eq]
            intro e2
            exact hc.1 (by rw [e, ← e2]; exact hx)
          rw [List.filter_cons_of_neg (by simp [e]), this]
          simp
        · rw [List.filter_cons_of_pos (by simp [e])]
          have := ih hc.2
          simp only [List.length_cons]; omega
    omega
/-! ## Friends -/
/-! ## Rooms -/
end Go.Am

namespace Go.Am
set_option linter.unusedSimpArgs false
set_option linter.unusedVariables false
section
variable {P : Program} {K : Value → AHeap → Prop} {env : Env} {h : AHeap} {dst : Option Tmp} {ty : TypeId} {pos : String} {after : Array Edge} {guard : Option (Nat × Bool)}
end
end Go.Am

namespace Go.Am
set_option linter.unusedSimpArgs false
set_option linter.unusedVariables false
def hrow (n : Int) (xss : List (List Int)) (s : Nat) : Bool := wishL n (rowAt xss s) && decide (((rowAt xss s).length : Int) = n)
def okH (xss : List (List Int)) : Bool := decide (1 ≤ (xss.length : Int) ∧ (xss.length : Int) ≤ 8) && (List.range xss.length).all (hrow xss.length xss)
/-! ## Turns -/
def freeB (L : List Bool) : Nat := L.countP id
/-! ## Lists of lists somewhere in a heap -/
section
variable {P : Program} {K : Value → AHeap → Prop} {env : Env} {h : AHeap} {dst : Option Tmp} {ty : TypeId} {pos : String} {after : Array Edge} {guard : Option (Nat × Bool)}
end
section
variable {P : Program} {ops : Array Oper} {KE : Env → AHeap → Prop} {os : List Oper} {env : Env} {h : AHeap} {d : Option Tmp} {ty : TypeId} {pos : String} {af : Array Edge} {g : Option (Nat × Bool)}
end
end Go.Am

namespace Go.Am
set_option linter.unusedSimpArgs false
set_option linter.unusedVariables false

/-- A nil slice that is returned stands for an empty block of one's own, too. -/
theorem Tri.ghost {P : Program} {f : FuncId} {args : List Value} {h : AHeap} {R R' : Value → AHeap → Prop} (t : Tri P f args h R)
    (hR : ∀ v h', R v h' → R' v h' ∨ (v = .slice none 0 0 ∧ R' (sl h'.length 0) (h' ++ [lst []]))) : Tri P f args h R' :=
  ⟨t.1, fun m w rs hr hvs => (t.2 m w rs hr hvs).mono fun e w' ⟨v, r, m', h', he, p1, p2, p3, p4⟩ => by
    rcases hR v h' p4 with h1 | ⟨rfl, h1⟩
    · exact ⟨v, r, m', h', he, p1, p2, p3, h1⟩
    · have hr0 : r = .slice none 0 0 := p3.nil_inv
      subst hr0
      have mold : ∀ {k}, k < h'.length → m'.push h'.length ⟨0, 0, 0⟩ k = m' k := fun {k} hk => by simp [Map.push, Nat.ne_of_lt hk]
      have ex : Ext m' h' (m'.push h'.length ⟨0, 0, 0⟩) (h' ++ [lst []]) := fun k x hk => by
        have hlt := (List.getElem?_eq_some_iff.1 hk).1
        exact ⟨x, by rw [List.getElem?_append_left hlt]; exact hk, Nat.le_refl _, rfl, rfl, fun l1 hl => ⟨l1, by rw [mold hlt]; exact hl, fun _ => rfl⟩⟩
      have rel : Rel (m'.push h'.length ⟨0, 0, 0⟩) (h' ++ [lst []]) w' := by
        refine ⟨fun k o l1 hk hl hp => ?_, fun k1 k2 o1 o2 l1 l2 g1 g2 e1 e2 hne hm hp1 hp2 => ?_, fun k o hk v hv => ?_⟩
        · rcases lookup_push hk with ⟨h1, h2⟩ | ⟨rfl, rfl⟩
          · rw [mold h1] at hl
            obtain ⟨c, ty, fz, hb, hc, hm⟩ := p1.holds k o l1 h2 hl hp
            exact ⟨c, ty, fz, hb, fun i hi => by obtain ⟨r, r1, r2⟩ := hc i hi; exact ⟨r, r1, r2.mono ex⟩, hm⟩
          · simp [lst] at hp
        · rcases lookup_push g1 with ⟨a1, a2⟩ | ⟨rfl, rfl⟩
          · rcases lookup_push g2 with ⟨b1, b2⟩ | ⟨rfl, rfl⟩
            · rw [mold a1] at e1; rw [mold b1] at e2
              exact p1.sep k1 k2 o1 o2 l1 l2 a2 b2 e1 e2 hne hm hp1 hp2
            · simp [lst] at hp2
          · simp [lst] at hp1
        · rcases lookup_push hk with ⟨h1, h2⟩ | ⟨rfl, rfl⟩
          · exact (p1.closed k o h2 v hv).mono (by simp)
          · simp [lst] at hv
      have st : Step m h w (m'.push h'.length ⟨0, 0, 0⟩) (h' ++ [lst []]) w' := by
        refine p2.trans ⟨fun k o ho => ?_, Nat.le_refl _, rfl, rfl, rfl, fun _ _ _ => rfl, fun k o l hk hl hp => ?_⟩
        · have hlt := (List.getElem?_eq_some_iff.1 ho).1
          exact ⟨o, by rw [List.getElem?_append_left hlt]; exact ho, Nat.le_refl _, rfl, rfl, fun l hl => ⟨l, by rw [mold hlt]; exact hl, fun _ => rfl⟩, fun hn => by rw [mold hlt]; exact hn⟩
        · rcases lookup_push hk with ⟨a1, a2⟩ | ⟨rfl, rfl⟩
          · rw [mold a1] at hl
            exact .inr ⟨k, o, l, a2, hl, hp, rfl, id⟩
          · simp [lst] at hp
      exact ⟨sl h'.length 0, .slice none 0 0, _, _, he, rel, st, vrel_ghost (by simp) (by simp [Map.push]; rfl), h1⟩⟩

section
variable {P : Program} {K : Value → AHeap → Prop} {env : Env} {h : AHeap} {dst : Option Tmp} {ty : TypeId} {pos : String} {after : Array Edge} {guard : Option (Nat × Bool)}
/-- Whether an empty slice is nil is not known. -/
theorem o_anySlice {t e yt : TypeId} {x y : Operand} {v : Value} (hu : P.underlying t = some (.slice e)) (hx : aeval env x = v) (hv : Ints h v []) (hy : aeval env y = .slice none 0 0)
    (hT : K (.bool true) h) (hF : K (.bool false) h) : AOp P ⟨dst, .binOp .eql t x y yt, ty, pos, after, guard⟩ K env h := by
  rcases hv with ⟨rfl, _⟩ | ⟨k, off, ver, cap, o, rfl, g2, g3, g4, g5, g6, g7⟩
  · exact o_nilSlice hu hx hy hT
  · refine .of_run fun m w a hr ho => ?_
    have h1 := ho x (by simp [Op.operands])
    have h2 := ho y (by simp [Op.operands])
    rw [hx] at h1; rw [hy] at h2
    obtain ⟨l, hl, ad, cap', he, _⟩ := h1.slice_inv g2 g3
    have hr' : ∀ d : Nat, (Op.equalIn (d + 1) t (.slice ad ([] : List Int).length cap') (.slice none 0 0)).run P w = .ok (decide (ad = none ∧ cap' = 0)) w ∨ (Op.equalIn (d + 1) t (.slice ad ([] : List Int).length cap') (.slice none 0 0)).run P w = .ok true w ∨ (Op.equalIn (d + 1) t (.slice ad ([] : List Int).length cap') (.slice none 0 0)).run P w = .ok false w := fun d => by
      cases ad with
      | none => right; left; simp [Op.equalIn, run_underlying hu]
      | some a0 => right; right; simp [Op.equalIn, run_underlying hu]
    have : ∃ b : Bool, (Op.equalIn (9999 + 1) t (.slice ad ([] : List Int).length cap') (.slice none 0 0)).run P w = .ok b w := by
      rcases hr' 9999 with h | h | h <;> exact ⟨_, h⟩
    obtain ⟨b, hb⟩ := this
    refine ⟨.bool b, .bool b, m, h, w, ?_, hr, Step.refl, .prim rfl, by cases b; exact hF; exact hT⟩
    simp only [execOp, he, h2.nil_inv, eqGuard_at_slice, Sem.run_bind, Sem.run_pure, Result.andThen_ok, binOp, Op.equal, Op.maxDepth, hb]

end

/-! ## Lists of lists whose rows lie anywhere -/
def rvals (r : Nat → Nat) (xss : List (List Int)) (s : Nat) : List Value := (List.range s).map fun i => sl (r i) (rowAt xss i).length
theorem rvals_succ {r : Nat → Nat} {xss : List (List Int)} {s : Nat} : rvals r xss (s + 1) = rvals r xss s ++ [sl (r s) (rowAt xss s).length] := by simp [rvals, List.range_succ]
theorem rvals_congr {r r' : Nat → Nat} {xss : List (List Int)} {s : Nat} (h : ∀ i, i < s → r i = r' i) : rvals r xss s = rvals r' xss s := by
  unfold rvals
  apply List.map_congr_left
  intro i hi
  rw [h i (List.mem_range.1 hi)]
structure OwnS (b : Nat) (H : AHeap) (kO : Nat) (xss : List (List Int)) (s : Nat) (r : Nat → Nat) : Prop where
  out : H[kO]? = some (vls (rvals r xss s))
  low : b ≤ kO
  row : ∀ i, i < s → b ≤ r i ∧ r i ≠ kO ∧ H[r i]? = some (lst (rowAt xss i))
  inj : ∀ i j, i < s → j < s → r i = r j → i = j
theorem owns_step {b kO s kR : Nat} {H : AHeap} {xss : List (List Int)} {r : Nat → Nat} (o : OwnS b H kO xss s r) (hb : b ≤ H.length) (hk : kR = H.length) {t : AObj} :
    OwnS b ((H ++ [lst (rowAt xss s)] ++ [t]).set kO (vls (rvals r xss s ++ [sl kR (rowAt xss s).length]))) kO xss (s + 1) (fun i => if i = s then kR else r i) := by
  subst hk
  have hlt := (List.getElem?_eq_some_iff.1 o.out).1
  have hold : ∀ k, k < H.length → k ≠ kO → ((H ++ [lst (rowAt xss s)] ++ [t]).set kO (vls (rvals r xss s ++ [sl H.length (rowAt xss s).length])))[k]? = H[k]? := fun k hk hne => by
    rw [List.getElem?_set_ne (Ne.symm hne), List.append_assoc, List.getElem?_append_left hk]
  have hnew : ((H ++ [lst (rowAt xss s)] ++ [t]).set kO (vls (rvals r xss s ++ [sl H.length (rowAt xss s).length])))[H.length]? = some (lst (rowAt xss s)) := by
    rw [List.getElem?_set_ne (by omega), List.append_assoc, List.getElem?_append_right (Nat.le_refl _)]; simp
  refine ⟨?_, o.low, fun i hi => ?_, fun i j hi hj => ?_⟩
  · rw [List.getElem?_set_self (by simp; omega), rvals_succ]
    simp only [if_true]
    rw [rvals_congr (r := fun i => if i = s then H.length else r i) (r' := r) (fun i hi => by rw [if_neg (by omega)])]
  · by_cases e : i = s
    · subst e
      simp only [if_true]
      exact ⟨hb, by omega, hnew⟩
    · obtain ⟨h1, h2, h3⟩ := o.row i (by omega)
      simp only [if_neg e]
      exact ⟨h1, h2, by rw [hold _ (List.getElem?_eq_some_iff.1 h3).1 h2]; exact h3⟩
  · have hri : ∀ i, i < s → r i < H.length := fun i hi => (List.getElem?_eq_some_iff.1 (o.row i hi).2.2).1
    intro he
    by_cases e1 : i = s <;> by_cases e2 : j = s
    · omega
    · simp only [e1, if_true, if_neg e2] at he
      have := hri j (by omega); omega
    · simp only [e2, if_true, if_neg e1] at he
      have := hri i (by omega); omega
    · simp only [if_neg e1, if_neg e2] at he
      exact o.inj i j (by omega) (by omega) he
theorem owns_push {b kO s : Nat} {H g : AHeap} {xss : List (List Int)} {r : Nat → Nat} (o : OwnS b H kO xss s r) : OwnS b (H ++ g) kO xss s r :=
  ⟨lk_prev o.out, o.low, fun i hi => ⟨(o.row i hi).1, (o.row i hi).2.1, lk_prev (o.row i hi).2.2⟩, o.inj⟩
theorem ghost_fin {h : AHeap} : ∀ (v : Value) (h' : AHeap), ((v = .slice none 0 0 ∧ Grown h h') ∨ (∃ k, v = sl k 0 ∧ Grown h h' ∧ h'[k]? = some (lst []) ∧ h.length ≤ k)) →
    (∃ k, v = (fun k => sl k 0) k ∧ Grown h h' ∧ h'[k]? = some (lst []) ∧ h.length ≤ k) ∨ (v = .slice none 0 0 ∧ ∃ k, sl h'.length 0 = (fun k => sl k 0) k ∧ Grown h (h' ++ [lst []]) ∧ (h' ++ [lst []])[k]? = some (lst []) ∧ h.length ≤ k) := fun v h' hq => by
  rcases hq with ⟨e, g⟩ | hq
  · exact .inr ⟨e, h'.length, rfl, g.push _, lk_last rfl, g.len⟩
  · exact .inl hq

section
variable {P : Program} {K : Value → AHeap → Prop} {env : Env} {h : AHeap} {dst : Option Tmp} {ty : TypeId} {pos : String} {after : Array Edge} {guard : Option (Nat × Bool)}
end

/-! ## Results with lists of lists, or none -/
def RetOG (P : Program) (f : FuncId) (args : List Value) (h : AHeap) (ok : Bool) (V : Nat → Value) (gs : Nat → List AObj) (N : Value) : Prop :=
  (ok = true → RetG P f args h V gs) ∧ (ok = false → Ret P f args h N h)
/-! ## Marks of two lists of lists -/
end Go.Am

namespace Go.Am
set_option linter.unusedSimpArgs false
set_option linter.unusedVariables false
section
variable {P : Program} {K : Value → AHeap → Prop} {env : Env} {h : AHeap} {dst : Option Tmp} {ty : TypeId} {pos : String} {after : Array Edge} {guard : Option (Nat × Bool)}
end

/-! ## All numbers but one -/
abbrev slP (k m n : Nat) : Value := .slice (some ⟨k, 0, some n⟩) m n
theorem Ints.pre {h : AHeap} {k m n : Nat} {xs ys : List Int} (ho : h[k]? = some (lst (xs ++ ys))) (hm : xs.length = m) (hn : (xs ++ ys).length = n) : Ints h (slP k m n) xs := by
  subst hm hn
  exact .inr ⟨k, 0, _, _, lst (xs ++ ys), rfl, ho, by simp [lst], rfl, by simp, by simp, fun i z hz => by
    have hi := (List.getElem?_eq_some_iff.1 hz).1
    simp only [lst, List.map_append, Nat.zero_add]
    rw [List.getElem?_append_left (by simpa using hi)]
    simp [hz]⟩

/-! ## Games -/
def lgs (xs ys : List Int) : List AObj := [lst xs, lst ys]
abbrev gv (p q : Int) (n m k : Nat) : Value := .agg #[i64 p, i64 q, sl k n, sl (k + 1) m]
theorem Within.agg4 {n : Nat} {a b c d : Value} (h1 : Within n a) (h2 : Within n b) (h3 : Within n c) (h4 : Within n d) : Within n (.agg #[a, b, c, d]) :=
  .agg fun i q1 => by
    match i, q1 with
    | 0, _ => exact h1
    | 1, _ => exact h2
    | 2, _ => exact h3
    | 3, _ => exact h4
theorem VRen.agg4 {s : Nat → Nat} {a b c d a' b' c' d' : Value} (h1 : VRen s a a') (h2 : VRen s b b') (h3 : VRen s c c') (h4 : VRen s d d') : VRen s (.agg #[a, b, c, d]) (.agg #[a', b', c', d']) :=
  .agg rfl fun i q1 q2 => by
    match i, q1 with
    | 0, _ => exact h1
    | 1, _ => exact h2
    | 2, _ => exact h3
    | 3, _ => exact h4
abbrev gt (p q : Int) (n m k : Nat) : Value := .tuple #[gv p q n m k, .bool true]
section
variable {P : Program} {ops : Array Oper} {KE : Env → AHeap → Prop} {os : List Oper} {env : Env} {h : AHeap} {d : Option Tmp} {ty : TypeId} {pos : String} {af : Array Edge} {g : Option (Nat × Bool)}
end

/-! ## The grid of a part of a game -/
section
variable {P : Program} {K : Value → AHeap → Prop} {env : Env} {h : AHeap} {dst : Option Tmp} {ty : TypeId} {pos : String} {after : Array Edge} {guard : Option (Nat × Bool)}
end

/-! ## A game less a row or a column -/
end Go.Am

namespace Go.Am
set_option linter.unusedSimpArgs false
set_option linter.unusedVariables false

/-! ## Rounds of a map -/
/-! ## Parts, without bounds -/
/-! ## Who envies, who is free of it -/
/-! ## Turns until somebody is free -/
end Go.Am

namespace Go.Am
set_option linter.unusedSimpArgs false
set_option linter.unusedVariables false

/-! ## The ring in the walks -/
end Go.Am

namespace Go.Am
set_option linter.unusedSimpArgs false
set_option linter.unusedVariables false

/-! ## Who still has a house -/
def lftH (os : List Int) : List Bool := os.map fun x => decide (x < 0)
/-! ## One round -/
/-! ## How many are left -/
theorem getB_set {L : List Bool} {j k : Nat} (h : j ≠ k) : (L.set j false).getD k false = L.getD k false := by
  rw [List.getD_eq_getElem?_getD, List.getElem?_set, if_neg h, ← List.getD_eq_getElem?_getD]
/-! ## A ring is there -/
structure OkR (xss : List (List Int)) (os : List Int) : Prop where
  hH : okH xss = true
  hl : os.length = xss.length
  hr : 0 < freeB (lftH os)
/-! ## All rounds -/
/-! ## Rounds of envy, padded -/
end Go.Am

namespace Go.Am
set_option linter.unusedSimpArgs false
set_option linter.unusedVariables false
theorem lists_cells {h : AHeap} {v : Value} {xss : List (List Int)} (hv : Lists h v xss) : v.cells.toList = [v] := by
  rcases hv with ⟨rfl, _⟩ | ⟨k, off, ver, cap, o, rfl, _⟩ <;> rfl
end Go.Am

namespace Go.Am
set_option linter.unusedSimpArgs false
set_option linter.unusedVariables false

section
variable {P : Program} {K : Value → AHeap → Prop} {env : Env} {h : AHeap} {dst : Option Tmp} {ty : TypeId} {pos : String} {after : Array Edge} {guard : Option (Nat × Bool)}
end
section
variable {P : Program} {ops : Array Oper} {KE : Env → AHeap → Prop} {os : List Oper} {env : Env} {h : AHeap} {d : Option Tmp} {ty : TypeId} {pos : String} {af : Array Edge} {g : Option (Nat × Bool)}
end

/-! ## Sets -/
/-! ## Places in whole lists -/
/-! ## Who could do better -/
structure Blk where
  xss : List (List Int)
  ms : List Int
  ls : List Int
def Blk.who (B : Blk) (m : Nat) : Int := B.ls.getD (B.ls.length - (m + 1)) 0
def Blk.row (B : Blk) (m : Nat) : List Int := rowAt B.xss (B.who m).toNat
def Blk.has (B : Blk) (m : Nat) : Int := B.ms.getD (B.who m).toNat 0
def Blk.own (B : Blk) (m : Nat) : Nat := (plc (B.row m) (B.has m)).toNat
def takeT (T : Nat) (h : Int) : Nat := T ||| 2 ^ h.toNat
structure OkB (B : Blk) (n : Nat) : Prop where
  hF : okH B.xss = true
  hn : B.xss.length = n
  hm : wishL n B.ms = true
  hml : B.ms.length = n
  hls : ∀ x ∈ B.ls, 0 ≤ x ∧ x < (n : Int)
def RelB (n : Nat) (ls : List Int) (T : Nat) (F : List Bool) : Prop := F.length = n ∧ ∀ x : Int, 0 ≤ x → x < (n : Int) → F.getD x.toNat false = (decide (x ∈ ls) && !T.testBit x.toNat)
theorem take_bit {T j : Nat} {h : Int} : (takeT T h).testBit j = (T.testBit j || decide (h.toNat = j)) := by
  rw [takeT, Nat.testBit_or, Nat.testBit_two_pow]
theorem RelB.take {n : Nat} {ls : List Int} {T : Nat} {F : List Bool} {h : Int} (r : RelB n ls T F) (hh : 0 ≤ h ∧ h < (n : Int)) : RelB n ls (takeT T h) (F.set h.toNat false) := by
  refine ⟨by rw [List.length_set]; exact r.1, fun x h0 h1 => ?_⟩
  rw [take_bit]
  by_cases e : h.toNat = x.toNat
  · rw [e, decide_eq_true rfl, List.getD_eq_getElem?_getD, List.getElem?_set_self (by rw [r.1]; omega)]
    simp
  · rw [getB_set e, r.2 x h0 h1, decide_eq_false e, Bool.or_false]
/-! ## The walks -/
/-! ## The first set -/
section
variable {P : Program} {K : Value → AHeap → Prop} {env : Env} {h : AHeap} {dst : Option Tmp} {ty : TypeId} {pos : String} {after : Array Edge} {guard : Option (Nat × Bool)}
end
section
variable {P : Program} {ops : Array Oper} {KE : Env → AHeap → Prop} {os : List Oper} {env : Env} {h : AHeap} {d : Option Tmp} {ty : TypeId} {pos : String} {af : Array Edge} {g : Option (Nat × Bool)}
end
end Go.Am

namespace Go.Am
set_option linter.unusedSimpArgs false
set_option linter.unusedVariables false
open Ieee

/-! ## Operations -/
abbrev fl (x : Nat) : Value := .float .f32 x
theorem VRel.float {m : Map} {h : AHeap} {k : FloatKind} {x : Nat} {r : Value} (v : VRel m h (.float k x) r) : r = .float k x := by cases v; rfl

section
variable {P : Program} {K : Value → AHeap → Prop} {env : Env} {h : AHeap} {dst : Option Tmp} {ty : TypeId} {pos : String} {after : Array Edge} {guard : Option (Nat × Bool)}
end
section
variable {P : Program} {ops : Array Oper} {KE : Env → AHeap → Prop} {os : List Oper} {env : Env} {h : AHeap} {d : Option Tmp} {ty : TypeId} {pos : String} {af : Array Edge} {g : Option (Nat × Bool)}
end
end Go.Am

namespace Go.Am
set_option linter.unusedSimpArgs false
set_option linter.unusedVariables false
open Ieee

theorem s_read (x : Nat) : single.read x = (if x % 2147483648 < 8388608 then .number (x / 2147483648 % 2 == 1) (x % 2147483648) (-149)
    else if x % 2147483648 < 2139095040 then .number (x / 2147483648 % 2 == 1) (8388608 + x % 2147483648 % 8388608) (-149 + (x % 2147483648 / 8388608 - 1 : Nat))
    else if x % 2147483648 = 2139095040 then .infinity (x / 2147483648 % 2 == 1) else .nan (x / 2147483648 % 2 == 1) (x % 2147483648 - 2139095040)) := rfl
/-! ## What is written -/
theorem lt_log2 {n : Nat} : n < 2 ^ (n.log2 + 1) := Nat.lt_log2_self
theorem log2_le {n k : Nat} (hn : n ≠ 0) (h : n < 2 ^ (k + 1)) : n.log2 ≤ k := by
  have := (Nat.log2_lt hn).2 h
  omega
theorem cut_le {neg : Bool} {n b f : Nat} (h : n.log2 ≤ f + b) : Toward.even.cut neg n b ≤ 2 ^ (f + 1) := by
  have hg : n / (1 <<< min b (n.log2 + 2)) < 2 ^ (f + 1) := by
    rw [Nat.one_shiftLeft, Nat.div_lt_iff_lt_mul (Nat.two_pow_pos _), ← Nat.pow_add]
    exact Nat.lt_of_lt_of_le lt_log2 (Nat.pow_le_pow_right (by decide) (by omega))
  have : Toward.even.cut neg n b ≤ n / (1 <<< min b (n.log2 + 2)) + 1 := by
    unfold Toward.cut
    simp only
    generalize (decide (1 <<< min b (n.log2 + 2) < 2 * (n % 1 <<< min b (n.log2 + 2))) || _) = c
    cases c <;> simp
  omega
theorem log2_shl {m a : Nat} (hm : m ≠ 0) : (m <<< a).log2 ≤ m.log2 + a := by
  rw [Nat.shiftLeft_eq]
  refine log2_le (Nat.mul_ne_zero hm (Nat.pos_iff_ne_zero.1 (Nat.two_pow_pos _))) ?_
  rw [show m.log2 + a + 1 = (m.log2 + 1) + a by omega, Nat.pow_add]
  exact Nat.mul_lt_mul_of_pos_right lt_log2 (Nat.two_pow_pos _)
theorem pow23 : 8388608 = 2 ^ (22 + 1) := by decide
theorem near_rung (f : Format) (neg : Bool) (mag : Nat) (place : Int) : ∃ r, f.nearest neg mag place = f.word neg r ∧ r ≤ f.infRung ∧
    ∀ E : Nat, (mag = 0 ∨ place + (mag.log2 : Int) - f.fractionBits - f.leastPlace ≤ E) → r ≤ E * f.binade + 2 * f.binade := by
  unfold Format.nearest
  by_cases h0 : mag = 0
  · exact ⟨0, by rw [if_pos h0], Nat.zero_le _, fun _ _ => Nat.zero_le _⟩
  · rw [if_neg h0]
    refine ⟨_, rfl, Nat.min_le_right _ _, fun E hE => ?_⟩
    have hE := hE.resolve_left h0
    generalize hl : max (place + (mag.log2 : Int) - (f.fractionBits : Int)) f.leastPlace = last
    have hk : Toward.even.cut neg (mag <<< (place - last).toNat) (last - place).toNat ≤ 2 * f.binade := by
      have h1 := log2_shl (a := (place - last).toNat) h0
      have := cut_le (neg := neg) (n := mag <<< (place - last).toNat) (b := (last - place).toNat) (f := f.fractionBits) (by omega)
      rw [Nat.pow_succ, Nat.mul_comm] at this
      exact this
    refine Nat.le_trans (Nat.min_le_left _ _) (Nat.add_le_add (Nat.mul_le_mul_right _ ?_) hk)
    omega
theorem s_parts (neg : Bool) (r : Nat) (hr : r < 2147483648) : single.word neg r % 2147483648 = r ∧ (single.word neg r / 2147483648 % 2 == 1) = neg := by
  have e : single.word neg r = if neg then 2147483648 + r else r := rfl
  rw [e]
  cases neg
  · simp only [Bool.false_eq_true, if_false]
    exact ⟨by omega, by rw [show r / 2147483648 % 2 = 0 by omega]; rfl⟩
  · simp only [if_true]
    exact ⟨by omega, by rw [show (2147483648 + r) / 2147483648 % 2 = 1 by omega]; rfl⟩
theorem s_word (neg : Bool) (r : Nat) (hr : r < 2139095040) : ∃ m i, single.read (single.word neg r) = .number neg m i ∧ (m = 0 ∨ i + (m.log2 : Int) ≤ (r / 8388608 : Nat) - 127) := by
  have hw := s_parts neg r (by omega)
  rw [s_read, hw.1, hw.2]
  by_cases c : r < 8388608
  · rw [if_pos c]
    refine ⟨r, -149, rfl, ?_⟩
    by_cases h0 : r = 0
    · exact .inl h0
    · right
      have : r.log2 ≤ 22 := log2_le h0 (pow23 ▸ c)
      omega
  · rw [if_neg c, if_pos hr]
    refine ⟨_, _, rfl, .inr ?_⟩
    have : (8388608 + r % 8388608).log2 ≤ 23 := log2_le (by omega) (by omega)
    omega
theorem s_inf (neg : Bool) : single.read (single.word neg 2139095040) = .infinity neg := by
  have hw := s_parts neg 2139095040 (by omega)
  rw [s_read, hw.1, hw.2, if_neg (by omega), if_neg (by omega), if_pos rfl]
/-- A number between -2^(E+1) and 2^(E+1). -/
def Sm (E : Int) (x : Nat) : Prop := ∃ s m i, single.read x = .number s m i ∧ (m = 0 ∨ i + (m.log2 : Int) ≤ E)
def NN (x : Nat) : Prop := (single.read x).isNaN = false
def Ps (x : Nat) : Prop := (∃ m i, single.read x = .number false m i) ∨ single.read x = .infinity false
theorem Sm.mono {E E' : Int} {x : Nat} (h : Sm E x) (he : E ≤ E') : Sm E' x := by
  obtain ⟨s, m, i, h1, h2⟩ := h
  exact ⟨s, m, i, h1, by omega⟩
theorem Sm.nn {E : Int} {x : Nat} (h : Sm E x) : NN x := by obtain ⟨s, m, i, h1, _⟩ := h; rw [NN, h1]; rfl
theorem Ps.nn {x : Nat} (h : Ps x) : NN x := by
  rcases h with ⟨m, i, h⟩ | h <;> rw [NN, h] <;> rfl
theorem write_any (neg : Bool) (mag : Nat) (place : Int) : (∃ m i, single.read (single.nearest neg mag place) = .number neg m i) ∨ single.read (single.nearest neg mag place) = .infinity neg := by
  obtain ⟨r, e, hr, _⟩ := near_rung single neg mag place
  have hr : r ≤ 2139095040 := hr
  rw [e]
  by_cases c : r = 2139095040
  · rw [c]; exact .inr (s_inf neg)
  · obtain ⟨m, i, h3, _⟩ := s_word neg r (by omega)
    exact .inl ⟨m, i, h3⟩
/-! ## The operations -/
def fAdd (x y : Nat) : Nat := (single.add x y).getD 0
def fSub (x y : Nat) : Nat := (single.sub x y).getD 0
def fMul (x y : Nat) : Nat := (single.mul x y).getD 0
def fDiv (x y : Nat) : Nat := (single.div x y).getD 0
theorem mul_pos {x y m n : Nat} {i j : Int} (hx : single.read x = .number false m i) (hy : single.read y = .number false n j) : single.mul x y = some (fMul x y) ∧ Ps (fMul x y) := by
  have e : single.mul x y = some (single.nearest false (m * n) (i + j)) := by rw [Format.mul, hx, hy]; rfl
  refine ⟨by rw [fMul, e]; rfl, ?_⟩
  rw [fMul, e]
  exact write_any false (m * n) (i + j)
end Go.Am

namespace Go.Am
set_option linter.unusedSimpArgs false
set_option linter.unusedVariables false
open Ieee

/-! ## Small whole numbers -/
def fI (n : Int) : Nat := FloatKind.f32.nearest n
/-! ## Orders -/
abbrev ord (x y : Nat) : Option Ordering := single.order x y
def geB (x y : Nat) : Bool := ord x y == some .gt || ord x y == some .eq
def leB (x y : Nat) : Bool := ord x y == some .lt || ord x y == some .eq
def gtB (x y : Nat) : Bool := ord x y == some .gt
def ltB (x y : Nat) : Bool := ord x y == some .lt
/-- A place of a cake. -/
def plF (p : Int) (x : Nat) : Bool := geB x 0 && leB x (fI p)
def PlD (x : Nat) : Prop := ∃ s m i, single.read x = .number s m i ∧ (s = true → m = 0) ∧ (m = 0 ∨ i + (m.log2 : Int) ≤ 10)
theorem PlD.sm {x : Nat} (h : PlD x) : Sm 10 x := by obtain ⟨s, m, i, e, _, h⟩ := h; exact ⟨s, m, i, e, h⟩
theorem PlD.nn {x : Nat} (h : PlD x) : NN x := h.sm.nn
/-! ## A part of a piece -/
def cA (x : Nat) (k : Nat) : Nat := if gtB x (fI k) then x else fI k
def cB (y : Nat) (k : Nat) : Nat := if ltB y (fI ((k : Int) + 1)) then y else fI ((k : Int) + 1)
def cD (x y k : Nat) : Nat := fSub (cB y k) (cA x k)
def cSum (x y : Nat) (ws : List Int) : Nat → Nat
  | 0 => 0
  | k + 1 => if gtB (cD x y k) 0 then fAdd (cSum x y ws k) (fMul (fI (ws.getD k 0)) (cD x y k)) else cSum x y ws k
/-! ## In double precision -/
end Go.Am

namespace Go.Am
set_option linter.unusedSimpArgs false
set_option linter.unusedVariables false
open Ieee
section
variable {P : Program} {K : Value → AHeap → Prop} {env : Env} {h : AHeap} {dst : Option Tmp} {ty : TypeId} {pos : String} {after : Array Edge} {guard : Option (Nat × Bool)}
end
abbrev rowC (q i : Int) (xs : List Int) : List Int := part xs (i * q).toNat ((i + 1) * q).toNat
def cwK (p q i : Int) (xs : List Int) (x y : Nat) : Bool := (validC p q xs && decide (0 ≤ i ∧ i ≤ p - 1)) && (plF q x && (plF q y && !gtB x y))
variable {p q i : Int} {xs : List Int} {x y : Nat}
theorem cwK_yes (h1 : (validC p q xs && decide (0 ≤ i ∧ i ≤ p - 1)) = true) (h2 : plF q x = true) (h3 : plF q y = true) (h4 : gtB x y = false) : cwK p q i xs x y = true := by rw [cwK, h1, h2, h3, h4]; rfl
end Go.Am

namespace Go.Am
set_option linter.unusedSimpArgs false
set_option linter.unusedVariables false
open Ieee

/-! ## A number less itself -/
def finB (x : Nat) : Bool := match single.read x with | .number .. => true | _ => false
section
variable {P : Program} {K : Value → AHeap → Prop} {env : Env} {h : AHeap} {dst : Option Tmp} {ty : TypeId} {pos : String} {after : Array Edge} {guard : Option (Nat × Bool)}
end

/-! ## Marks -/
def mP (x : Nat) (ws : List Int) (k : Nat) : Nat := fMul (fI (ws.getD k 0)) (fSub (fI ((k : Int) + 1)) (cA x k))
def mLeft (x w : Nat) (ws : List Int) : Nat → Nat
  | 0 => w
  | k + 1 => if gtB (fI ((k : Int) + 1)) x then fSub (mLeft x w ws k) (mP x ws k) else mLeft x w ws k
def mHit (x w : Nat) (ws : List Int) (k : Nat) : Bool := gtB (fI ((k : Int) + 1)) x && (geB (mP x ws k) (mLeft x w ws k) && decide (0 < ws.getD k 0))
def mRes (x w : Nat) (ws : List Int) (k : Nat) : Nat := fAdd (cA x k) (fDiv (mLeft x w ws k) (fI (ws.getD k 0)))
def mHitI (x w : Nat) (ws : List Int) (z : Int) : Bool := mHit x w ws z.toNat
def mFir (x w : Nat) (ws : List Int) (n : Nat) : Int := idxTo (mHitI x w ws) (cntL n) n
def mAll (q : Int) (x w : Nat) (ws : List Int) : Nat := if 0 ≤ mFir x w ws q.toNat then mRes x w ws (mFir x w ws q.toNat).toNat else fI q
def cmK (p q i : Int) (xs : List Int) (x w : Nat) : Bool := (validC p q xs && decide (0 ≤ i ∧ i ≤ p - 1)) && (plF q x && (geB w 0 && finB w))
variable {p q i : Int} {xs : List Int} {x w : Nat}
theorem cmK_yes (h1 : (validC p q xs && decide (0 ≤ i ∧ i ≤ p - 1)) = true) (h2 : plF q x = true) (h3 : geB w 0 = true) (h4 : finB w = true) : cmK p q i xs x w = true := by rw [cmK, h1, h2, h3, h4]; rfl
end Go.Am

namespace Go.Am
set_option linter.unusedSimpArgs false
set_option linter.unusedVariables false
open Ieee

/-! ## Halves -/
/-! ## Rounded to at most -/
end Go.Am

namespace Go.Am
set_option linter.unusedSimpArgs false
set_option linter.unusedVariables false
open Ieee

/-! ## Numbers not below zero, and not too great -/
def NF (E : Int) (x : Nat) : Prop := ∃ m i, single.read x = .number false m i ∧ (m = 0 ∨ i + (m.log2 : Int) ≤ E)
theorem NF.sm {E : Int} {x : Nat} (h : NF E x) : Sm E x := by obtain ⟨m, i, e, b⟩ := h; exact ⟨false, m, i, e, b⟩
theorem NF.mono {E E' : Int} {x : Nat} (h : NF E x) (he : E ≤ E') : NF E' x := by obtain ⟨m, i, e, b⟩ := h; exact ⟨m, i, e, by omega⟩
theorem NF.fin {E : Int} {x : Nat} (h : NF E x) : finB x = true := by obtain ⟨m, i, e, b⟩ := h; rw [finB, e]
def hf (x : Nat) : Nat := fDiv x 1073741824
/-! ## Whole numbers -/
end Go.Am

namespace Go.Am
set_option linter.unusedSimpArgs false
set_option linter.unusedVariables false
open Ieee
abbrev ccW (q : Int) (xs : List Int) : Nat := cSum 0 (fI q) (rowC q 0 xs) q.toNat
abbrev ccA (q : Int) (xs : List Int) : Nat := mAll q 0 (hf (ccW q xs)) (rowC q 0 xs)
structure CC (p q : Int) (xs : List Int) : Prop where
  w0 : (validC p q xs && decide ((0 : Int) ≤ 0 ∧ (0 : Int) ≤ p - 1)) = true
  w1 : (validC p q xs && decide ((0 : Int) ≤ 1 ∧ (1 : Int) ≤ p - 1)) = true
  h0 : plF q 0 = true
  h1 : plF q (fI q) = true
  h2 : plF q (ccA q xs) = true
  g1 : gtB 0 (fI q) = false
  g2 : gtB 0 (ccA q xs) = false
  g3 : gtB (ccA q xs) (fI q) = false
  f5 : floatBits .quo .f32 (ccW q xs) 1073741824 = some (hf (ccW q xs))
  f6 : floatBits .mul .f32 1056964608 (ccW q xs) = some (hf (ccW q xs))
  m1 : geB (hf (ccW q xs)) 0 = true
  m2 : finB (hf (ccW q xs)) = true
  nn : NN (ccA q xs)
section
variable {p q : Int} {xs : List Int}
theorem CC.k1 (c : CC p q xs) : cwK p q 0 xs 0 (fI q) = true := cwK_yes c.w0 c.h0 c.h1 c.g1
theorem CC.k2 (c : CC p q xs) : cmK p q 0 xs 0 (hf (ccW q xs)) = true := cmK_yes c.w0 c.h0 c.m1 c.m2
theorem CC.k3 (c : CC p q xs) : cwK p q 1 xs 0 (ccA q xs) = true := cwK_yes c.w1 c.h0 c.h2 c.g2
theorem CC.k4 (c : CC p q xs) : cwK p q 1 xs (ccA q xs) (fI q) = true := cwK_yes c.w1 c.h2 c.h1 c.g3
end
end Go.Am

namespace Go.Am
set_option linter.unusedSimpArgs false
set_option linter.unusedVariables false
def lstF (xs : List Nat) : AObj := ⟨xs.map fl, true, 1⟩
def Flts (h : AHeap) (v : Value) (xs : List Nat) : Prop :=
  (v = .slice none 0 0 ∧ xs = []) ∨
  ∃ k off ver cap o, v = .slice (some ⟨k, off, some ver⟩) xs.length cap ∧ h[k]? = some o ∧ o.cells.length = ver ∧ o.esz = 1 ∧ xs.length ≤ cap ∧ off + cap = ver ∧
    ∀ (i : Nat) (z : Nat), xs[i]? = some z → o.cells[off + i]? = some (fl z)
theorem Flts.app {h : AHeap} {v : Value} {xs : List Nat} (hv : Flts h v xs) (g : List AObj) : Flts (h ++ g) v xs := by
  rcases hv with hv | ⟨k, off, ver, cap, o, h1, h2, h3, h4, h5, h6, h7⟩
  · exact .inl hv
  · exact .inr ⟨k, off, ver, cap, o, h1, by rw [List.getElem?_append_left (List.getElem?_eq_some_iff.1 h2).1]; exact h2, h3, h4, h5, h6, h7⟩
theorem Flts.within {h : AHeap} {v : Value} {xs : List Nat} (hv : Flts h v xs) : Within h.length v := by
  rcases hv with ⟨rfl, _⟩ | ⟨k, off, ver, cap, o, rfl, h2, _⟩
  · exact .prim rfl
  · exact .slice (List.getElem?_eq_some_iff.1 h2).1
theorem Flts.own {h : AHeap} {k n : Nat} {xs : List Nat} (ho : h[k]? = some (lstF xs)) (hn : xs.length = n) : Flts h (sl k n) xs := by
  subst hn
  exact .inr ⟨k, 0, _, _, lstF xs, rfl, ho, by simp [lstF], rfl, Nat.le_refl _, by simp, fun i z hz => by simp [lstF, hz]⟩
section
variable {P : Program} {K : Value → AHeap → Prop} {env : Env} {h : AHeap} {dst : Option Tmp} {ty : TypeId} {pos : String} {after : Array Edge} {guard : Option (Nat × Bool)}
end
section
variable {P : Program} {K : Value → AHeap → Prop} {env : Env} {h : AHeap} {dst : Option Tmp} {ty : TypeId} {pos : String} {after : Array Edge} {guard : Option (Nat × Bool)}
end
section
variable {P : Program} {K : Value → AHeap → Prop} {env : Env} {h : AHeap} {dst : Option Tmp} {ty : TypeId} {pos : String} {after : Array Edge} {guard : Option (Nat × Bool)}
end
section
variable {P : Program} {ops : Array Oper} {KE : Env → AHeap → Prop} {os : List Oper} {env : Env} {h : AHeap} {d : Option Tmp} {op : Op} {ty : TypeId} {pos : String} {af : Array Edge} {g : Option (Nat × Bool)}
end
section
variable {P : Program} {ops : Array Oper} {KE : Env → AHeap → Prop} {os : List Oper} {env : Env} {h : AHeap} {d : Option Tmp} {ty : TypeId} {pos : String} {af : Array Edge} {g : Option (Nat × Bool)}
end
end Go.Am

namespace Go.Am
set_option linter.unusedSimpArgs false
set_option linter.unusedVariables false
open Ieee

/-! ## Values over one base -/
def V (m : Nat) (i : Int) : Nat := m * 2 ^ (i + 300).toNat
/-! ## Rounding, told more finely -/
end Go.Am

namespace Go.Am
set_option linter.unusedSimpArgs false
set_option linter.unusedVariables false
open Ieee
end Go.Am

namespace Go.Am
set_option linter.unusedSimpArgs false
set_option linter.unusedVariables false
open Ieee
end Go.Am

namespace Go.Am
set_option linter.unusedSimpArgs false
set_option linter.unusedVariables false

section
variable {P : Program} {K : Value → AHeap → Prop} {env : Env} {h : AHeap} {dst : Option Tmp} {ty : TypeId} {pos : String} {after : Array Edge} {guard : Option (Nat × Bool)}
theorem aop_appendIn {t e : TypeId} {s x : Operand} {i : TypeInfo} {k ver n cp k2 off2 ver2 m c2 : Nat} {o o2 : AObj} (hu : P.underlying t = some (.slice e)) (hi : P.info? e = some i)
    (hs : i.size = o.esz) (hpos : 0 < o.esz) (hs2 : o2.esz = o.esz)
    (hx : aeval env s = .slice (some ⟨k, 0, some ver⟩) n cp) (ho : h[k]? = some o) (hver : o.cells.length = ver) (hfull : cp * o.esz = ver) (hm : o.mine = true)
    (hy : aeval env x = .slice (some ⟨k2, off2, some ver2⟩) m c2) (ho2 : h[k2]? = some o2) (hver2 : o2.cells.length = ver2) (h1 : (news o2 off2 (m * o.esz)).all oneCellA = true)
    (hm0 : 0 < m) (hfit : n + m ≤ cp)
    (hK : K (.slice (some ⟨k, 0, some ver⟩) (n + m) cp) (h.set k ⟨o.cells.take (n * o.esz) ++ news o2 off2 (m * o.esz) ++ o.cells.drop ((n + m) * o.esz), true, o.esz⟩)) :
    AOp P ⟨dst, .call { callee := .builtin .append, args := #[s, x], argTypes := #[t, t] }, ty, pos, after, guard⟩ K env h :=
  .of_run fun mp w a hr hop => by
    have hp := hop s (by simp [Op.operands, Call.operands])
    have hq := hop x (by simp [Op.operands, Call.operands])
    rw [hx] at hp; rw [hy] at hq
    have hk := (List.getElem?_eq_some_iff.1 ho).1
    obtain ⟨ad, cx, rs, hxe, hrl, hnl, hcells, hrel⟩ := hr.news hq ho2 hver2 hm0 (by rw [hs2]; exact hpos)
    rw [hs2] at hrl hnl hrel
    obtain ⟨l, hl, b, cap', hse, c1, c2', c3, c4, c5⟩ := hp.slice_inv ho hver
    have hone := news_oneCell (by rw [hrl, hnl]) h1 hrel
    have hmm : 0 < m * o.esz := Nat.mul_pos hm0 hpos
    have hmul : (n + m) * o.esz = n * o.esz + m * o.esz := Nat.add_mul _ _ _
    have hfv : (n + m) * o.esz ≤ ver := by rw [← hfull]; exact Nat.mul_le_mul_right _ hfit
    have hlen' : (o.cells.take (n * o.esz) ++ Am.news o2 off2 (m * o.esz) ++ o.cells.drop ((n + m) * o.esz)).length = ver := by
      rw [List.length_append, List.length_append, hnl, List.length_take, List.length_drop]; omega
    have hop0 : 0 < o.cells.length := by omega
    obtain ⟨cr, te, fz, hblk, hcr, hmine⟩ := hr.holds k o l ho hl hop0
    obtain ⟨hbase, rfl, hcap⟩ := hmine hm
    have hcap2 := (c5 hm).1 hop0
    have hb0 := c4 (by omega)
    rw [hbase] at hb0
    subst hb0
    have hroom : n + m ≤ cap' := by omega
    have hfit2 : 0 + n * i.size + rs.length ≤ cr.size := by
      rw [hrl, hcap, ← hcap2, hs, Nat.zero_add, Nat.zero_add, ← Nat.add_mul]
      exact Nat.mul_le_mul_right _ hroom
    have hrun := run_append_room' (P := P) w t ty e te i hu hi l.block 0 n cap' cr hblk ad m cx rs (by rw [hs]; exact hrl) hcells hone hroom hfit2
    simp only [Nat.zero_add] at hrun hfit2
    rw [hs] at hrun hfit2
    have hexec : (execOp a.eval ⟨dst, .call { callee := .builtin .append, args := #[s, x], argTypes := #[t, t] }, ty, pos, after, guard⟩).run P w = .ok (.value (.slice (some ⟨l.block, 0, none⟩) (n + m) cap')) (w.setRow l.block (cr.toList.take (n * o.esz) ++ rs ++ cr.toList.drop (n * o.esz + rs.length)).toArray) := by
      simp only [execOp, resolve, invoke, builtin, Sem.run_bind, Sem.run_pure, Result.andThen_ok, List.map_toArray, List.map_cons, List.map_nil]
      rw [hse, hxe, hrun]
      simp
    have hcs : n * o.esz + rs.length ≤ cr.size := hfit2
    have hreal : ∀ j (hj : j < (o.cells.take (n * o.esz) ++ Am.news o2 off2 (m * o.esz) ++ o.cells.drop ((n + m) * o.esz)).length), ∃ r, (cr.toList.take (n * o.esz) ++ rs ++ cr.toList.drop (n * o.esz + rs.length)).toArray[j]? = some r ∧ VRel mp h (o.cells.take (n * o.esz) ++ Am.news o2 off2 (m * o.esz) ++ o.cells.drop ((n + m) * o.esz))[j] r := fun j hj => by
      have hg : (o.cells.take (n * o.esz) ++ Am.news o2 off2 (m * o.esz) ++ o.cells.drop ((n + m) * o.esz))[j]? = some (o.cells.take (n * o.esz) ++ Am.news o2 off2 (m * o.esz) ++ o.cells.drop ((n + m) * o.esz))[j] := List.getElem?_eq_getElem hj
      generalize (o.cells.take (n * o.esz) ++ Am.news o2 off2 (m * o.esz) ++ o.cells.drop ((n + m) * o.esz))[j] = v at hg
      rw [hlen'] at hj
      have ht1 : (o.cells.take (n * o.esz)).length = n * o.esz := by rw [List.length_take]; omega
      have ht2 : (cr.toList.take (n * o.esz)).length = n * o.esz := by rw [List.length_take, Array.length_toList]; omega
      have hold : ∀ j, j < ver → ∀ v, o.cells[j]? = some v → ∃ r, cr.toList[j]? = some r ∧ VRel mp h v r := fun j hj v hv => by
        obtain ⟨r, g1, g2⟩ := hcr j (by omega)
        rw [hbase, Nat.zero_add] at g1
        refine ⟨r, by simpa using g1, ?_⟩
        rw [List.getElem?_eq_getElem (by omega), Option.some.injEq] at hv
        subst hv; exact g2
      simp only [List.getElem?_toArray]
      rw [List.append_assoc, List.getElem?_append] at hg ⊢
      rw [ht1] at hg
      rw [ht2]
      by_cases c1 : j < n * o.esz
      · rw [if_pos c1] at hg ⊢
        rw [List.getElem?_take, if_pos c1] at hg ⊢
        exact hold j hj v hg
      · rw [if_neg c1] at hg ⊢
        rw [List.getElem?_append] at hg ⊢
        rw [hnl] at hg
        by_cases c2 : j - n * o.esz < m * o.esz
        · rw [if_pos c2] at hg
          rw [if_pos (by omega)]
          have hjr : j - n * o.esz < rs.length := by omega
          rw [List.getElem?_eq_getElem hjr]
          exact ⟨_, rfl, hrel _ _ _ hg (List.getElem?_eq_getElem hjr)⟩
        · rw [if_neg c2] at hg
          rw [if_neg (by omega)]
          rw [List.getElem?_drop] at hg ⊢
          rw [show (n + m) * o.esz + (j - n * o.esz - m * o.esz) = j by omega] at hg
          rw [show n * o.esz + rs.length + (j - n * o.esz - rs.length) = j by omega]
          exact hold j hj v hg
    obtain ⟨r1, s1⟩ := hr.rewrite ho hm hl (l' := l) (cs := o.cells.take (n * o.esz) ++ Am.news o2 off2 (m * o.esz) ++ o.cells.drop ((n + m) * o.esz)) (c' := (cr.toList.take (n * o.esz) ++ rs ++ cr.toList.drop (n * o.esz + rs.length)).toArray) (ty := te) (by rw [hlen']; omega) (setRow_heap w l.block cr _ te (0, 0) hblk) hbase
      (by rw [← hcap]; simp only [List.size_toArray, List.length_append, List.length_take, List.length_drop, Array.length_toList]; omega) (.inl ⟨rfl, hop0⟩)
      (by simp [World.setRow]) rfl rfl rfl (fun b _ hne => setRow_other w l.block b _ hne) hreal
    refine ⟨_, _, _, _, _, hexec, r1, s1, ?_, hK⟩
    refine .slice (o := ⟨o.cells.take (n * o.esz) ++ Am.news o2 off2 (m * o.esz) ++ o.cells.drop ((n + m) * o.esz), true, o.esz⟩) (by simp [hk]) (by simp only []; omega) ⟨_, _, _, rfl⟩ fun _ => ⟨l, by simp [Map.push], _, cap', rfl, hfit, c2', by simp only []; omega, fun _ => by simp [hbase], fun _ => ⟨fun _ => by simpa using hcap2, fun hz0 => by simp only [] at hz0; omega⟩⟩

/-- append(s, x...) of integers to a cut list of one's own: in place. -/
theorem o_appendIn {t e : TypeId} {s x : Operand} {k n L : Nat} {xs ys : List Int} {v : Value} {h' : AHeap} (hu : P.underlying t = some (.slice e)) (hi : InfoIs P e (i64 0) 1 8)
    (hx : aeval env s = .slice (some ⟨k, 0, some L⟩) n L) (ho : h[k]? = some (lst xs)) (hn : xs.length = L) (hy : aeval env x = v) (hv : Ints h v ys) (h0 : 0 < ys.length)
    (hfit : n + ys.length ≤ L) (hs : h.set k (lst (xs.take n ++ ys ++ xs.drop (n + ys.length))) = h') (hK : K (.slice (some ⟨k, 0, some L⟩) (n + ys.length) L) h') :
    AOp P ⟨dst, .call { callee := .builtin .append, args := #[s, x], argTypes := #[t, t] }, ty, pos, after, guard⟩ K env h := by
  obtain ⟨inf, g1, g2, g3, g4⟩ := hi.get
  subst hs
  have hno : (lst xs).cells.length = L := by simp [lst, hn]
  rcases hv with ⟨_, rfl⟩ | ⟨k2, off, ver, cap, o, rfl, h2, h3, h4, h5, h6, h7⟩
  · simp at h0
  · have hnews := news_ints h7
    have e1 : (lst xs).esz = 1 := rfl
    refine aop_appendIn (o := lst xs) (o2 := o) (m := ys.length) (cp := L) hu g1 (by rw [g3]; rfl) (by show 0 < 1; decide) (by rw [h4]; rfl) hx ho hno (by rw [e1, Nat.mul_one]) rfl hy h2 h3
      (by rw [e1, hnews]; simp [List.all_map]; intro a _; rfl) h0 hfit ?_
    rw [e1, hnews]
    have e2 : (⟨(lst xs).cells.take (n * 1) ++ ys.map i64 ++ (lst xs).cells.drop ((n + ys.length) * 1), true, 1⟩ : AObj) = lst (xs.take n ++ ys ++ xs.drop (n + ys.length)) := by
      simp [lst, List.map_take, List.map_drop]
    rw [e2]
    exact hK
end
/-- A cut list, as it reads. -/
theorem Ints.cut {h : AHeap} {k n L : Nat} {xs : List Int} (ho : h[k]? = some (lst xs)) (hn : xs.length = L) (hl : n ≤ L) : Ints h (.slice (some ⟨k, 0, some L⟩) n L) (xs.take n) := by
  subst hn
  have hlen : (xs.take n).length = n := by rw [List.length_take]; omega
  refine .inr ⟨k, 0, _, _, lst xs, by rw [hlen], ho, by simp [lst], rfl, by omega, by omega, fun i z hz => ?_⟩
  rw [List.getElem?_take] at hz
  split at hz
  · simp [lst, hz]
  · cases hz
end Go.Am

namespace Go.Am
set_option linter.unusedSimpArgs false
set_option linter.unusedVariables false
open Go.RowKit
end Go.Am

namespace Go.Am
set_option linter.unusedSimpArgs false
set_option linter.unusedVariables false

end Go.Am

namespace Go.Am
set_option linter.unusedSimpArgs false
set_option linter.unusedVariables false
section
variable {P : Program} {ops : Array Oper} {KE : Env → AHeap → Prop} {os : List Oper} {env : Env} {h : AHeap} {d : Option Tmp} {ty : TypeId} {pos : String} {af : Array Edge} {g : Option (Nat × Bool)}
end

/-! ## The state of the recursion -/
structure PlanS (h H : AHeap) (kO : Nat) (al : List (List Int)) (s : Nat) (r : Nat → Nat) (ss : List Int) (n : Nat) (m : Int) : Prop where
  own : OwnS h.length H kO al s r
  far : ∀ i, i < s → h.length + 7 ≤ r i
  len : ss.length = n
  bnd : ∀ x ∈ ss, 0 ≤ x ∧ x ≤ m
  sle : s ≤ al.length
theorem lk_far {X Y g : AHeap} {k : Nat} (e : X.length = Y.length) (hk : X.length ≤ k) : (X ++ g)[k]? = (Y ++ g)[k]? := by
  rw [List.getElem?_append_right hk, List.getElem?_append_right (by omega), e]
end Go.Am

namespace Go.Am
set_option linter.unusedSimpArgs false
set_option linter.unusedVariables false
theorem take_le {a b : List Int} {i : Nat} (h : a.take (i + 1) = b.take (i + 1)) : a.take i = b.take i := by
  have := congrArg (List.take i) h
  rwa [List.take_take, List.take_take, Nat.min_eq_left (by omega)] at this
end Go.Am

namespace Go.Am
set_option linter.unusedSimpArgs false
set_option linter.unusedVariables false
structure PlanT (h H : AHeap) (kO : Nat) (al : List (List Int)) (s : Nat) (r : Nat → Nat) : Prop where
  own : OwnS h.length H kO al s r
  far : ∀ i, i < s → h.length + 3 ≤ r i
  sle : s ≤ al.length
theorem getD_set_at {l : List Int} {i : Nat} {x : Int} (h : i < l.length) : (l.set i x).getD i 0 = x := by
  rw [getD_at (by simpa using h)]; simp
end Go.Am

namespace Go.Am
set_option linter.unusedSimpArgs false
set_option linter.unusedVariables false

/-! ## Appending to a cut list -/
def putA (zs : List Int) (n : Nat) (y : Int) : List Int := zs.take n ++ [y] ++ zs.drop (n + 1)
theorem putA_len {zs : List Int} {n : Nat} {y : Int} (h : n ≤ zs.length) : n + 1 ≤ (putA zs n y).length ∧ (putA zs n y).length ≤ zs.length + 1 := by
  simp only [putA, List.length_append, List.length_take, List.length_drop, List.length_singleton]
  omega
theorem putA_take {zs : List Int} {n : Nat} {y : Int} (h : n ≤ zs.length) : (putA zs n y).take (n + 1) = zs.take n ++ [y] := by
  have : (zs.take n ++ [y]).length = n + 1 := by simp; omega
  rw [putA, List.take_append_of_le_length (by omega), List.take_of_length_le (by omega)]
theorem putA_low {zs : List Int} {n : Nat} {y : Int} (h : n ≤ zs.length) : (putA zs n y).take n = zs.take n := by
  rw [putA, List.append_assoc, List.take_append_of_le_length (by simp; omega), List.take_take, Nat.min_self]
theorem putA_max {zs : List Int} {n : Nat} {y : Int} (h : n ≤ zs.length) (hB : zs.length ≤ 10) (hn : n < 10) : (putA zs n y).length ≤ 10 := by
  simp only [putA, List.length_append, List.length_take, List.length_drop, List.length_singleton]
  omega
section
variable {P : Program} {K : Value → AHeap → Prop} {env : Env} {h : AHeap} {dst : Option Tmp} {ty : TypeId} {pos : String} {after : Array Edge} {guard : Option (Nat × Bool)}
theorem o_appendAny {t e : TypeId} {s x : Operand} {k n L k2 : Nat} {zs : List Int} {y : Int} {h' : AHeap} (hu : P.underlying t = some (.slice e)) (hi : InfoIs P e (i64 0) 1 8)
    (hx : aeval env s = .slice (some ⟨k, 0, some L⟩) n L) (ho : h[k]? = some (lst zs)) (hn : zs.length = L) (hle : n ≤ L) (hy : aeval env x = sl k2 1) (ho2 : h[k2]? = some (lst [y])) (hL : L ≤ 1000000)
    (hs : h.set k (lst (putA zs n y)) = h') (hK : K (.slice (some ⟨k, 0, some (putA zs n y).length⟩) (n + 1) (putA zs n y).length) h') :
    AOp P ⟨dst, .call { callee := .builtin .append, args := #[s, x], argTypes := #[t, t] }, ty, pos, after, guard⟩ K env h := by
  have hv : Ints h (sl k2 1) [y] := Ints.own ho2 rfl
  subst hn
  by_cases c : n = zs.length
  · subst c
    have e1 : putA zs zs.length y = zs ++ [y] := by rw [putA, List.take_length, List.drop_of_length_le (by omega), List.append_nil]
    rw [e1] at hs hK
    refine o_appendI hu hi hx ho rfl hy hv (by simp; omega) hs ?_
    have e2 : (zs ++ [y]).length = zs.length + 1 := by simp
    rw [e2] at hK
    exact hK
  · have e2 : (putA zs n y).length = zs.length := by
      simp only [putA, List.length_append, List.length_take, List.length_drop, List.length_singleton]
      omega
    rw [e2] at hK
    exact o_appendIn hu hi hx ho rfl hy hv (by simp) (by simp; omega) hs hK
end
/-! ## Rows that are kept -/
structure RowG (b : Nat) (H : AHeap) (kO : Nat) (al : List (List Int)) (s : Nat) (r : Nat → Nat) (bad : Nat → Prop) : Prop where
  own : OwnS b H kO al s r
  far : ∀ i, i < s → ¬ bad (r i)
  sle : s ≤ al.length
theorem RowG.set {b : Nat} {H H' : AHeap} {kO k s : Nat} {al : List (List Int)} {r : Nat → Nat} {bad : Nat → Prop} {o : AObj} (p : RowG b H kO al s r bad) (hs : H.set k o = H') (hk : k ≠ kO) (hb : bad k) : RowG b H' kO al s r bad := by
  subst hs
  refine ⟨⟨by rw [List.getElem?_set_ne hk]; exact p.own.out, p.own.low, fun i hi => ?_, p.own.inj⟩, p.far, p.sle⟩
  obtain ⟨h1, h2, h3⟩ := p.own.row i hi
  exact ⟨h1, h2, by rw [List.getElem?_set_ne fun e => p.far i hi (by rw [← e]; exact hb)]; exact h3⟩
theorem RowG.push {b : Nat} {H g : AHeap} {kO s : Nat} {al : List (List Int)} {r : Nat → Nat} {bad : Nat → Prop} (p : RowG b H kO al s r bad) : RowG b (H ++ g) kO al s r bad := ⟨owns_push p.own, p.far, p.sle⟩
theorem RowG.lt {b : Nat} {H : AHeap} {kO s : Nat} {al : List (List Int)} {r : Nat → Nat} {bad : Nat → Prop} (p : RowG b H kO al s r bad) {i : Nat} (hi : i < s) : r i < H.length := (List.getElem?_eq_some_iff.1 (p.own.row i hi).2.2).1
theorem RowG.bad {b : Nat} {H : AHeap} {kO s : Nat} {al : List (List Int)} {r : Nat → Nat} {bad bad' : Nat → Prop} (p : RowG b H kO al s r bad) (h : ∀ j, j < H.length → ¬ bad j → ¬ bad' j) : RowG b H kO al s r bad' := ⟨p.own, fun i hi => h _ (p.lt hi) (p.far i hi), p.sle⟩
theorem RowG.add {b : Nat} {H H' : AHeap} {kO kR s : Nat} {al : List (List Int)} {r : Nat → Nat} {bad : Nat → Prop} {ss : List Int} {t : AObj} (p : RowG b H kO al s r bad) (hs : s < al.length) (hrow : rowAt al s = ss) (hb : b ≤ H.length) (hbad : ¬ bad kR) (hk : kR = H.length)
    (hH : (H ++ [lst ss] ++ [t]).set kO (vls (rvals r al s ++ [sl kR ss.length])) = H') : RowG b H' kO al (s + 1) (fun i => if i = s then kR else r i) bad := by
  subst hrow
  have := owns_step (t := t) p.own hb hk
  rw [hH] at this
  refine ⟨this, fun i hi => ?_, by omega⟩
  by_cases e : i = s
  · subst e; simp only [if_true]; exact hbad
  · simp only [if_neg e]; exact p.far i (by omega)
/-! ## Rings -/
/-! ## What is given -/
structure GivesOk (xss : List (List Int)) : Prop where
  n1 : 1 ≤ xss.length
  n8 : xss.length ≤ 8
  row : ∀ i, (rowAt xss i).length ≤ 8
  bnd : ∀ i, ∀ x ∈ rowAt xss i, 0 ≤ x ∧ x < (xss.length : Int)
section
variable {P : Program} {K : Value → AHeap → Prop} {env : Env} {h : AHeap} {dst : Option Tmp} {ty : TypeId} {pos : String} {after : Array Edge} {guard : Option (Nat × Bool)}
/-- A cut list, cut again. -/
theorem o_sliceCut {t e : TypeId} {x y2 : Operand} {k n L r b : Nat} {zs : List Int} {z0 : Value} {k1 : IntKind} {z : Int} (hu : P.underlying t = some (.slice e)) (hi : InfoIs P e z0 1 b)
    (hx : aeval env x = .slice (some ⟨k, 0, some L⟩) n L) (ho : h[k]? = some (lst zs)) (hn : zs.length = L) (hy2 : aeval env y2 = .int k1 z) (hz : z = (r : Int)) (hr : r ≤ L)
    (hK : K (.slice (some ⟨k, 0, some L⟩) r L) h) : AOp P ⟨dst, .slice t x none (some y2) none, ty, pos, after, guard⟩ K env h := by
  obtain ⟨i, h1, _, h3, _⟩ := hi.get
  subst hz
  refine aop_slice (l := 0) (r := r) hu h1 (by rw [h3]; rfl) hx ho (by simp [lst, hn]) (.inl ⟨rfl, rfl⟩) (.inr ⟨y2, k1, rfl, hy2⟩) (Nat.zero_le _) hr ?_
  show K (.slice (some ⟨k, 0 + 0 * 1, some L⟩) (r - 0) (L - 0)) h
  simpa using hK
end
theorem app_bnd {ring : List Int} {n x : Int} (h : ∀ y ∈ ring, 0 ≤ y ∧ y < n) (hx : 0 ≤ x ∧ x < n) : ∀ y ∈ ring ++ [x], 0 ≤ y ∧ y < n := fun y hy => by
  rcases List.mem_append.1 hy with h1 | h1
  · exact h y h1
  · rw [List.mem_singleton] at h1; rw [h1]; exact hx
theorem getD_bnd {l : List Int} {n : Int} {k : Nat} (h : ∀ y ∈ l, 0 ≤ y ∧ y < n) (hk : k < l.length) : 0 ≤ l.getD k 0 ∧ l.getD k 0 < n := by
  rw [getD_at hk]; exact h _ (List.getElem_mem _)
end Go.Am

namespace Go.Am
set_option linter.unusedSimpArgs false
set_option linter.unusedVariables false

/-! ## Two lists -/
abbrev VT2 (n m k : Nat) : Value := .tuple #[sl k n, sl (k + 1) m, .bool true]
abbrev NL2 : Value := .tuple #[.slice none 0 0, .slice none 0 0, .bool false]
theorem ret2l_of {P : Program} {f : FuncId} {args : List Value} {h : AHeap} {xs ys : List Int}
    (t : Tri P f args h fun v h' => ∃ kA kB, v = .tuple #[sl kA xs.length, sl kB ys.length, .bool true] ∧ Grown h h' ∧ h'[kA]? = some (lst xs) ∧ h'[kB]? = some (lst ys) ∧ h.length ≤ kA ∧ h.length ≤ kB ∧ kA ≠ kB) : RetG P f args h (VT2 xs.length ys.length) (fun _ => lgs xs ys) :=
  t.keeps fun hcl v1 h1 ⟨kA, kB, e1, ⟨g, e2⟩, oA, oB, lA, lB, hne⟩ => by
    subst e1
    let s : Nat → Nat := fun j => if j < h.length then j else if j = h.length then kA else kB
    have s1 : ∀ j, j < h.length → s j = j := fun j hj => by simp [s, hj]
    have s2 : s h.length = kA := by simp [s]
    have s3 : s (h.length + 1) = kB := by
      simp only [s]
      rw [if_neg (by omega), if_neg (by omega)]
    have hlen : (h ++ lgs xs ys).length = h.length + 2 := by simp [lgs]
    refine ⟨s, h ++ lgs xs ys, .tuple #[sl h.length xs.length, sl (h.length + 1) ys.length, .bool true], ⟨s1, by rw [hlen]; omega, fun i j hi hj he => ?_, fun k o2 hk => ?_⟩, .tup3 (.slice (by rw [hlen]; omega)) (.slice (by rw [hlen]; omega)) (.prim rfl), ?_, rfl, rfl⟩
    · rw [hlen] at hi hj
      have cls : ∀ i, i < h.length + 2 → (i < h.length ∧ s i = i) ∨ (i = h.length ∧ s i = kA) ∨ (i = h.length + 1 ∧ s i = kB) := fun i hi => by
        by_cases c1 : i < h.length
        · exact .inl ⟨c1, s1 i c1⟩
        · by_cases c2 : i = h.length
          · exact .inr (.inl ⟨c2, by rw [c2, s2]⟩)
          · have c3 : i = h.length + 1 := by omega
            exact .inr (.inr ⟨c3, by rw [c3, s3]⟩)
      rcases cls i hi with ⟨a1, a2⟩ | ⟨a1, a2⟩ | ⟨a1, a2⟩ <;> rcases cls j hj with ⟨b1, b2⟩ | ⟨b1, b2⟩ | ⟨b1, b2⟩ <;> rw [a2, b2] at he <;> omega
    · by_cases c1 : k < h.length
      · rw [List.getElem?_append_left c1] at hk
        refine ⟨o2, by rw [s1 k c1, e2, List.getElem?_append_left c1]; exact hk, rfl, rfl, rfl, fun i v hv => ?_⟩
        have := hcl k o2 hk v (List.mem_of_getElem? hv)
        exact ⟨this.mono (by rw [hlen]; omega), v, hv, .id this s1⟩
      · have hkl := (List.getElem?_eq_some_iff.1 hk).1
        rw [hlen] at hkl
        have prm : ∀ l : List Int, ∀ (i : Nat) (v : Value), (lst l).cells[i]? = some v → Within (h ++ lgs xs ys).length v ∧ ∃ v', (lst l).cells[i]? = some v' ∧ VRen s v v' := fun l i v hv => by
          have := lst_prim v (List.mem_of_getElem? hv)
          exact ⟨.prim this, v, hv, .prim this⟩
        by_cases c2 : k = h.length
        · subst c2
          rw [List.getElem?_append_right (Nat.le_refl _), Nat.sub_self] at hk
          simp only [lgs, List.getElem?_cons_zero, Option.some.injEq] at hk
          subst hk
          exact ⟨_, by rw [s2]; exact oA, rfl, rfl, rfl, prm xs⟩
        · have c3 : k = h.length + 1 := by omega
          subst c3
          rw [List.getElem?_append_right (by omega), show h.length + 1 - h.length = 1 by omega] at hk
          simp only [lgs, List.getElem?_cons_succ, List.getElem?_cons_zero, Option.some.injEq] at hk
          subst hk
          exact ⟨_, by rw [s3]; exact oB, rfl, rfl, rfl, prm ys⟩
    · have a := VRen.slice (s := s) (k := h.length) (off := 0) (ver := xs.length) (len := xs.length) (cap := xs.length)
      have b := VRen.slice (s := s) (k := h.length + 1) (off := 0) (ver := ys.length) (len := ys.length) (cap := ys.length)
      rw [s2] at a
      rw [s3] at b
      exact .tup3 a b (.prim rfl)
theorem within_nl2 {n : Nat} : Within n NL2 := .tup3 (.prim rfl) (.prim rfl) (.prim rfl)
theorem retol2_of {P : Program} {f : FuncId} {args : List Value} {h : AHeap} {ok : Bool} {xs ys : List Int}
    (t : Tri P f args h fun v h' => (ok = true ∧ ∃ kA kB, v = .tuple #[sl kA xs.length, sl kB ys.length, .bool true] ∧ Grown h h' ∧ h'[kA]? = some (lst xs) ∧ h'[kB]? = some (lst ys) ∧ h.length ≤ kA ∧ h.length ≤ kB ∧ kA ≠ kB) ∨ (ok = false ∧ v = NL2 ∧ Grown h h')) :
    RetOG P f args h ok (VT2 xs.length ys.length) (fun _ => lgs xs ys) NL2 :=
  ⟨fun e => ret2l_of (t.mono fun v h' q => by
      rcases q with ⟨_, q⟩ | ⟨e2, _⟩
      · exact q
      · rw [e] at e2; cases e2),
   fun e => ret_of within_nl2 (t.mono fun v h' q => by
      rcases q with ⟨e2, _⟩ | ⟨_, q⟩
      · rw [e] at e2; cases e2
      · exact q)⟩
theorem RetG.toLL {P : Program} {K : Value → AHeap → Prop} {h : AHeap} {f : FuncId} {vs : List Value} {xs ys : List Int} (r : RetG P f vs h (VT2 xs.length ys.length) (fun _ => lgs xs ys))
    (hK : ∀ k, k = h.length → ((h ++ [lst xs] ++ [lst ys])[k]? = some (lst xs) ∧ (h ++ [lst xs] ++ [lst ys])[k + 1]? = some (lst ys)) → K (VT2 xs.length ys.length k) (h ++ [lst xs] ++ [lst ys])) : Tri P f vs h K :=
  r.toG fun k hk => by
    have := hK k hk ⟨lk_prev (lk_last hk), lk_last (by simp [hk])⟩
    rwa [List.append_assoc] at this

/-! ## All orders, and the best of them -/
def wV (xs : List Int) (n i t : Int) : Int := xs.getD (i * n + t).toNat 0
def sumW6 (xs : List Int) (n : Int) (l : List Int) : Nat → Int
  | 0 => 0
  | s + 1 => sumW6 xs n l s + wV xs n s (l.getD s 0)
theorem wV_bnd {xs : List Int} (hb : xs.all (fun x => decide (0 ≤ x ∧ x ≤ 1000)) = true) {n i t : Int} : 0 ≤ wV xs n i t ∧ wV xs n i t ≤ 1000 := by
  unfold wV
  by_cases h : (i * n + t).toNat < xs.length
  · rw [getD_at h]
    exact of_decide_eq_true (List.all_eq_true.1 hb _ (List.getElem_mem _))
  · rw [List.getD_eq_getElem?_getD, List.getElem?_eq_none (by omega)]
    exact ⟨Int.le_refl _, by decide⟩
theorem sumW6_bnd {xs : List Int} (hb : xs.all (fun x => decide (0 ≤ x ∧ x ≤ 1000)) = true) {n : Int} {l : List Int} : ∀ s : Nat, 0 ≤ sumW6 xs n l s ∧ sumW6 xs n l s ≤ 1000 * s
  | 0 => by simp [sumW6]
  | s + 1 => by
    have h1 := sumW6_bnd hb (n := n) (l := l) s
    have h2 := wV_bnd hb (n := n) (i := s) (t := l.getD s 0)
    rw [sumW6]
    omega
theorem sumW6_app {xs : List Int} {n : Int} {l m : List Int} : ∀ s : Nat, s ≤ l.length → sumW6 xs n (l ++ m) s = sumW6 xs n l s
  | 0, _ => rfl
  | s + 1, h => by
    rw [sumW6, sumW6, sumW6_app s (by omega), List.getD_eq_getElem?_getD, List.getElem?_append_left (by omega), ← List.getD_eq_getElem?_getD]
def permR (n : Nat) : Nat → List Int → List (List Int)
  | 0, t => [t]
  | d + 1, t => (List.range n).flatMap fun (k : Nat) => if t.contains (k : Int) then [] else permR n d (t ++ [(k : Int)])
def restP (n d : Nat) (t : List Int) (k : Nat) : List (List Int) := ((List.range n).drop k).flatMap fun (k : Nat) => if t.contains (k : Int) then [] else permR n d (t ++ [(k : Int)])
theorem permR_zero {n d : Nat} {t : List Int} : permR n (d + 1) t = restP n d t 0 := rfl
theorem restP_has {n d k : Nat} {t : List Int} (hk : k < n) (h : t.contains (k : Int) = true) : restP n d t k = restP n d t (k + 1) := by
  unfold restP
  rw [List.drop_eq_getElem_cons (by simpa using hk), List.flatMap_cons, List.getElem_range, if_pos h, List.nil_append]
theorem restP_not {n d k : Nat} {t : List Int} (hk : k < n) (h : t.contains (k : Int) = false) : restP n d t k = permR n d (t ++ [(k : Int)]) ++ restP n d t (k + 1) := by
  unfold restP
  rw [List.drop_eq_getElem_cons (by simpa using hk), List.flatMap_cons, List.getElem_range, if_neg (by rw [h]; decide)]
theorem restP_end {n d k : Nat} {t : List Int} (hk : n ≤ k) : restP n d t k = [] := by
  unfold restP
  rw [List.drop_of_length_le (by simpa using hk)]; rfl
abbrev BSt := Option (List Int) × Int
def stepB (f : List Int → Int) (st : BSt) (l : List Int) : BSt := match st.1 with
  | none => (some l, f l)
  | some _ => if st.2 < f l then (some l, f l) else st
def runB (f : List Int → Int) (st : BSt) (ls : List (List Int)) : BSt := ls.foldl (stepB f) st
theorem runB_app {f : List Int → Int} {st : BSt} {a b : List (List Int)} : runB f st (a ++ b) = runB f (runB f st a) b := List.foldl_append
theorem stepB_none {f : List Int → Int} {m : Int} {l : List Int} : stepB f (none, m) l = (some l, f l) := rfl
theorem stepB_yes {f : List Int → Int} {c l : List Int} {m : Int} (h : m < f l) : stepB f (some c, m) l = (some l, f l) := if_pos h
theorem stepB_no {f : List Int → Int} {c l : List Int} {m : Int} (h : ¬ m < f l) : stepB f (some c, m) l = (some c, m) := if_neg h
theorem stepB_two {f : List Int → Int} {st : BSt} {a b : List Int} : stepB f (stepB f st a) b = stepB f st (if f a < f b then b else a) := by
  obtain ⟨o, m⟩ := st
  cases o with
  | none =>
    rw [stepB_none, stepB_none]
    by_cases h2 : f a < f b
    · rw [stepB_yes h2, if_pos h2]
    · rw [stepB_no h2, if_neg h2]
  | some c =>
    by_cases h1 : m < f a
    · rw [stepB_yes h1]
      by_cases h2 : f a < f b
      · rw [stepB_yes h2, if_pos h2, stepB_yes (show m < f b by omega)]
      · rw [stepB_no h2, if_neg h2, stepB_yes h1]
    · rw [stepB_no h1]
      by_cases h2 : f a < f b
      · rw [if_pos h2]
      · rw [if_neg h2, stepB_no h1, stepB_no (show ¬ m < f b by omega)]
/-- The rooms with the greatest sum, by trying all for the next player. -/
def stepR (xs : List Int) (n : Nat) (g : List Int → List Int × Int) (t : List Int) (st : List Int × Int) (k : Nat) : List Int × Int :=
  if t.contains (k : Int) then st else if st.2 < (g (t ++ [(k : Int)])).2 + wV xs n t.length k then ((k : Int) :: (g (t ++ [(k : Int)])).1, (g (t ++ [(k : Int)])).2 + wV xs n t.length k) else st
def roomsR (xs : List Int) (n : Nat) : Nat → List Int → List Int × Int
  | 0, _ => ([], 0)
  | d + 1, t => (List.range n).foldl (stepR xs n (roomsR xs n d) t) ([], -1)
def roomsK (xs : List Int) (n d : Nat) (t : List Int) (k : Nat) : List Int × Int := (List.range k).foldl (stepR xs n (roomsR xs n d) t) ([], -1)
theorem roomsK_step {xs : List Int} {n d k : Nat} {t : List Int} : roomsK xs n d t (k + 1) = stepR xs n (roomsR xs n d) t (roomsK xs n d t k) k := by
  unfold roomsK
  rw [List.range_succ, List.foldl_append]; rfl
theorem roomsK_has {xs : List Int} {n d k : Nat} {t : List Int} (h : t.contains (k : Int) = true) : roomsK xs n d t (k + 1) = roomsK xs n d t k := by rw [roomsK_step, stepR, if_pos h]
theorem roomsK_new {xs : List Int} {n d k : Nat} {t : List Int} (h : t.contains (k : Int) = false) (c : (roomsK xs n d t k).2 < (roomsR xs n d (t ++ [(k : Int)])).2 + wV xs n t.length k) :
    roomsK xs n d t (k + 1) = ((k : Int) :: (roomsR xs n d (t ++ [(k : Int)])).1, (roomsR xs n d (t ++ [(k : Int)])).2 + wV xs n t.length k) := by rw [roomsK_step, stepR, if_neg (by rw [h]; decide), if_pos c]
theorem roomsK_old {xs : List Int} {n d k : Nat} {t : List Int} (h : t.contains (k : Int) = false) (c : ¬ (roomsK xs n d t k).2 < (roomsR xs n d (t ++ [(k : Int)])).2 + wV xs n t.length k) :
    roomsK xs n d t (k + 1) = roomsK xs n d t k := by rw [roomsK_step, stepR, if_neg (by rw [h]; decide), if_neg c]
theorem all_there : ∀ (n : Nat) (t : List Int), (∀ k, k < n → (k : Int) ∈ t) → n ≤ t.length
  | 0, _, _ => Nat.zero_le _
  | n + 1, t, h => by
    have h1 := h n (by omega)
    have h2 := all_there n (t.erase (n : Int)) fun k hk => (List.mem_erase_of_ne (by omega)).2 (h k (by omega))
    have h3 := List.length_pos_of_mem h1
    rw [List.length_erase_of_mem h1] at h2
    omega
theorem exists_free {n : Nat} {t : List Int} (ht : t.length < n) : ∃ k, k < n ∧ t.contains (k : Int) = false := by
  refine Classical.byContradiction fun hno => ?_
  have hall : ∀ k, k < n → (k : Int) ∈ t := fun k hk => by
    refine Classical.byContradiction fun hm => hno ⟨k, hk, ?_⟩
    rw [← Bool.not_eq_true, List.contains_iff_mem]
    exact hm
  exact absurd (all_there n t hall) (by omega)
def BestQ (xs : List Int) (n d : Nat) (t : List Int) (ls : List (List Int)) (q : List Int × Int) : Prop :=
  (∀ st, runB (fun l => sumW6 xs n l n) st ls = stepB (fun l => sumW6 xs n l n) st (t ++ q.1)) ∧ sumW6 xs n (t ++ q.1) n = sumW6 xs n t t.length + q.2 ∧ 0 ≤ q.2 ∧ q.1.length = d
theorem best_rooms {xs : List Int} (hb : xs.all (fun x => decide (0 ≤ x ∧ x ≤ 1000)) = true) {n : Nat} : ∀ (d : Nat) (t : List Int), t.length + d = n → BestQ xs n d t (permR n d t) (roomsR xs n d t)
  | 0, t, ht => by
    have e : t.length = n := by omega
    refine ⟨fun st => ?_, ?_, Int.le_refl _, rfl⟩
    · rw [show permR n 0 t = [t] from rfl, show (roomsR xs n 0 t).1 = [] from rfl, List.append_nil]; rfl
    · show sumW6 xs n (t ++ []) n = sumW6 xs n t t.length + 0
      rw [List.append_nil, e]; omega
  | d + 1, t, ht => by
    have hpre : ∀ k, k ≤ n → ((∀ j, j < k → t.contains (j : Int) = true) ∧ roomsK xs n d t k = ([], -1) ∧ ((List.range k).flatMap fun (k : Nat) => if t.contains (k : Int) then [] else permR n d (t ++ [(k : Int)])) = []) ∨
        BestQ xs n (d + 1) t ((List.range k).flatMap fun (k : Nat) => if t.contains (k : Int) then [] else permR n d (t ++ [(k : Int)])) (roomsK xs n d t k) := by
      intro k
      induction k with
      | zero => intro _; exact .inl ⟨fun j hj => absurd hj (by omega), rfl, rfl⟩
      | succ k ih =>
        intro hk
        have hfl : ((List.range (k + 1)).flatMap fun (k : Nat) => if t.contains (k : Int) then [] else permR n d (t ++ [(k : Int)])) = ((List.range k).flatMap fun (k : Nat) => if t.contains (k : Int) then [] else permR n d (t ++ [(k : Int)])) ++ (if t.contains (k : Int) then [] else permR n d (t ++ [(k : Int)])) := by
          rw [List.range_succ, List.flatMap_append, List.flatMap_cons, List.flatMap_nil, List.append_nil]
        rw [hfl]
        cases hc : t.contains (k : Int) with
        | true =>
          rw [roomsK_has hc, if_pos rfl, List.append_nil]
          rcases ih (by omega) with ⟨h1, h2, h3⟩ | h1
          · refine .inl ⟨fun j hj => ?_, h2, h3⟩
            by_cases e : j = k
            · subst e; exact hc
            · exact h1 j (by omega)
          · exact .inr h1
        | false =>
          rw [if_neg (by decide)]
          obtain ⟨q1, q2, q3, q4⟩ := best_rooms hb (n := n) d (t ++ [(k : Int)]) (by simp; omega)
          have e1 : (t ++ [(k : Int)]).length = t.length + 1 := by simp
          have e2 : sumW6 xs n (t ++ [(k : Int)]) (t ++ [(k : Int)]).length = sumW6 xs n t t.length + wV xs n t.length k := by
            rw [e1, sumW6, sumW6_app t.length (Nat.le_refl _), List.getD_eq_getElem?_getD, List.getElem?_append_right (Nat.le_refl _), Nat.sub_self]; rfl
          have hw := wV_bnd hb (n := n) (i := t.length) (t := k)
          have e3 : t ++ [(k : Int)] ++ (roomsR xs n d (t ++ [(k : Int)])).1 = t ++ ((k : Int) :: (roomsR xs n d (t ++ [(k : Int)])).1) := by simp
          rw [e2, e3] at q2
          rw [e3] at q1
          rcases ih (by omega) with ⟨h1, h2, h3⟩ | ⟨h1, h2, h3, h4⟩
          · rw [roomsK_new hc (by rw [h2]; show (-1 : Int) < _; omega), h3, List.nil_append]
            exact .inr ⟨q1, by rw [q2]; show _ = _ + ((roomsR xs n d (t ++ [(k : Int)])).2 + wV xs n t.length k); omega, by show 0 ≤ (roomsR xs n d (t ++ [(k : Int)])).2 + wV xs n t.length k; omega, by simp [q4]⟩
          · by_cases c : (roomsK xs n d t k).2 < (roomsR xs n d (t ++ [(k : Int)])).2 + wV xs n t.length k
            · rw [roomsK_new hc c]
              refine .inr ⟨fun st => ?_, by rw [q2]; show _ = _ + ((roomsR xs n d (t ++ [(k : Int)])).2 + wV xs n t.length k); omega, by show 0 ≤ (roomsR xs n d (t ++ [(k : Int)])).2 + wV xs n t.length k; omega, by simp [q4]⟩
              rw [runB_app, h1, q1, stepB_two, if_pos (by rw [h2, q2]; omega)]
            · rw [roomsK_old hc c]
              refine .inr ⟨fun st => ?_, h2, h3, h4⟩
              rw [runB_app, h1, q1, stepB_two, if_neg (by rw [h2, q2]; omega)]
    rcases hpre n (Nat.le_refl _) with ⟨h1, _, _⟩ | h1
    · obtain ⟨k, hk, hf⟩ := exists_free (n := n) (t := t) (by omega)
      rw [h1 k hk] at hf; cases hf
    · exact h1
end Go.Am

namespace Go.Am
set_option linter.unusedSimpArgs false
set_option linter.unusedVariables false
def fP (xs : List Int) (n : Nat) (l : List Int) : Int := sumW6 xs n l n
def rmL (xs : List Int) (n : Nat) : List Int := (roomsR xs n n []).1
def BestV (H : AHeap) (lo n : Nat) (bv : Value) (bo : Option (List Int)) : Prop :=
  (bo = none ∧ bv = .slice none 0 0) ∨ ∃ k bl, bo = some bl ∧ bv = sl k n ∧ lo ≤ k ∧ H[k]? = some (lst bl) ∧ bl.length = n
theorem BestV.push {H g : AHeap} {lo n : Nat} {bv : Value} {bo : Option (List Int)} (h : BestV H lo n bv bo) : BestV (H ++ g) lo n bv bo := by
  rcases h with h | ⟨k, bl, h1, h2, h3, h4, h5⟩
  · exact .inl h
  · exact .inr ⟨k, bl, h1, h2, h3, lk_prev h4, h5⟩
theorem BestV.far {X Y g : AHeap} {lo n : Nat} {bv : Value} {bo : Option (List Int)} (h : BestV (X ++ g) lo n bv bo) (e : X.length = Y.length) (hlo : X.length ≤ lo) : BestV (Y ++ g) lo n bv bo := by
  rcases h with h | ⟨k, bl, h1, h2, h3, h4, h5⟩
  · exact .inl h
  · exact .inr ⟨k, bl, h1, h2, h3, by rw [← lk_far e (by omega)]; exact h4, h5⟩
theorem runB_leaf {xs : List Int} {n m : Nat} {st : BSt} {l : List Int} (h : n - m = 0) : runB (fP xs n) st (permR n (n - m) l) = stepB (fP xs n) st l := by rw [h]; rfl
theorem best_end {xs : List Int} (hb : xs.all (fun x => decide (0 ≤ x ∧ x ≤ 1000)) = true) {n : Nat} : runB (fP xs n) (none, 0) (permR n (n - 0) []) = (some (rmL xs n), fP xs n (rmL xs n)) := by
  obtain ⟨h1, _⟩ := best_rooms hb (n := n) n [] (by simp)
  exact (h1 (none, 0)).trans rfl
theorem rooms_range {xs : List Int} {n : Nat} : ∀ (d : Nat) (t : List Int), ∀ y ∈ (roomsR xs n d t).1, 0 ≤ y ∧ y < (n : Int)
  | 0, _, y, hy => by cases hy
  | d + 1, t, y, hy => by
    have key : ∀ k, k ≤ n → ∀ y ∈ (roomsK xs n d t k).1, 0 ≤ y ∧ y < (n : Int) := by
      intro k
      induction k with
      | zero => intro _ y hy; cases hy
      | succ k ih =>
        intro hk y hy
        rw [roomsK_step, stepR] at hy
        split at hy
        · exact ih (by omega) y hy
        · split at hy
          · rcases List.mem_cons.1 hy with rfl | hy
            · omega
            · exact rooms_range d _ y hy
          · exact ih (by omega) y hy
    exact key n (Nat.le_refl _) y hy
theorem rooms_len {xs : List Int} (hb : xs.all (fun x => decide (0 ≤ x ∧ x ≤ 1000)) = true) {n d : Nat} {t : List Int} (h : t.length + d = n) : (roomsR xs n d t).1.length = d := (best_rooms hb d t h).2.2.2
theorem rmL_len {xs : List Int} (hb : xs.all (fun x => decide (0 ≤ x ∧ x ≤ 1000)) = true) {n : Nat} : (rmL xs n).length = n := rooms_len hb (by simp)
theorem rmL_bnd {xs : List Int} {n : Nat} : ∀ y ∈ rmL xs n, 0 ≤ y ∧ y < (n : Int) := rooms_range n []
theorem roomsR_end {xs : List Int} {n d : Nat} {t : List Int} : roomsR xs n (d + 1) t = roomsK xs n d t n := rfl

/-! ## Rents -/
def relI (xs rm : List Int) (n j : Nat) (r : List Int) (i : Nat) : List Int := r.set j (max (r.getD j 0) (IntKind.i64.wrap (IntKind.i64.wrap (r.getD (rm.getD i 0).toNat 0 + wV xs n i j) - wV xs n i (rm.getD i 0))))
def relJ (xs rm : List Int) (n j : Nat) (r : List Int) : Nat → List Int
  | 0 => r
  | i + 1 => relI xs rm n j (relJ xs rm n j r i) i
def relA (xs rm : List Int) (n : Nat) (r : List Int) : Nat → List Int
  | 0 => r
  | j + 1 => relJ xs rm n j (relA xs rm n r j) n
def relT (xs rm : List Int) (n : Nat) : Nat → List Int
  | 0 => List.replicate n 0
  | t + 1 => relA xs rm n (relT xs rm n t) n
theorem relI_len {xs rm : List Int} {n j : Nat} {r : List Int} {i : Nat} : (relI xs rm n j r i).length = r.length := by simp [relI]
theorem relJ_len {xs rm : List Int} {n j : Nat} {r : List Int} : ∀ i, (relJ xs rm n j r i).length = r.length
  | 0 => rfl
  | i + 1 => by rw [relJ, relI_len, relJ_len i]
theorem relA_len {xs rm : List Int} {n : Nat} {r : List Int} : ∀ j, (relA xs rm n r j).length = r.length
  | 0 => rfl
  | j + 1 => by rw [relA, relJ_len, relA_len j]
theorem relT_len {xs rm : List Int} {n : Nat} : ∀ t, (relT xs rm n t).length = n
  | 0 => by simp [relT]
  | t + 1 => by rw [relT, relA_len, relT_len t]
def priceP (r : List Int) (n : Nat) (total : Int) (j : Nat) : Int := IntKind.i64.wrap (IntKind.i64.wrap (IntKind.i64.wrap (r.getD j 0 * n) + total) - sumW r)
def pricesL (r : List Int) (n : Nat) (total : Int) (s : Nat) : List Int := (List.range s).map (priceP r n total)
theorem pricesL_len {r : List Int} {n s : Nat} {total : Int} : (pricesL r n total s).length = s := by simp [pricesL]
theorem pricesL_step {r : List Int} {n s : Nat} {total : Int} : pricesL r n total s ++ [priceP r n total s] = pricesL r n total (s + 1) := by simp [pricesL, List.range_succ]
def rentK (p q : Int) (xs : List Int) (total : Int) : Bool := (validV p q xs && decide (p = q)) && decide (0 ≤ total ∧ total ≤ 100000)
def rentRm (p : Int) (xs : List Int) : List Int := rmL xs p.toNat
def rentPr (p : Int) (xs : List Int) (total : Int) : List Int := pricesL (relT xs (rmL xs p.toNat) p.toNat p.toNat) p.toNat total p.toNat
theorem rentK_1 {p q total : Int} {xs : List Int} (h : (validV p q xs && decide (p = q)) = false) : rentK p q xs total = false := by rw [rentK, h]; rfl
theorem rentK_2 {p q total : Int} {xs : List Int} (h : decide (0 ≤ total ∧ total ≤ 100000) = false) : rentK p q xs total = false := by rw [rentK, h]; simp
theorem rentK_yes {p q total : Int} {xs : List Int} (h : (validV p q xs && decide (p = q)) = true) (h2 : decide (0 ≤ total ∧ total ≤ 100000) = true) : rentK p q xs total = true := by rw [rentK, h, h2]; rfl
structure RentOk (xs : List Int) (n : Nat) : Prop where
  n1 : 1 ≤ n
  n6 : n ≤ 6
  len : (xs.length : Int) = (n : Int) * (n : Int)
  bnd : xs.all (fun x => decide (0 ≤ x ∧ x ≤ 1000)) = true
theorem rent_ok {p q : Int} {xs : List Int} (h : (validV p q xs && decide (p = q)) = true) : ∃ n : Nat, p = n ∧ q = n ∧ RentOk xs n := by
  rw [Bool.and_eq_true] at h
  have hp := of_decide_eq_true h.2
  obtain ⟨h1, h2, h3, h4⟩ := validV_get h.1
  obtain ⟨n, rfl⟩ := Int.eq_ofNat_of_zero_le (show 0 ≤ p by omega)
  subst hp
  exact ⟨n, rfl, rfl, ⟨by omega, by omega, h3, h4⟩⟩
theorem RentOk.len36 {xs : List Int} {n : Nat} (h : RentOk xs n) : xs.length ≤ 36 := by
  have h1 := h.len
  have h2 := Nat.mul_le_mul h.n6 h.n6
  have h3 : xs.length = n * n := by
    have : ((n : Int) * (n : Int)) = ((n * n : Nat) : Int) := by simp
    omega
  omega
theorem rent_bnd {n : Nat} {i z : Int} (hi : 0 ≤ i ∧ i < n) (hz : 0 ≤ z ∧ z < n) (hn : n ≤ 6) : 0 ≤ i * n ∧ i * n ≤ 36 ∧ i * n + z < (n : Int) * n := by
  have h1 : 0 ≤ i * (n : Int) := Int.mul_nonneg hi.1 (by omega)
  have h2 : (i + 1) * (n : Int) ≤ (n : Int) * n := Int.mul_le_mul_of_nonneg_right (by omega) (by omega)
  have h3 : i * (n : Int) ≤ 6 * 6 := Int.mul_le_mul (by omega) (by omega) (by omega) (by omega)
  rw [Int.add_mul, Int.one_mul] at h2
  omega
end Go.Am

namespace Go.Am
set_option linter.unusedSimpArgs false
set_option linter.unusedVariables false
section
variable {P : Program} {K : Value → AHeap → Prop} {env : Env} {h : AHeap} {dst : Option Tmp} {ty : TypeId} {pos : String} {after : Array Edge} {guard : Option (Nat × Bool)}
theorem o_nilBest {t e yt : TypeId} {x y : Operand} {lo n : Nat} {bv : Value} {bo : Option (List Int)} (hu : P.underlying t = some (.slice e)) (hx : aeval env x = bv) (hB : BestV h lo n bv bo) (h0 : 0 < n) (hy : aeval env y = .slice none 0 0)
    (hT : bo = none → K (.bool true) h) (hF : ¬ bo = none → K (.bool false) h) : AOp P ⟨dst, .binOp .eql t x y yt, ty, pos, after, guard⟩ K env h := by
  rcases hB with ⟨e1, rfl⟩ | ⟨k, bl, e1, rfl, _, h2, h3⟩
  · exact o_nilSlice hu hx hy (hT e1)
  · exact o_someSlice hu hx (Ints.own h2 h3) (by omega) hy (hF (by rw [e1]; simp))
end
theorem best_new {xs : List Int} {n : Nat} {st : BSt} {l : List Int} (h : st.1 = none ∨ st.2 < sumW6 xs n l n) : stepB (fP xs n) st l = (some l, sumW6 xs n l n) := by
  obtain ⟨o, m⟩ := st
  cases o with
  | none => rfl
  | some c =>
    rcases h with h | h
    · cases h
    · exact stepB_yes h
theorem best_old {xs : List Int} {n : Nat} {st : BSt} {l : List Int} (h : ¬ st.1 = none) (h2 : ¬ st.2 < sumW6 xs n l n) : stepB (fP xs n) st l = st := by
  obtain ⟨o, m⟩ := st
  cases o with
  | none => exact absurd rfl h
  | some c => exact stepB_no h2
theorem rest_hasR {f : List Int → Int} {n d k : Nat} {t : List Int} {st st2 : BSt} (hk : k < n) (h : t.contains (k : Int) = true) (e : runB f st (permR n (d + 1) t) = runB f st2 (restP n d t k)) : runB f st (permR n (d + 1) t) = runB f st2 (restP n d t (k + 1)) := by
  rw [e, restP_has hk h]
theorem rest_notR {f : List Int → Int} {n d k : Nat} {t : List Int} {st st2 : BSt} (hk : k < n) (h : t.contains (k : Int) = false) (e : runB f st (permR n (d + 1) t) = runB f st2 (restP n d t k)) : runB f st (permR n (d + 1) t) = runB f (runB f st2 (permR n d (t ++ [(k : Int)]))) (restP n d t (k + 1)) := by
  rw [e, restP_not hk h, runB_app]
theorem rest_endR {f : List Int → Int} {n d k : Nat} {t : List Int} {st st2 : BSt} (hk : n ≤ k) (e : runB f st (permR n (d + 1) t) = runB f st2 (restP n d t k)) : runB f st (permR n (d + 1) t) = st2 := by
  rw [e, restP_end hk]; rfl
theorem regroup6 {X : AHeap} {a b c d e g : List AObj} : X ++ a ++ b ++ c ++ d ++ e ++ g = X ++ (a ++ b ++ c ++ d ++ e ++ g) := by simp
end Go.Am
