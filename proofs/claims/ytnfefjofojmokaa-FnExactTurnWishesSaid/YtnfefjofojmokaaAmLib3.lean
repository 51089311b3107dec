/-
  The abstract heap: the greatest and the least, and more plain laws of the chapters. General: no program is named.
-/
import Derived.Test.YtnfefjofojmokaaAmLib2
import Derived.Laws.Small
namespace Go.Am
set_option linter.unusedSimpArgs false
set_option linter.unusedVariables false
theorem am_max_ints {P : Program} (w : World) (ts : Array TypeId) (t : TypeId) (k k' : IntKind) (x y : Int) :
    (Builtin.max_ ts t #[.int k x, .int k' y]).run P w = .ok (.int k (max x y)) w := by
  have e : (if y > x then y else x) = max x y := by
    rw [Int.max_def]; split <;> split <;> omega
  simp [Builtin.max_, Builtin.max2, e]
theorem am_min_ints {P : Program} (w : World) (ts : Array TypeId) (t : TypeId) (k k' : IntKind) (x y : Int) :
    (Builtin.min_ ts t #[.int k x, .int k' y]).run P w = .ok (.int k (min x y)) w := by
  have e : (if y < x then y else x) = min x y := by
    rw [Int.min_def]; split <;> split <;> omega
  simp [Builtin.min_, Builtin.min2, e]

section
variable {P : Program} {K : Value → AHeap → Prop} {env : Env} {h : AHeap} {dst : Option Tmp} {ty t : TypeId} {pos : String} {after : Array Edge} {guard : Option (Nat × Bool)} {x y : Operand} {p q : Int}
theorem o_max {ts : Array TypeId} (hx : aeval env x = i64 p) (hy : aeval env y = i64 q) (hK : K (i64 (max p q)) h) :
    AOp P ⟨dst, .call { callee := .builtin .max, args := #[x, y], argTypes := ts }, ty, pos, after, guard⟩ K env h :=
  .of_pure (i64 (max p q)) (fun m w a _ ho => by
    have h1 := ho x (by simp [Op.operands, Call.operands])
    have h2 := ho y (by simp [Op.operands, Call.operands])
    rw [hx] at h1; rw [hy] at h2
    refine ⟨i64 (max p q), ?_, .prim rfl⟩
    simp [execOp, resolve, invoke, builtin, h1.int, h2.int, am_max_ints]) hK
theorem o_min {ts : Array TypeId} (hx : aeval env x = i64 p) (hy : aeval env y = i64 q) (hK : K (i64 (min p q)) h) :
    AOp P ⟨dst, .call { callee := .builtin .min, args := #[x, y], argTypes := ts }, ty, pos, after, guard⟩ K env h :=
  .of_pure (i64 (min p q)) (fun m w a _ ho => by
    have h1 := ho x (by simp [Op.operands, Call.operands])
    have h2 := ho y (by simp [Op.operands, Call.operands])
    rw [hx] at h1; rw [hy] at h2
    refine ⟨i64 (min p q), ?_, .prim rfl⟩
    simp [execOp, resolve, invoke, builtin, h1.int, h2.int, am_min_ints]) hK
end

/-! ## Sets of players -/
/-- A fold over the numbers of those in a set. -/
def foldB (f : Int → Int → Int) (a : Int) (cs : List Int) (s : Nat) : Nat → Int
  | 0 => a
  | i + 1 => if s.testBit i then f (foldB f a cs s i) (cs.getD i 0) else foldB f a cs s i
theorem foldB_in {f : Int → Int → Int} {a : Int} {cs : List Int} {s i : Nat} (h : s.testBit (i : Int).toNat = true) : foldB f a cs s (i + 1) = f (foldB f a cs s i) (cs.getD i 0) := by
  rw [Int.toNat_natCast] at h; rw [foldB, if_pos h]
theorem foldB_out {f : Int → Int → Int} {a : Int} {cs : List Int} {s i : Nat} (h : s.testBit (i : Int).toNat = false) : foldB f a cs s (i + 1) = foldB f a cs s i := by
  rw [Int.toNat_natCast] at h; rw [foldB, if_neg (by rw [h]; decide)]
def maxF (cs : List Int) (s : Nat) : Int := foldB max 0 cs s cs.length
def weighF (cs : List Int) (s : Nat) : Int := foldB addW 0 cs s cs.length
def compF (xs cs : List Int) (by_ : Int) (s : Nat) : Int := foldB subW (IntKind.i64.wrap (xs.getD s 0 * by_)) cs s cs.length
def voteF (cs : List Int) (q : Int) (s : Nat) : Int := if q ≤ weighF cs s then 1 else 0
theorem max_bnd {a b : Int} (ha : 0 ≤ a ∧ a ≤ 10000) (hb : 0 ≤ b ∧ b ≤ 10000) : 0 ≤ max a b ∧ max a b ≤ 10000 := by omega
/-- The greatest number of the sets that are meant, before s, and the first of them. -/
def worstS (c : Nat → Int) (m : Nat → Bool) : Nat → Int × Int
  | 0 => (0, -1)
  | s + 1 => if m s = true ∧ ((worstS c m s).2 < 0 ∨ (worstS c m s).1 < c s) then (c s, (s : Int)) else worstS c m s
theorem worstS_new {c : Nat → Int} {m : Nat → Bool} {s : Nat} (h1 : m s = true) (h2 : (worstS c m s).2 < 0 ∨ (worstS c m s).1 < c s) : worstS c m (s + 1) = (c s, (s : Int)) := by rw [worstS, if_pos ⟨h1, h2⟩]
theorem worstS_old {c : Nat → Int} {m : Nat → Bool} {s : Nat} (h : ¬ (m s = true ∧ ((worstS c m s).2 < 0 ∨ (worstS c m s).1 < c s))) : worstS c m (s + 1) = worstS c m s := by rw [worstS, if_neg h]
theorem worstS_at {c : Nat → Int} {m : Nat → Bool} : ∀ s, (worstS c m s).2 < 0 ∨ (0 ≤ (worstS c m s).2 ∧ (worstS c m s).2 < s)
  | 0 => .inl (by show (-1 : Int) < 0; decide)
  | s + 1 => by
    rw [worstS]
    split
    · right; show (0 : Int) ≤ (s : Int) ∧ (s : Int) < ((s + 1 : Nat) : Int); omega
    · have := worstS_at (c := c) (m := m) s
      omega
/-- Where all are meant: nothing above 0 is the greatest, or no set is above 0. -/
theorem worst_all {c : Nat → Int} : ∀ s, ((worstS c (fun _ => true) (s + 1)).2 < 0 → False) ∧ ((worstS c (fun _ => true) (s + 1)).1 ≤ 0 ↔ ∀ t, t ≤ s → c t ≤ 0)
  | 0 => by
    have e : worstS c (fun _ => true) (0 + 1) = (c 0, ((0 : Nat) : Int)) := worstS_new rfl (.inl (by show (-1 : Int) < 0; decide))
    rw [e]
    exact ⟨fun h => by simp at h, fun h t ht => by have : t = 0 := by omega
                                                   subst this; exact h, fun h => h 0 (Nat.le_refl _)⟩
  | s + 1 => by
    obtain ⟨h1, h2⟩ := worst_all (c := c) s
    by_cases h : (worstS c (fun _ => true) (s + 1)).1 < c (s + 1)
    · rw [worstS_new (s := s + 1) rfl (.inr h)]
      refine ⟨fun h => by simp at h; omega, fun h9 t ht => ?_, fun h9 => h9 (s + 1) (Nat.le_refl _)⟩
      have h9' : c (s + 1) ≤ 0 := h9
      by_cases e : t = s + 1
      · subst e; exact h9
      · exact h2.1 (by omega) t (by omega)
    · rw [worstS_old (s := s + 1) (fun ⟨_, h9⟩ => by rcases h9 with h9 | h9; exact h1 h9; exact h h9)]
      refine ⟨h1, fun h9 t ht => ?_, fun h9 => h2.2 fun t ht => h9 t (by omega)⟩
      by_cases e : t = s + 1
      · subst e; omega
      · exact h2.1 h9 t (by omega)
def coreB (c : Nat → Int) (n : Nat) : Bool := (List.range n).all fun t => decide (c t ≤ 0 ∧ (t + 1 = n → c t = 0))

/-! ## Lists of truth values of one's own -/
def lstB (bs : List Bool) : AObj := ⟨bs.map bo, true, 1⟩
theorem lstB_prim {bs : List Bool} : ∀ v ∈ (lstB bs).cells, isPrim v = true := fun v hv => by
  simp only [lstB, List.mem_map] at hv
  obtain ⟨z, _, rfl⟩ := hv
  rfl
section
variable {P : Program} {K : Value → AHeap → Prop} {env : Env} {h : AHeap} {dst : Option Tmp} {ty : TypeId} {pos : String} {after : Array Edge} {guard : Option (Nat × Bool)}
theorem o_makeB {t e : TypeId} {x y : Operand} {b : Nat} {l : Int} {k1 k2 : IntKind} (hu : P.underlying t = some (.slice e)) (hi : InfoIs P e (.bool false) 1 b)
    (hx : aeval env x = .int k1 l) (hy : aeval env y = .int k2 l) (hb : 0 ≤ l ∧ b * l ≤ 281474976710656) (h63 : l ≤ 9223372036854775807)
    (hK : ∀ k, k = h.length → K (sl k l.toNat) (h ++ [lstB (List.replicate l.toNat false)])) : AOp P ⟨dst, .makeSlice t x y, ty, pos, after, guard⟩ K env h := by
  refine o_make hu hi rfl rfl hx hy hb.1 (Int.le_refl _) hb.2 h63 ?_
  have := hK _ rfl
  simpa [lstB] using this
theorem o_indexB {t e : TypeId} {x y : Operand} {b k n : Nat} {bs : List Bool} {kd : IntKind} {i : Int} {z : Value} (hu : P.underlying t = some (.slice e)) (hi : InfoIs P e z 1 b)
    (hx : aeval env x = sl k n) (ho : h[k]? = some (lstB bs)) (hn : bs.length = n) (hy : aeval env y = .int kd i) (h0 : 0 ≤ i) (hlt : i < n) (hK : ∀ p, IsElem (sl k n) i.toNat p → K p h) : AOp P ⟨dst, .indexAddr t x y, ty, pos, after, guard⟩ K env h := by
  obtain ⟨inf, g1, _, g3, _⟩ := hi.get
  refine aop_indexAddr hu g1 (by rw [g3]; rfl) hx ho (by simp [lstB, hn]) hy h0 hlt (by show 0 < 1; decide) ?_
  refine hK _ ?_
  show _ = _
  simp [lstB]
theorem o_loadB {t : TypeId} {x : Operand} {p : Value} {dd : TypeDesc} {k n i : Nat} {bs : List Bool} (hu : P.underlying t = some dd) (hd : aggD dd = false) (hx : aeval env x = p) (hp : IsElem (sl k n) i p) (ho : h[k]? = some (lstB bs)) (hn : bs.length = n) (hlt : i < n)
    (ht : bs.getD i false = true → K (.bool true) h) (hf : bs.getD i false = false → K (.bool false) h) : AOp P ⟨dst, .load t x, ty, pos, after, guard⟩ K env h := by
  have hp' : p = .pointer (some ⟨k, 0 + i, some n⟩) := hp
  refine aop_load (v := .bool (bs.getD i false)) hu hd (hx.trans hp') ho (by simp [lstB, hn]) ?_ (k_split ht hf)
  rw [Nat.zero_add]
  simp only [lstB, List.getElem?_map, List.getElem?_eq_getElem (show i < bs.length by omega), List.getD_eq_getElem?_getD, Option.map_some, Option.getD_some]
theorem o_storeB {t : TypeId} {x y : Operand} {b k n i : Nat} {z : Value} {bs : List Bool} {p : Value} {q : Bool} {h' : AHeap} (hi : InfoIs P t z 1 b) (hx : aeval env x = p) (hp : IsElem (sl k n) i p)
    (ho : h[k]? = some (lstB bs)) (hn : bs.length = n) (hlt : i < n) (hy : aeval env y = .bool q) (hs : h.set k (lstB (bs.set i q)) = h') (hK : K undef h') : AOp P ⟨dst, .store t x y, ty, pos, after, guard⟩ K env h := by
  subst hn
  have hp' : p = .pointer (some ⟨k, 0 + i, some bs.length⟩) := hp
  refine o_store hi (hx.trans hp') ho (by simp [lstB]) rfl hy (by simpa using hlt) rfl ?_
  subst hs
  simpa [lstB, List.map_set] using hK
end
/-- Who has been seen. -/
def seenB (n : Nat) (l : List Int) : List Bool := (List.range n).map fun (j : Nat) => l.contains (j : Int)
theorem seenB_len {n : Nat} {l : List Int} : (seenB n l).length = n := by simp [seenB]
theorem seenB_nil {n : Nat} : List.replicate n false = seenB n [] := by
  apply List.ext_getElem
  · simp [seenB]
  · intro i h1 h2; simp [seenB]
theorem seenB_get {n : Nat} {l : List Int} {x : Int} (h : 0 ≤ x ∧ x < n) : (seenB n l).getD x.toNat false = l.contains x := by
  rw [List.getD_eq_getElem?_getD, seenB, List.getElem?_map, List.getElem?_range (by omega)]
  simp only [Option.map_some, Option.getD_some, Int.toNat_of_nonneg h.1]
theorem seenB_set {n : Nat} {l : List Int} {x : Int} (h : 0 ≤ x ∧ x < n) : (seenB n l).set x.toNat true = seenB n (l ++ [x]) := by
  apply List.ext_getElem
  · simp [seenB]
  · intro i h1 h2
    simp only [seenB, List.length_set, List.length_map, List.length_range] at h1
    rw [List.getElem_set]
    split
    · rename_i e
      simp only [seenB, List.getElem_map, List.getElem_range, List.contains_append]
      have : (i : Int) = x := by omega
      rw [this]; simp
    · rename_i e
      simp only [seenB, List.getElem_map, List.getElem_range, List.contains_append]
      have : ¬ (i : Int) = x := by omega
      have h3 : List.contains [x] (i : Int) = false := by simp [this]
      rw [h3, Bool.or_false]
/-- All numbers below the length, each once. -/
def permB (xs : List Int) (n : Nat) : Bool := (List.range n).all fun s => decide (0 ≤ xs.getD s 0 ∧ xs.getD s 0 ≤ (xs.length : Int) - 1) && !(xs.take s).contains (xs.getD s 0)
theorem permB_step {xs : List Int} {s : Nat} : permB xs (s + 1) = (permB xs s && (decide (0 ≤ xs.getD s 0 ∧ xs.getD s 0 ≤ (xs.length : Int) - 1) && !(xs.take s).contains (xs.getD s 0))) := by
  rw [permB, List.range_succ, List.all_append]; simp [permB]
theorem permB_no {xs : List Int} {s n : Nat} (hs : s < n) (h : (decide (0 ≤ xs.getD s 0 ∧ xs.getD s 0 ≤ (xs.length : Int) - 1) && !(xs.take s).contains (xs.getD s 0)) = false) : permB xs n = false := by
  rw [permB, List.all_eq_false]
  exact ⟨s, List.mem_range.2 hs, by simp only [h]; decide⟩
theorem permB_get {xs : List Int} {n s : Nat} (h : permB xs n = true) (hs : s < n) : (0 ≤ xs.getD s 0 ∧ xs.getD s 0 ≤ (xs.length : Int) - 1) ∧ (xs.take s).contains (xs.getD s 0) = false := by
  have := List.all_eq_true.1 h s (List.mem_range.2 hs)
  simp only [Bool.and_eq_true, decide_eq_true_eq, Bool.not_eq_true'] at this
  exact this
theorem permB_pre {xs : List Int} {s n : Nat} (h : permB xs n = true) (hs : s ≤ n) : permB xs s = true :=
  List.all_eq_true.2 fun x hx => List.all_eq_true.1 h x (List.mem_range.2 (by have := List.mem_range.1 hx; omega))
theorem take_app {xs : List Int} {s : Nat} (h : s < xs.length) : xs.take s ++ [xs.getD s 0] = xs.take (s + 1) := by
  rw [List.take_succ_eq_append_getElem h, getD_at h]

/-- The set of the first players of an order. -/
def setN (os : List Int) : Nat → Nat
  | 0 => 0
  | s + 1 => setN os s + 2 ^ (os.getD s 0).toNat
theorem setN_spec {p : Int} {os : List Int} (hp : 1 ≤ p ∧ p ≤ 6) (hl : (os.length : Int) = p) : ∀ s, s ≤ os.length → permB os s = true → setN os s < 2 ^ p.toNat ∧ ∀ j : Nat, (setN os s).testBit j = (os.take s).contains (j : Int)
  | 0, _, _ => ⟨Nat.two_pow_pos _, fun j => by simp [setN]⟩
  | s + 1, hs, h => by
    rw [permB_step, Bool.and_eq_true] at h
    obtain ⟨i1, i2⟩ := setN_spec hp hl s (by omega) h.1
    have h2 := h.2
    simp only [Bool.and_eq_true, decide_eq_true_eq, Bool.not_eq_true'] at h2
    obtain ⟨⟨g1, g2⟩, g3⟩ := h2
    have hb : (setN os s).testBit (os.getD s 0).toNat = false := by rw [i2, Int.toNat_of_nonneg g1]; exact g3
    have hpn := pow_nat hp
    have e := add_bit (setN os s) (by omega) (os.getD s 0).toNat (by omega) hb
    have hx : (os.getD s 0).toNat < p.toNat := by omega
    rw [setN, e]
    refine ⟨or_lt _ i1 (Nat.pow_lt_pow_right (by omega) hx), fun j => ?_⟩
    rw [Nat.testBit_or, i2, Nat.testBit_two_pow, ← take_app (by omega), List.contains_append]
    congr 1
    generalize os.getD s 0 = x at *
    by_cases c : x.toNat = j
    · have : (j : Int) = x := by omega
      rw [this]; simp [c]
    · have : ¬ (j : Int) = x := by omega
      simp [c, this]
theorem setN_has {p : Int} {os : List Int} {s : Nat} (hp : 1 ≤ p ∧ p ≤ 6) (hl : (os.length : Int) = p) (hs : s ≤ os.length) (h : permB os s = true) {x : Int} (hx : 0 ≤ x) : (setN os s).testBit x.toNat = (os.take s).contains x := by
  rw [(setN_spec hp hl s hs h).2, Int.toNat_of_nonneg hx]
def moreL (xs os : List Int) (n : Nat) : Nat → List Int
  | 0 => List.replicate n 0
  | s + 1 => (moreL xs os n s).set (os.getD s 0).toNat (xs.getD (setN os s + 2 ^ (os.getD s 0).toNat) 0 - xs.getD (setN os s) 0)
theorem moreL_len {xs os : List Int} {n : Nat} : ∀ s, (moreL xs os n s).length = n
  | 0 => by simp [moreL]
  | s + 1 => by rw [moreL, List.length_set, moreL_len s]

/-! ## Parts of things -/
/-- What the part of a player is worth to one: the things before k. -/
def partS (xs os : List Int) (q i j : Int) : Nat → Int
  | 0 => 0
  | k + 1 => if os.getD k 0 = j then IntKind.i64.wrap (partS xs os q i j k + xs.getD (i * q + (k : Int)).toNat 0) else partS xs os q i j k
theorem partS_in {xs os : List Int} {q i j : Int} {k : Nat} (h : os.getD k 0 = j) : partS xs os q i j (k + 1) = IntKind.i64.wrap (partS xs os q i j k + xs.getD (i * q + (k : Int)).toNat 0) := by rw [partS, if_pos h]
theorem partS_out {xs os : List Int} {q i j : Int} {k : Nat} (h : ¬ os.getD k 0 = j) : partS xs os q i j (k + 1) = partS xs os q i j k := by rw [partS, if_neg h]
def partF (xs os : List Int) (q i j : Int) : Int := partS xs os q i j os.length
theorem cell_bnd {i p q n : Int} {k : Nat} (hi : 0 ≤ i ∧ i < p) (hk : (k : Int) < q) (hn : n = p * q) : 0 ≤ i * q ∧ i * q ≤ n ∧ 0 ≤ i * q + (k : Int) ∧ i * q + (k : Int) < n := by
  subst hn
  have h1 : 0 ≤ i * q := Int.mul_nonneg hi.1 (by omega)
  have h2 : (i + 1) * q ≤ p * q := Int.mul_le_mul_of_nonneg_right (by omega) (by omega)
  have h3 : (i + 1) * q = i * q + q := by rw [Int.add_mul, Int.one_mul]
  exact ⟨h1, by omega, by omega, by omega⟩
def ownV (p q : Int) (xs os : List Int) : Bool := validV p q xs && decide ((os.length : Int) = q) && os.all (fun n => decide (0 ≤ n ∧ n ≤ p - 1))
theorem ownV_get {p q : Int} {xs os : List Int} (h : ownV p q xs os = true) : (1 ≤ p ∧ p ≤ 6) ∧ (1 ≤ q ∧ q ≤ 8) ∧ (xs.length : Int) = p * q ∧ xs.all (fun n => decide (0 ≤ n ∧ n ≤ 1000)) = true ∧ (os.length : Int) = q ∧ os.all (fun n => decide (0 ≤ n ∧ n ≤ p - 1)) = true := by
  simp only [ownV, validV, Bool.and_eq_true, decide_eq_true_eq] at h
  exact ⟨h.1.1.1.1.1, h.1.1.1.1.2, h.1.1.1.2, h.1.1.2, h.1.2, h.2⟩
theorem validV_get {p q : Int} {xs : List Int} (h : validV p q xs = true) : (1 ≤ p ∧ p ≤ 6) ∧ (1 ≤ q ∧ q ≤ 8) ∧ (xs.length : Int) = p * q ∧ xs.all (fun n => decide (0 ≤ n ∧ n ≤ 1000)) = true := by
  simp only [validV, Bool.and_eq_true, decide_eq_true_eq] at h
  exact ⟨h.1.1.1, h.1.1.2, h.1.2, h.2⟩
/-- The parts of all, each as one sees it. -/
def ownL (p q : Int) (xs os : List Int) : List Int := (List.range p.toNat).map fun (i : Nat) => partF xs os q i i
def envyF (xs os : List Int) (q : Int) (i j : Int) : Int := IntKind.i64.wrap (partF xs os q i j - partF xs os q i i)
/-- A table, row by row. -/
def tabL (e : Nat → Nat → Int) (n : Nat) (i : Nat) : List Int := (List.range i).flatMap fun a => (List.range n).map (e a)
theorem tabL_step {e : Nat → Nat → Int} {n i j : Nat} (h : j = n) : tabL e n i ++ (List.range j).map (e i) = tabL e n (i + 1) := by
  subst h; rw [tabL, tabL, List.range_succ, List.flatMap_append]; simp
theorem tabL_app {e : Nat → Nat → Int} {n i j : Nat} : tabL e n i ++ (List.range j).map (e i) ++ [e i j] = tabL e n i ++ (List.range (j + 1)).map (e i) := by
  rw [List.append_assoc, map_step]
theorem tabL_len {e : Nat → Nat → Int} {n : Nat} : ∀ i, (tabL e n i).length = i * n
  | 0 => by simp [tabL]
  | i + 1 => by rw [← tabL_step rfl, List.length_append, tabL_len i, map_len, Nat.succ_mul]
def envyT (p q : Int) (xs os : List Int) : List Int := tabL (fun (i j : Nat) => envyF xs os q i j) p.toNat p.toNat
/-- What the best thing of a player is worth to another one: the things before k. -/
def bestS (xs os : List Int) (q i j : Int) : Nat → Int
  | 0 => 0
  | k + 1 => if os.getD k 0 = j then max (bestS xs os q i j k) (xs.getD (i * q + (k : Int)).toNat 0) else bestS xs os q i j k
theorem bestS_in {xs os : List Int} {q i j : Int} {k : Nat} (h : os.getD k 0 = j) : bestS xs os q i j (k + 1) = max (bestS xs os q i j k) (xs.getD (i * q + (k : Int)).toNat 0) := by rw [bestS, if_pos h]
theorem bestS_out {xs os : List Int} {q i j : Int} {k : Nat} (h : ¬ os.getD k 0 = j) : bestS xs os q i j (k + 1) = bestS xs os q i j k := by rw [bestS, if_neg h]

/-! ## Shares by all orders -/
section
variable {P : Program} {K : Value → AHeap → Prop} {env : Env} {h : AHeap} {dst : Option Tmp} {ty t yt : TypeId} {pos : String} {after : Array Edge} {guard : Option (Nat × Bool)} {x y : Operand} {p q : Int} {k ky : IntKind}
theorem o_shrG (hx : aeval env x = .int k p) (hy : aeval env y = .int ky q) (h0 : 0 ≤ q) (hK : K (.int k (p.fdiv (2 ^ (min q.toNat k.bits)))) h) : AOp P ⟨dst, .binOp .shr t x y yt, ty, pos, after, guard⟩ K env h :=
  aop_shift hx hy h0 (.inr ⟨rfl, rfl⟩) hK
theorem o_convW {src d : TypeId} {kd : IntKind} {sd : TypeDesc} (hs : P.underlying src = some sd) (hd : P.underlying d = some (.int kd)) (hx : aeval env x = .int k p) (hK : K (.int kd (kd.wrap p)) h) :
    AOp P ⟨dst, .convert src d x, ty, pos, after, guard⟩ K env h := aop_conv_int hs hd hx hK
end
/-- How many players a set has. -/
def popR : Nat → Nat → Nat
  | 0, _ => 0
  | f + 1, s => s % 2 + popR f (s / 2)
def pop (s : Nat) : Nat := popR 7 s
theorem pop_step : ∀ s < 64, 0 < s → pop s = s % 2 + pop (s / 2) := by decide +kernel
theorem pop_lt : ∀ p < 7, ∀ q < p, ∀ s < 2 ^ p, Nat.testBit s q = false → pop s ≤ p - 1 := by decide +kernel
theorem pop_le : ∀ s < 64, pop s ≤ 6 := by decide +kernel
def shrU (x : Int) (n : Int) : Int := x.fdiv (2 ^ (min n.toNat IntKind.u64.bits))
def andU (x c : Int) : Int := bits .and .u64 x c
def addU (x y : Int) : Int := IntKind.u64.wrap (x + y)
def pop1 (x : Int) : Int := addU (andU (shrU x 1) 6148914691236517205) (andU x 6148914691236517205)
def pop2 (x : Int) : Int := addU (andU (shrU x 2) 3689348814741910323) (andU x 3689348814741910323)
def pop3 (x : Int) : Int := andU (addU (shrU x 4) x) 1085102592571150095
def pop4 (n x : Int) : Int := addU x (shrU x n)
def popE (x : Int) : Int := bits .and .i64 (IntKind.i64.wrap (pop4 32 (pop4 16 (pop4 8 (pop3 (pop2 (pop1 x))))))) 127
theorem popE_eq : ∀ s < 64, popE ((s : Nat) : Int) = ((pop s : Nat) : Int) := by decide +kernel
def fac : Nat → Int
  | 0 => 1
  | n + 1 => fac n * ((n : Int) + 1)
theorem fac_step : ∀ k < 6, IntKind.i64.wrap (fac k * ((k : Int) + 1)) = fac (k + 1) := by decide +kernel
theorem fac_pos : ∀ k < 7, 1 ≤ fac k ∧ fac k ≤ 720 := by decide +kernel
def accR (N n : Nat) : Int := fac N / fac n
theorem accR_step : ∀ N < 7, ∀ n ≤ N, 1 < n → IntKind.i64.wrap (accR N n * (n : Int)) = accR N (n - 1) := by decide +kernel
theorem accR_start : ∀ N < 7, accR N N = 1 := by decide +kernel
theorem accR_end : ∀ N < 7, ∀ n ≤ N, n ≤ 1 → accR N n = fac N := by decide +kernel
def mulW (a b : Int) : Int := IntKind.i64.wrap (a * b)
/-- What a player brings over all orders in which it comes behind a set before s. -/
def shS (xs : List Int) (p : Int) (i : Nat) : Nat → Int
  | 0 => 0
  | s + 1 => if s.testBit i then shS xs p i s else IntKind.i64.wrap (shS xs p i s + mulW (mulW (fac (pop s)) (fac (p - 1 - pop s).toNat)) (xs.getD (s + 2 ^ i) 0 - xs.getD s 0))
theorem shS_in {xs : List Int} {p : Int} {i s : Nat} (h : s.testBit (i : Int).toNat = true) : shS xs p i (s + 1) = shS xs p i s := by
  rw [Int.toNat_natCast] at h; rw [shS, if_pos h]
theorem shS_out {xs : List Int} {p : Int} {i s : Nat} (h : s.testBit (i : Int).toNat = false) : shS xs p i (s + 1) = IntKind.i64.wrap (shS xs p i s + mulW (mulW (fac (pop s)) (fac (p - 1 - pop s).toNat)) (xs.getD (s + 2 ^ (i : Int).toNat) 0 - xs.getD s 0)) := by
  rw [Int.toNat_natCast] at h; rw [shS, if_neg (by rw [h]; decide), Int.toNat_natCast]
def shF (xs : List Int) (p : Int) (i : Nat) : Int := shS xs p i xs.length
def shL (p : Int) (xs : List Int) : List Int := (List.range p.toNat).map (shF xs p)
theorem shL_len {p : Int} {xs : List Int} : (shL p xs).length = p.toNat := by simp [shL]
theorem sh_start {xs : List Int} {p : Int} {n s : Nat} (h : s < n) : fillZ (shF xs p) n s = fillA (shF xs p) n s (shS xs p s 0) := (fillA_zero h).symm
theorem sh_done {xs : List Int} {p : Int} {n s : Nat} (h : s < n) : fillA (shF xs p) n s (shS xs p s xs.length) = fillZ (shF xs p) n (s + 1) := fillA_done h
theorem sh_app {xs : List Int} {p : Int} {s t : Nat} (h : t = xs.length) : (List.range s).map (shF xs p) ++ [shS xs p s t] = (List.range (s + 1)).map (shF xs p) := by subst h; exact map_step
theorem sh_set {xs : List Int} {p : Int} {n s : Nat} {a b : Int} (h : s < n) : (fillA (shF xs p) n s a).set (s : Int).toNat (IntKind.i64.wrap ((fillA (shF xs p) n s a).getD (s : Int).toNat 0 + b)) = fillA (shF xs p) n s (IntKind.i64.wrap (a + b)) := by
  rw [Int.toNat_natCast, fillA_get h, fillA_set]
theorem pop_bnd {p q : Int} {xs : List Int} {s : Nat} (hW : isW 10000 p xs = true) (hs : s < xs.length) (hq : 0 ≤ q ∧ q < p) (hb : s.testBit q.toNat = false) : (pop s : Int) ≤ p - 1 ∧ s < 64 := by
  obtain ⟨h1, h2, h3, h4, _, _⟩ := isW_get hW
  have h5 := toNat_pow h2
  have := pop_lt p.toNat (by omega) q.toNat (by omega) s (by omega) hb
  exact ⟨by omega, by omega⟩
/-- (list, a number, true): a new list. -/
abbrev VLi (n : Nat) (z : Int) (k : Nat) : Value := .tuple #[sl k n, i64 z, .bool true]
abbrev NLi : Value := .tuple #[.slice none 0 0, i64 0, .bool false]
theorem within_tup3 {n : Nat} {a b c : Value} (h1 : Within n a) (h2 : Within n b) (h3 : Within n c) : Within n (.tuple #[a, b, c]) := .tup3 h1 h2 h3
theorem retLi_of {P : Program} {f : FuncId} {args : List Value} {h : AHeap} {ok : Bool} {n : Nat} {z : Int} {l : List Int} (t : Tri P f args h (OptQ ok (VLi n z) (lst l) NLi h)) : RetO P f args h ok (VLi n z) (lst l) NLi :=
  reto_of (fun _ _ => .tup3 .slice (.prim rfl) (.prim rfl)) (.tup3 (.slice (by omega)) (.prim rfl) (.prim rfl)) lst_prim (.tup3 (.prim rfl) (.prim rfl) (.prim rfl)) t

/-! ## Worths by costs and by votes -/
theorem ints_cells {h : AHeap} {v : Value} {xs : List Int} (hv : Ints h v xs) : v.cells.toList = [v] := by
  rcases hv with ⟨rfl, _⟩ | ⟨k, off, ver, cap, o, rfl, _⟩ <;> rfl
theorem foldB_zero {f : Int → Int → Int} {a : Int} {cs : List Int} : ∀ i, foldB f a cs 0 i = a
  | 0 => rfl
  | i + 1 => by rw [foldB, Nat.zero_testBit, if_neg (by decide)]; exact foldB_zero i
theorem all_get {xs : List Int} {f : Int → Bool} (h : xs.all f = true) {k : Nat} (hk : k < xs.length) : f (xs.getD k 0) = true := by
  rw [getD_at hk]; exact List.all_eq_true.1 h _ (List.getElem_mem hk)
theorem foldMax_bnd {m : Int} {cs : List Int} {s : Nat} (h : cs.all (fun n => decide (0 ≤ n ∧ n ≤ m)) = true) (hm : 0 ≤ m) : ∀ i, i ≤ cs.length → 0 ≤ foldB max 0 cs s i ∧ foldB max 0 cs s i ≤ m
  | 0, _ => ⟨Int.le_refl _, hm⟩
  | i + 1, hi => by
    have ih := foldMax_bnd (s := s) h hm i (by omega)
    have := of_decide_eq_true (all_get h (show i < cs.length by omega))
    rw [foldB]
    split
    · omega
    · exact ih
theorem mapR_isW {f : Nat → Int} {p : Int} (hp : 1 ≤ p ∧ p ≤ 6) (h0 : f 0 = 0) (hb : ∀ s, -10000 ≤ f s ∧ f s ≤ 10000) : isW 10000 p (mapR f p) = true := by
  obtain ⟨e, h2, h3⟩ := pow_nat hp
  refine (isW_yes (decide_eq_true hp) ?_ ?_ ?_).symm
  · rw [mapR_len]; exact e
  · rw [mapR, map_get (by omega)]; exact h0
  · refine List.all_eq_true.2 fun x hx => ?_
    simp only [mapR, List.mem_map] at hx
    obtain ⟨s, _, rfl⟩ := hx
    exact decide_eq_true (hb s)
theorem runway_isW {xs : List Int} (h : (decide (1 ≤ (xs.length : Int) ∧ (xs.length : Int) ≤ 6) && xs.all fun n => decide (0 ≤ n ∧ n ≤ 10000)) = true) : isW 10000 xs.length (mapR (maxF xs) xs.length) = true := by
  rw [Bool.and_eq_true] at h
  refine mapR_isW (of_decide_eq_true h.1) (foldB_zero _) fun s => ?_
  have := foldMax_bnd (s := s) h.2 (by decide) xs.length (Nat.le_refl _)
  show -10000 ≤ foldB max 0 xs s xs.length ∧ foldB max 0 xs s xs.length ≤ 10000
  omega
theorem vote_yes {xs : List Int} {q : Int} {s : Nat} (h : q ≤ foldB addW 0 xs s xs.length) : voteF xs q s = 1 := if_pos h
theorem vote_no {xs : List Int} {q : Int} {s : Nat} (h : ¬ q ≤ foldB addW 0 xs s xs.length) : voteF xs q s = 0 := if_neg h
theorem vote_isW {xs : List Int} {q : Int} (hp : 1 ≤ (xs.length : Int) ∧ (xs.length : Int) ≤ 6) (hq : 1 ≤ q) : isW 10000 xs.length (mapR (voteF xs q) xs.length) = true := by
  refine mapR_isW hp (vote_no (by rw [foldB_zero]; omega)) fun s => ?_
  by_cases h : q ≤ foldB addW 0 xs s xs.length
  · rw [vote_yes h]; decide
  · rw [vote_no h]; decide
def atF (l : List Int) (s : Nat) : Int := l.getD s 0
theorem mapR_getD {p : Int} {l : List Int} (h : l.length = 2 ^ p.toNat) : mapR (atF l) p = l := by
  apply List.ext_getElem
  · rw [mapR_len, h]
  · intro i h1 h2
    simp only [mapR, List.getElem_map, List.getElem_range]
    exact getD_at h2

/-! ## Complaints -/
def canW (p : Int) (xs ss : List Int) (b : Int) : Bool := isW 10000 p xs && decide ((ss.length : Int) = p) && ss.all (fun n => decide (-1000000 ≤ n ∧ n ≤ 1000000)) && decide (1 ≤ b ∧ b ≤ 1000)
theorem canW_get {p b : Int} {xs ss : List Int} (h : canW p xs ss b = true) : isW 10000 p xs = true ∧ (ss.length : Int) = p ∧ ss.all (fun n => decide (-1000000 ≤ n ∧ n ≤ 1000000)) = true ∧ (1 ≤ b ∧ b ≤ 1000) := by
  simp only [canW, Bool.and_eq_true, decide_eq_true_eq] at h
  exact ⟨h.1.1.1, h.1.1.2, h.1.2, h.2⟩
theorem canW_many {p b : Int} {xs ss : List Int} (hW : isW 10000 p xs = true) (c : (decide (p ≤ ss.length ∧ (ss.length : Int) ≤ p) && ss.all fun n => decide (-1000000 ≤ n ∧ n ≤ 1000000)) = false) : canW p xs ss b = false := by
  rw [canW, hW, Bool.true_and]
  rcases Bool.and_eq_false_iff.1 c with c | c
  · rw [decide_eq_false (by have := of_decide_eq_false c; omega)]; rfl
  · rw [c]; simp
def compS (xs ss : List Int) (b : Int) (s : Nat) : Nat → Int := foldB subW (IntKind.i64.wrap (xs.getD s 0 * b)) ss s
theorem compS_end {xs ss : List Int} {b : Int} {s i : Nat} (h : i = ss.length) : compS xs ss b s i = compF xs ss b s := by subst h; rfl
def notAll (n : Nat) (s : Nat) : Bool := decide (s ≠ 0 ∧ s + 1 ≠ n)
theorem core_all {c : Nat → Int} {n : Nat} (hn : 0 < n) : (decide ((worstS c (fun _ => true) n).1 ≤ 0) && decide (c (n - 1) = 0)) = coreB c n := by
  obtain ⟨m, rfl⟩ : ∃ m, n = m + 1 := ⟨n - 1, by omega⟩
  rw [Nat.add_sub_cancel]
  by_cases h : (∀ t, t ≤ m → c t ≤ 0) ∧ c m = 0
  · rw [decide_eq_true ((worst_all m).2.2 h.1), decide_eq_true h.2]
    refine (List.all_eq_true.2 fun t ht => decide_eq_true ⟨h.1 t (by have := List.mem_range.1 ht; omega), fun e => ?_⟩).symm
    have : t = m := by omega
    subst this
    exact h.2
  · have : coreB c (m + 1) = false := by
      rw [Bool.eq_false_iff]
      intro hh
      refine h ⟨fun t ht => (of_decide_eq_true (List.all_eq_true.1 hh t (List.mem_range.2 (by omega)))).1, (of_decide_eq_true (List.all_eq_true.1 hh m (List.mem_range.2 (by omega)))).2 rfl⟩
    rw [this]
    by_cases h1 : (worstS c (fun _ => true) (m + 1)).1 ≤ 0
    · rw [decide_eq_false (p := c m = 0) fun e => h ⟨(worst_all m).2.1 h1, e⟩, Bool.and_false]
    · rw [decide_eq_false h1, Bool.false_and]
theorem coreB_step {c : Nat → Int} {n s : Nat} (h : (List.range s).all (fun t => decide (c t ≤ 0 ∧ (t + 1 = n → c t = 0))) = true) (h1 : c s ≤ 0) (h2 : s + 1 = n → c s = 0) : (List.range (s + 1)).all (fun t => decide (c t ≤ 0 ∧ (t + 1 = n → c t = 0))) = true :=
  range_all_step h (decide_eq_true ⟨h1, h2⟩)
theorem coreB_no {c : Nat → Int} {n s : Nat} (hs : s < n) (h : ¬ (c s ≤ 0 ∧ (s + 1 = n → c s = 0))) : coreB c n = false := by
  rw [coreB, List.all_eq_false]
  exact ⟨s, List.mem_range.2 hs, by rw [decide_eq_false h]; decide⟩
theorem worst_last {c : Nat → Int} {n : Nat} : worstS c (notAll (n + 1)) (n + 1) = worstS c (notAll (n + 1)) n :=
  worstS_old fun ⟨h, _⟩ => by
    simp only [notAll, decide_eq_true_eq] at h
    exact h.2 rfl
theorem worst_two {c : Nat → Int} {n : Nat} (h : 2 < n) : worstS c (notAll n) 2 = (c 1, ((1 : Nat) : Int)) := by
  have e1 : worstS c (notAll n) 1 = worstS c (notAll n) 0 := worstS_old fun ⟨h, _⟩ => by
    simp only [notAll, decide_eq_true_eq] at h
    exact h.1 rfl
  exact worstS_new (by simp only [notAll, decide_eq_true_eq]; omega) (.inl (by rw [e1]; show (-1 : Int) < 0; decide))
theorem worst_at2 {c : Nat → Int} {n : Nat} (h : 2 < n) : ∀ s, 2 ≤ s → 0 ≤ (worstS c (notAll n) s).2
  | 0, h2 => by omega
  | 1, h2 => by omega
  | 2, _ => by rw [worst_two h]; show (0 : Int) ≤ ((1 : Nat) : Int); decide
  | s + 3, _ => by
    rw [worstS]
    split
    · show (0 : Int) ≤ ((s + 2 : Nat) : Int); omega
    · exact worst_at2 h (s + 2) (by omega)

theorem isW_four {m p : Int} {xs : List Int} (hW : isW m p xs = true) (h : 2 ≤ p) : 4 ≤ xs.length := by
  obtain ⟨h1, h2, _⟩ := isW_get hW
  have h5 := toNat_pow h2
  have := Nat.pow_le_pow_right (show 0 < 2 by decide) (show 2 ≤ p.toNat by omega)
  omega

theorem awp_constF {P : Program} {n : Nat} {Q : Exit → Env → AHeap → Prop} {env : Env} {h : AHeap} {x y : Code} (hx : AWp P n y Q env h) : AWp P n (.cond (.const (.bool false)) x y) Q env h :=
  fun m w a hr he => wp_cond (t := false) (by simp [Act.eval]) (hx m w a hr he)

/-! ## Parts of things, more -/
theorem cell_bndZ {i p q n t : Int} (hi : 0 ≤ i ∧ i < p) (ht : 0 ≤ t ∧ t < q) (hn : n = p * q) : 0 ≤ i * q ∧ i * q ≤ n ∧ 0 ≤ i * q + t ∧ i * q + t < n := by
  obtain ⟨k, rfl⟩ := Int.eq_ofNat_of_zero_le ht.1
  exact cell_bnd hi ht.2 hn
def ownF (xs os : List Int) (q : Int) (i : Nat) : Int := partF xs os q i i
def ownsL (p q : Int) (xs os : List Int) : List Int := (List.range p.toNat).map (ownF xs os q)
theorem ownsL_len {p q : Int} {xs os : List Int} : (ownsL p q xs os).length = p.toNat := by simp [ownsL]
theorem ownV_many {p q : Int} {xs os : List Int} (hV : validV p q xs = true) (c : (decide (q ≤ os.length ∧ (os.length : Int) ≤ q) && os.all fun n => decide (0 ≤ n ∧ n ≤ p - 1)) = false) : ownV p q xs os = false := by
  rw [ownV, hV, Bool.true_and]
  rcases Bool.and_eq_false_iff.1 c with c | c
  · rw [decide_eq_false (by have := of_decide_eq_false c; omega)]; rfl
  · rw [c]; simp
theorem ownV_noV {p q : Int} {xs os : List Int} (hV : validV p q xs = false) : ownV p q xs os = false := by rw [ownV, hV]; rfl
theorem ownV_yes {p q : Int} {xs os : List Int} (hV : validV p q xs = true) (c : (os.all (fun n => decide (0 ≤ n ∧ n ≤ p - 1)) && decide ((os.length : Int) = q)) = true) : ownV p q xs os = true := by
  rw [Bool.and_eq_true] at c
  rw [ownV, hV, c.1, c.2]; rfl
theorem ownV_no {p q : Int} {xs os : List Int} (c : (os.all (fun n => decide (0 ≤ n ∧ n ≤ p - 1)) && decide ((os.length : Int) = q)) = false) : ownV p q xs os = false := by
  rw [ownV, Bool.and_assoc, Bool.and_comm (decide _), c, Bool.and_false]
def envyN (xs os : List Int) (q : Int) (i j : Nat) : Int := envyF xs os q i j
def envyL (p q : Int) (xs os : List Int) : List Int := tabL (envyN xs os q) p.toNat p.toNat
theorem envyL_len {p q : Int} {xs os : List Int} : (envyL p q xs os).length = p.toNat * p.toNat := tabL_len _
theorem row_len {e : Nat → Nat → Int} {n s s2 : Nat} : (tabL e n s ++ (List.range s2).map (e s)).length = s * n + s2 := by rw [List.length_append, tabL_len, map_len]
def bestF (xs os : List Int) (q i j : Int) : Int := bestS xs os q i j os.length
def freeS (xs os : List Int) (q : Int) (i j : Nat) : Bool := decide (envyF xs os q i j ≤ bestF xs os q i j)
def allN (n : Nat) (F : Nat → Nat → Bool) : Bool := (List.range n).all fun a => (List.range n).all (F a)
theorem allN_no {n s t : Nat} {F : Nat → Nat → Bool} (hs : s < n) (ht : t < n) (h : F s t = false) : allN n F = false := by
  rw [allN, List.all_eq_false]
  refine ⟨s, List.mem_range.2 hs, ?_⟩
  have : (List.range n).all (F s) = false := List.all_eq_false.2 ⟨t, List.mem_range.2 ht, by rw [h]; decide⟩
  rw [this]; decide
theorem envyF_self {a b : Int} (ha : -1000000 ≤ a ∧ a ≤ 1000000) (hb : -1000000 ≤ b ∧ b ≤ 1000000) : IntKind.i64.wrap (a - b) = a - b := wrap_id (by omega) (by omega)

end Go.Am
