/-
  The abstract heap: sub-slices, sums, and the plain laws of lists that the walks use. General: no program is named.
-/
import Derived.Test.YtnfefjofojmokaaAmRun
import Derived.Test.YtnfefjofojmokaaAmSink
namespace Go.Am
set_option linter.unusedSimpArgs false
set_option linter.unusedVariables false

/-- A part of a slice. -/
def subv (v : Value) (l r : Nat) : Value := match v with
  | .slice (some ⟨k, off, ver⟩) _ c => .slice (some ⟨k, off + l, ver⟩) (r - l) (c - l)
  | x => x

/-- A part of a list. -/
def part (xs : List Int) (l r : Nat) : List Int := (xs.drop l).take (r - l)

theorem part_len {xs : List Int} {l r : Nat} (h1 : l ≤ r) (h2 : r ≤ xs.length) : (part xs l r).length = r - l := by
  simp [part]; omega

theorem Ints.sub {h : AHeap} {v : Value} {xs : List Int} (hv : Ints h v xs) {l r : Nat} (h0 : 0 < xs.length) (h1 : l ≤ r) (h2 : r ≤ xs.length) : Ints h (subv v l r) (part xs l r) := by
  rcases hv with ⟨rfl, rfl⟩ | ⟨k, off, ver, cap, o, rfl, g2, g3, g4, g5, g6, g7⟩
  · simp at h0
  · refine .inr ⟨k, off + l, ver, cap - l, o, by rw [part_len h1 h2]; rfl, g2, g3, g4, by rw [part_len h1 h2]; omega, by omega, fun i z hz => ?_⟩
    rw [Nat.add_assoc]
    refine g7 _ z ?_
    have hi : i < (part xs l r).length := (List.getElem?_eq_some_iff.1 hz).1
    rw [part_len h1 h2] at hi
    simp only [part, List.getElem?_take_of_lt hi, List.getElem?_drop] at hz
    exact hz

theorem within_sub {n : Nat} {v : Value} {l r : Nat} (hv : Within n v) : Within n (subv v l r) := by
  unfold subv
  split
  · cases hv with
    | prim h => cases h
    | slice h => exact .slice h
  · exact hv

section
variable {P : Program} {K : Value → AHeap → Prop} {env : Env} {h : AHeap} {dst : Option Tmp} {ty : TypeId} {pos : String} {after : Array Edge} {guard : Option (Nat × Bool)}
theorem o_sliceI {t e : TypeId} {x y1 y2 : Operand} {v z : Value} {b : Nat} {xs : List Int} {k1 k2 : IntKind} {l r : Int} (hu : P.underlying t = some (.slice e)) (hi : InfoIs P e z 1 b)
    (hx : aeval env x = v) (hv : Ints h v xs) (hy1 : aeval env y1 = .int k1 l) (hy2 : aeval env y2 = .int k2 r) (h0 : 0 < xs.length) (hl : 0 ≤ l) (hlr : l ≤ r) (hr : r ≤ xs.length)
    (hK : K (subv v l.toNat r.toNat) h) : AOp P ⟨dst, .slice t x (some y1) (some y2) none, ty, pos, after, guard⟩ K env h := by
  obtain ⟨inf, g1, _, g3, _⟩ := hi.get
  rcases hv with ⟨rfl, rfl⟩ | ⟨k, off, ver, cap, o, rfl, h2, h3, h4, h5, h6, h7⟩
  · simp at h0
  · refine aop_slice (l := l.toNat) (r := r.toNat) hu g1 (by rw [g3, h4]) hx h2 h3 (.inr ⟨y1, k1, rfl, by rw [hy1, Int.toNat_of_nonneg hl]⟩) (.inr ⟨y2, k2, rfl, by rw [hy2, Int.toNat_of_nonneg (by omega)]⟩) (by omega) (by omega) ?_
    rw [h4, Nat.mul_one]
    exact hK
theorem o_sliceHi {t e : TypeId} {x y2 : Operand} {v z : Value} {b : Nat} {xs : List Int} {k2 : IntKind} {r : Int} (hu : P.underlying t = some (.slice e)) (hi : InfoIs P e z 1 b)
    (hx : aeval env x = v) (hv : Ints h v xs) (hy2 : aeval env y2 = .int k2 r) (h0 : 0 < xs.length) (hlr : 0 ≤ r) (hr : r ≤ xs.length)
    (hK : K (subv v 0 r.toNat) h) : AOp P ⟨dst, .slice t x none (some y2) none, ty, pos, after, guard⟩ K env h := by
  obtain ⟨inf, g1, _, g3, _⟩ := hi.get
  rcases hv with ⟨rfl, rfl⟩ | ⟨k, off, ver, cap, o, rfl, h2, h3, h4, h5, h6, h7⟩
  · simp at h0
  · refine aop_slice (l := 0) (r := r.toNat) hu g1 (by rw [g3, h4]) hx h2 h3 (.inl ⟨rfl, rfl⟩) (.inr ⟨y2, k2, rfl, by rw [hy2, Int.toNat_of_nonneg (by omega)]⟩) (by omega) (by omega) ?_
    rw [h4, Nat.mul_one]
    exact hK
theorem o_sliceLo {t e : TypeId} {x y1 : Operand} {v z : Value} {b : Nat} {xs : List Int} {k1 : IntKind} {l : Int} (hu : P.underlying t = some (.slice e)) (hi : InfoIs P e z 1 b)
    (hx : aeval env x = v) (hv : Ints h v xs) (hy1 : aeval env y1 = .int k1 l) (h0 : 0 < xs.length) (hl : 0 ≤ l) (hlr : l ≤ xs.length)
    (hK : K (subv v l.toNat xs.length) h) : AOp P ⟨dst, .slice t x (some y1) none none, ty, pos, after, guard⟩ K env h := by
  obtain ⟨inf, g1, _, g3, _⟩ := hi.get
  rcases hv with ⟨rfl, rfl⟩ | ⟨k, off, ver, cap, o, rfl, h2, h3, h4, h5, h6, h7⟩
  · simp at h0
  · refine aop_slice (l := l.toNat) (r := xs.length) hu g1 (by rw [g3, h4]) hx h2 h3 (.inr ⟨y1, k1, rfl, by rw [hy1, Int.toNat_of_nonneg hl]⟩) (.inl ⟨rfl, rfl⟩) (by omega) (by omega) ?_
    rw [h4, Nat.mul_one]
    exact hK
end

/-- The sum of a list, as the program counts. -/
def sumW (xs : List Int) : Int := xs.foldl (fun a x => IntKind.i64.wrap (a + x)) 0
theorem sumW_step {xs : List Int} {k : Nat} (hk : k < xs.length) : IntKind.i64.wrap (sumW (xs.take k) + xs.getD k 0) = sumW (xs.take (k + 1)) := by
  rw [sumW, sumW, List.take_succ_eq_append_getElem hk, List.foldl_append, getD_at hk]; rfl
theorem sumW_full {xs : List Int} {k : Nat} (hk : ¬ k < xs.length) : sumW (xs.take k) = sumW xs := by rw [List.take_of_length_le (by omega)]

theorem range_all_step {f : Nat → Bool} {s : Nat} (h : (List.range s).all f = true) (hf : f s = true) : (List.range (s + 1)).all f = true := by
  rw [List.range_succ, List.all_append, h]; simpa using hf

/-- A valid cake. -/
def validC (p q : Int) (xs : List Int) : Bool :=
  decide (1 ≤ p ∧ p ≤ 6) && decide (1 ≤ q ∧ q ≤ 16) && decide ((xs.length : Int) = p * q) && xs.all (fun n => decide (0 ≤ n ∧ n ≤ 1000)) &&
    (List.range p.toNat).all fun i => decide (¬ sumW (part xs ((i : Int) * q).toNat (((i : Int) + 1) * q).toNat) = 0)
theorem validC_yes {p q : Int} {xs : List Int} {s : Nat} (c1 : decide (1 ≤ p ∧ p ≤ 6) = true) (c2 : decide (1 ≤ q ∧ q ≤ 16) = true) (c3 : (xs.length : Int) = p * q) (c4 : xs.all (fun n => decide (0 ≤ n ∧ n ≤ 1000)) = true)
    (c5 : (List.range s).all (fun i => decide (¬ sumW (part xs ((i : Int) * q).toNat (((i : Int) + 1) * q).toNat) = 0)) = true) (hs : (s : Int) = p) : true = validC p q xs := by
  have : s = p.toNat := by omega
  subst this
  rw [validC, c1, c2, decide_eq_true c3, c4, c5]; rfl
theorem validC_no {p q : Int} {xs : List Int} {s : Nat} (hs : (s : Int) < p) (c : sumW (part xs ((s : Int) * q).toNat (((s : Int) + 1) * q).toNat) = 0) : false = validC p q xs := by
  have : ((List.range p.toNat).all fun i => decide (¬ sumW (part xs ((i : Int) * q).toNat (((i : Int) + 1) * q).toNat) = 0)) = false :=
    List.all_eq_false.2 ⟨s, List.mem_range.2 (by omega), by simp [c]⟩
  rw [validC, this, Bool.and_false]
theorem validC_noM {p q : Int} {xs : List Int} (c : (decide (p * q ≤ xs.length ∧ xs.length ≤ p * q) && xs.all (fun n => decide (0 ≤ n ∧ n ≤ 1000))) = false) : false = validC p q xs := by
  rw [validC]
  rcases Bool.and_eq_false_iff.1 c with c | c
  · rw [decide_eq_false (p := ((xs.length : Int) = p * q)) (by have := of_decide_eq_false c; omega)]; simp
  · rw [c]; simp
theorem validC_noL {p q : Int} {xs : List Int} (c : (xs.all (fun n => decide (0 ≤ n ∧ n ≤ 1000)) && decide ((xs.length : Int) = p * q)) = false) : false = validC p q xs := by
  rw [validC]
  rcases Bool.and_eq_false_iff.1 c with c | c
  · rw [c]; simp
  · rw [c]; simp
theorem row_bound {s p q n : Int} (h0 : 0 ≤ s) (h1 : s < p) (hq : 0 ≤ q) (hn : n = p * q) : 0 ≤ s * q ∧ s * q ≤ (s + 1) * q ∧ (s + 1) * q ≤ n := by
  subst hn
  exact ⟨Int.mul_nonneg h0 hq, Int.mul_le_mul_of_nonneg_right (by omega) hq, Int.mul_le_mul_of_nonneg_right (by omega) hq⟩
theorem many_of {n : Int} {xs : List Int} {b : Bool} (c : (decide (n ≤ xs.length ∧ xs.length ≤ n) && b) = true) : (xs.length : Int) = n ∧ b = true := by
  simp only [Bool.and_eq_true, decide_eq_true_eq] at c; exact ⟨by omega, c.2⟩

/-! ## Bits -/
theorem bits_and {a b : Nat} (ha : a < 4611686018427387904) : bits .and .i64 (a : Int) (b : Int) = ((a &&& b : Nat) : Int) := by
  have h1 : a &&& b ≤ a := Nat.and_le_left
  have e : (BitVec.ofInt 64 (a : Int) &&& BitVec.ofInt 64 (b : Int)).toNat = a &&& b := by
    rw [BitVec.ofInt_natCast, BitVec.ofInt_natCast, ← BitVec.ofNat_and, BitVec.toNat_ofNat, Nat.mod_eq_of_lt (by omega)]
  show IntKind.i64.wrap ((BitVec.ofInt 64 (a : Int) &&& BitVec.ofInt 64 (b : Int)).toNat : Int) = _
  rw [e, wrap_id (by omega) (by omega)]
theorem or_lt {a b : Nat} (n : Nat) (ha : a < 2 ^ n) (hb : b < 2 ^ n) : a ||| b < 2 ^ n := Nat.or_lt_two_pow ha hb
theorem bits_or {a b : Nat} (ha : a < 4611686018427387904) (hb : b < 4611686018427387904) : bits .or .i64 (a : Int) (b : Int) = ((a ||| b : Nat) : Int) := by
  have h1 : a ||| b < 2 ^ 62 := or_lt 62 (by simpa using ha) (by simpa using hb)
  have e : (BitVec.ofInt 64 (a : Int) ||| BitVec.ofInt 64 (b : Int)).toNat = a ||| b := by
    rw [BitVec.ofInt_natCast, BitVec.ofInt_natCast, ← BitVec.ofNat_or, BitVec.toNat_ofNat, Nat.mod_eq_of_lt (by omega)]
  show IntKind.i64.wrap ((BitVec.ofInt 64 (a : Int) ||| BitVec.ofInt 64 (b : Int)).toNat : Int) = _
  rw [e, wrap_id (by omega) (by omega)]
/-- A set without another one. -/
def andn (a b : Nat) : Nat := a ^^^ (a &&& b)
theorem andn_bit (a b i : Nat) : (andn a b).testBit i = (a.testBit i && !b.testBit i) := by
  simp only [andn, Nat.testBit_xor, Nat.testBit_and]
  cases a.testBit i <;> cases b.testBit i <;> rfl
theorem andn_le (a b : Nat) : andn a b ≤ a := by
  have : andn a b = andn a b &&& a := by
    apply Nat.eq_of_testBit_eq
    intro i
    rw [Nat.testBit_and, andn_bit]
    cases a.testBit i <;> cases b.testBit i <;> rfl
  rw [this]; exact Nat.and_le_right
theorem bits_andNot {a b : Nat} (ha : a < 4611686018427387904) : bits .andNot .i64 (a : Int) (b : Int) = ((andn a b : Nat) : Int) := by
  have h1 := andn_le a b
  have e : (BitVec.ofInt 64 (a : Int) &&& ~~~ BitVec.ofInt 64 (b : Int)) = BitVec.ofNat 64 (andn a b) := by
    rw [BitVec.ofInt_natCast, BitVec.ofInt_natCast]
    apply BitVec.eq_of_getLsbD_eq
    intro i hi
    simp only [BitVec.getLsbD_and, BitVec.getLsbD_not, BitVec.getLsbD_ofNat, andn_bit, hi, decide_true, Bool.true_and]
  show IntKind.i64.wrap ((BitVec.ofInt 64 (a : Int) &&& ~~~ BitVec.ofInt 64 (b : Int)).toNat : Int) = _
  rw [e, BitVec.toNat_ofNat, Nat.mod_eq_of_lt (by omega), wrap_id (by omega) (by omega)]

section
variable {P : Program} {K : Value → AHeap → Prop} {env : Env} {h : AHeap} {dst : Option Tmp} {ty t yt : TypeId} {pos : String} {after : Array Edge} {guard : Option (Nat × Bool)} {x y : Operand}
theorem o_and {p q : Int} {a b : Nat} (hx : aeval env x = i64 p) (hy : aeval env y = i64 q) (e1 : p = (a : Int)) (e2 : q = (b : Int)) (ha : a < 4611686018427387904) (hK : K (i64 ((a &&& b : Nat) : Int)) h) :
    AOp P ⟨dst, .binOp .and t x y yt, ty, pos, after, guard⟩ K env h := by
  subst e1 e2; exact o_bin hx hy (v := i64 ((a &&& b : Nat) : Int)) (by simp only [binInt, bits_and ha]) hK
theorem o_or {p q : Int} {a b : Nat} (hx : aeval env x = i64 p) (hy : aeval env y = i64 q) (e1 : p = (a : Int)) (e2 : q = (b : Int)) (ha : a < 4611686018427387904) (hb : b < 4611686018427387904) (hK : K (i64 ((a ||| b : Nat) : Int)) h) :
    AOp P ⟨dst, .binOp .or t x y yt, ty, pos, after, guard⟩ K env h := by
  subst e1 e2; exact o_bin hx hy (v := i64 ((a ||| b : Nat) : Int)) (by simp only [binInt, bits_or ha hb]) hK
theorem o_andNot {p q : Int} {a b : Nat} (hx : aeval env x = i64 p) (hy : aeval env y = i64 q) (e1 : p = (a : Int)) (e2 : q = (b : Int)) (ha : a < 4611686018427387904) (hK : K (i64 ((andn a b : Nat) : Int)) h) :
    AOp P ⟨dst, .binOp .andNot t x y yt, ty, pos, after, guard⟩ K env h := by
  subst e1 e2; exact o_bin hx hy (v := i64 ((andn a b : Nat) : Int)) (by simp only [binInt, bits_andNot ha]) hK
theorem o_neg {p : Int} (hx : aeval env x = i64 p) (h1 : -1000000000000 ≤ p) (h2 : p ≤ 1000000000000) (hK : K (i64 (-p)) h) : AOp P ⟨dst, .unOp .neg t x, ty, pos, after, guard⟩ K env h :=
  aop_neg hx (by rw [wrap_id (by omega) (by omega), Int.zero_sub]; exact hK)
theorem o_convU {src d : TypeId} {k : IntKind} {p : Int} {sd : TypeDesc} (hs : P.underlying src = some sd) (hd : P.underlying d = some (.int .u64))
    (hx : aeval env x = .int k p) (h1 : 0 ≤ p) (h2 : p ≤ 9223372036854775807) (hK : K (.int .u64 p) h) : AOp P ⟨dst, .convert src d x, ty, pos, after, guard⟩ K env h :=
  aop_conv_int hs hd hx (by
    have : IntKind.u64.wrap p = p := by simp only [IntKind.wrap, IntKind.bits, IntKind.signed, Bool.false_and, Bool.false_eq_true, if_false]; omega
    rw [this]; exact hK)
end
theorem amap0 {f : Operand → Value} : (#[] : Array Operand).map f = #[] := by simp
theorem amap1 {f : Operand → Value} {x : Operand} {v : Value} (h : f x = v) : #[x].map f = #[v] := by simp [h]
theorem amap2 {f : Operand → Value} {x y : Operand} {v w : Value} (h : f x = v) (h2 : f y = w) : #[x, y].map f = #[v, w] := by simp [h, h2]
theorem amap3 {f : Operand → Value} {x y z : Operand} {v w u : Value} (h : f x = v) (h2 : f y = w) (h3 : f z = u) : #[x, y, z].map f = #[v, w, u] := by simp [h, h2, h3]

theorem amap4 {f : Operand → Value} {x y z a : Operand} {v w u t : Value} (h : f x = v) (h2 : f y = w) (h3 : f z = u) (h4 : f a = t) : #[x, y, z, a].map f = #[v, w, u, t] := by simp [h, h2, h3, h4]
theorem amap5 {f : Operand → Value} {x y z a b : Operand} {v w u t r : Value} (h : f x = v) (h2 : f y = w) (h3 : f z = u) (h4 : f a = t) (h5 : f b = r) : #[x, y, z, a, b].map f = #[v, w, u, t, r] := by simp [h, h2, h3, h4, h5]
theorem bit_is {s i : Nat} : ((s / 2 ^ i &&& 1 : Nat) : Int) = 1 ↔ s.testBit i = true := by
  rw [Nat.and_one_is_mod, Nat.testBit_eq_decide_div_mod_eq, decide_eq_true_eq]; omega
theorem pow_bound {n : Int} (h : 1 ≤ n ∧ n ≤ 6) : (2 : Int) ≤ 2 ^ n.toNat ∧ (2 : Int) ^ n.toNat ≤ 64 := by
  obtain ⟨h1, h2⟩ := h
  have : n = 1 ∨ n = 2 ∨ n = 3 ∨ n = 4 ∨ n = 5 ∨ n = 6 := by omega
  rcases this with rfl | rfl | rfl | rfl | rfl | rfl <;> decide

/-! ## Worths of sets -/
def isW (m n : Int) (xs : List Int) : Bool :=
  decide (1 ≤ n ∧ n ≤ 6) && decide ((xs.length : Int) = 2 ^ n.toNat) && decide (xs.getD 0 0 = 0) && xs.all (fun x => decide (-m ≤ x ∧ x ≤ m))
theorem isW_get {m n : Int} {xs : List Int} (h : isW m n xs = true) : (1 ≤ n ∧ n ≤ 6) ∧ (xs.length : Int) = 2 ^ n.toNat ∧ 2 ≤ xs.length ∧ xs.length ≤ 64 ∧ xs.getD 0 0 = 0 ∧ xs.all (fun x => decide (-m ≤ x ∧ x ≤ m)) = true := by
  simp only [isW, Bool.and_eq_true, decide_eq_true_eq] at h
  have := pow_bound h.1.1.1
  exact ⟨h.1.1.1, h.1.1.2, by omega, by omega, h.1.2, h.2⟩
theorem nat_shr (s i : Nat) : ((s / 2 ^ i : Nat) : Int) = (s : Int) / 2 ^ i := by simp
theorem isW_yes {m n : Int} {xs : List Int} (c1 : decide (1 ≤ n ∧ n ≤ 6) = true) (c2 : (xs.length : Int) = 2 ^ n.toNat) (c3 : xs.getD 0 0 = 0) (c4 : xs.all (fun x => decide (-m ≤ x ∧ x ≤ m)) = true) : true = isW m n xs := by
  rw [isW, c1, decide_eq_true c2, decide_eq_true c3, c4]; rfl
theorem isW_no {m n : Int} {xs : List Int} {k : Nat} (hk : k < xs.length) (c : decide (-m ≤ xs.getD k 0 ∧ xs.getD k 0 ≤ m) = false) : false = isW m n xs := by
  rw [isW, all_false (p := fun x => decide (-m ≤ x ∧ x ≤ m)) hk c, Bool.and_false]
theorem isW_no0 {m n : Int} {xs : List Int} (c : decide (1 ≤ n ∧ n ≤ 6) = false) : false = isW m n xs := by rw [isW, c]; simp
theorem isW_noL {m n : Int} {xs : List Int} (c : ¬ (xs.length : Int) = 2 ^ n.toNat) : false = isW m n xs := by rw [isW, decide_eq_false c]; simp
theorem isW_noZ {m n : Int} {xs : List Int} (c : ¬ xs.getD 0 0 = 0) : false = isW m n xs := by rw [isW, decide_eq_false c]; simp
theorem isW_noM {m n : Int} {xs : List Int} (c : (decide ((1 : Int) * 2 ^ n.toNat ≤ xs.length ∧ (xs.length : Int) ≤ 1 * 2 ^ n.toNat) && xs.all (fun x => decide (-m ≤ x ∧ x ≤ m))) = false) : false = isW m n xs := by
  rw [isW]
  rcases Bool.and_eq_false_iff.1 c with c | c
  · rw [decide_eq_false (p := ((xs.length : Int) = 2 ^ n.toNat)) (by have := of_decide_eq_false c; omega)]; simp
  · rw [c]; simp

/-- For each two sets. -/
def allP (n : Nat) (f : Nat → Nat → Bool) : Bool := (List.range n).all fun a => (List.range n).all (f a)
theorem allP_row {n s : Nat} {f : Nat → Bool} (h : (List.range s).all f = true) (hs : ¬ (s : Int) < n) : (List.range n).all f = true :=
  List.all_eq_true.2 fun x hx => List.all_eq_true.1 h x (List.mem_range.2 (by have := List.mem_range.1 hx; omega))
theorem allP_yes {b : Bool} {n s : Nat} {f : Nat → Nat → Bool} (hb : b = true) (h : (List.range s).all (fun a => (List.range n).all (f a)) = true) (hs : ¬ (s : Int) < n) : true = (b && allP n f) := by
  rw [hb, allP, allP_row h hs]; rfl
theorem allP_no {b : Bool} {n s t : Nat} {f : Nat → Nat → Bool} (hs : s < n) (ht : t < n) (c : f s t = false) : false = (b && allP n f) := by
  have : allP n f = false := by
    rw [allP, List.all_eq_false]
    refine ⟨s, List.mem_range.2 hs, ?_⟩
    rw [Bool.not_eq_true, List.all_eq_false]
    exact ⟨t, List.mem_range.2 ht, by rw [c]; decide⟩
  rw [this, Bool.and_false]
theorem tup2 {a b a' b' : Bool} (h1 : a = a') (h2 : b = b') : packR [.bool a, .bool b] = .tuple #[.bool a', .bool b'] := by rw [h1, h2]; rfl
theorem within_tup2 {n : Nat} {a b : Value} (h1 : Within n a) (h2 : Within n b) : Within n (.tuple #[a, b]) := .tuple fun i hi => by
  match i, hi with
  | 0, _ => exact h1
  | 1, _ => exact h2
theorem or_len {xs : List Int} {n : Nat} {a b : Nat} (h : (xs.length : Int) = 2 ^ n) (ha : a < xs.length) (hb : b < xs.length) : a ||| b < xs.length := by
  have h' : xs.length = 2 ^ n := by have : ((2 ^ n : Nat) : Int) = 2 ^ n := by simp
                                    omega
  rw [h'] at ha hb ⊢
  exact or_lt n ha hb
theorem isW_bnd {m n : Int} {xs : List Int} (h : isW m n xs = true) (k : Nat) : -m ≤ xs.getD k 0 ∧ xs.getD k 0 ≤ m := by
  obtain ⟨_, _, h2, _, h0, ha⟩ := isW_get h
  have hz : -m ≤ 0 ∧ 0 ≤ m := by
    have := List.all_eq_true.1 ha (xs[0]'(by omega)) (List.getElem_mem _)
    rw [getD_at (by omega)] at h0
    rw [h0] at this
    simpa using this
  by_cases hk : k < xs.length
  · rw [getD_at hk]
    simpa using List.all_eq_true.1 ha xs[k] (List.getElem_mem hk)
  · rw [List.getD_eq_getElem?_getD, List.getElem?_eq_none (by omega)]; exact hz
/-- Two sets lose nothing together. -/
def joinB (xs : List Int) (a b : Nat) : Bool := decide (¬ ((a &&& b : Nat) : Int) = 0 ∨ xs.getD a 0 + xs.getD b 0 ≤ xs.getD (a ||| b) 0)

theorem add_bit : ∀ a < 64, ∀ i < 6, Nat.testBit a i = false → a + 2 ^ i = a ||| 2 ^ i := by decide +kernel
theorem toNat_pow {n : Int} {xs : List Int} (h : (xs.length : Int) = 2 ^ n.toNat) : xs.length = 2 ^ n.toNat := by
  have : ((2 ^ n.toNat : Nat) : Int) = 2 ^ n.toNat := by simp
  omega
/-- A player more. -/
theorem bit_up {m n q : Int} {xs : List Int} (hW : isW m n xs = true) {s : Nat} (hs : s < xs.length) (hq : 0 ≤ q ∧ q < n) (hb : s.testBit q.toNat = false) :
    (0 : Int) < 2 ^ q.toNat ∧ (2 : Int) ^ q.toNat ≤ 32 ∧ s + 2 ^ q.toNat = s ||| 2 ^ q.toNat ∧ s + 2 ^ q.toNat < xs.length ∧ ((s : Int) + 1 * 2 ^ q.toNat) = ((s + 2 ^ q.toNat : Nat) : Int) := by
  obtain ⟨h1, h2, h3, h4, _, _⟩ := isW_get hW
  have h5 := toNat_pow h2
  have e : (((2 : Nat) ^ q.toNat : Nat) : Int) = (2 : Int) ^ q.toNat := by simp
  have h6 := add_bit s (by omega) q.toNat (by omega) hb
  have h7 : (2 : Nat) ^ q.toNat < 2 ^ n.toNat := Nat.pow_lt_pow_right (by omega) (by omega)
  have h8 : s ||| 2 ^ q.toNat < 2 ^ n.toNat := or_lt _ (by omega) h7
  have h9 : (2 : Nat) ^ q.toNat ≤ 2 ^ 5 := Nat.pow_le_pow_right (by omega) (by omega)
  have h10 : 0 < (2 : Nat) ^ q.toNat := Nat.two_pow_pos _
  exact ⟨by omega, by omega, h6, by omega, by simp⟩
/-- The part of a set is worth no more. -/
def riseB (xs : List Int) (a b : Nat) : Bool := decide (¬ ((andn a b : Nat) : Int) = 0 ∨ xs.getD a 0 ≤ xs.getD b 0)
def riseS (xs : List Int) (s i : Nat) : Bool := s.testBit i || decide (xs.getD s 0 ≤ xs.getD (s + 2 ^ i) 0)
theorem rise_no {m n : Int} {b : Bool} {xs : List Int} (hW : isW m n xs = true) {s i : Nat} (hs : s < xs.length) (hi : (i : Int) < n) (hb : s.testBit (Int.toNat (i : Int)) = false) (c : xs.getD (s + 2 ^ Int.toNat (i : Int)) 0 < xs.getD s 0) : false = (b && allP xs.length (riseB xs)) := by
  rw [Int.toNat_natCast] at hb c
  obtain ⟨_, _, g3, g4, _⟩ := bit_up (q := (i : Int)) hW hs ⟨by omega, hi⟩ hb
  rw [Int.toNat_natCast] at g3 g4
  refine allP_no hs g4 ?_
  unfold riseB
  refine decide_eq_false ?_
  have : andn s (s + 2 ^ i) = 0 := by
    apply Nat.eq_of_testBit_eq
    intro j
    rw [andn_bit, g3, Nat.testBit_or]
    cases s.testBit j <;> simp
  rw [this]
  omega
theorem rise_all {m n : Int} {xs : List Int} (hW : isW m n xs = true) (h : ∀ s i : Nat, s < xs.length → (i : Int) < n → riseS xs s i = true) : ∀ (d a b : Nat), b - a ≤ d → a < xs.length → b < xs.length → andn a b = 0 → xs.getD a 0 ≤ xs.getD b 0 := by
  intro d
  induction d with
  | zero =>
    intro a b hd ha hb h0
    have hab : a ≤ b := by
      have : a = a &&& b := by
        apply Nat.eq_of_testBit_eq
        intro j
        have := congrArg (fun x => Nat.testBit x j) h0
        simp only [andn_bit, Nat.zero_testBit] at this
        rw [Nat.testBit_and]
        cases h1 : a.testBit j <;> cases h2 : b.testBit j <;> simp_all
      rw [this]; exact Nat.and_le_right
    have : a = b := by omega
    subst this; exact Int.le_refl _
  | succ d ih =>
    intro a b hd ha hb h0
    have hbit : ∀ j, a.testBit j = true → b.testBit j = true := fun j hj => by
      have := congrArg (fun x => Nat.testBit x j) h0
      simp only [andn_bit, Nat.zero_testBit, hj, Bool.true_and] at this
      simpa using this
    by_cases hab : a = b
    · subst hab; exact Int.le_refl _
    · have hex : ∃ j, a.testBit j = false ∧ b.testBit j = true := by
        refine Classical.byContradiction fun hn => hab ?_
        apply Nat.eq_of_testBit_eq
        intro j
        by_cases h1 : a.testBit j = true
        · rw [h1, hbit j h1]
        · have h2 : a.testBit j = false := by simpa using h1
          by_cases h3 : b.testBit j = true
          · exact absurd ⟨j, h2, h3⟩ hn
          · rw [h2]; simpa using h3
      obtain ⟨j, hj1, hj2⟩ := hex
      obtain ⟨h1, h2, h3, h4, _, _⟩ := isW_get hW
      have h5 := toNat_pow h2
      have hjn : (j : Int) < n := by
        refine Classical.byContradiction fun hn => ?_
        have : b.testBit j = false := Nat.testBit_lt_two_pow (Nat.lt_of_lt_of_le (h5 ▸ hb) (Nat.pow_le_pow_right (by omega) (by omega)))
        simp_all
      obtain ⟨g1, _, g3, g4, _⟩ := bit_up (q := (j : Int)) hW ha ⟨by omega, hjn⟩ hj1
      rw [Int.toNat_natCast] at g3 g4
      have hs := h a j ha hjn
      simp only [riseS, hj1, Bool.false_or, decide_eq_true_eq] at hs
      have h10 : 0 < (2 : Nat) ^ j := Nat.two_pow_pos _
      refine Int.le_trans hs (ih (a + 2 ^ j) b (by omega) g4 hb ?_)
      apply Nat.eq_of_testBit_eq
      intro l
      rw [andn_bit, g3, Nat.testBit_or, Nat.testBit_two_pow, Nat.zero_testBit]
      by_cases hl : j = l
      · subst hl; simp [hj2]
      · simp only [hl, decide_false, Bool.or_false]
        cases h7 : a.testBit l
        · rfl
        · simp [hbit l h7]
theorem rise_yes {m n : Int} {xs : List Int} {s : Nat} (hW : isW m n xs = true) (h : (List.range s).all (fun s => (List.range n.toNat).all (riseS xs s)) = true) (hs : ¬ (s : Int) < xs.length) : true = (isW m n xs && allP xs.length (riseB xs)) := by
  have h1 : ∀ s i : Nat, s < xs.length → (i : Int) < n → riseS xs s i = true := fun a i ha hi =>
    List.all_eq_true.1 (List.all_eq_true.1 h a (List.mem_range.2 (by omega))) i (List.mem_range.2 (by omega))
  rw [hW, Bool.true_and]
  refine (List.all_eq_true.2 fun a ha => List.all_eq_true.2 fun b hb => ?_).symm
  refine decide_eq_true ?_
  by_cases hz : andn a b = 0
  · exact .inr (rise_all hW h1 _ a b (Nat.le_refl _) (List.mem_range.1 ha) (List.mem_range.1 hb) hz)
  · exact .inl (by omega)
theorem rise_row {n : Int} {s : Nat} {f : Nat → Bool} (h : (List.range s).all f = true) (hs : ¬ (s : Int) < n) : (List.range n.toNat).all f = true :=
  List.all_eq_true.2 fun x hx => List.all_eq_true.1 h x (List.mem_range.2 (by have := List.mem_range.1 hx; omega))
theorem riseS_in {xs : List Int} {s i : Nat} (h : s.testBit (Int.toNat (i : Int)) = true) : riseS xs s i = true := by
  rw [Int.toNat_natCast] at h; rw [riseS, h]; rfl
theorem riseS_le {xs : List Int} {s i : Nat} (h : xs.getD s 0 ≤ xs.getD (s + 2 ^ Int.toNat (i : Int)) 0) : riseS xs s i = true := by
  rw [Int.toNat_natCast] at h; rw [riseS, decide_eq_true h, Bool.or_true]

/-! ## Functions that change a block -/
theorem rets_of {P : Program} {f : FuncId} {args : List Value} {h hb : AHeap} (hl : hb.length = h.length) (hc : Closed h → Closed hb) (t : Tri P f args h fun v h' => v = .tuple #[] ∧ Grown hb h') : Ret P f args h (.tuple #[]) hb :=
  Tri.forget hl (.tuple fun i hi => by simp at hi) hc t
theorem Closed.set {h : AHeap} (hc : Closed h) {k : Nat} {o : AObj} (ho : ∀ v ∈ o.cells, isPrim v = true) : Closed (h.set k o) := fun j x hx v hv => by
  rw [List.length_set]
  by_cases hj : j = k
  · subst hj
    by_cases hlt : j < h.length
    · rw [List.getElem?_set_self hlt] at hx; cases hx
      exact .prim (ho v hv)
    · rw [List.getElem?_eq_none (by simpa using hlt)] at hx; cases hx
  · rw [List.getElem?_set_ne (fun e => hj e.symm)] at hx
    exact hc j x hx v hv
theorem Closed.swap {h : AHeap} {o o' : AObj} (hc : Closed (h ++ [o])) (ho : ∀ v ∈ o'.cells, isPrim v = true) : Closed (h ++ [o']) := by
  have := hc.set (k := h.length) ho
  rwa [List.set_append_right _ _ (Nat.le_refl _), Nat.sub_self, List.set_cons_zero] at this
theorem one_shl (i : Nat) : (1 : Int) * 2 ^ i = ((2 ^ i : Nat) : Int) := by simp
theorem bit_not {s i : Nat} (c : ((s / 2 ^ i &&& 1 : Nat) : Int) = 0) : s.testBit i = false := by
  rw [Nat.and_one_is_mod] at c
  rw [Nat.testBit_eq_decide_div_mod_eq, decide_eq_false]; omega
theorem bit_yes {s i : Nat} (c : ¬ ((s / 2 ^ i &&& 1 : Nat) : Int) = 0) : s.testBit i = true := by
  rw [Nat.and_one_is_mod] at c
  rw [Nat.testBit_eq_decide_div_mod_eq, decide_eq_true]; omega
/-- A player brings nothing to the sets before s. -/
def nullB (xs : List Int) (q s : Nat) : Bool := (List.range s).all fun t => t.testBit q || decide (xs.getD (t + 2 ^ q) 0 - xs.getD t 0 = 0)
theorem nullB_step {xs : List Int} {q s : Nat} : nullB xs q (s + 1) = (nullB xs q s && (s.testBit q || decide (xs.getD (s + 2 ^ q) 0 - xs.getD s 0 = 0))) := by
  rw [nullB, List.range_succ, List.all_append]; simp [nullB]
theorem nullB_skip {xs : List Int} {q s : Nat} (h : s.testBit q = true) : nullB xs q (s + 1) = nullB xs q s := by rw [nullB_step, h]; simp
theorem nullB_no {xs : List Int} {q s n : Nat} (hs : s < n) (hb : s.testBit q = false) (c : ¬ xs.getD (s + 2 ^ q) 0 = xs.getD s 0) : nullB xs q n = false := by
  rw [nullB, List.all_eq_false]
  exact ⟨s, List.mem_range.2 hs, by rw [hb, decide_eq_false (by omega)]; decide⟩
theorem nullB_yes {b : Bool} {xs : List Int} {q s : Nat} (hb : b = true) (h : nullB xs q s = true) (hs : ¬ (s : Int) < xs.length) : true = (b && nullB xs q xs.length) := by
  have h1 := allP_row (n := xs.length) h hs
  rw [hb, Bool.true_and]
  exact h1.symm
theorem nullB_off {b : Bool} {xs : List Int} {q s n : Nat} (hs : s < n) (hb : s.testBit q = false) (c : ¬ xs.getD (s + 2 ^ q) 0 = xs.getD s 0) : false = (b && nullB xs q n) := by
  rw [nullB_no hs hb c, Bool.and_false]
theorem Ret.heap {P : Program} {f : FuncId} {a : List Value} {h h1 h2 : AHeap} {v : Value} (r : Ret P f a h v h1) (e : h1 = h2) : Ret P f a h v h2 := e ▸ r

/-! ## Marks -/
theorem retm_of {P : Program} {f : FuncId} {args : List Value} {h hb : AHeap} {V : Value} (hl : hb.length = h.length) (hw : Within h.length V) (hc : Closed h → Closed hb) (t : Tri P f args h fun v h' => v = V ∧ Grown hb h') : Ret P f args h V hb :=
  Tri.forget hl hw hc t
/-- The numbers from c on. -/
def upto (c : Int) (n : Nat) : List Int := (List.range n).map fun (i : Nat) => c + (i : Int)
theorem upto_len {c : Int} {n : Nat} : (upto c n).length = n := by simp [upto]
theorem upto_zero {c : Int} : upto c 0 = [] := rfl
theorem upto_succ {c : Int} {n : Nat} : upto c (n + 1) = upto c n ++ [c + (n : Int)] := by simp [upto, List.range_succ]
theorem upto_step {c : Int} {s : Nat} {xs : List Int} (hs : s < xs.length) : (upto c s ++ xs.drop s).set s (c + (s : Int)) = upto c (s + 1) ++ xs.drop (s + 1) := by
  rw [List.set_append_right _ _ (by rw [upto_len]; exact Nat.le_refl _), upto_len, Nat.sub_self, List.drop_eq_getElem_cons hs, List.set_cons_zero, upto_succ, List.append_assoc]; rfl
theorem upto_done {c : Int} {s : Nat} {xs : List Int} (hs : s = xs.length) : lst (upto c s ++ xs.drop s) = lst (upto c xs.length) := by subst hs; simp
theorem set_same {h : AHeap} {k : Nat} {o : AObj} (ho : h[k]? = some o) : h.set k o = h := by
  obtain ⟨hk, e⟩ := List.getElem?_eq_some_iff.1 ho
  subst e; exact List.set_getElem_self hk
theorem set_set {h : AHeap} {k : Nat} {o o' : AObj} : (h.set k o).set k o' = h.set k o' := List.set_set ..
theorem lk_set {h : AHeap} {k : Nat} {o : AObj} (hk : k < h.length) : (h.set k o)[k]? = some o := List.getElem?_set_self hk
def held (c : Int) (xs : List Int) : Int := if xs = upto c xs.length then c + xs.length else -1
theorem upto_take {c : Int} {s : Nat} {xs : List Int} (hs : s < xs.length) (h : xs.take s = upto c s) (e : xs.getD s 0 = c + (s : Int)) : xs.take (s + 1) = upto c (s + 1) := by
  rw [List.take_succ_eq_append_getElem hs, h, upto_succ, ← getD_at hs, e]
theorem held_yes {c : Int} {s : Nat} {xs : List Int} (h : xs.take s = upto c s) (hs : s = xs.length) : c + (s : Int) = held c xs := by
  subst hs; rw [List.take_length] at h; rw [held, if_pos h]
theorem held_no {c : Int} {s : Nat} {xs : List Int} (hs : s < xs.length) (h : ¬ xs.getD s 0 = c + (s : Int)) : (-1 : Int) = held c xs := by
  rw [held, if_neg fun e => h ?_]
  rw [getD_at hs]
  have : xs[s]? = (upto c xs.length)[s]? := by rw [← e]
  rw [List.getElem?_eq_getElem hs, upto, List.getElem?_map, List.getElem?_range hs] at this
  simpa using this

/-! ## Growing lists -/
section
variable {P : Program} {K : Value → AHeap → Prop} {env : Env} {h : AHeap} {dst : Option Tmp} {ty : TypeId} {pos : String} {after : Array Edge} {guard : Option (Nat × Bool)}
theorem news_ints {off : Nat} {o : AObj} {ys : List Int} (hz : ∀ (i : Nat) (z : Int), ys[i]? = some z → o.cells[off + i]? = some (i64 z)) : news o off (ys.length * 1) = ys.map i64 := by
  apply List.ext_getElem?
  intro i
  rw [Nat.mul_one]
  simp only [news, List.getElem?_map]
  by_cases hi : i < ys.length
  · rw [List.getElem?_take_of_lt hi, List.getElem?_drop, hz i _ (List.getElem?_eq_getElem hi), List.getElem?_eq_getElem hi]; rfl
  · rw [List.getElem?_eq_none (by simp; omega), List.getElem?_eq_none (by omega)]; rfl
/-- append(s, x...) of integers to a list of one's own. -/
theorem o_appendI {t e : TypeId} {s x : Operand} {k n : Nat} {xs ys : List Int} {v : Value} {h' : AHeap} (hu : P.underlying t = some (.slice e)) (hi : InfoIs P e (i64 0) 1 8)
    (hx : aeval env s = sl k n) (ho : h[k]? = some (lst xs)) (hn : xs.length = n) (hy : aeval env x = v) (hv : Ints h v ys)
    (hb : n + ys.length ≤ 1000000000) (hs : h.set k (lst (xs ++ ys)) = h') (hK : K (sl k (n + ys.length)) h') :
    AOp P ⟨dst, .call { callee := .builtin .append, args := #[s, x], argTypes := #[t, t] }, ty, pos, after, guard⟩ K env h := by
  obtain ⟨inf, g1, g2, g3, g4⟩ := hi.get
  subst hs hn
  have hno : (lst xs).cells.length = xs.length := by simp [lst]
  by_cases h0 : ys = []
  · subst h0
    refine aop_appendNone (q := match v with | .slice a _ _ => a | _ => none) (c2 := match v with | .slice _ _ c => c | _ => 0) hu g1 (.inr ⟨k, 0, _, _, _, lst xs, hx, ho, hno⟩) ?_ ?_ ?_
    · rcases hv with ⟨rfl, _⟩ | ⟨k2, off, ver, cap, o, rfl, _⟩ <;> exact hy
    · rcases hv with ⟨rfl, _⟩ | ⟨k2, off, ver, cap, o, rfl, h2, h3, _⟩
      · exact .inl ⟨rfl, rfl⟩
      · exact .inr ⟨k2, off, ver, o, rfl, h2, h3⟩
    · rw [hx]
      have : h.set k (lst (xs ++ [])) = h := by rw [List.append_nil]; exact set_same ho
      rw [this] at hK
      exact hK
  · rcases hv with ⟨_, rfl⟩ | ⟨k2, off, ver, cap, o, rfl, h2, h3, h4, h5, h6, h7⟩
    · exact absurd rfl h0
    · have hpos : 0 < ys.length := List.length_pos_iff.2 h0
      have hnews := news_ints h7
      refine aop_append (o := lst xs) (o2 := o) (m := ys.length) hu g1 g2 (by rw [g3]; rfl) (by rw [g3]; rfl) (by show 0 < 1; decide) (by rw [h4]; rfl) hx ho hno (by show xs.length * 1 = _; omega) rfl hy h2 h3
        (by show (news o off (ys.length * 1)).all oneCellA = true; rw [hnews]; simp [List.all_map]; intro a _; rfl) hpos (by rw [g4]; omega) (by omega) ?_
      have e1 : (lst xs).esz = 1 := rfl
      rw [e1, hnews]
      have e2 : (⟨(lst xs).cells ++ ys.map i64, true, 1⟩ : AObj) = lst (xs ++ ys) := by simp [lst]
      rw [e2, Nat.mul_one]
      exact hK
end

section
variable {P : Program} {K : Value → AHeap → Prop} {env : Env} {h : AHeap} {dst : Option Tmp} {ty : TypeId} {pos : String} {after : Array Edge} {guard : Option (Nat × Bool)}
theorem fill1 (p : Int) : Instr.fill (fun k => some (k * 1, 1)) (Array.map (fun x => (i64 0).cells[x % (i64 0).cells.size]!) (Array.range (1 * 1))) [(0, i64 p)] = some #[i64 p] := by
  have e : Array.range (1 * 1) = #[0] := by decide
  rw [e]
  simp [Instr.fill, Value.cells]
theorem fill2 (p q : Int) : Instr.fill (fun k => some (k * 1, 1)) (Array.map (fun x => (i64 0).cells[x % (i64 0).cells.size]!) (Array.range (2 * 1))) [(0, i64 p), (1, i64 q)] = some #[i64 p, i64 q] := by
  have e : Array.range (2 * 1) = #[0, 1] := by decide
  rw [e]
  simp [Instr.fill, Value.cells]
theorem o_buildI0 {t e : TypeId} {b : Nat} (hu : P.underlying t = some (.slice e)) (hi : InfoIs P e (i64 0) 1 b) (hK : ∀ k, k = h.length → K (sl k 0) (h ++ [lst []])) :
    AOp P ⟨dst, .buildSlice t 0 #[], ty, pos, after, guard⟩ K env h := by
  obtain ⟨inf, g1, g2, g3, g4⟩ := hi.get
  refine aop_buildSlice (out := #[]) hu g1 g2 rfl (by rw [g3]; rfl) (by omega) (by omega) (by simp [Instr.fill]) (by simp) ?_
  have := hK h.length rfl
  rw [g3]; exact this
theorem o_buildI1 {t e : TypeId} {b : Nat} {x : Operand} {p : Int} (hu : P.underlying t = some (.slice e)) (hi : InfoIs P e (i64 0) 1 b) (hx : aeval env x = i64 p) (hK : ∀ k, k = h.length → K (sl k 1) (h ++ [lst [p]])) :
    AOp P ⟨dst, .buildSlice t 1 #[(0, x)], ty, pos, after, guard⟩ K env h := by
  obtain ⟨inf, g1, g2, g3, g4⟩ := hi.get
  refine aop_buildSlice (out := #[i64 p]) hu g1 g2 rfl (by rw [g3]; rfl) (by omega) (by omega) (by rw [g3]; simp only [List.map_cons, List.map_nil, hx]; exact fill1 p) (by simp [g3]) ?_
  have := hK h.length rfl
  rw [g3]; exact this
theorem o_buildI2 {t e : TypeId} {b : Nat} {x y : Operand} {p q : Int} (hu : P.underlying t = some (.slice e)) (hi : InfoIs P e (i64 0) 1 b) (hx : aeval env x = i64 p) (hy : aeval env y = i64 q) (hK : ∀ k, k = h.length → K (sl k 2) (h ++ [lst [p, q]])) :
    AOp P ⟨dst, .buildSlice t 2 #[(0, x), (1, y)], ty, pos, after, guard⟩ K env h := by
  obtain ⟨inf, g1, g2, g3, g4⟩ := hi.get
  refine aop_buildSlice (out := #[i64 p, i64 q]) hu g1 g2 rfl (by rw [g3]; rfl) (by omega) (by omega) (by rw [g3]; simp only [List.map_cons, List.map_nil, hx, hy]; exact fill2 p q) (by simp [g3]) ?_
  have := hK h.length rfl
  rw [g3]; exact this
end
/-- Two players bring the same to the sets before s. -/
def alikeB (xs : List Int) (i k s : Nat) : Bool := (List.range s).all fun t => t.testBit i || (t.testBit k || decide (xs.getD (t + 2 ^ i) 0 - xs.getD t 0 = xs.getD (t + 2 ^ k) 0 - xs.getD t 0))
theorem alikeB_step {xs : List Int} {i k s : Nat} : alikeB xs i k (s + 1) = (alikeB xs i k s && (s.testBit i || (s.testBit k || decide (xs.getD (s + 2 ^ i) 0 - xs.getD s 0 = xs.getD (s + 2 ^ k) 0 - xs.getD s 0)))) := by
  rw [alikeB, List.range_succ, List.all_append]; simp [alikeB]
theorem alikeB_skip {xs : List Int} {i k s : Nat} (h : s.testBit i = true) : alikeB xs i k (s + 1) = alikeB xs i k s := by rw [alikeB_step, h]; simp
theorem alikeB_yes {b : Bool} {xs : List Int} {i k s : Nat} (hb : b = true) (h : alikeB xs i k s = true) (hs : ¬ (s : Int) < xs.length) : true = (b && alikeB xs i k xs.length) := by
  have h1 := allP_row (n := xs.length) h hs
  rw [hb, Bool.true_and]
  exact h1.symm
theorem alikeB_off {b : Bool} {xs : List Int} {i k s n : Nat} (hs : s < n) (hb : s.testBit i = false) (hb2 : s.testBit k = false) (c : ¬ xs.getD (s + 2 ^ i) 0 = xs.getD (s + 2 ^ k) 0) : false = (b && alikeB xs i k n) := by
  have : alikeB xs i k n = false := by
    rw [alikeB, List.all_eq_false]
    exact ⟨s, List.mem_range.2 hs, by rw [hb, hb2, decide_eq_false (by omega)]; decide⟩
  rw [this, Bool.and_false]
theorem lst_prim {xs : List Int} : ∀ v ∈ (lst xs).cells, isPrim v = true := fun v hv => by
  simp only [lst, List.mem_map] at hv
  obtain ⟨z, _, rfl⟩ := hv
  rfl
end Go.Am
