/-
  The abstract heap: what this claim needs of it. General: no program is named.
-/
import Derived.Test.YtcemfhppopmamaaAmG2
import Derived.Laws.Small
import Derived.Laws.IdiomCopy
import Derived.Laws.Entries
import Derived.Laws.FloatArith
import Derived.KernelRfl
namespace Go.Am
set_option linter.unusedSimpArgs false
set_option linter.unusedVariables false

/-- A part of a slice. -/
def subv (v : Value) (l r : Nat) : Value := match v with
  | .slice (some ⟨k, off, ver⟩) _ c => .slice (some ⟨k, off + l, ver⟩) (r - l) (c - l)
  | x => x

/-- A part of a list. -/
def part (xs : List Int) (l r : Nat) : List Int := (xs.drop l).take (r - l)

theorem part_len {xs : List Int} {l r : Nat} (h1 : l ≤ r) (h2 : r ≤ xs.length) : (part xs l r).length = r - l := by
  simp [part]; omega

theorem Ints.sub {h : AHeap} {v : Value} {xs : List Int} (hv : Ints h v xs) {l r : Nat} (h0 : 0 < xs.length) (h1 : l ≤ r) (h2 : r ≤ xs.length) : Ints h (subv v l r) (part xs l r) := by
  rcases hv with ⟨rfl, rfl⟩ | ⟨k, off, ver, cap, o, rfl, g2, g3, g4, g5, g6, g7⟩
  · simp at h0
  · refine .inr ⟨k, off + l, ver, cap - l, o, by rw [part_len h1 h2]; rfl, g2, g3, g4, by rw [part_len h1 h2]; omega, by omega, fun i z hz => ?_⟩
    rw [Nat.add_assoc]
    refine g7 _ z ?_
    have hi : i < (part xs l r).length := (List.getElem?_eq_some_iff.1 hz).1
    rw [part_len h1 h2] at hi
    simp only [part, List.getElem?_take_of_lt hi, List.getElem?_drop] at hz
    exact hz

theorem within_sub {n : Nat} {v : Value} {l r : Nat} (hv : Within n v) : Within n (subv v l r) := by
  unfold subv
  split
  · cases hv with
    | prim h => cases h
    | slice h => exact .slice h
  · exact hv

section
variable {P : Program} {K : Value → AHeap → Prop} {env : Env} {h : AHeap} {dst : Option Tmp} {ty : TypeId} {pos : String} {after : Array Edge} {guard : Option (Nat × Bool)}
end

/-- The sum of a list, as the program counts. -/
def sumW (xs : List Int) : Int := xs.foldl (fun a x => IntKind.i64.wrap (a + x)) 0
/-- A valid cake. -/
def validC (p q : Int) (xs : List Int) : Bool :=
  decide (1 ≤ p ∧ p ≤ 6) && decide (1 ≤ q ∧ q ≤ 16) && decide ((xs.length : Int) = p * q) && xs.all (fun n => decide (0 ≤ n ∧ n ≤ 1000)) &&
    (List.range p.toNat).all fun i => decide (¬ sumW (part xs ((i : Int) * q).toNat (((i : Int) + 1) * q).toNat) = 0)
theorem many_of {n : Int} {xs : List Int} {b : Bool} (c : (decide (n ≤ xs.length ∧ xs.length ≤ n) && b) = true) : (xs.length : Int) = n ∧ b = true := by
  simp only [Bool.and_eq_true, decide_eq_true_eq] at c; exact ⟨by omega, c.2⟩

/-! ## Bits -/
theorem bits_and {a b : Nat} (ha : a < 4611686018427387904) : bits .and .i64 (a : Int) (b : Int) = ((a &&& b : Nat) : Int) := by
  have h1 : a &&& b ≤ a := Nat.and_le_left
  have e : (BitVec.ofInt 64 (a : Int) &&& BitVec.ofInt 64 (b : Int)).toNat = a &&& b := by
    rw [BitVec.ofInt_natCast, BitVec.ofInt_natCast, ← BitVec.ofNat_and, BitVec.toNat_ofNat, Nat.mod_eq_of_lt (by omega)]
  show IntKind.i64.wrap ((BitVec.ofInt 64 (a : Int) &&& BitVec.ofInt 64 (b : Int)).toNat : Int) = _
  rw [e, wrap_id (by omega) (by omega)]
theorem or_lt {a b : Nat} (n : Nat) (ha : a < 2 ^ n) (hb : b < 2 ^ n) : a ||| b < 2 ^ n := Nat.or_lt_two_pow ha hb
theorem bits_or {a b : Nat} (ha : a < 4611686018427387904) (hb : b < 4611686018427387904) : bits .or .i64 (a : Int) (b : Int) = ((a ||| b : Nat) : Int) := by
  have h1 : a ||| b < 2 ^ 62 := or_lt 62 (by simpa using ha) (by simpa using hb)
  have e : (BitVec.ofInt 64 (a : Int) ||| BitVec.ofInt 64 (b : Int)).toNat = a ||| b := by
    rw [BitVec.ofInt_natCast, BitVec.ofInt_natCast, ← BitVec.ofNat_or, BitVec.toNat_ofNat, Nat.mod_eq_of_lt (by omega)]
  show IntKind.i64.wrap ((BitVec.ofInt 64 (a : Int) ||| BitVec.ofInt 64 (b : Int)).toNat : Int) = _
  rw [e, wrap_id (by omega) (by omega)]
/-- A set without another one. -/
def andn (a b : Nat) : Nat := a ^^^ (a &&& b)
theorem andn_bit (a b i : Nat) : (andn a b).testBit i = (a.testBit i && !b.testBit i) := by
  simp only [andn, Nat.testBit_xor, Nat.testBit_and]
  cases a.testBit i <;> cases b.testBit i <;> rfl
theorem andn_le (a b : Nat) : andn a b ≤ a := by
  have : andn a b = andn a b &&& a := by
    apply Nat.eq_of_testBit_eq
    intro i
    rw [Nat.testBit_and, andn_bit]
    cases a.testBit i <;> cases b.testBit i <;> rfl
  rw [this]; exact Nat.and_le_right
theorem bits_andNot {a b : Nat} (ha : a < 4611686018427387904) : bits .andNot .i64 (a : Int) (b : Int) = ((andn a b : Nat) : Int) := by
  have h1 := andn_le a b
  have e : (BitVec.ofInt 64 (a : Int) &&& ~~~ BitVec.ofInt 64 (b : Int)) = BitVec.ofNat 64 (andn a b) := by
    rw [BitVec.ofInt_natCast, BitVec.ofInt_natCast]
    apply BitVec.eq_of_getLsbD_eq
    intro i hi
    simp only [BitVec.getLsbD_and, BitVec.getLsbD_not, BitVec.getLsbD_ofNat, andn_bit, hi, decide_true, Bool.true_and]
  show IntKind.i64.wrap ((BitVec.ofInt 64 (a : Int) &&& ~~~ BitVec.ofInt 64 (b : Int)).toNat : Int) = _
  rw [e, BitVec.toNat_ofNat, Nat.mod_eq_of_lt (by omega), wrap_id (by omega) (by omega)]

section
variable {P : Program} {K : Value → AHeap → Prop} {env : Env} {h : AHeap} {dst : Option Tmp} {ty t yt : TypeId} {pos : String} {after : Array Edge} {guard : Option (Nat × Bool)} {x y : Operand}
theorem o_and {p q : Int} {a b : Nat} (hx : aeval env x = i64 p) (hy : aeval env y = i64 q) (e1 : p = (a : Int)) (e2 : q = (b : Int)) (ha : a < 4611686018427387904) (hK : K (i64 ((a &&& b : Nat) : Int)) h) :
    AOp P ⟨dst, .binOp .and t x y yt, ty, pos, after, guard⟩ K env h := by
  subst e1 e2; exact o_bin hx hy (v := i64 ((a &&& b : Nat) : Int)) (by simp only [binInt, bits_and ha]) hK
theorem o_or {p q : Int} {a b : Nat} (hx : aeval env x = i64 p) (hy : aeval env y = i64 q) (e1 : p = (a : Int)) (e2 : q = (b : Int)) (ha : a < 4611686018427387904) (hb : b < 4611686018427387904) (hK : K (i64 ((a ||| b : Nat) : Int)) h) :
    AOp P ⟨dst, .binOp .or t x y yt, ty, pos, after, guard⟩ K env h := by
  subst e1 e2; exact o_bin hx hy (v := i64 ((a ||| b : Nat) : Int)) (by simp only [binInt, bits_or ha hb]) hK
theorem o_andNot {p q : Int} {a b : Nat} (hx : aeval env x = i64 p) (hy : aeval env y = i64 q) (e1 : p = (a : Int)) (e2 : q = (b : Int)) (ha : a < 4611686018427387904) (hK : K (i64 ((andn a b : Nat) : Int)) h) :
    AOp P ⟨dst, .binOp .andNot t x y yt, ty, pos, after, guard⟩ K env h := by
  subst e1 e2; exact o_bin hx hy (v := i64 ((andn a b : Nat) : Int)) (by simp only [binInt, bits_andNot ha]) hK
theorem o_neg {p : Int} (hx : aeval env x = i64 p) (h1 : -1000000000000 ≤ p) (h2 : p ≤ 1000000000000) (hK : K (i64 (-p)) h) : AOp P ⟨dst, .unOp .neg t x, ty, pos, after, guard⟩ K env h :=
  aop_neg hx (by rw [wrap_id (by omega) (by omega), Int.zero_sub]; exact hK)
theorem o_convU {src d : TypeId} {k : IntKind} {p : Int} {sd : TypeDesc} (hs : P.underlying src = some sd) (hd : P.underlying d = some (.int .u64))
    (hx : aeval env x = .int k p) (h1 : 0 ≤ p) (h2 : p ≤ 9223372036854775807) (hK : K (.int .u64 p) h) : AOp P ⟨dst, .convert src d x, ty, pos, after, guard⟩ K env h :=
  aop_conv_int hs hd hx (by
    have : IntKind.u64.wrap p = p := by simp only [IntKind.wrap, IntKind.bits, IntKind.signed, Bool.false_and, Bool.false_eq_true, if_false]; omega
    rw [this]; exact hK)
end
theorem amap0 {f : Operand → Value} : (#[] : Array Operand).map f = #[] := by simp
theorem amap1 {f : Operand → Value} {x : Operand} {v : Value} (h : f x = v) : #[x].map f = #[v] := by simp [h]
theorem amap2 {f : Operand → Value} {x y : Operand} {v w : Value} (h : f x = v) (h2 : f y = w) : #[x, y].map f = #[v, w] := by simp [h, h2]
theorem amap4 {f : Operand → Value} {x y z a : Operand} {v w u t : Value} (h : f x = v) (h2 : f y = w) (h3 : f z = u) (h4 : f a = t) : #[x, y, z, a].map f = #[v, w, u, t] := by simp [h, h2, h3, h4]
theorem bit_is {s i : Nat} : ((s / 2 ^ i &&& 1 : Nat) : Int) = 1 ↔ s.testBit i = true := by
  rw [Nat.and_one_is_mod, Nat.testBit_eq_decide_div_mod_eq, decide_eq_true_eq]; omega
theorem pow_bound {n : Int} (h : 1 ≤ n ∧ n ≤ 6) : (2 : Int) ≤ 2 ^ n.toNat ∧ (2 : Int) ^ n.toNat ≤ 64 := by
  obtain ⟨h1, h2⟩ := h
  have : n = 1 ∨ n = 2 ∨ n = 3 ∨ n = 4 ∨ n = 5 ∨ n = 6 := by omega
  rcases this with rfl | rfl | rfl | rfl | rfl | rfl <;> decide

/-! ## Worths of sets -/
def isW (m n : Int) (xs : List Int) : Bool :=
  decide (1 ≤ n ∧ n ≤ 6) && decide ((xs.length : Int) = 2 ^ n.toNat) && decide (xs.getD 0 0 = 0) && xs.all (fun x => decide (-m ≤ x ∧ x ≤ m))
theorem isW_get {m n : Int} {xs : List Int} (h : isW m n xs = true) : (1 ≤ n ∧ n ≤ 6) ∧ (xs.length : Int) = 2 ^ n.toNat ∧ 2 ≤ xs.length ∧ xs.length ≤ 64 ∧ xs.getD 0 0 = 0 ∧ xs.all (fun x => decide (-m ≤ x ∧ x ≤ m)) = true := by
  simp only [isW, Bool.and_eq_true, decide_eq_true_eq] at h
  have := pow_bound h.1.1.1
  exact ⟨h.1.1.1, h.1.1.2, by omega, by omega, h.1.2, h.2⟩
theorem nat_shr (s i : Nat) : ((s / 2 ^ i : Nat) : Int) = (s : Int) / 2 ^ i := by simp
theorem isW_yes {m n : Int} {xs : List Int} (c1 : decide (1 ≤ n ∧ n ≤ 6) = true) (c2 : (xs.length : Int) = 2 ^ n.toNat) (c3 : xs.getD 0 0 = 0) (c4 : xs.all (fun x => decide (-m ≤ x ∧ x ≤ m)) = true) : true = isW m n xs := by
  rw [isW, c1, decide_eq_true c2, decide_eq_true c3, c4]; rfl
theorem isW_no0 {m n : Int} {xs : List Int} (c : decide (1 ≤ n ∧ n ≤ 6) = false) : false = isW m n xs := by rw [isW, c]; simp
theorem isW_noZ {m n : Int} {xs : List Int} (c : ¬ xs.getD 0 0 = 0) : false = isW m n xs := by rw [isW, decide_eq_false c]; simp
theorem isW_noM {m n : Int} {xs : List Int} (c : (decide ((1 : Int) * 2 ^ n.toNat ≤ xs.length ∧ (xs.length : Int) ≤ 1 * 2 ^ n.toNat) && xs.all (fun x => decide (-m ≤ x ∧ x ≤ m))) = false) : false = isW m n xs := by
  rw [isW]
  rcases Bool.and_eq_false_iff.1 c with c | c
  · rw [decide_eq_false (p := ((xs.length : Int) = 2 ^ n.toNat)) (by have := of_decide_eq_false c; omega)]; simp
  · rw [c]; simp

theorem tup2 {a b a' b' : Bool} (h1 : a = a') (h2 : b = b') : packR [.bool a, .bool b] = .tuple #[.bool a', .bool b'] := by rw [h1, h2]; rfl
theorem within_tup2 {n : Nat} {a b : Value} (h1 : Within n a) (h2 : Within n b) : Within n (.tuple #[a, b]) := .tuple fun i hi => by
  match i, hi with
  | 0, _ => exact h1
  | 1, _ => exact h2
theorem isW_bnd {m n : Int} {xs : List Int} (h : isW m n xs = true) (k : Nat) : -m ≤ xs.getD k 0 ∧ xs.getD k 0 ≤ m := by
  obtain ⟨_, _, h2, _, h0, ha⟩ := isW_get h
  have hz : -m ≤ 0 ∧ 0 ≤ m := by
    have := List.all_eq_true.1 ha (xs[0]'(by omega)) (List.getElem_mem _)
    rw [getD_at (by omega)] at h0
    rw [h0] at this
    simpa using this
  by_cases hk : k < xs.length
  · rw [getD_at hk]
    simpa using List.all_eq_true.1 ha xs[k] (List.getElem_mem hk)
  · rw [List.getD_eq_getElem?_getD, List.getElem?_eq_none (by omega)]; exact hz
theorem toNat_pow {n : Int} {xs : List Int} (h : (xs.length : Int) = 2 ^ n.toNat) : xs.length = 2 ^ n.toNat := by
  have : ((2 ^ n.toNat : Nat) : Int) = 2 ^ n.toNat := by simp
  omega
/-! ## Functions that change a block -/
theorem Closed.set {h : AHeap} (hc : Closed h) {k : Nat} {o : AObj} (ho : ∀ v ∈ o.cells, isPrim v = true) : Closed (h.set k o) := fun j x hx v hv => by
  rw [List.length_set]
  by_cases hj : j = k
  · subst hj
    by_cases hlt : j < h.length
    · rw [List.getElem?_set_self hlt] at hx; cases hx
      exact .prim (ho v hv)
    · rw [List.getElem?_eq_none (by simpa using hlt)] at hx; cases hx
  · rw [List.getElem?_set_ne (fun e => hj e.symm)] at hx
    exact hc j x hx v hv
theorem one_shl (i : Nat) : (1 : Int) * 2 ^ i = ((2 ^ i : Nat) : Int) := by simp
theorem Ret.heap {P : Program} {f : FuncId} {a : List Value} {h h1 h2 : AHeap} {v : Value} (r : Ret P f a h v h1) (e : h1 = h2) : Ret P f a h v h2 := e ▸ r

/-! ## Marks -/
/-- The numbers from c on. -/
def upto (c : Int) (n : Nat) : List Int := (List.range n).map fun (i : Nat) => c + (i : Int)
theorem upto_len {c : Int} {n : Nat} : (upto c n).length = n := by simp [upto]
theorem set_same {h : AHeap} {k : Nat} {o : AObj} (ho : h[k]? = some o) : h.set k o = h := by
  obtain ⟨hk, e⟩ := List.getElem?_eq_some_iff.1 ho
  subst e; exact List.set_getElem_self hk
theorem set_set {h : AHeap} {k : Nat} {o o' : AObj} : (h.set k o).set k o' = h.set k o' := List.set_set ..
theorem lk_set {h : AHeap} {k : Nat} {o : AObj} (hk : k < h.length) : (h.set k o)[k]? = some o := List.getElem?_set_self hk
/-! ## Growing lists -/
section
variable {P : Program} {K : Value → AHeap → Prop} {env : Env} {h : AHeap} {dst : Option Tmp} {ty : TypeId} {pos : String} {after : Array Edge} {guard : Option (Nat × Bool)}
theorem news_ints {off : Nat} {o : AObj} {ys : List Int} (hz : ∀ (i : Nat) (z : Int), ys[i]? = some z → o.cells[off + i]? = some (i64 z)) : news o off (ys.length * 1) = ys.map i64 := by
  apply List.ext_getElem?
  intro i
  rw [Nat.mul_one]
  simp only [news, List.getElem?_map]
  by_cases hi : i < ys.length
  · rw [List.getElem?_take_of_lt hi, List.getElem?_drop, hz i _ (List.getElem?_eq_getElem hi), List.getElem?_eq_getElem hi]; rfl
  · rw [List.getElem?_eq_none (by simp; omega), List.getElem?_eq_none (by omega)]; rfl
/-- append(s, x...) of integers to a list of one's own. -/
theorem o_appendI {t e : TypeId} {s x : Operand} {k n : Nat} {xs ys : List Int} {v : Value} {h' : AHeap} (hu : P.underlying t = some (.slice e)) (hi : InfoIs P e (i64 0) 1 8)
    (hx : aeval env s = sl k n) (ho : h[k]? = some (lst xs)) (hn : xs.length = n) (hy : aeval env x = v) (hv : Ints h v ys)
    (hb : n + ys.length ≤ 1000000000) (hs : h.set k (lst (xs ++ ys)) = h') (hK : K (sl k (n + ys.length)) h') :
    AOp P ⟨dst, .call { callee := .builtin .append, args := #[s, x], argTypes := #[t, t] }, ty, pos, after, guard⟩ K env h := by
  obtain ⟨inf, g1, g2, g3, g4⟩ := hi.get
  subst hs hn
  have hno : (lst xs).cells.length = xs.length := by simp [lst]
  by_cases h0 : ys = []
  · subst h0
    refine aop_appendNone (q := match v with | .slice a _ _ => a | _ => none) (c2 := match v with | .slice _ _ c => c | _ => 0) hu g1 (.inr ⟨k, 0, _, _, _, lst xs, hx, ho, hno⟩) ?_ ?_ ?_
    · rcases hv with ⟨rfl, _⟩ | ⟨k2, off, ver, cap, o, rfl, _⟩ <;> exact hy
    · rcases hv with ⟨rfl, _⟩ | ⟨k2, off, ver, cap, o, rfl, h2, h3, _⟩
      · exact .inl ⟨rfl, rfl⟩
      · exact .inr ⟨k2, off, ver, o, rfl, h2, h3⟩
    · rw [hx]
      have : h.set k (lst (xs ++ [])) = h := by rw [List.append_nil]; exact set_same ho
      rw [this] at hK
      exact hK
  · rcases hv with ⟨_, rfl⟩ | ⟨k2, off, ver, cap, o, rfl, h2, h3, h4, h5, h6, h7⟩
    · exact absurd rfl h0
    · have hpos : 0 < ys.length := List.length_pos_iff.2 h0
      have hnews := news_ints h7
      refine aop_append (o := lst xs) (o2 := o) (m := ys.length) hu g1 g2 (by rw [g3]; rfl) (by rw [g3]; rfl) (by show 0 < 1; decide) (by rw [h4]; rfl) hx ho hno (by show xs.length * 1 = _; omega) rfl hy h2 h3
        (by show (news o off (ys.length * 1)).all oneCellA = true; rw [hnews]; simp [List.all_map]; intro a _; rfl) hpos (by rw [g4]; omega) (by omega) ?_
      have e1 : (lst xs).esz = 1 := rfl
      rw [e1, hnews]
      have e2 : (⟨(lst xs).cells ++ ys.map i64, true, 1⟩ : AObj) = lst (xs ++ ys) := by simp [lst]
      rw [e2, Nat.mul_one]
      exact hK
end

section
variable {P : Program} {K : Value → AHeap → Prop} {env : Env} {h : AHeap} {dst : Option Tmp} {ty : TypeId} {pos : String} {after : Array Edge} {guard : Option (Nat × Bool)}
theorem fill1 (p : Int) : Instr.fill (fun k => some (k * 1, 1)) (Array.map (fun x => (i64 0).cells[x % (i64 0).cells.size]!) (Array.range (1 * 1))) [(0, i64 p)] = some #[i64 p] := by
  have e : Array.range (1 * 1) = #[0] := by decide
  rw [e]
  simp [Instr.fill, Value.cells]
theorem fill2 (p q : Int) : Instr.fill (fun k => some (k * 1, 1)) (Array.map (fun x => (i64 0).cells[x % (i64 0).cells.size]!) (Array.range (2 * 1))) [(0, i64 p), (1, i64 q)] = some #[i64 p, i64 q] := by
  have e : Array.range (2 * 1) = #[0, 1] := by decide
  rw [e]
  simp [Instr.fill, Value.cells]
theorem o_buildI0 {t e : TypeId} {b : Nat} (hu : P.underlying t = some (.slice e)) (hi : InfoIs P e (i64 0) 1 b) (hK : ∀ k, k = h.length → K (sl k 0) (h ++ [lst []])) :
    AOp P ⟨dst, .buildSlice t 0 #[], ty, pos, after, guard⟩ K env h := by
  obtain ⟨inf, g1, g2, g3, g4⟩ := hi.get
  refine aop_buildSlice (out := #[]) hu g1 g2 rfl (by rw [g3]; rfl) (by omega) (by omega) (by simp [Instr.fill]) (by simp) ?_
  have := hK h.length rfl
  rw [g3]; exact this
theorem o_buildI1 {t e : TypeId} {b : Nat} {x : Operand} {p : Int} (hu : P.underlying t = some (.slice e)) (hi : InfoIs P e (i64 0) 1 b) (hx : aeval env x = i64 p) (hK : ∀ k, k = h.length → K (sl k 1) (h ++ [lst [p]])) :
    AOp P ⟨dst, .buildSlice t 1 #[(0, x)], ty, pos, after, guard⟩ K env h := by
  obtain ⟨inf, g1, g2, g3, g4⟩ := hi.get
  refine aop_buildSlice (out := #[i64 p]) hu g1 g2 rfl (by rw [g3]; rfl) (by omega) (by omega) (by rw [g3]; simp only [List.map_cons, List.map_nil, hx]; exact fill1 p) (by simp [g3]) ?_
  have := hK h.length rfl
  rw [g3]; exact this
theorem o_buildI2 {t e : TypeId} {b : Nat} {x y : Operand} {p q : Int} (hu : P.underlying t = some (.slice e)) (hi : InfoIs P e (i64 0) 1 b) (hx : aeval env x = i64 p) (hy : aeval env y = i64 q) (hK : ∀ k, k = h.length → K (sl k 2) (h ++ [lst [p, q]])) :
    AOp P ⟨dst, .buildSlice t 2 #[(0, x), (1, y)], ty, pos, after, guard⟩ K env h := by
  obtain ⟨inf, g1, g2, g3, g4⟩ := hi.get
  refine aop_buildSlice (out := #[i64 p, i64 q]) hu g1 g2 rfl (by rw [g3]; rfl) (by omega) (by omega) (by rw [g3]; simp only [List.map_cons, List.map_nil, hx, hy]; exact fill2 p q) (by simp [g3]) ?_
  have := hK h.length rfl
  rw [g3]; exact this
end
theorem lst_prim {xs : List Int} : ∀ v ∈ (lst xs).cells, isPrim v = true := fun v hv => by
  simp only [lst, List.mem_map] at hv
  obtain ⟨z, _, rfl⟩ := hv
  rfl
end Go.Am

namespace Go.Am
set_option linter.unusedSimpArgs false
set_option linter.unusedVariables false

/-! ## Lists that are built -/
theorem map_step {f : Nat → Int} {s : Nat} : (List.range s).map f ++ [f s] = (List.range (s + 1)).map f := by rw [List.range_succ, List.map_append]; rfl
theorem map_len {f : Nat → Int} {s : Nat} : ((List.range s).map f).length = s := by simp
theorem map_get {f : Nat → Int} {s n : Nat} (h : s < n) : ((List.range n).map f).getD s 0 = f s := by
  rw [List.getD_eq_getElem?_getD, List.getElem?_map, List.getElem?_range h]; rfl

theorem Grown.eq {h h' g : AHeap} (p : Grown h h') (e : g = h) : Grown g h' := by subst e; exact p

/-! ## A nil slice in a variable, seen as an empty list -/
theorem vrel_ghost {m : Map} {h : AHeap} {l : Loc} {k : Nat} (ho : h[k]? = some (lst [])) (hm : m k = some l) : VRel m h (sl k 0) (.slice none 0 0) :=
  .slice ho (Nat.zero_le _) ⟨_, _, _, rfl⟩ fun _ => ⟨l, hm, none, 0, rfl, Nat.le_refl _, Nat.le_refl _, rfl, fun hlt => absurd hlt (by simp [lst]), fun _ => ⟨fun hlt => absurd hlt (by simp [lst]), fun _ => rfl⟩⟩
def GCells (k : Nat) (cs cs' : List Value) : Prop := cs.length = cs'.length ∧ ∀ i (h1 : i < cs.length) (h2 : i < cs'.length), cs'[i] = cs[i] ∨ (cs[i] = .slice none 0 0 ∧ cs'[i] = sl k 0)
theorem gcells2 {k : Nat} {a : Value} : GCells k [a, .slice none 0 0] [a, sl k 0] := ⟨rfl, fun i h1 h2 => by
  match i, h1 with
  | 0, _ => exact .inl rfl
  | 1, _ => exact .inr ⟨rfl, rfl⟩⟩
theorem awp_ghost {P : Program} {n : Nat} {c : Code} {Q : Exit → Env → AHeap → Prop} {env : Env} {h h2 : AHeap} {k kw : Nat} {cs cs' : List Value} (hk : k = h.length) (ho : h[kw]? = some ⟨cs, true, 1⟩)
    (hs : h.set kw ⟨cs', true, 1⟩ = h2) (hc : GCells k cs cs') (hw : AWp P n c Q env (h2 ++ [lst []])) : AWp P n c Q env h := by
  intro m w a hr he
  subst hk hs
  obtain ⟨hkw, _⟩ := List.getElem?_eq_some_iff.1 ho
  have hlen : (h.set kw ⟨cs', true, 1⟩).length = h.length := by simp
  have mold : ∀ {j}, j < h.length → m.push h.length ⟨0, 0, 0⟩ j = m j := fun {j} hj => by simp [Map.push, Nat.ne_of_lt hj]
  have mnew : m.push h.length ⟨0, 0, 0⟩ h.length = some ⟨0, 0, 0⟩ := by simp [Map.push]
  have gnew : (h.set kw ⟨cs', true, 1⟩ ++ [lst []])[h.length]? = some (lst []) := lk_last hlen.symm
  have gkw : (h.set kw ⟨cs', true, 1⟩ ++ [lst []])[kw]? = some ⟨cs', true, 1⟩ := lk_prev (lk_set hkw)
  have gold : ∀ {j x}, j ≠ kw → h[j]? = some x → (h.set kw ⟨cs', true, 1⟩ ++ [lst []])[j]? = some x := fun {j x} hj hx =>
    lk_prev (by rw [List.getElem?_set_ne (fun e => hj e.symm)]; exact hx)
  have ginv : ∀ {j x}, (h.set kw ⟨cs', true, 1⟩ ++ [lst []])[j]? = some x → (j = h.length ∧ x = lst []) ∨ (j = kw ∧ x = ⟨cs', true, 1⟩) ∨ (j ≠ kw ∧ j < h.length ∧ h[j]? = some x) := fun {j x} hx => by
    rcases lookup_push hx with ⟨h1, h2⟩ | ⟨h1, h2⟩
    · rw [hlen] at h1
      by_cases e : j = kw
      · subst e
        rw [lk_set hkw] at h2
        cases h2
        exact .inr (.inl ⟨rfl, rfl⟩)
      · rw [List.getElem?_set_ne (fun q => e q.symm)] at h2
        exact .inr (.inr ⟨e, h1, h2⟩)
    · exact .inl ⟨h1.trans hlen, h2⟩
  have ex : Ext m h (m.push h.length ⟨0, 0, 0⟩) (h.set kw ⟨cs', true, 1⟩ ++ [lst []]) := fun j x hx => by
    have hlt := (List.getElem?_eq_some_iff.1 hx).1
    by_cases e : j = kw
    · subst e
      rw [ho] at hx; cases hx
      exact ⟨_, gkw, Nat.le_of_eq hc.1, rfl, rfl, fun l hl => ⟨l, by rw [mold hlt]; exact hl, fun _ => rfl⟩⟩
    · exact ⟨x, gold e hx, Nat.le_refl _, rfl, rfl, fun l hl => ⟨l, by rw [mold hlt]; exact hl, fun _ => rfl⟩⟩
  have rel : Rel (m.push h.length ⟨0, 0, 0⟩) (h.set kw ⟨cs', true, 1⟩ ++ [lst []]) w := by
    refine ⟨fun j x l hx hl hp => ?_, fun j1 j2 x1 x2 l1 l2 g1 g2 e1 e2 hne hm p1 p2 => ?_, fun j x hx v hv => ?_⟩
    · rcases ginv hx with ⟨_, rfl⟩ | ⟨rfl, rfl⟩ | ⟨h1, h2, h3⟩
      · simp [lst] at hp
      · rw [mold hkw] at hl
        obtain ⟨c0, ty0, fz, hb, hcc, hm⟩ := hr.holds _ _ _ ho hl (by rw [show (⟨cs, true, 1⟩ : AObj).cells.length = cs'.length from hc.1]; exact hp)
        refine ⟨c0, ty0, fz, hb, fun i hi => ?_, hm⟩
        have hi' : i < cs.length := by rw [hc.1]; exact hi
        obtain ⟨r, r1, r2⟩ := hcc i hi'
        refine ⟨r, r1, ?_⟩
        rcases hc.2 i hi' hi with e | ⟨e1, e2⟩
        · show VRel _ _ cs'[i] r
          rw [e]; exact r2.mono ex
        · show VRel _ _ cs'[i] r
          rw [e2]
          have r3 : VRel m h cs[i] r := r2
          rw [e1] at r3
          rw [r3.nil_inv]
          exact vrel_ghost gnew mnew
      · rw [mold h2] at hl
        obtain ⟨c0, ty0, fz, hb, hcc, hm⟩ := hr.holds _ _ _ h3 hl hp
        exact ⟨c0, ty0, fz, hb, fun i hi => by obtain ⟨r, r1, r2⟩ := hcc i hi; exact ⟨r, r1, r2.mono ex⟩, hm⟩
    · have back : ∀ {j x l}, (h.set kw ⟨cs', true, 1⟩ ++ [lst []])[j]? = some x → (m.push h.length ⟨0, 0, 0⟩) j = some l → 0 < x.cells.length → ∃ y, h[j]? = some y ∧ m j = some l ∧ y.mine = x.mine ∧ 0 < y.cells.length := fun {j x l} hx hl hp => by
        rcases ginv hx with ⟨_, rfl⟩ | ⟨rfl, rfl⟩ | ⟨h1, h2, h3⟩
        · simp [lst] at hp
        · rw [mold hkw] at hl
          exact ⟨_, ho, hl, rfl, by rw [show (⟨cs, true, 1⟩ : AObj).cells.length = cs'.length from hc.1]; exact hp⟩
        · rw [mold h2] at hl
          exact ⟨_, h3, hl, rfl, hp⟩
      obtain ⟨y1, a1, a2, a3, a4⟩ := back g1 e1 p1
      obtain ⟨y2, b1, b2, b3, b4⟩ := back g2 e2 p2
      exact hr.sep j1 j2 y1 y2 l1 l2 a1 b1 a2 b2 hne (a3.trans hm) a4 b4
    · have hl2 : (h.set kw ⟨cs', true, 1⟩ ++ [lst []]).length = h.length + 1 := by simp
      rcases ginv hx with ⟨_, rfl⟩ | ⟨rfl, rfl⟩ | ⟨h1, h2, h3⟩
      · simp [lst] at hv
      · obtain ⟨i, hi, rfl⟩ := List.getElem_of_mem hv
        have hi' : i < cs.length := by rw [hc.1]; exact hi
        rcases hc.2 i hi' hi with e | ⟨e1, e2⟩
        · show Within _ cs'[i]
          rw [e]
          exact (hr.closed _ _ ho _ (List.getElem_mem hi')).mono (by omega)
        · show Within _ cs'[i]
          rw [e2]
          exact .slice (by omega)
      · exact (hr.closed _ _ h3 v hv).mono (by omega)
  have st : Step m h w (m.push h.length ⟨0, 0, 0⟩) (h.set kw ⟨cs', true, 1⟩ ++ [lst []]) w := by
    refine ⟨fun j x hx => ?_, Nat.le_refl _, rfl, rfl, rfl, fun _ _ _ => rfl, fun j x l hx hl hp => ?_⟩
    · obtain ⟨x', h1, h2, h3, h4, h5⟩ := ex j x hx
      have hlt := (List.getElem?_eq_some_iff.1 hx).1
      exact ⟨x', h1, h2, h3, h4, h5, fun hn => by rw [mold hlt]; exact hn⟩
    · right
      rcases ginv hx with ⟨_, rfl⟩ | ⟨rfl, rfl⟩ | ⟨h1, h2, h3⟩
      · simp [lst] at hp
      · rw [mold hkw] at hl
        exact ⟨_, _, _, ho, hl, by rw [show (⟨cs, true, 1⟩ : AObj).cells.length = cs'.length from hc.1]; exact hp, rfl, id⟩
      · rw [mold h2] at hl
        exact ⟨_, _, _, h3, hl, hp, rfl, id⟩
  exact wp_mono (hw _ w a rel (he.mono ex)) fun _ _ _ ⟨m', env', h', p1, p2, p3, p4⟩ => ⟨m', env', h', p1, st.trans p2, p3, p4⟩

/-! ## Functions with a result that may fail -/
def OptQ (ok : Bool) (V : Nat → Value) (o : AObj) (N : Value) (h : AHeap) (v : Value) (h' : AHeap) : Prop :=
  (ok = true ∧ ∃ k, v = V k ∧ Grown h h' ∧ h'[k]? = some o ∧ h.length ≤ k) ∨ (ok = false ∧ v = N ∧ Grown h h')
def RetO (P : Program) (f : FuncId) (args : List Value) (h : AHeap) (ok : Bool) (V : Nat → Value) (o : AObj) (N : Value) : Prop :=
  (ok = true → RetN P f args h V o) ∧ (ok = false → Ret P f args h N h)
theorem reto_of {P : Program} {f : FuncId} {args : List Value} {h : AHeap} {ok : Bool} {V : Nat → Value} {o : AObj} {N : Value} (hV : ∀ (s : Nat → Nat) (k : Nat), VRen s (V k) (V (s k))) (hW : Within (h.length + 1) (V h.length)) (ho : ∀ v ∈ o.cells, isPrim v = true)
    (hN : Within h.length N) (t : Tri P f args h (OptQ ok V o N h)) : RetO P f args h ok V o N :=
  ⟨fun e => ret1_of hV hW ho (t.mono fun v h' q => by
      rcases q with ⟨_, q⟩ | ⟨e2, _⟩
      · exact q
      · rw [e] at e2; cases e2),
   fun e => ret_of hN (t.mono fun v h' q => by
      rcases q with ⟨e2, _⟩ | ⟨_, q⟩
      · rw [e] at e2; cases e2
      · exact q)⟩
theorem within_nilb {n : Nat} : Within n (.tuple #[.slice none 0 0, .bool false]) := within_tup2 (.prim rfl) (.prim rfl)
theorem within_nilw {n : Nat} : Within n (.tuple #[.agg #[i64 0, .slice none 0 0], .bool false]) := within_tup2 (.agg2 (.prim rfl) (.prim rfl)) (.prim rfl)
/-- (list, true): a new list. -/
abbrev VL (n : Nat) (k : Nat) : Value := .tuple #[sl k n, .bool true]
/-- (worths, true): a new list in worths. -/
abbrev VW (p : Int) (n : Nat) (k : Nat) : Value := .tuple #[.agg #[i64 p, sl k n], .bool true]
abbrev NL : Value := .tuple #[.slice none 0 0, .bool false]
abbrev NW : Value := .tuple #[.agg #[i64 0, .slice none 0 0], .bool false]
theorem retL_of {P : Program} {f : FuncId} {args : List Value} {h : AHeap} {ok : Bool} {n : Nat} {l : List Int} (t : Tri P f args h (OptQ ok (VL n) (lst l) NL h)) : RetO P f args h ok (VL n) (lst l) NL :=
  reto_of (fun _ _ => .tup2 .slice (.prim rfl)) (.tup2 (.slice (by omega)) (.prim rfl)) lst_prim within_nilb t
theorem retW_of {P : Program} {f : FuncId} {args : List Value} {h : AHeap} {ok : Bool} {p : Int} {n : Nat} {l : List Int} (t : Tri P f args h (OptQ ok (VW p n) (lst l) NW h)) : RetO P f args h ok (VW p n) (lst l) NW :=
  reto_of (fun _ _ => .tup2 (.agg2 (.prim rfl) .slice) (.prim rfl)) (.tup2 (.agg2 (.prim rfl) (.slice (by omega))) (.prim rfl)) lst_prim within_nilw t
section
variable {P : Program} {K : Value → AHeap → Prop} {env : Env} {h : AHeap} {dst : Option Tmp} {ty : TypeId} {pos : String} {after : Array Edge} {guard : Option (Nat × Bool)}
end

theorem ints_nil {h : AHeap} : Ints h (.slice none 0 0) [] := .inl ⟨rfl, rfl⟩
section
variable {P : Program} {K : Value → AHeap → Prop} {env : Env} {h : AHeap} {dst : Option Tmp} {ty : TypeId} {pos : String} {after : Array Edge} {guard : Option (Nat × Bool)}
/-- A list with an element is not nil. -/
theorem o_someSlice {t e yt : TypeId} {x y : Operand} {v : Value} {xs : List Int} (hu : P.underlying t = some (.slice e)) (hx : aeval env x = v) (hv : Ints h v xs) (h0 : 0 < xs.length) (hy : aeval env y = .slice none 0 0)
    (hK : K (.bool false) h) : AOp P ⟨dst, .binOp .eql t x y yt, ty, pos, after, guard⟩ K env h :=
  .of_pure (.bool false) (fun m w a _ ho => by
    have h1 := ho x (by simp [Op.operands])
    have h2 := ho y (by simp [Op.operands])
    rw [hx] at h1; rw [hy] at h2
    rcases hv with ⟨rfl, rfl⟩ | ⟨k, off, ver, cap, o, rfl, g2, g3, g4, g5, g6, g7⟩
    · simp at h0
    · obtain ⟨l, hl, b, cap', he, c1, c2, c3, c4, c5⟩ := h1.slice_inv g2 g3
      have hlt := (List.getElem?_eq_some_iff.1 (g7 0 _ (List.getElem?_eq_getElem h0))).1
      have hb := c4 (by omega)
      subst hb
      refine ⟨.bool false, ?_, .prim rfl⟩
      have hr : ∀ d : Nat, (Op.equalIn (d + 1) t (.slice (some ⟨l.block, l.base + off, none⟩) xs.length cap') (.slice none 0 0)).run P w = .ok false w := fun d => by
        simp [Op.equalIn, run_underlying hu]
      simp only [execOp, he, h2.nil_inv, eqGuard_at_slice, Sem.run_bind, Sem.run_pure, Result.andThen_ok, binOp, Op.equal, Op.maxDepth, hr 9999]) hK
end

section
variable {P : Program} {K : Value → AHeap → Prop} {env : Env} {h : AHeap} {dst : Option Tmp} {ty : TypeId} {pos : String} {after : Array Edge} {guard : Option (Nat × Bool)}
/-- A struct's literal of two fields. -/
theorem build2_sz {f0 f1 : Field} {z0 z1 : Value} {b0 b1 : Nat} (h0 : InfoIs P f0.type z0 1 b0) (h1 : InfoIs P f1.type z1 1 b1) : ∀ f ∈ (#[f0, f1] : Array Field).toList, ∃ i, P.info? f.type = some i ∧ i.size = (fun _ => 1 : Nat → Nat) f.type := fun f hf => by
  simp only [List.mem_cons, List.not_mem_nil, or_false] at hf
  rcases hf with rfl | rfl
  · obtain ⟨i, g1, _, g3, _⟩ := h0.get; exact ⟨i, g1, g3⟩
  · obtain ⟨i, g1, _, g3, _⟩ := h1.get; exact ⟨i, g1, g3⟩
theorem o_build20 {t : TypeId} {f0 f1 : Field} {z0 z1 y0 y1 : Value} {b0 b1 s b : Nat} (hu : P.underlying t = some (.struct #[f0, f1])) (h0 : InfoIs P f0.type z0 1 b0) (h1 : InfoIs P f1.type z1 1 b1)
    (hi : InfoIs P t (.agg #[y0, y1]) s b) (hc : isConst (.agg #[y0, y1]) = true) (hK : K (.agg #[y0, y1]) h) : AOp P ⟨dst, .build t #[], ty, pos, after, guard⟩ K env h := by
  obtain ⟨i, g1, g2, g3, g4⟩ := hi.get
  exact aop_build (fun _ => 1) hu g1 g2 hc (build2_sz h0 h1) (out := #[y0, y1]) (by simp [Instr.fill, Value.cells]) hK
theorem o_build21 {t : TypeId} {f0 f1 : Field} {z0 z1 y0 y1 : Value} {b0 b1 s b : Nat} {x : Operand} {p : Int} (hu : P.underlying t = some (.struct #[f0, f1])) (ho : f0.offset = 0) (h0 : InfoIs P f0.type z0 1 b0) (h1 : InfoIs P f1.type z1 1 b1)
    (hi : InfoIs P t (.agg #[y0, y1]) s b) (hc : isConst (.agg #[y0, y1]) = true) (hx : aeval env x = i64 p) (hK : K (.agg #[i64 p, y1]) h) : AOp P ⟨dst, .build t #[(0, x)], ty, pos, after, guard⟩ K env h := by
  obtain ⟨i, g1, g2, g3, g4⟩ := hi.get
  exact aop_build (fun _ => 1) hu g1 g2 hc (build2_sz h0 h1) (out := #[i64 p, y1]) (by simp [Instr.fill, Value.cells, hx, ho]) hK
theorem o_build22 {t : TypeId} {f0 f1 : Field} {z0 z1 y0 y1 w : Value} {b0 b1 s b : Nat} {x y : Operand} {p : Int} (hu : P.underlying t = some (.struct #[f0, f1])) (ho : f0.offset = 0) (ho1 : f1.offset = 1) (h0 : InfoIs P f0.type z0 1 b0) (h1 : InfoIs P f1.type z1 1 b1)
    (hi : InfoIs P t (.agg #[y0, y1]) s b) (hc : isConst (.agg #[y0, y1]) = true) (hx : aeval env x = i64 p) (hy : aeval env y = w) (hw : w.cells = #[w]) (hK : K (.agg #[i64 p, w]) h) : AOp P ⟨dst, .build t #[(0, x), (1, y)], ty, pos, after, guard⟩ K env h := by
  obtain ⟨i, g1, g2, g3, g4⟩ := hi.get
  exact aop_build (fun _ => 1) hu g1 g2 hc (build2_sz h0 h1) (out := #[i64 p, w]) (by
    have e : (i64 p).cells = #[i64 p] := rfl
    simp [Instr.fill, hx, ho, hy, ho1, hw, e, show (Value.agg #[y0, y1]).cells = #[y0, y1] from rfl]) hK
end
section
variable {P : Program} {ops : Array Oper} {KE : Env → AHeap → Prop} {os : List Oper} {env : Env} {h : AHeap} {d : Option Tmp} {ty : TypeId} {pos : String} {af : Array Edge} {g : Option (Nat × Bool)}
theorem d_buildI1 {t e : TypeId} {b : Nat} {x : Operand} {p : Int} (hw : wantedA ops env ⟨d, .buildSlice t 1 #[(0, x)], ty, pos, af, g⟩ = some true) (hu : P.underlying t = some (.slice e)) (hi : InfoIs P e (i64 0) 1 b) (hx : aeval env x = i64 p)
    (hK : ∀ k, k = h.length → (h ++ [lst [p]])[k]? = some (lst [p]) → DRun P ops KE os (env.put d (sl k 1)) (h ++ [lst [p]])) : DRun P ops KE (⟨d, .buildSlice t 1 #[(0, x)], ty, pos, af, g⟩ :: os) env h :=
  d_new hw (o_buildI1 hu hi hx fun k hk => by subst hk; exact ⟨rfl, rfl⟩) (.slice (by simp)) (by simpa using fun u hu => Within.prim (lst_prim u hu)) (hK _ rfl (by simp))
end

/-! ## Coalitions -/
/-- A list with one player's step at all sets before s. -/
def rowW (f : Int → Int → Int) (i : Nat) (l : List Int) : Nat → List Int
  | 0 => l
  | s + 1 => if s.testBit i then (rowW f i l s).set s (f ((rowW f i l s).getD s 0) ((rowW f i l s).getD (s - 2 ^ i) 0)) else rowW f i l s
def allW (f : Int → Int → Int) (l : List Int) : Nat → List Int
  | 0 => l
  | i + 1 => rowW f i (allW f l i) l.length
theorem rowW_len {f : Int → Int → Int} {i : Nat} {l : List Int} : ∀ s, (rowW f i l s).length = l.length
  | 0 => rfl
  | s + 1 => by rw [rowW]; split <;> simp [rowW_len s]
theorem allW_len {f : Int → Int → Int} {l : List Int} : ∀ i, (allW f l i).length = l.length
  | 0 => rfl
  | i + 1 => by rw [allW, rowW_len, allW_len i]
theorem rowL_len {f : Int → Int → Int} {l : List Int} {i s : Nat} : (rowW f i (allW f l i) s).length = l.length := by rw [rowW_len, allW_len]
theorem rowW_in {f : Int → Int → Int} {i : Nat} {l : List Int} {s : Nat} (h : s.testBit (i : Int).toNat = true) : rowW f i l (s + 1) = (rowW f i l s).set s (f ((rowW f i l s).getD s 0) ((rowW f i l s).getD (s - 2 ^ (i : Int).toNat) 0)) := by
  rw [Int.toNat_natCast] at h ⊢; rw [rowW, if_pos h]
theorem rowW_out {f : Int → Int → Int} {i : Nat} {l : List Int} {s : Nat} (h : s.testBit (i : Int).toNat = false) : rowW f i l (s + 1) = rowW f i l s := by
  rw [Int.toNat_natCast] at h; rw [rowW, if_neg (by rw [h]; decide)]
theorem allW_step {f : Int → Int → Int} {i s : Nat} {l : List Int} (h : s = l.length) : rowW f i (allW f l i) s = allW f l (i + 1) := by subst h; rfl
def subW (a b : Int) : Int := IntKind.i64.wrap (a - b)
def addW (a b : Int) : Int := IntKind.i64.wrap (a + b)
theorem sub_bit : ∀ a < 64, ∀ i < 6, Nat.testBit a i = true → 2 ^ i ≤ a ∧ andn a (2 ^ i) = a - 2 ^ i := by decide +kernel
theorem bit_dn {s : Nat} {q : Int} (hs : s < 64) (hq : 0 ≤ q ∧ q < 6) (hb : s.testBit q.toNat = true) : 2 ^ q.toNat ≤ s ∧ (0 : Int) < 2 ^ q.toNat ∧ (2 : Int) ^ q.toNat ≤ s ∧ ((s : Int) - 1 * 2 ^ q.toNat) = ((s - 2 ^ q.toNat : Nat) : Int) ∧ andn s (2 ^ q.toNat) = s - 2 ^ q.toNat := by
  obtain ⟨h1, h2⟩ := sub_bit s hs q.toNat (by omega) hb
  have e : (((2 : Nat) ^ q.toNat : Nat) : Int) = (2 : Int) ^ q.toNat := by simp
  have h10 : 0 < (2 : Nat) ^ q.toNat := Nat.two_pow_pos _
  exact ⟨h1, by omega, by omega, by omega, h2⟩
theorem within_func1 {n : Nat} {f : Fn} {a : Value} (h1 : Within n a) : Within n (.func f #[] #[a]) := .func (fun i h => by simp at h) fun i h => by
  match i, h with
  | 0, _ => exact h1
theorem within_func2 {n : Nat} {f : Fn} {a b : Value} (h1 : Within n a) (h2 : Within n b) : Within n (.func f #[] #[a, b]) := .func (fun i h => by simp at h) fun i h => by
  match i, h with
  | 0, _ => exact h1
  | 1, _ => exact h2
theorem within_func4 {n : Nat} {f : Fn} {a b c d : Value} (h1 : Within n a) (h2 : Within n b) (h3 : Within n c) (h4 : Within n d) : Within n (.func f #[] #[a, b, c, d]) := .func (fun i h => by simp at h) fun i h => by
  match i, h with
  | 0, _ => exact h1
  | 1, _ => exact h2
  | 2, _ => exact h3
  | 3, _ => exact h4
theorem one2 {p : Int} {v : Value} (h : oneCellA v = true) : (Value.agg #[i64 p, v]).cells.toList.all oneCellA = true := by
  show (oneCellA (i64 p) && (oneCellA v && true)) = true
  rw [h]; rfl
theorem Ints.one {h : AHeap} {v : Value} {xs : List Int} (hv : Ints h v xs) : oneCellA v = true := by
  rcases hv with ⟨rfl, _⟩ | ⟨k, off, ver, cap, o, rfl, _⟩ <;> rfl
theorem app_mid {P : Program} {M : Oper} {env2 : Env} {h1 : AHeap} {X : Value → Prop} {vM : Value} (hM : AOp P M (fun v h' => v = vM ∧ h' = h1) env2 h1) (hw : Within h1.length vM) (hX : X vM) :
    ∃ vM, Within h1.length vM ∧ AOp P M (fun v h' => v = vM ∧ h' = h1) env2 h1 ∧ X vM := ⟨vM, hw, hM, hX⟩
/-- Worths by a rule. -/
abbrev mapR (fn : Nat → Int) (p : Int) : List Int := (List.range (2 ^ p.toNat)).map fn
theorem mapR_len {fn : Nat → Int} {p : Int} : (mapR fn p).length = 2 ^ p.toNat := map_len
theorem pow_nat {n : Int} (h : 1 ≤ n ∧ n ≤ 6) : ((2 ^ n.toNat : Nat) : Int) = (2 : Int) ^ n.toNat ∧ 2 ≤ 2 ^ n.toNat ∧ 2 ^ n.toNat ≤ 64 := by
  have h1 := pow_bound h
  have e : ((2 ^ n.toNat : Nat) : Int) = (2 : Int) ^ n.toNat := by simp
  exact ⟨e, by omega, by omega⟩
/-- What the whole loses without all others. -/
def othF (xs : List Int) (s : Nat) : Int := xs.getD (xs.length - 1) 0 - xs.getD (xs.length - 1 - s) 0
theorem andn_full : ∀ i < 7, ∀ s < 2 ^ i, andn (2 ^ i - 1) s = 2 ^ i - 1 - s := by decide +kernel
theorem andn_all {m n : Int} {xs : List Int} (hW : isW m n xs = true) {s : Nat} (hs : s < xs.length) : andn (xs.length - 1) s = xs.length - 1 - s := by
  obtain ⟨h1, h2, h3, h4, _, _⟩ := isW_get hW
  have h5 := toNat_pow h2
  rw [h5] at hs ⊢
  exact andn_full n.toNat (by omega) s hs

/-- The set of all that is the s-th one without a player. -/
def posO (q s : Nat) : Nat := (s &&& (2 ^ q - 1)) ||| (andn s (s &&& (2 ^ q - 1)) * 2)
def cntO (q : Nat) : Nat → Nat
  | 0 => 0
  | t + 1 => if t.testBit q then cntO q t else cntO q t + 1
theorem posO_cnt : ∀ t < 64, ∀ q < 6, Nat.testBit t q = false → posO q (cntO q t) = t := by decide +kernel
theorem cntO_full : ∀ p < 7, ∀ q < p, cntO q (2 ^ p) = 2 ^ (p - 1) := by decide +kernel
theorem posO_lt : ∀ p < 7, ∀ q < p, ∀ s < 2 ^ (p - 1), posO q s < 2 ^ p := by decide +kernel
def outF (xs : List Int) (q : Int) (s : Nat) : Int := xs.getD (posO q.toNat s) 0
theorem cntO_in {q t : Nat} (h : t.testBit q = true) : cntO q (t + 1) = cntO q t := by rw [cntO, if_pos h]
theorem cntO_out {q t : Nat} (h : t.testBit q = false) : cntO q (t + 1) = cntO q t + 1 := by rw [cntO, if_neg (by rw [h]; decide)]
theorem out_full {p q : Int} {xs : List Int} (hx : xs.length = 2 ^ p.toNat) (hp : 2 ≤ p ∧ p ≤ 6) (hq : 0 ≤ q ∧ q < p) {s : Nat} (hs : s = xs.length) : cntO q.toNat s = 2 ^ (p - 1).toNat := by
  subst hs
  rw [hx, cntO_full p.toNat (by omega) q.toNat (by omega)]
  congr 1; omega
theorem out_lt {p q : Int} {xs : List Int} (hx : xs.length = 2 ^ p.toNat) (hp : 2 ≤ p ∧ p ≤ 6) (hq : 0 ≤ q ∧ q < p) {s : Nat} (hs : s < 2 ^ (p - 1).toNat) : posO q.toNat s < xs.length := by
  rw [hx]
  have e : (p - 1).toNat = p.toNat - 1 := by omega
  rw [e] at hs
  exact posO_lt p.toNat (by omega) q.toNat (by omega) s hs
theorem pow_q {q : Int} (hq : 0 ≤ q ∧ q < 6) : (0 : Int) < 2 ^ q.toNat ∧ (2 : Int) ^ q.toNat ≤ 32 ∧ ((2 ^ q.toNat : Nat) : Int) = (2 : Int) ^ q.toNat ∧ (1 : Int) * 2 ^ q.toNat - 1 = ((2 ^ q.toNat - 1 : Nat) : Int) := by
  have e : ((2 ^ q.toNat : Nat) : Int) = (2 : Int) ^ q.toNat := by simp
  have h10 : 0 < (2 : Nat) ^ q.toNat := Nat.two_pow_pos _
  have h9 : (2 : Nat) ^ q.toNat ≤ 2 ^ 5 := Nat.pow_le_pow_right (by omega) (by omega)
  exact ⟨by omega, by omega, e, by omega⟩
theorem shl_one (a : Nat) : ((a : Nat) : Int) * 2 ^ (1 : Int).toNat = ((a * 2 : Nat) : Int) := by
  rw [show ((1 : Int).toNat) = 1 from rfl]; omega

end Go.Am

namespace Go.Am
set_option linter.unusedSimpArgs false
set_option linter.unusedVariables false
section
variable {P : Program} {K : Value → AHeap → Prop} {env : Env} {h : AHeap} {dst : Option Tmp} {ty t : TypeId} {pos : String} {after : Array Edge} {guard : Option (Nat × Bool)} {x y : Operand} {p q : Int}
end

/-! ## Sets of players -/
/-! ## Lists of truth values of one's own -/
section
variable {P : Program} {K : Value → AHeap → Prop} {env : Env} {h : AHeap} {dst : Option Tmp} {ty : TypeId} {pos : String} {after : Array Edge} {guard : Option (Nat × Bool)}
end
/-! ## Parts of things -/
/-! ## Shares by all orders -/
section
variable {P : Program} {K : Value → AHeap → Prop} {env : Env} {h : AHeap} {dst : Option Tmp} {ty t yt : TypeId} {pos : String} {after : Array Edge} {guard : Option (Nat × Bool)} {x y : Operand} {p q : Int} {k ky : IntKind}
theorem o_shrG (hx : aeval env x = .int k p) (hy : aeval env y = .int ky q) (h0 : 0 ≤ q) (hK : K (.int k (p.fdiv (2 ^ (min q.toNat k.bits)))) h) : AOp P ⟨dst, .binOp .shr t x y yt, ty, pos, after, guard⟩ K env h :=
  aop_shift hx hy h0 (.inr ⟨rfl, rfl⟩) hK
theorem o_convW {src d : TypeId} {kd : IntKind} {sd : TypeDesc} (hs : P.underlying src = some sd) (hd : P.underlying d = some (.int kd)) (hx : aeval env x = .int k p) (hK : K (.int kd (kd.wrap p)) h) :
    AOp P ⟨dst, .convert src d x, ty, pos, after, guard⟩ K env h := aop_conv_int hs hd hx hK
end
/-- How many players a set has. -/
def popR : Nat → Nat → Nat
  | 0, _ => 0
  | f + 1, s => s % 2 + popR f (s / 2)
def pop (s : Nat) : Nat := popR 7 s
theorem pop_step : ∀ s < 64, 0 < s → pop s = s % 2 + pop (s / 2) := by decide +kernel
theorem pop_le : ∀ s < 64, pop s ≤ 6 := by decide +kernel
/-! ## Worths by costs and by votes -/
theorem ints_cells {h : AHeap} {v : Value} {xs : List Int} (hv : Ints h v xs) : v.cells.toList = [v] := by
  rcases hv with ⟨rfl, _⟩ | ⟨k, off, ver, cap, o, rfl, _⟩ <;> rfl
theorem mapR_isW {f : Nat → Int} {p : Int} (hp : 1 ≤ p ∧ p ≤ 6) (h0 : f 0 = 0) (hb : ∀ s, -10000 ≤ f s ∧ f s ≤ 10000) : isW 10000 p (mapR f p) = true := by
  obtain ⟨e, h2, h3⟩ := pow_nat hp
  refine (isW_yes (decide_eq_true hp) ?_ ?_ ?_).symm
  · rw [mapR_len]; exact e
  · rw [mapR, map_get (by omega)]; exact h0
  · refine List.all_eq_true.2 fun x hx => ?_
    simp only [mapR, List.mem_map] at hx
    obtain ⟨s, _, rfl⟩ := hx
    exact decide_eq_true (hb s)
def atF (l : List Int) (s : Nat) : Int := l.getD s 0
theorem mapR_getD {p : Int} {l : List Int} (h : l.length = 2 ^ p.toNat) : mapR (atF l) p = l := by
  apply List.ext_getElem
  · rw [mapR_len, h]
  · intro i h1 h2
    simp only [mapR, List.getElem_map, List.getElem_range]
    exact getD_at h2

/-! ## Complaints -/
/-! ## Parts of things, more -/
end Go.Am

namespace Go.Am
set_option linter.unusedSimpArgs false
set_option linter.unusedVariables false

/-! ## Even shares -/
/-! ## The greatest of a list -/
/-! ## Rents -/
end Go.Am

namespace Go.Am
set_option linter.unusedSimpArgs false
set_option linter.unusedVariables false

/-! ## Least winners -/
def cntL (n : Nat) : List Int := (List.range n).map fun (i : Nat) => (i : Int)
/-- The first place of which something holds, before n; -1 for none. -/
def idxTo (g : Int → Bool) (ys : List Int) : Nat → Int
  | 0 => -1
  | n + 1 => if 0 ≤ idxTo g ys n then idxTo g ys n else if g (ys.getD n 0) then (n : Int) else -1
end Go.Am

namespace Go.Am
set_option linter.unusedSimpArgs false
set_option linter.unusedVariables false

end Go.Am

namespace Go.Am
set_option linter.unusedSimpArgs false
set_option linter.unusedVariables false

theorem getD_set {l : List Int} {i k : Nat} {x : Int} (hi : i < l.length) : (l.set i x).getD k 0 = if i = k then x else l.getD k 0 := by
  rw [List.getD_eq_getElem?_getD, List.getD_eq_getElem?_getD, List.getElem?_set]
  split
  · rename_i e; subst e; simp [hi]
  · rfl
end Go.Am

namespace Go.Am
set_option linter.unusedSimpArgs false
set_option linter.unusedVariables false

/-! ## Ways between places -/
/-! ## The least part, more -/
end Go.Am

namespace Go.Am
set_option linter.unusedSimpArgs false
set_option linter.unusedVariables false

/-! ## Ways -/
/-! ## Joining -/
/-- What stands behind t ways. -/
structure JOk (J P t : Nat) : Prop where
  lt : J < 128
  sub : (J &&& P) = J
  zero : J.testBit 0 = true
  cnt : pop J = t + 1
/-! ## A list without its first item -/
abbrev slT (k n : Nat) : Value := .slice (some ⟨k, 1, some (n + 1)⟩) n n
theorem Ints.tail {h : AHeap} {k n : Nat} {x : Int} {xs : List Int} (ho : h[k]? = some (lst (x :: xs))) (hn : xs.length = n) : Ints h (slT k n) xs := by
  subst hn
  exact .inr ⟨k, 1, xs.length + 1, xs.length, _, rfl, ho, by simp [lst], rfl, Nat.le_refl _, by omega, fun i z hz => by
    rw [Nat.add_comm]; simp [lst, hz]⟩
end Go.Am

namespace Go.Am
set_option linter.unusedSimpArgs false
set_option linter.unusedVariables false
section
variable {P : Program} {ops : Array Oper} {KE : Env → AHeap → Prop} {env : Env} {h : AHeap} {d : Option Tmp} {ty : TypeId} {pos : String} {af : Array Edge} {g : Option (Nat × Bool)} {os : List Oper}
end

/-! ## Weighed worths -/
def wgF (a b : Int) (xs ys : List Int) (s : Nat) : Int := a * xs.getD s 0 + b * ys.getD s 0
theorem smul_bnd {a x : Int} (ha : -100 ≤ a ∧ a ≤ 100) (hx : -10000 ≤ x ∧ x ≤ 10000) : -1000000 ≤ a * x ∧ a * x ≤ 1000000 := by
  have h1 : (a * x).natAbs = a.natAbs * x.natAbs := Int.natAbs_mul a x
  have h2 : a.natAbs * x.natAbs ≤ 100 * 10000 := Nat.mul_le_mul (by omega) (by omega)
  omega
def okWg (p q a b : Int) (xs ys : List Int) : Bool := isW 10000 p xs && isW 10000 q ys && decide (p = q) && decide (-100 ≤ a ∧ a ≤ 100) && decide (-100 ≤ b ∧ b ≤ 100)

theorem wg_yes {p q a b : Int} {xs ys : List Int} (h1 : isW 10000 p xs = true) (h2 : isW 10000 q ys = true) (h3 : p = q) (h4 : -100 ≤ a ∧ a ≤ 100) (h5 : -100 ≤ b ∧ b ≤ 100) : okWg p q a b xs ys = true := by
  rw [okWg, h1, h2, decide_eq_true h3, decide_eq_true h4, decide_eq_true h5]; rfl
theorem wg_no1 {p q a b : Int} {xs ys : List Int} (h1 : isW 10000 p xs = false) : okWg p q a b xs ys = false := by simp [okWg, h1]
theorem wg_no2 {p q a b : Int} {xs ys : List Int} (h1 : isW 10000 q ys = false) : okWg p q a b xs ys = false := by simp [okWg, h1]
theorem wg_no3 {p q a b : Int} {xs ys : List Int} (h1 : ¬ p = q) : okWg p q a b xs ys = false := by simp [okWg, h1]
theorem wg_no4 {p q a b : Int} {xs ys : List Int} (h1 : (decide (-100 ≤ a ∧ a ≤ 100) && decide (-100 ≤ b ∧ b ≤ 100)) = false) : okWg p q a b xs ys = false := by rw [okWg, Bool.and_assoc, h1, Bool.and_false]
end Go.Am

namespace Go.Am
set_option linter.unusedSimpArgs false
set_option linter.unusedVariables false
section
variable {P : Program} {K : Value → AHeap → Prop} {env : Env} {h : AHeap} {dst : Option Tmp} {ty : TypeId} {pos : String} {after : Array Edge} {guard : Option (Nat × Bool)}

end
end Go.Am

namespace Go.Am
set_option linter.unusedSimpArgs false
set_option linter.unusedVariables false
/-! ## Lists of one number, made by copying -/
/-! ## Things in turn -/
theorem mod_lt {s n : Nat} (h : 1 ≤ n) : 0 ≤ (s : Int) % (n : Int) ∧ (s : Int) % (n : Int) < n := ⟨Int.emod_nonneg _ (by omega), Int.emod_lt_of_pos _ (by omega)⟩
section
variable {P : Program} {K : Value → AHeap → Prop} {env : Env} {h : AHeap} {dst : Option Tmp} {ty : TypeId} {pos : String} {after : Array Edge} {guard : Option (Nat × Bool)}
end
section
variable {P : Program} {ops : Array Oper} {KE : Env → AHeap → Prop} {os : List Oper} {env : Env} {h : AHeap} {d : Option Tmp} {ty : TypeId} {pos : String} {af : Array Edge} {g : Option (Nat × Bool)}
end
end Go.Am

namespace Go.Am
set_option linter.unusedSimpArgs false
set_option linter.unusedVariables false

/-- A slice value that reads as lists of integers. -/
def Lists (h : AHeap) (v : Value) (xss : List (List Int)) : Prop :=
  (v = .slice none 0 0 ∧ xss = []) ∨
  ∃ k off ver cap o, v = .slice (some ⟨k, off, some ver⟩) xss.length cap ∧ h[k]? = some o ∧ o.cells.length = ver ∧ o.esz = 1 ∧ xss.length ≤ cap ∧ off + cap = ver ∧
    ∀ (i : Nat) (xs : List Int), xss[i]? = some xs → ∃ u, o.cells[off + i]? = some u ∧ Ints h u xs

theorem Lists.app {h : AHeap} {v : Value} {xss : List (List Int)} (hv : Lists h v xss) (g : List AObj) : Lists (h ++ g) v xss := by
  rcases hv with hv | ⟨k, off, ver, cap, o, h1, h2, h3, h4, h5, h6, h7⟩
  · exact .inl hv
  · exact .inr ⟨k, off, ver, cap, o, h1, lk_prev h2, h3, h4, h5, h6, fun i xs hi => by
      obtain ⟨u, g1, g2⟩ := h7 i xs hi
      exact ⟨u, g1, g2.app g⟩⟩

theorem Lists.within {h : AHeap} {v : Value} {xss : List (List Int)} (hv : Lists h v xss) : Within h.length v := by
  rcases hv with ⟨rfl, _⟩ | ⟨k, off, ver, cap, o, rfl, h2, _⟩
  · exact .prim rfl
  · exact .slice (List.getElem?_eq_some_iff.1 h2).1

def rowAt (xss : List (List Int)) (i : Nat) : List Int := xss.getD i []
theorem rowAt_some {xss : List (List Int)} {i : Nat} (h : i < xss.length) : xss[i]? = some (rowAt xss i) := by
  simp [rowAt, List.getD_eq_getElem?_getD, List.getElem?_eq_getElem h]
section
variable {P : Program} {K : Value → AHeap → Prop} {env : Env} {h : AHeap} {dst : Option Tmp} {ty : TypeId} {pos : String} {after : Array Edge} {guard : Option (Nat × Bool)}

end

section
variable {P : Program} {ops : Array Oper} {KE : Env → AHeap → Prop} {os : List Oper} {env : Env} {h : AHeap} {d : Option Tmp} {ty : TypeId} {pos : String} {af : Array Edge} {g : Option (Nat × Bool)}
end

/-! ## Own lists of lists -/

/-- A block of one's own with any values. -/
def vls (us : List Value) : AObj := ⟨us, true, 1⟩

/-- Slices over rows that lie one behind the other. -/
def vrows : Nat → List (List Int) → List Value
  | _, [] => []
  | k, x :: xs => sl k x.length :: vrows (k + 1) xs
theorem vrows_len : ∀ {k : Nat} {xss : List (List Int)}, (vrows k xss).length = xss.length
  | _, [] => rfl
  | k, x :: xs => by simp [vrows, vrows_len (k := k + 1) (xss := xs)]
theorem vrows_get : ∀ {k i : Nat} {xss : List (List Int)}, i < xss.length → (vrows k xss)[i]? = some (sl (k + i) (rowAt xss i).length)
  | k, 0, x :: xs, _ => rfl
  | k, i + 1, x :: xs, h => by
    have := vrows_get (k := k + 1) (i := i) (xss := xs) (by simpa using h)
    rw [vrows, List.getElem?_cons_succ, this]
    simp [rowAt, Nat.add_assoc, Nat.add_comm 1]
/-- Lists in new memory: the outer block at k, the rows behind it. -/
def lls (k : Nat) (xss : List (List Int)) : List AObj := vls (vrows (k + 1) xss) :: xss.map lst
@[simp] theorem lls_len {k : Nat} {xss : List (List Int)} : (lls k xss).length = xss.length + 1 := by simp [lls]

theorem take_row {xss : List (List Int)} {s : Nat} (h : s < xss.length) : xss.take (s + 1) = xss.take s ++ [rowAt xss s] := by
  rw [List.take_succ_eq_append_getElem h]
  have := rowAt_some h
  rw [List.getElem?_eq_getElem h, Option.some.injEq] at this
  rw [this]
section
variable {P : Program} {K : Value → AHeap → Prop} {env : Env} {h : AHeap} {dst : Option Tmp} {ty : TypeId} {pos : String} {after : Array Edge} {guard : Option (Nat × Bool)}

end

/-- Marks of all rows. -/
def markL : Int → List (List Int) → List (List Int)
  | _, [] => []
  | c, x :: xs => upto c x.length :: markL (c + x.length) xs
def total : List (List Int) → Nat
  | [] => 0
  | x :: xs => x.length + total xs
@[simp] theorem markL_len : ∀ {c : Int} {xss : List (List Int)}, (markL c xss).length = xss.length
  | _, [] => rfl
  | c, x :: xs => by simp [markL, markL_len (c := c + x.length) (xss := xs)]
theorem total_app : ∀ {a b : List (List Int)}, total (a ++ b) = total a + total b
  | [], b => by simp [total]
  | x :: a, b => by simp [total, total_app (a := a) (b := b), Nat.add_assoc]
theorem total_take {xss : List (List Int)} {s : Nat} (h : s < xss.length) : total (xss.take (s + 1)) = total (xss.take s) + (rowAt xss s).length := by
  rw [take_row h, total_app]; simp [total]
theorem total_le {xss : List (List Int)} {s : Nat} : total (xss.take s) ≤ total xss := by
  have : total xss = total (xss.take s) + total (xss.drop s) := by rw [← total_app, List.take_append_drop]
  omega
theorem total_row {xss : List (List Int)} {s : Nat} (h : s < xss.length) : total (xss.take s) + (rowAt xss s).length ≤ total xss := by
  rw [← total_take h]; exact total_le
section
variable {P : Program} {K : Value → AHeap → Prop} {env : Env} {h : AHeap} {dst : Option Tmp} {ty : TypeId} {pos : String} {after : Array Edge} {guard : Option (Nat × Bool)}
end
section
variable {P : Program} {ops : Array Oper} {KE : Env → AHeap → Prop} {os : List Oper} {env : Env} {h : AHeap} {d : Option Tmp} {ty : TypeId} {pos : String} {af : Array Edge} {g : Option (Nat × Bool)}
end

/-! ## New blocks that lie one behind the other -/
def shf (t d j : Nat) : Nat := if j < t then j else j + d
def ShG (gs : Nat → List AObj) : Prop := ∀ t n d, t ≤ n → (gs (n + d)).length = (gs n).length ∧ ∀ (i : Nat) (o : AObj), (gs n)[i]? = some o →
  ∃ o1, (gs (n + d))[i]? = some o1 ∧ o.cells.length = o1.cells.length ∧ o.mine = o1.mine ∧ o.esz = o1.esz ∧
    ∀ (j : Nat) (v : Value), o.cells[j]? = some v → Within (n + (gs n).length) v ∧ ∃ v1, o1.cells[j]? = some v1 ∧ VRen (shf t d) v v1
theorem ShG.one {o : AObj} (ho : ∀ v ∈ o.cells, isPrim v = true) : ShG (fun _ => [o]) := fun t n d _ => ⟨rfl, fun i x hx => ⟨x, hx, rfl, rfl, rfl, fun j v hv => by
  have : x = o := by cases i <;> simp at hx; exact hx.symm
  subst this
  have := ho v (List.mem_of_getElem? hv)
  exact ⟨.prim this, v, hv, .prim this⟩⟩⟩
theorem ShG.app {gs1 gs2 : Nat → List AObj} {l : Nat} (h1 : ShG gs1) (h2 : ShG gs2) (hl : ∀ n, (gs1 n).length = l) : ShG (fun k => gs1 k ++ gs2 (k + l)) := fun t n d ht => by
  obtain ⟨a1, a2⟩ := h1 t n d ht
  obtain ⟨b1, b2⟩ := h2 t (n + l) d (by omega)
  have e : n + d + l = n + l + d := by omega
  refine ⟨by simp only [List.length_append, e, a1, b1], fun i o hi => ?_⟩
  by_cases c : i < l
  · rw [List.getElem?_append_left (by rw [hl]; exact c)] at hi
    obtain ⟨o1, q1, q2, q3, q4, q5⟩ := a2 i o hi
    refine ⟨o1, by rw [List.getElem?_append_left (by rw [hl]; exact c)]; exact q1, q2, q3, q4, fun j v hv => ?_⟩
    obtain ⟨r1, r2⟩ := q5 j v hv
    exact ⟨r1.mono (by simp only [List.length_append]; omega), r2⟩
  · rw [List.getElem?_append_right (by rw [hl]; omega), hl] at hi
    obtain ⟨o1, q1, q2, q3, q4, q5⟩ := b2 _ o hi
    refine ⟨o1, by rw [List.getElem?_append_right (by rw [hl]; omega), hl, e]; exact q1, q2, q3, q4, fun j v hv => ?_⟩
    obtain ⟨r1, r2⟩ := q5 j v hv
    exact ⟨r1.mono (by simp only [List.length_append, hl]; omega), r2⟩
theorem ShG.lls {xss : List (List Int)} : ShG (fun k => lls k xss) := fun t n d ht => by
  refine ⟨by rw [lls_len, lls_len], fun i o hi => ?_⟩
  cases i with
  | zero =>
    have : o = vls (vrows (n + 1) xss) := by simp [Am.lls] at hi; exact hi.symm
    subst this
    refine ⟨vls (vrows (n + d + 1) xss), rfl, by simp [vls, vrows_len], rfl, rfl, fun j v hv => ?_⟩
    have hv' : (vrows (n + 1) xss)[j]? = some v := hv
    have hlt := (List.getElem?_eq_some_iff.1 hv').1
    rw [vrows_len] at hlt
    rw [vrows_get hlt, Option.some.injEq] at hv'
    subst hv'
    refine ⟨.slice (by rw [lls_len]; omega), _, vrows_get hlt, ?_⟩
    have := VRen.slice (s := shf t d) (k := n + 1 + j) (off := 0) (ver := (rowAt xss j).length) (len := (rowAt xss j).length) (cap := (rowAt xss j).length)
    rwa [show shf t d (n + 1 + j) = n + d + 1 + j by rw [shf, if_neg (by omega)]; omega] at this
  | succ i =>
    have hi' : (xss.map lst)[i]? = some o := by simpa [Am.lls] using hi
    refine ⟨o, by simpa [Am.lls] using hi', rfl, rfl, rfl, fun j v hv => ?_⟩
    simp only [List.getElem?_map, Option.map_eq_some_iff] at hi'
    obtain ⟨xs, _, rfl⟩ := hi'
    have := lst_prim v (List.mem_of_getElem? hv)
    exact ⟨.prim this, v, hv, .prim this⟩

/-- Two lists of lists, one behind the other. -/
def lls2 (k : Nat) (xss yss : List (List Int)) : List AObj := lls k xss ++ lls (k + (xss.length + 1)) yss
@[simp] theorem lls2_len {k : Nat} {xss yss : List (List Int)} : (lls2 k xss yss).length = xss.length + yss.length + 2 := by simp [lls2, lls_len]; omega
/-! ## Sizes and bounds -/
def LB (xss : List (List Int)) : Prop := xss.length ≤ 1048576 ∧ total xss ≤ 1048576
theorem LB.row {xss : List (List Int)} (h : LB xss) (i : Nat) : (rowAt xss i).length ≤ 1048576 := by
  by_cases c : i < xss.length
  · have := total_row c
    have := h.2
    omega
  · have : rowAt xss i = [] := by rw [rowAt, List.getD_eq_getElem?_getD, List.getElem?_eq_none (by omega)]; rfl
    rw [this]; simp
theorem LB.len {xss : List (List Int)} (h : LB xss) : xss.length ≤ 1048576 := h.1
section
variable {P : Program} {ops : Array Oper} {KE : Env → AHeap → Prop} {os : List Oper} {env : Env} {h : AHeap} {d : Option Tmp} {ty : TypeId} {pos : String} {af : Array Edge} {g : Option (Nat × Bool)}
end
section
variable {P : Program} {ops : Array Oper} {KE : Env → AHeap → Prop} {os : List Oper} {env : Env} {h : AHeap} {d : Option Tmp} {ty : TypeId} {pos : String} {af : Array Edge} {g : Option (Nat × Bool)}
end
end Go.Am

namespace Go.Am
set_option linter.unusedSimpArgs false
set_option linter.unusedVariables false
/-! ## Places in a list -/
def idxI (xs : List Int) (x : Int) : Int := idxTo (fun y => decide (x = y)) xs xs.length
/-! ## Numbers that are there twice -/
def hasAt (xs : List Int) (s : Nat) : Bool := (part xs 0 s).contains (xs.getD s 0)
def inR (n : Int) (x : Int) : Bool := decide (0 ≤ x ∧ x ≤ n - 1)
def rowT (n : Int) (xs : List Int) : Nat → Bool
  | 0 => true
  | t + 1 => rowT n xs t && (inR n (xs.getD t 0) && !hasAt xs t)
def wishL (n : Int) (xs : List Int) : Bool := rowT n xs xs.length
end Go.Am

namespace Go.Am
set_option linter.unusedSimpArgs false
set_option linter.unusedVariables false
section
variable {P : Program} {K : Value → AHeap → Prop} {env : Env} {h : AHeap} {dst : Option Tmp} {ty : TypeId} {pos : String} {after : Array Edge} {guard : Option (Nat × Bool)}
end
/-! ## The best so far -/
section
variable (p q : Int) (xs : List Int) (F : List Int → Int)
end
section
variable {p q : Int} {xs : List Int} {F : List Int → Int}
end

/-! ## Parts have a bound -/
theorem within_func0 {n : Nat} {f : Fn} : Within n (.func f #[] #[]) := .func (fun i h => by simp at h) fun i h => by simp at h
/-! ## The heap while the best is sought -/
section
variable (h : AHeap) (BX FB : AObj) (p q : Int) (xs : List Int) (F : List Int → Int)
end
section
variable {h : AHeap} {BX FB : AObj} {p q : Int} {xs : List Int} {F : List Int → Int}
/-! ## The best by the reference -/
end
end Go.Am

namespace Go.Am
set_option linter.unusedSimpArgs false
set_option linter.unusedVariables false
section
variable {p q : Int} {xs : List Int} {F : List Int → Int}
end
end Go.Am

namespace Go.Am
set_option linter.unusedSimpArgs false
set_option linter.unusedVariables false
/-! ## Places -/
def plc (xs : List Int) (x : Int) : Int := if 0 ≤ idxI xs x then idxI xs x else xs.length
/-! ## Orders -/
/-! ## Lists without repetition -/
/-! ## Friends -/
/-! ## Rooms -/
end Go.Am

namespace Go.Am
set_option linter.unusedSimpArgs false
set_option linter.unusedVariables false
section
variable {P : Program} {K : Value → AHeap → Prop} {env : Env} {h : AHeap} {dst : Option Tmp} {ty : TypeId} {pos : String} {after : Array Edge} {guard : Option (Nat × Bool)}
end
end Go.Am

namespace Go.Am
set_option linter.unusedSimpArgs false
set_option linter.unusedVariables false
def hrow (n : Int) (xss : List (List Int)) (s : Nat) : Bool := wishL n (rowAt xss s) && decide (((rowAt xss s).length : Int) = n)
def okH (xss : List (List Int)) : Bool := decide (1 ≤ (xss.length : Int) ∧ (xss.length : Int) ≤ 8) && (List.range xss.length).all (hrow xss.length xss)
/-! ## Turns -/
def freeB (L : List Bool) : Nat := L.countP id
/-! ## Lists of lists somewhere in a heap -/
section
variable {P : Program} {K : Value → AHeap → Prop} {env : Env} {h : AHeap} {dst : Option Tmp} {ty : TypeId} {pos : String} {after : Array Edge} {guard : Option (Nat × Bool)}
end
section
variable {P : Program} {ops : Array Oper} {KE : Env → AHeap → Prop} {os : List Oper} {env : Env} {h : AHeap} {d : Option Tmp} {ty : TypeId} {pos : String} {af : Array Edge} {g : Option (Nat × Bool)}
end
end Go.Am

namespace Go.Am
set_option linter.unusedSimpArgs false
set_option linter.unusedVariables false

section
variable {P : Program} {K : Value → AHeap → Prop} {env : Env} {h : AHeap} {dst : Option Tmp} {ty : TypeId} {pos : String} {after : Array Edge} {guard : Option (Nat × Bool)}
end

/-! ## Lists of lists whose rows lie anywhere -/
def rvals (r : Nat → Nat) (xss : List (List Int)) (s : Nat) : List Value := (List.range s).map fun i => sl (r i) (rowAt xss i).length
theorem rvals_succ {r : Nat → Nat} {xss : List (List Int)} {s : Nat} : rvals r xss (s + 1) = rvals r xss s ++ [sl (r s) (rowAt xss s).length] := by simp [rvals, List.range_succ]
theorem rvals_congr {r r' : Nat → Nat} {xss : List (List Int)} {s : Nat} (h : ∀ i, i < s → r i = r' i) : rvals r xss s = rvals r' xss s := by
  unfold rvals
  apply List.map_congr_left
  intro i hi
  rw [h i (List.mem_range.1 hi)]
structure OwnS (b : Nat) (H : AHeap) (kO : Nat) (xss : List (List Int)) (s : Nat) (r : Nat → Nat) : Prop where
  out : H[kO]? = some (vls (rvals r xss s))
  low : b ≤ kO
  row : ∀ i, i < s → b ≤ r i ∧ r i ≠ kO ∧ H[r i]? = some (lst (rowAt xss i))
  inj : ∀ i j, i < s → j < s → r i = r j → i = j
theorem owns_step {b kO s kR : Nat} {H : AHeap} {xss : List (List Int)} {r : Nat → Nat} (o : OwnS b H kO xss s r) (hb : b ≤ H.length) (hk : kR = H.length) {t : AObj} :
    OwnS b ((H ++ [lst (rowAt xss s)] ++ [t]).set kO (vls (rvals r xss s ++ [sl kR (rowAt xss s).length]))) kO xss (s + 1) (fun i => if i = s then kR else r i) := by
  subst hk
  have hlt := (List.getElem?_eq_some_iff.1 o.out).1
  have hold : ∀ k, k < H.length → k ≠ kO → ((H ++ [lst (rowAt xss s)] ++ [t]).set kO (vls (rvals r xss s ++ [sl H.length (rowAt xss s).length])))[k]? = H[k]? := fun k hk hne => by
    rw [List.getElem?_set_ne (Ne.symm hne), List.append_assoc, List.getElem?_append_left hk]
  have hnew : ((H ++ [lst (rowAt xss s)] ++ [t]).set kO (vls (rvals r xss s ++ [sl H.length (rowAt xss s).length])))[H.length]? = some (lst (rowAt xss s)) := by
    rw [List.getElem?_set_ne (by omega), List.append_assoc, List.getElem?_append_right (Nat.le_refl _)]; simp
  refine ⟨?_, o.low, fun i hi => ?_, fun i j hi hj => ?_⟩
  · rw [List.getElem?_set_self (by simp; omega), rvals_succ]
    simp only [if_true]
    rw [rvals_congr (r := fun i => if i = s then H.length else r i) (r' := r) (fun i hi => by rw [if_neg (by omega)])]
  · by_cases e : i = s
    · subst e
      simp only [if_true]
      exact ⟨hb, by omega, hnew⟩
    · obtain ⟨h1, h2, h3⟩ := o.row i (by omega)
      simp only [if_neg e]
      exact ⟨h1, h2, by rw [hold _ (List.getElem?_eq_some_iff.1 h3).1 h2]; exact h3⟩
  · have hri : ∀ i, i < s → r i < H.length := fun i hi => (List.getElem?_eq_some_iff.1 (o.row i hi).2.2).1
    intro he
    by_cases e1 : i = s <;> by_cases e2 : j = s
    · omega
    · simp only [e1, if_true, if_neg e2] at he
      have := hri j (by omega); omega
    · simp only [e2, if_true, if_neg e1] at he
      have := hri i (by omega); omega
    · simp only [if_neg e1, if_neg e2] at he
      exact o.inj i j (by omega) (by omega) he
theorem owns_push {b kO s : Nat} {H g : AHeap} {xss : List (List Int)} {r : Nat → Nat} (o : OwnS b H kO xss s r) : OwnS b (H ++ g) kO xss s r :=
  ⟨lk_prev o.out, o.low, fun i hi => ⟨(o.row i hi).1, (o.row i hi).2.1, lk_prev (o.row i hi).2.2⟩, o.inj⟩
section
variable {P : Program} {K : Value → AHeap → Prop} {env : Env} {h : AHeap} {dst : Option Tmp} {ty : TypeId} {pos : String} {after : Array Edge} {guard : Option (Nat × Bool)}
end

/-! ## Results with lists of lists, or none -/
/-! ## Marks of two lists of lists -/
end Go.Am

namespace Go.Am
set_option linter.unusedSimpArgs false
set_option linter.unusedVariables false
section
variable {P : Program} {K : Value → AHeap → Prop} {env : Env} {h : AHeap} {dst : Option Tmp} {ty : TypeId} {pos : String} {after : Array Edge} {guard : Option (Nat × Bool)}
end

/-! ## All numbers but one -/
abbrev slP (k m n : Nat) : Value := .slice (some ⟨k, 0, some n⟩) m n
theorem Ints.pre {h : AHeap} {k m n : Nat} {xs ys : List Int} (ho : h[k]? = some (lst (xs ++ ys))) (hm : xs.length = m) (hn : (xs ++ ys).length = n) : Ints h (slP k m n) xs := by
  subst hm hn
  exact .inr ⟨k, 0, _, _, lst (xs ++ ys), rfl, ho, by simp [lst], rfl, by simp, by simp, fun i z hz => by
    have hi := (List.getElem?_eq_some_iff.1 hz).1
    simp only [lst, List.map_append, Nat.zero_add]
    rw [List.getElem?_append_left (by simpa using hi)]
    simp [hz]⟩

/-! ## Games -/
abbrev gv (p q : Int) (n m k : Nat) : Value := .agg #[i64 p, i64 q, sl k n, sl (k + 1) m]
theorem Within.agg4 {n : Nat} {a b c d : Value} (h1 : Within n a) (h2 : Within n b) (h3 : Within n c) (h4 : Within n d) : Within n (.agg #[a, b, c, d]) :=
  .agg fun i q1 => by
    match i, q1 with
    | 0, _ => exact h1
    | 1, _ => exact h2
    | 2, _ => exact h3
    | 3, _ => exact h4
theorem VRen.agg4 {s : Nat → Nat} {a b c d a' b' c' d' : Value} (h1 : VRen s a a') (h2 : VRen s b b') (h3 : VRen s c c') (h4 : VRen s d d') : VRen s (.agg #[a, b, c, d]) (.agg #[a', b', c', d']) :=
  .agg rfl fun i q1 q2 => by
    match i, q1 with
    | 0, _ => exact h1
    | 1, _ => exact h2
    | 2, _ => exact h3
    | 3, _ => exact h4
abbrev gt (p q : Int) (n m k : Nat) : Value := .tuple #[gv p q n m k, .bool true]
section
variable {P : Program} {ops : Array Oper} {KE : Env → AHeap → Prop} {os : List Oper} {env : Env} {h : AHeap} {d : Option Tmp} {ty : TypeId} {pos : String} {af : Array Edge} {g : Option (Nat × Bool)}
end

/-! ## The grid of a part of a game -/
section
variable {P : Program} {K : Value → AHeap → Prop} {env : Env} {h : AHeap} {dst : Option Tmp} {ty : TypeId} {pos : String} {after : Array Edge} {guard : Option (Nat × Bool)}
end

/-! ## A game less a row or a column -/
end Go.Am

namespace Go.Am
set_option linter.unusedSimpArgs false
set_option linter.unusedVariables false

/-! ## Rounds of a map -/
/-! ## Parts, without bounds -/
/-! ## Who envies, who is free of it -/
/-! ## Turns until somebody is free -/
end Go.Am

namespace Go.Am
set_option linter.unusedSimpArgs false
set_option linter.unusedVariables false

/-! ## The ring in the walks -/
end Go.Am

namespace Go.Am
set_option linter.unusedSimpArgs false
set_option linter.unusedVariables false

/-! ## Who still has a house -/
def lftH (os : List Int) : List Bool := os.map fun x => decide (x < 0)
/-! ## One round -/
/-! ## How many are left -/
theorem getB_set {L : List Bool} {j k : Nat} (h : j ≠ k) : (L.set j false).getD k false = L.getD k false := by
  rw [List.getD_eq_getElem?_getD, List.getElem?_set, if_neg h, ← List.getD_eq_getElem?_getD]
/-! ## A ring is there -/
structure OkR (xss : List (List Int)) (os : List Int) : Prop where
  hH : okH xss = true
  hl : os.length = xss.length
  hr : 0 < freeB (lftH os)
/-! ## All rounds -/
/-! ## Rounds of envy, padded -/
end Go.Am

namespace Go.Am
set_option linter.unusedSimpArgs false
set_option linter.unusedVariables false
theorem lists_cells {h : AHeap} {v : Value} {xss : List (List Int)} (hv : Lists h v xss) : v.cells.toList = [v] := by
  rcases hv with ⟨rfl, _⟩ | ⟨k, off, ver, cap, o, rfl, _⟩ <;> rfl
end Go.Am

namespace Go.Am
set_option linter.unusedSimpArgs false
set_option linter.unusedVariables false

section
variable {P : Program} {K : Value → AHeap → Prop} {env : Env} {h : AHeap} {dst : Option Tmp} {ty : TypeId} {pos : String} {after : Array Edge} {guard : Option (Nat × Bool)}
end
section
variable {P : Program} {ops : Array Oper} {KE : Env → AHeap → Prop} {os : List Oper} {env : Env} {h : AHeap} {d : Option Tmp} {ty : TypeId} {pos : String} {af : Array Edge} {g : Option (Nat × Bool)}
end

/-! ## Sets -/
/-! ## Places in whole lists -/
/-! ## Who could do better -/
structure Blk where
  xss : List (List Int)
  ms : List Int
  ls : List Int
def Blk.who (B : Blk) (m : Nat) : Int := B.ls.getD (B.ls.length - (m + 1)) 0
def Blk.row (B : Blk) (m : Nat) : List Int := rowAt B.xss (B.who m).toNat
def Blk.has (B : Blk) (m : Nat) : Int := B.ms.getD (B.who m).toNat 0
def Blk.own (B : Blk) (m : Nat) : Nat := (plc (B.row m) (B.has m)).toNat
def takeT (T : Nat) (h : Int) : Nat := T ||| 2 ^ h.toNat
structure OkB (B : Blk) (n : Nat) : Prop where
  hF : okH B.xss = true
  hn : B.xss.length = n
  hm : wishL n B.ms = true
  hml : B.ms.length = n
  hls : ∀ x ∈ B.ls, 0 ≤ x ∧ x < (n : Int)
def RelB (n : Nat) (ls : List Int) (T : Nat) (F : List Bool) : Prop := F.length = n ∧ ∀ x : Int, 0 ≤ x → x < (n : Int) → F.getD x.toNat false = (decide (x ∈ ls) && !T.testBit x.toNat)
theorem take_bit {T j : Nat} {h : Int} : (takeT T h).testBit j = (T.testBit j || decide (h.toNat = j)) := by
  rw [takeT, Nat.testBit_or, Nat.testBit_two_pow]
theorem RelB.take {n : Nat} {ls : List Int} {T : Nat} {F : List Bool} {h : Int} (r : RelB n ls T F) (hh : 0 ≤ h ∧ h < (n : Int)) : RelB n ls (takeT T h) (F.set h.toNat false) := by
  refine ⟨by rw [List.length_set]; exact r.1, fun x h0 h1 => ?_⟩
  rw [take_bit]
  by_cases e : h.toNat = x.toNat
  · rw [e, decide_eq_true rfl, List.getD_eq_getElem?_getD, List.getElem?_set_self (by rw [r.1]; omega)]
    simp
  · rw [getB_set e, r.2 x h0 h1, decide_eq_false e, Bool.or_false]
/-! ## The walks -/
/-! ## The first set -/
section
variable {P : Program} {K : Value → AHeap → Prop} {env : Env} {h : AHeap} {dst : Option Tmp} {ty : TypeId} {pos : String} {after : Array Edge} {guard : Option (Nat × Bool)}
end
section
variable {P : Program} {ops : Array Oper} {KE : Env → AHeap → Prop} {os : List Oper} {env : Env} {h : AHeap} {d : Option Tmp} {ty : TypeId} {pos : String} {af : Array Edge} {g : Option (Nat × Bool)}
end
end Go.Am

namespace Go.Am
set_option linter.unusedSimpArgs false
set_option linter.unusedVariables false
open Ieee

/-! ## Operations -/
abbrev fl (x : Nat) : Value := .float .f32 x
theorem VRel.float {m : Map} {h : AHeap} {k : FloatKind} {x : Nat} {r : Value} (v : VRel m h (.float k x) r) : r = .float k x := by cases v; rfl

section
variable {P : Program} {K : Value → AHeap → Prop} {env : Env} {h : AHeap} {dst : Option Tmp} {ty : TypeId} {pos : String} {after : Array Edge} {guard : Option (Nat × Bool)}
end
section
variable {P : Program} {ops : Array Oper} {KE : Env → AHeap → Prop} {os : List Oper} {env : Env} {h : AHeap} {d : Option Tmp} {ty : TypeId} {pos : String} {af : Array Edge} {g : Option (Nat × Bool)}
end
end Go.Am

namespace Go.Am
set_option linter.unusedSimpArgs false
set_option linter.unusedVariables false
open Ieee

theorem s_read (x : Nat) : single.read x = (if x % 2147483648 < 8388608 then .number (x / 2147483648 % 2 == 1) (x % 2147483648) (-149)
    else if x % 2147483648 < 2139095040 then .number (x / 2147483648 % 2 == 1) (8388608 + x % 2147483648 % 8388608) (-149 + (x % 2147483648 / 8388608 - 1 : Nat))
    else if x % 2147483648 = 2139095040 then .infinity (x / 2147483648 % 2 == 1) else .nan (x / 2147483648 % 2 == 1) (x % 2147483648 - 2139095040)) := rfl
/-! ## What is written -/
theorem lt_log2 {n : Nat} : n < 2 ^ (n.log2 + 1) := Nat.lt_log2_self
theorem log2_le {n k : Nat} (hn : n ≠ 0) (h : n < 2 ^ (k + 1)) : n.log2 ≤ k := by
  have := (Nat.log2_lt hn).2 h
  omega
theorem cut_le {neg : Bool} {n b f : Nat} (h : n.log2 ≤ f + b) : Toward.even.cut neg n b ≤ 2 ^ (f + 1) := by
  have hg : n / (1 <<< min b (n.log2 + 2)) < 2 ^ (f + 1) := by
    rw [Nat.one_shiftLeft, Nat.div_lt_iff_lt_mul (Nat.two_pow_pos _), ← Nat.pow_add]
    exact Nat.lt_of_lt_of_le lt_log2 (Nat.pow_le_pow_right (by decide) (by omega))
  have : Toward.even.cut neg n b ≤ n / (1 <<< min b (n.log2 + 2)) + 1 := by
    unfold Toward.cut
    simp only
    generalize (decide (1 <<< min b (n.log2 + 2) < 2 * (n % 1 <<< min b (n.log2 + 2))) || _) = c
    cases c <;> simp
  omega
theorem log2_shl {m a : Nat} (hm : m ≠ 0) : (m <<< a).log2 ≤ m.log2 + a := by
  rw [Nat.shiftLeft_eq]
  refine log2_le (Nat.mul_ne_zero hm (Nat.pos_iff_ne_zero.1 (Nat.two_pow_pos _))) ?_
  rw [show m.log2 + a + 1 = (m.log2 + 1) + a by omega, Nat.pow_add]
  exact Nat.mul_lt_mul_of_pos_right lt_log2 (Nat.two_pow_pos _)
theorem pow23 : 8388608 = 2 ^ (22 + 1) := by decide
theorem near_rung (f : Format) (neg : Bool) (mag : Nat) (place : Int) : ∃ r, f.nearest neg mag place = f.word neg r ∧ r ≤ f.infRung ∧
    ∀ E : Nat, (mag = 0 ∨ place + (mag.log2 : Int) - f.fractionBits - f.leastPlace ≤ E) → r ≤ E * f.binade + 2 * f.binade := by
  unfold Format.nearest
  by_cases h0 : mag = 0
  · exact ⟨0, by rw [if_pos h0], Nat.zero_le _, fun _ _ => Nat.zero_le _⟩
  · rw [if_neg h0]
    refine ⟨_, rfl, Nat.min_le_right _ _, fun E hE => ?_⟩
    have hE := hE.resolve_left h0
    generalize hl : max (place + (mag.log2 : Int) - (f.fractionBits : Int)) f.leastPlace = last
    have hk : Toward.even.cut neg (mag <<< (place - last).toNat) (last - place).toNat ≤ 2 * f.binade := by
      have h1 := log2_shl (a := (place - last).toNat) h0
      have := cut_le (neg := neg) (n := mag <<< (place - last).toNat) (b := (last - place).toNat) (f := f.fractionBits) (by omega)
      rw [Nat.pow_succ, Nat.mul_comm] at this
      exact this
    refine Nat.le_trans (Nat.min_le_left _ _) (Nat.add_le_add (Nat.mul_le_mul_right _ ?_) hk)
    omega
theorem s_parts (neg : Bool) (r : Nat) (hr : r < 2147483648) : single.word neg r % 2147483648 = r ∧ (single.word neg r / 2147483648 % 2 == 1) = neg := by
  have e : single.word neg r = if neg then 2147483648 + r else r := rfl
  rw [e]
  cases neg
  · simp only [Bool.false_eq_true, if_false]
    exact ⟨by omega, by rw [show r / 2147483648 % 2 = 0 by omega]; rfl⟩
  · simp only [if_true]
    exact ⟨by omega, by rw [show (2147483648 + r) / 2147483648 % 2 = 1 by omega]; rfl⟩
theorem s_word (neg : Bool) (r : Nat) (hr : r < 2139095040) : ∃ m i, single.read (single.word neg r) = .number neg m i ∧ (m = 0 ∨ i + (m.log2 : Int) ≤ (r / 8388608 : Nat) - 127) := by
  have hw := s_parts neg r (by omega)
  rw [s_read, hw.1, hw.2]
  by_cases c : r < 8388608
  · rw [if_pos c]
    refine ⟨r, -149, rfl, ?_⟩
    by_cases h0 : r = 0
    · exact .inl h0
    · right
      have : r.log2 ≤ 22 := log2_le h0 (pow23 ▸ c)
      omega
  · rw [if_neg c, if_pos hr]
    refine ⟨_, _, rfl, .inr ?_⟩
    have : (8388608 + r % 8388608).log2 ≤ 23 := log2_le (by omega) (by omega)
    omega
theorem s_inf (neg : Bool) : single.read (single.word neg 2139095040) = .infinity neg := by
  have hw := s_parts neg 2139095040 (by omega)
  rw [s_read, hw.1, hw.2, if_neg (by omega), if_neg (by omega), if_pos rfl]
/-- A number between -2^(E+1) and 2^(E+1). -/
def Sm (E : Int) (x : Nat) : Prop := ∃ s m i, single.read x = .number s m i ∧ (m = 0 ∨ i + (m.log2 : Int) ≤ E)
def NN (x : Nat) : Prop := (single.read x).isNaN = false
def Ps (x : Nat) : Prop := (∃ m i, single.read x = .number false m i) ∨ single.read x = .infinity false
theorem Sm.mono {E E' : Int} {x : Nat} (h : Sm E x) (he : E ≤ E') : Sm E' x := by
  obtain ⟨s, m, i, h1, h2⟩ := h
  exact ⟨s, m, i, h1, by omega⟩
theorem Sm.nn {E : Int} {x : Nat} (h : Sm E x) : NN x := by obtain ⟨s, m, i, h1, _⟩ := h; rw [NN, h1]; rfl
theorem Ps.nn {x : Nat} (h : Ps x) : NN x := by
  rcases h with ⟨m, i, h⟩ | h <;> rw [NN, h] <;> rfl
theorem write_any (neg : Bool) (mag : Nat) (place : Int) : (∃ m i, single.read (single.nearest neg mag place) = .number neg m i) ∨ single.read (single.nearest neg mag place) = .infinity neg := by
  obtain ⟨r, e, hr, _⟩ := near_rung single neg mag place
  have hr : r ≤ 2139095040 := hr
  rw [e]
  by_cases c : r = 2139095040
  · rw [c]; exact .inr (s_inf neg)
  · obtain ⟨m, i, h3, _⟩ := s_word neg r (by omega)
    exact .inl ⟨m, i, h3⟩
/-! ## The operations -/
def fAdd (x y : Nat) : Nat := (single.add x y).getD 0
def fSub (x y : Nat) : Nat := (single.sub x y).getD 0
def fMul (x y : Nat) : Nat := (single.mul x y).getD 0
def fDiv (x y : Nat) : Nat := (single.div x y).getD 0
theorem mul_pos {x y m n : Nat} {i j : Int} (hx : single.read x = .number false m i) (hy : single.read y = .number false n j) : single.mul x y = some (fMul x y) ∧ Ps (fMul x y) := by
  have e : single.mul x y = some (single.nearest false (m * n) (i + j)) := by rw [Format.mul, hx, hy]; rfl
  refine ⟨by rw [fMul, e]; rfl, ?_⟩
  rw [fMul, e]
  exact write_any false (m * n) (i + j)
end Go.Am

namespace Go.Am
set_option linter.unusedSimpArgs false
set_option linter.unusedVariables false
open Ieee

/-! ## Small whole numbers -/
def fI (n : Int) : Nat := FloatKind.f32.nearest n
/-! ## Orders -/
abbrev ord (x y : Nat) : Option Ordering := single.order x y
def geB (x y : Nat) : Bool := ord x y == some .gt || ord x y == some .eq
def leB (x y : Nat) : Bool := ord x y == some .lt || ord x y == some .eq
def gtB (x y : Nat) : Bool := ord x y == some .gt
def ltB (x y : Nat) : Bool := ord x y == some .lt
/-- A place of a cake. -/
def plF (p : Int) (x : Nat) : Bool := geB x 0 && leB x (fI p)
def PlD (x : Nat) : Prop := ∃ s m i, single.read x = .number s m i ∧ (s = true → m = 0) ∧ (m = 0 ∨ i + (m.log2 : Int) ≤ 10)
theorem PlD.sm {x : Nat} (h : PlD x) : Sm 10 x := by obtain ⟨s, m, i, e, _, h⟩ := h; exact ⟨s, m, i, e, h⟩
theorem PlD.nn {x : Nat} (h : PlD x) : NN x := h.sm.nn
/-! ## A part of a piece -/
def cA (x : Nat) (k : Nat) : Nat := if gtB x (fI k) then x else fI k
def cB (y : Nat) (k : Nat) : Nat := if ltB y (fI ((k : Int) + 1)) then y else fI ((k : Int) + 1)
def cD (x y k : Nat) : Nat := fSub (cB y k) (cA x k)
def cSum (x y : Nat) (ws : List Int) : Nat → Nat
  | 0 => 0
  | k + 1 => if gtB (cD x y k) 0 then fAdd (cSum x y ws k) (fMul (fI (ws.getD k 0)) (cD x y k)) else cSum x y ws k
/-! ## In double precision -/
end Go.Am

namespace Go.Am
set_option linter.unusedSimpArgs false
set_option linter.unusedVariables false
open Ieee
section
variable {P : Program} {K : Value → AHeap → Prop} {env : Env} {h : AHeap} {dst : Option Tmp} {ty : TypeId} {pos : String} {after : Array Edge} {guard : Option (Nat × Bool)}
end
abbrev rowC (q i : Int) (xs : List Int) : List Int := part xs (i * q).toNat ((i + 1) * q).toNat
def cwK (p q i : Int) (xs : List Int) (x y : Nat) : Bool := (validC p q xs && decide (0 ≤ i ∧ i ≤ p - 1)) && (plF q x && (plF q y && !gtB x y))
variable {p q i : Int} {xs : List Int} {x y : Nat}
theorem cwK_yes (h1 : (validC p q xs && decide (0 ≤ i ∧ i ≤ p - 1)) = true) (h2 : plF q x = true) (h3 : plF q y = true) (h4 : gtB x y = false) : cwK p q i xs x y = true := by rw [cwK, h1, h2, h3, h4]; rfl
end Go.Am

namespace Go.Am
set_option linter.unusedSimpArgs false
set_option linter.unusedVariables false
open Ieee

/-! ## A number less itself -/
def finB (x : Nat) : Bool := match single.read x with | .number .. => true | _ => false
section
variable {P : Program} {K : Value → AHeap → Prop} {env : Env} {h : AHeap} {dst : Option Tmp} {ty : TypeId} {pos : String} {after : Array Edge} {guard : Option (Nat × Bool)}
end

/-! ## Marks -/
def mP (x : Nat) (ws : List Int) (k : Nat) : Nat := fMul (fI (ws.getD k 0)) (fSub (fI ((k : Int) + 1)) (cA x k))
def mLeft (x w : Nat) (ws : List Int) : Nat → Nat
  | 0 => w
  | k + 1 => if gtB (fI ((k : Int) + 1)) x then fSub (mLeft x w ws k) (mP x ws k) else mLeft x w ws k
def mHit (x w : Nat) (ws : List Int) (k : Nat) : Bool := gtB (fI ((k : Int) + 1)) x && (geB (mP x ws k) (mLeft x w ws k) && decide (0 < ws.getD k 0))
def mRes (x w : Nat) (ws : List Int) (k : Nat) : Nat := fAdd (cA x k) (fDiv (mLeft x w ws k) (fI (ws.getD k 0)))
def mHitI (x w : Nat) (ws : List Int) (z : Int) : Bool := mHit x w ws z.toNat
def mFir (x w : Nat) (ws : List Int) (n : Nat) : Int := idxTo (mHitI x w ws) (cntL n) n
def mAll (q : Int) (x w : Nat) (ws : List Int) : Nat := if 0 ≤ mFir x w ws q.toNat then mRes x w ws (mFir x w ws q.toNat).toNat else fI q
def cmK (p q i : Int) (xs : List Int) (x w : Nat) : Bool := (validC p q xs && decide (0 ≤ i ∧ i ≤ p - 1)) && (plF q x && (geB w 0 && finB w))
variable {p q i : Int} {xs : List Int} {x w : Nat}
theorem cmK_yes (h1 : (validC p q xs && decide (0 ≤ i ∧ i ≤ p - 1)) = true) (h2 : plF q x = true) (h3 : geB w 0 = true) (h4 : finB w = true) : cmK p q i xs x w = true := by rw [cmK, h1, h2, h3, h4]; rfl
end Go.Am

namespace Go.Am
set_option linter.unusedSimpArgs false
set_option linter.unusedVariables false
open Ieee

/-! ## Halves -/
/-! ## Rounded to at most -/
end Go.Am

namespace Go.Am
set_option linter.unusedSimpArgs false
set_option linter.unusedVariables false
open Ieee

/-! ## Numbers not below zero, and not too great -/
def NF (E : Int) (x : Nat) : Prop := ∃ m i, single.read x = .number false m i ∧ (m = 0 ∨ i + (m.log2 : Int) ≤ E)
theorem NF.sm {E : Int} {x : Nat} (h : NF E x) : Sm E x := by obtain ⟨m, i, e, b⟩ := h; exact ⟨false, m, i, e, b⟩
theorem NF.mono {E E' : Int} {x : Nat} (h : NF E x) (he : E ≤ E') : NF E' x := by obtain ⟨m, i, e, b⟩ := h; exact ⟨m, i, e, by omega⟩
theorem NF.fin {E : Int} {x : Nat} (h : NF E x) : finB x = true := by obtain ⟨m, i, e, b⟩ := h; rw [finB, e]
def hf (x : Nat) : Nat := fDiv x 1073741824
/-! ## Whole numbers -/
end Go.Am

namespace Go.Am
set_option linter.unusedSimpArgs false
set_option linter.unusedVariables false
open Ieee
abbrev ccW (q : Int) (xs : List Int) : Nat := cSum 0 (fI q) (rowC q 0 xs) q.toNat
abbrev ccA (q : Int) (xs : List Int) : Nat := mAll q 0 (hf (ccW q xs)) (rowC q 0 xs)
structure CC (p q : Int) (xs : List Int) : Prop where
  w0 : (validC p q xs && decide ((0 : Int) ≤ 0 ∧ (0 : Int) ≤ p - 1)) = true
  w1 : (validC p q xs && decide ((0 : Int) ≤ 1 ∧ (1 : Int) ≤ p - 1)) = true
  h0 : plF q 0 = true
  h1 : plF q (fI q) = true
  h2 : plF q (ccA q xs) = true
  g1 : gtB 0 (fI q) = false
  g2 : gtB 0 (ccA q xs) = false
  g3 : gtB (ccA q xs) (fI q) = false
  f5 : floatBits .quo .f32 (ccW q xs) 1073741824 = some (hf (ccW q xs))
  f6 : floatBits .mul .f32 1056964608 (ccW q xs) = some (hf (ccW q xs))
  m1 : geB (hf (ccW q xs)) 0 = true
  m2 : finB (hf (ccW q xs)) = true
  nn : NN (ccA q xs)
section
variable {p q : Int} {xs : List Int}
theorem CC.k1 (c : CC p q xs) : cwK p q 0 xs 0 (fI q) = true := cwK_yes c.w0 c.h0 c.h1 c.g1
theorem CC.k2 (c : CC p q xs) : cmK p q 0 xs 0 (hf (ccW q xs)) = true := cmK_yes c.w0 c.h0 c.m1 c.m2
theorem CC.k3 (c : CC p q xs) : cwK p q 1 xs 0 (ccA q xs) = true := cwK_yes c.w1 c.h0 c.h2 c.g2
theorem CC.k4 (c : CC p q xs) : cwK p q 1 xs (ccA q xs) (fI q) = true := cwK_yes c.w1 c.h2 c.h1 c.g3
end
end Go.Am

namespace Go.Am
set_option linter.unusedSimpArgs false
set_option linter.unusedVariables false
def lstF (xs : List Nat) : AObj := ⟨xs.map fl, true, 1⟩
def Flts (h : AHeap) (v : Value) (xs : List Nat) : Prop :=
  (v = .slice none 0 0 ∧ xs = []) ∨
  ∃ k off ver cap o, v = .slice (some ⟨k, off, some ver⟩) xs.length cap ∧ h[k]? = some o ∧ o.cells.length = ver ∧ o.esz = 1 ∧ xs.length ≤ cap ∧ off + cap = ver ∧
    ∀ (i : Nat) (z : Nat), xs[i]? = some z → o.cells[off + i]? = some (fl z)
theorem Flts.app {h : AHeap} {v : Value} {xs : List Nat} (hv : Flts h v xs) (g : List AObj) : Flts (h ++ g) v xs := by
  rcases hv with hv | ⟨k, off, ver, cap, o, h1, h2, h3, h4, h5, h6, h7⟩
  · exact .inl hv
  · exact .inr ⟨k, off, ver, cap, o, h1, by rw [List.getElem?_append_left (List.getElem?_eq_some_iff.1 h2).1]; exact h2, h3, h4, h5, h6, h7⟩
theorem Flts.within {h : AHeap} {v : Value} {xs : List Nat} (hv : Flts h v xs) : Within h.length v := by
  rcases hv with ⟨rfl, _⟩ | ⟨k, off, ver, cap, o, rfl, h2, _⟩
  · exact .prim rfl
  · exact .slice (List.getElem?_eq_some_iff.1 h2).1
theorem Flts.own {h : AHeap} {k n : Nat} {xs : List Nat} (ho : h[k]? = some (lstF xs)) (hn : xs.length = n) : Flts h (sl k n) xs := by
  subst hn
  exact .inr ⟨k, 0, _, _, lstF xs, rfl, ho, by simp [lstF], rfl, Nat.le_refl _, by simp, fun i z hz => by simp [lstF, hz]⟩
section
variable {P : Program} {K : Value → AHeap → Prop} {env : Env} {h : AHeap} {dst : Option Tmp} {ty : TypeId} {pos : String} {after : Array Edge} {guard : Option (Nat × Bool)}
end
section
variable {P : Program} {K : Value → AHeap → Prop} {env : Env} {h : AHeap} {dst : Option Tmp} {ty : TypeId} {pos : String} {after : Array Edge} {guard : Option (Nat × Bool)}
end
section
variable {P : Program} {K : Value → AHeap → Prop} {env : Env} {h : AHeap} {dst : Option Tmp} {ty : TypeId} {pos : String} {after : Array Edge} {guard : Option (Nat × Bool)}
end
section
variable {P : Program} {ops : Array Oper} {KE : Env → AHeap → Prop} {os : List Oper} {env : Env} {h : AHeap} {d : Option Tmp} {op : Op} {ty : TypeId} {pos : String} {af : Array Edge} {g : Option (Nat × Bool)}
end
section
variable {P : Program} {ops : Array Oper} {KE : Env → AHeap → Prop} {os : List Oper} {env : Env} {h : AHeap} {d : Option Tmp} {ty : TypeId} {pos : String} {af : Array Edge} {g : Option (Nat × Bool)}
end
end Go.Am

namespace Go.Am
set_option linter.unusedSimpArgs false
set_option linter.unusedVariables false
open Ieee

/-! ## Values over one base -/
def V (m : Nat) (i : Int) : Nat := m * 2 ^ (i + 300).toNat
/-! ## Rounding, told more finely -/
end Go.Am

namespace Go.Am
set_option linter.unusedSimpArgs false
set_option linter.unusedVariables false
open Ieee
end Go.Am

namespace Go.Am
set_option linter.unusedSimpArgs false
set_option linter.unusedVariables false
open Ieee
end Go.Am

namespace Go.Am
set_option linter.unusedSimpArgs false
set_option linter.unusedVariables false

section
variable {P : Program} {K : Value → AHeap → Prop} {env : Env} {h : AHeap} {dst : Option Tmp} {ty : TypeId} {pos : String} {after : Array Edge} {guard : Option (Nat × Bool)}
end
/-- A cut list, as it reads. -/
theorem Ints.cut {h : AHeap} {k n L : Nat} {xs : List Int} (ho : h[k]? = some (lst xs)) (hn : xs.length = L) (hl : n ≤ L) : Ints h (.slice (some ⟨k, 0, some L⟩) n L) (xs.take n) := by
  subst hn
  have hlen : (xs.take n).length = n := by rw [List.length_take]; omega
  refine .inr ⟨k, 0, _, _, lst xs, by rw [hlen], ho, by simp [lst], rfl, by omega, by omega, fun i z hz => ?_⟩
  rw [List.getElem?_take] at hz
  split at hz
  · simp [lst, hz]
  · cases hz
end Go.Am

namespace Go.Am
set_option linter.unusedSimpArgs false
set_option linter.unusedVariables false
open Go.RowKit
end Go.Am

namespace Go.Am
set_option linter.unusedSimpArgs false
set_option linter.unusedVariables false

end Go.Am

namespace Go.Am
set_option linter.unusedSimpArgs false
set_option linter.unusedVariables false
section
variable {P : Program} {ops : Array Oper} {KE : Env → AHeap → Prop} {os : List Oper} {env : Env} {h : AHeap} {d : Option Tmp} {ty : TypeId} {pos : String} {af : Array Edge} {g : Option (Nat × Bool)}
end

/-! ## The state of the recursion -/
structure PlanS (h H : AHeap) (kO : Nat) (al : List (List Int)) (s : Nat) (r : Nat → Nat) (ss : List Int) (n : Nat) (m : Int) : Prop where
  own : OwnS h.length H kO al s r
  far : ∀ i, i < s → h.length + 7 ≤ r i
  len : ss.length = n
  bnd : ∀ x ∈ ss, 0 ≤ x ∧ x ≤ m
  sle : s ≤ al.length
theorem lk_far {X Y g : AHeap} {k : Nat} (e : X.length = Y.length) (hk : X.length ≤ k) : (X ++ g)[k]? = (Y ++ g)[k]? := by
  rw [List.getElem?_append_right hk, List.getElem?_append_right (by omega), e]
end Go.Am

namespace Go.Am
set_option linter.unusedSimpArgs false
set_option linter.unusedVariables false
end Go.Am

namespace Go.Am
set_option linter.unusedSimpArgs false
set_option linter.unusedVariables false
structure PlanT (h H : AHeap) (kO : Nat) (al : List (List Int)) (s : Nat) (r : Nat → Nat) : Prop where
  own : OwnS h.length H kO al s r
  far : ∀ i, i < s → h.length + 3 ≤ r i
  sle : s ≤ al.length
theorem getD_set_at {l : List Int} {i : Nat} {x : Int} (h : i < l.length) : (l.set i x).getD i 0 = x := by
  rw [getD_at (by simpa using h)]; simp
end Go.Am

namespace Go.Am
set_option linter.unusedSimpArgs false
set_option linter.unusedVariables false

/-! ## Appending to a cut list -/
section
variable {P : Program} {K : Value → AHeap → Prop} {env : Env} {h : AHeap} {dst : Option Tmp} {ty : TypeId} {pos : String} {after : Array Edge} {guard : Option (Nat × Bool)}
end
/-! ## Rows that are kept -/
structure RowG (b : Nat) (H : AHeap) (kO : Nat) (al : List (List Int)) (s : Nat) (r : Nat → Nat) (bad : Nat → Prop) : Prop where
  own : OwnS b H kO al s r
  far : ∀ i, i < s → ¬ bad (r i)
  sle : s ≤ al.length
theorem RowG.set {b : Nat} {H H' : AHeap} {kO k s : Nat} {al : List (List Int)} {r : Nat → Nat} {bad : Nat → Prop} {o : AObj} (p : RowG b H kO al s r bad) (hs : H.set k o = H') (hk : k ≠ kO) (hb : bad k) : RowG b H' kO al s r bad := by
  subst hs
  refine ⟨⟨by rw [List.getElem?_set_ne hk]; exact p.own.out, p.own.low, fun i hi => ?_, p.own.inj⟩, p.far, p.sle⟩
  obtain ⟨h1, h2, h3⟩ := p.own.row i hi
  exact ⟨h1, h2, by rw [List.getElem?_set_ne fun e => p.far i hi (by rw [← e]; exact hb)]; exact h3⟩
theorem RowG.push {b : Nat} {H g : AHeap} {kO s : Nat} {al : List (List Int)} {r : Nat → Nat} {bad : Nat → Prop} (p : RowG b H kO al s r bad) : RowG b (H ++ g) kO al s r bad := ⟨owns_push p.own, p.far, p.sle⟩
theorem RowG.lt {b : Nat} {H : AHeap} {kO s : Nat} {al : List (List Int)} {r : Nat → Nat} {bad : Nat → Prop} (p : RowG b H kO al s r bad) {i : Nat} (hi : i < s) : r i < H.length := (List.getElem?_eq_some_iff.1 (p.own.row i hi).2.2).1
theorem RowG.bad {b : Nat} {H : AHeap} {kO s : Nat} {al : List (List Int)} {r : Nat → Nat} {bad bad' : Nat → Prop} (p : RowG b H kO al s r bad) (h : ∀ j, j < H.length → ¬ bad j → ¬ bad' j) : RowG b H kO al s r bad' := ⟨p.own, fun i hi => h _ (p.lt hi) (p.far i hi), p.sle⟩
theorem RowG.add {b : Nat} {H H' : AHeap} {kO kR s : Nat} {al : List (List Int)} {r : Nat → Nat} {bad : Nat → Prop} {ss : List Int} {t : AObj} (p : RowG b H kO al s r bad) (hs : s < al.length) (hrow : rowAt al s = ss) (hb : b ≤ H.length) (hbad : ¬ bad kR) (hk : kR = H.length)
    (hH : (H ++ [lst ss] ++ [t]).set kO (vls (rvals r al s ++ [sl kR ss.length])) = H') : RowG b H' kO al (s + 1) (fun i => if i = s then kR else r i) bad := by
  subst hrow
  have := owns_step (t := t) p.own hb hk
  rw [hH] at this
  refine ⟨this, fun i hi => ?_, by omega⟩
  by_cases e : i = s
  · subst e; simp only [if_true]; exact hbad
  · simp only [if_neg e]; exact p.far i (by omega)
/-! ## Rings -/
/-! ## What is given -/
structure GivesOk (xss : List (List Int)) : Prop where
  n1 : 1 ≤ xss.length
  n8 : xss.length ≤ 8
  row : ∀ i, (rowAt xss i).length ≤ 8
  bnd : ∀ i, ∀ x ∈ rowAt xss i, 0 ≤ x ∧ x < (xss.length : Int)
section
variable {P : Program} {K : Value → AHeap → Prop} {env : Env} {h : AHeap} {dst : Option Tmp} {ty : TypeId} {pos : String} {after : Array Edge} {guard : Option (Nat × Bool)}
end
end Go.Am

namespace Go.Am
set_option linter.unusedSimpArgs false
set_option linter.unusedVariables false

/-! ## Two lists -/
/-! ## All orders, and the best of them -/
end Go.Am

namespace Go.Am
set_option linter.unusedSimpArgs false
set_option linter.unusedVariables false
def BestV (H : AHeap) (lo n : Nat) (bv : Value) (bo : Option (List Int)) : Prop :=
  (bo = none ∧ bv = .slice none 0 0) ∨ ∃ k bl, bo = some bl ∧ bv = sl k n ∧ lo ≤ k ∧ H[k]? = some (lst bl) ∧ bl.length = n
theorem BestV.push {H g : AHeap} {lo n : Nat} {bv : Value} {bo : Option (List Int)} (h : BestV H lo n bv bo) : BestV (H ++ g) lo n bv bo := by
  rcases h with h | ⟨k, bl, h1, h2, h3, h4, h5⟩
  · exact .inl h
  · exact .inr ⟨k, bl, h1, h2, h3, lk_prev h4, h5⟩
theorem BestV.far {X Y g : AHeap} {lo n : Nat} {bv : Value} {bo : Option (List Int)} (h : BestV (X ++ g) lo n bv bo) (e : X.length = Y.length) (hlo : X.length ≤ lo) : BestV (Y ++ g) lo n bv bo := by
  rcases h with h | ⟨k, bl, h1, h2, h3, h4, h5⟩
  · exact .inl h
  · exact .inr ⟨k, bl, h1, h2, h3, by rw [← lk_far e (by omega)]; exact h4, h5⟩
/-! ## Rents -/
structure RentOk (xs : List Int) (n : Nat) : Prop where
  n1 : 1 ≤ n
  n6 : n ≤ 6
  len : (xs.length : Int) = (n : Int) * (n : Int)
  bnd : xs.all (fun x => decide (0 ≤ x ∧ x ≤ 1000)) = true
end Go.Am

namespace Go.Am
set_option linter.unusedSimpArgs false
set_option linter.unusedVariables false
section
variable {P : Program} {K : Value → AHeap → Prop} {env : Env} {h : AHeap} {dst : Option Tmp} {ty : TypeId} {pos : String} {after : Array Edge} {guard : Option (Nat × Bool)}
end
end Go.Am

namespace Go.Am
set_option linter.unusedSimpArgs false
set_option linter.unusedVariables false
abbrev by8 (n : Int) : Value := .int .u8 n
def Byts (h : AHeap) (v : Value) (xs : List Int) : Prop :=
  (v = .slice none 0 0 ∧ xs = []) ∨
  ∃ k off ver cap o, v = .slice (some ⟨k, off, some ver⟩) xs.length cap ∧ h[k]? = some o ∧ o.cells.length = ver ∧ o.esz = 1 ∧ xs.length ≤ cap ∧ off + cap = ver ∧
    ∀ (i : Nat) (z : Int), xs[i]? = some z → o.cells[off + i]? = some (by8 z)
theorem Byts.app {h : AHeap} {v : Value} {xs : List Int} (hv : Byts h v xs) (g : List AObj) : Byts (h ++ g) v xs := by
  rcases hv with hv | ⟨k, off, ver, cap, o, h1, h2, h3, h4, h5, h6, h7⟩
  · exact .inl hv
  · exact .inr ⟨k, off, ver, cap, o, h1, by rw [List.getElem?_append_left (List.getElem?_eq_some_iff.1 h2).1]; exact h2, h3, h4, h5, h6, h7⟩
theorem Byts.within {h : AHeap} {v : Value} {xs : List Int} (hv : Byts h v xs) : Within h.length v := by
  rcases hv with ⟨rfl, _⟩ | ⟨k, off, ver, cap, o, rfl, h2, _⟩
  · exact .prim rfl
  · exact .slice (List.getElem?_eq_some_iff.1 h2).1
theorem byts_nil {h : AHeap} : Byts h (.slice none 0 0) [] := .inl ⟨rfl, rfl⟩
section
variable {P : Program} {K : Value → AHeap → Prop} {env : Env} {h : AHeap} {dst : Option Tmp} {ty : TypeId} {pos : String} {after : Array Edge} {guard : Option (Nat × Bool)}
theorem o_lenY {t e : TypeId} {x : Operand} {v : Value} {xs : List Int} (hu : P.underlying t = some (.slice e)) (hx : aeval env x = v) (hv : Byts h v xs) (hK : K (i64 xs.length) h) :
    AOp P ⟨dst, .call { callee := .builtin .len, args := #[x], argTypes := #[t] }, ty, pos, after, guard⟩ K env h := by
  rcases hv with ⟨rfl, rfl⟩ | ⟨k, off, ver, cap, o, rfl, h2, h3, h4, h5, h6, h7⟩
  · exact aop_len hu hx (fun ad ha => by cases ha) hK
  · exact aop_len hu hx (fun ad ha => by cases ha; exact ⟨k, off, ver, o, rfl, h2, h3⟩) hK
theorem o_indexY {t e : TypeId} {x y : Operand} {v z : Value} {b : Nat} {xs : List Int} {kd : IntKind} {i : Nat} (hu : P.underlying t = some (.slice e)) (hi : InfoIs P e z 1 b)
    (hx : aeval env x = v) (hv : Byts h v xs) (hy : aeval env y = .int kd (i : Int)) (hlt : i < xs.length) (hK : ∀ p, IsElem v i p → K p h) : AOp P ⟨dst, .indexAddr t x y, ty, pos, after, guard⟩ K env h := by
  obtain ⟨inf, g1, _, g3, _⟩ := hi.get
  rcases hv with ⟨rfl, rfl⟩ | ⟨k, off, ver, cap, o, rfl, h2, h3, h4, h5, h6, h7⟩
  · simp at hlt
  · refine aop_indexAddr hu g1 (by rw [g3, h4]) hx h2 h3 hy (by omega) (by omega) (by omega) ?_
    rw [h4, Int.toNat_natCast, Nat.mul_one]
    exact hK _ rfl
theorem o_indexYZ {t e : TypeId} {x y : Operand} {v z : Value} {b : Nat} {xs : List Int} {kd : IntKind} {i : Int} (hu : P.underlying t = some (.slice e)) (hi : InfoIs P e z 1 b)
    (hx : aeval env x = v) (hv : Byts h v xs) (hy : aeval env y = .int kd i) (h0 : 0 ≤ i) (hlt : i < xs.length) (hK : ∀ p, IsElem v i.toNat p → K p h) : AOp P ⟨dst, .indexAddr t x y, ty, pos, after, guard⟩ K env h :=
  o_indexY hu hi hx hv (by rw [hy, Int.toNat_of_nonneg h0]) (by omega) hK
theorem o_loadY {t : TypeId} {x : Operand} {v p : Value} {dd : TypeDesc} {xs : List Int} {i : Nat} (hu : P.underlying t = some dd) (hd : aggD dd = false) (hx : aeval env x = p) (hp : IsElem v i p) (hv : Byts h v xs) (hlt : i < xs.length)
    (hK : K (by8 (xs.getD i 0)) h) : AOp P ⟨dst, .load t x, ty, pos, after, guard⟩ K env h := by
  rcases hv with ⟨rfl, rfl⟩ | ⟨k, off, ver, cap, o, rfl, h2, h3, h4, h5, h6, h7⟩
  · simp at hlt
  · have hz : xs[i]? = some (xs.getD i 0) := by simp [List.getD_eq_getElem?_getD, List.getElem?_eq_getElem hlt]
    exact aop_load hu hd (hx.trans hp) h2 h3 (h7 i _ hz) hK
end
section
variable {P : Program} {ops : Array Oper} {KE : Env → AHeap → Prop} {os : List Oper} {env : Env} {h : AHeap} {d : Option Tmp} {op : Op} {ty : TypeId} {pos : String} {af : Array Edge} {g : Option (Nat × Bool)}
theorem IsElem.withinY {v p : Value} {xs : List Int} {i : Nat} (hv : Byts h v xs) (hp : IsElem v i p) : Within h.length p := by
  rcases hv with ⟨rfl, _⟩ | ⟨k, off, ver, cap, o, rfl, h2, _⟩
  · exact hp.elim
  · have : p = .pointer (some ⟨k, off + i, some ver⟩) := hp
    rw [this]
    exact .ptr (List.getElem?_eq_some_iff.1 h2).1
theorem d_indexY {t e : TypeId} {x y : Operand} {v z : Value} {b : Nat} {xs : List Int} {kd : IntKind} {i : Nat} (hw : wantedA ops env ⟨d, .indexAddr t x y, ty, pos, af, g⟩ = some true) (hu : P.underlying t = some (.slice e)) (hi : InfoIs P e z 1 b)
    (hx : aeval env x = v) (hv : Byts h v xs) (hy : aeval env y = .int kd (i : Int)) (hlt : i < xs.length) (hK : ∀ p, IsElem v i p → DRun P ops KE os (env.put d p) h) : DRun P ops KE (⟨d, .indexAddr t x y, ty, pos, af, g⟩ :: os) env h := by
  have ⟨p, hp⟩ : ∃ p, IsElem v i p := by
    rcases hv with ⟨rfl, rfl⟩ | ⟨k, off, ver, cap, o, rfl, _⟩
    · simp at hlt
    · exact ⟨_, rfl⟩
  refine d_do hw (o_indexY hu hi hx hv hy hlt fun p' hp' => ⟨?_, rfl⟩) (hp.withinY hv) (hK p hp)
  rcases hv with ⟨rfl, rfl⟩ | ⟨k, off, ver, cap, o, rfl, _⟩
  · simp at hlt
  · exact hp'.trans hp.symm
theorem d_indexYZ {t e : TypeId} {x y : Operand} {v z : Value} {b : Nat} {xs : List Int} {kd : IntKind} {i : Int} (hw : wantedA ops env ⟨d, .indexAddr t x y, ty, pos, af, g⟩ = some true) (hu : P.underlying t = some (.slice e)) (hi : InfoIs P e z 1 b)
    (hx : aeval env x = v) (hv : Byts h v xs) (hy : aeval env y = .int kd i) (h0 : 0 ≤ i) (hlt : i < xs.length) (hK : ∀ p, IsElem v i.toNat p → DRun P ops KE os (env.put d p) h) : DRun P ops KE (⟨d, .indexAddr t x y, ty, pos, af, g⟩ :: os) env h :=
  d_indexY hw hu hi hx hv (by rw [hy, Int.toNat_of_nonneg h0]) (by omega) hK
end
def BB (bs : List Int) : Prop := ∀ b ∈ bs, 0 ≤ b ∧ b < 256
theorem BB.at {bs : List Int} (h : BB bs) (i : Nat) : 0 ≤ bs.getD i 0 ∧ bs.getD i 0 < 256 := by
  by_cases c : i < bs.length
  · rw [getD_at c]; exact h _ (List.getElem_mem _)
  · rw [List.getD_eq_getElem?_getD, List.getElem?_eq_none (by omega)]
    exact ⟨Int.le_refl _, by decide⟩
/-- A source: the bytes, the place, the seed. -/
abbrev srcO (v : Value) (a s : Int) : AObj := ⟨[v, i64 a, .int .u64 s], true, 1⟩
theorem Byts.src {h : AHeap} {v v2 : Value} {bs : List Int} {kS : Nat} {a s a2 s2 : Int} (hv : Byts h v bs) (hS : h[kS]? = some (srcO v2 a s)) : Byts (h.set kS (srcO v2 a2 s2)) v bs := by
  rcases hv with hv | ⟨k, off, ver, cap, o, h1, h2, h3, h4, h5, h6, h7⟩
  · exact .inl hv
  · by_cases e : k = kS
    · subst e
      have hk := (List.getElem?_eq_some_iff.1 h2).1
      rw [h2, Option.some.injEq] at hS
      subst hS
      refine .inr ⟨k, off, ver, cap, srcO v2 a2 s2, h1, by rw [List.getElem?_set_self hk], h3, rfl, h5, h6, fun i z hi => ?_⟩
      have h8 := h7 i z hi
      revert h8
      generalize off + i = n
      intro h8
      match n, h8 with
      | 0, h8 => exact h8
      | 1, h8 => simp at h8
      | 2, h8 => simp at h8
      | n + 3, h8 => simp at h8
    · exact .inr ⟨k, off, ver, cap, o, h1, by rw [List.getElem?_set_ne (fun e2 => e e2.symm)]; exact h2, h3, h4, h5, h6, h7⟩
section
variable {P : Program} {K : Value → AHeap → Prop} {env : Env} {h : AHeap} {dst : Option Tmp} {ty : TypeId} {pos : String} {after : Array Edge} {guard : Option (Nat × Bool)}
theorem o_and255 {t yt : TypeId} {x y : Operand} {p : Int} (hx : aeval env x = .int .u64 p) (hy : aeval env y = .int .u64 255) (hK : ∀ q, 0 ≤ q → q < 256 → K (.int .u64 q) h) : AOp P ⟨dst, .binOp .and t x y yt, ty, pos, after, guard⟩ K env h := by
  have e : ((BitVec.ofInt 64 p &&& BitVec.ofInt 64 255).toNat) ≤ 255 := by
    rw [BitVec.toNat_and]
    exact Nat.le_trans Nat.and_le_right (by decide)
  refine o_bin hx hy (v := .int .u64 (IntKind.u64.wrap ((BitVec.ofInt 64 p &&& BitVec.ofInt 64 255).toNat : Int))) (by rfl) ?_
  have e2 : IntKind.u64.wrap ((BitVec.ofInt 64 p &&& BitVec.ofInt 64 255).toNat : Int) = ((BitVec.ofInt 64 p &&& BitVec.ofInt 64 255).toNat : Int) := by
    simp only [IntKind.wrap, IntKind.bits, IntKind.signed, Bool.false_and, Bool.false_eq_true, if_false]
    omega
  rw [e2]
  exact hK _ (by omega) (by omega)
theorem build3_sz {f0 f1 f2 : Field} {z0 z1 z2 : Value} {b0 b1 b2 : Nat} (h0 : InfoIs P f0.type z0 1 b0) (h1 : InfoIs P f1.type z1 1 b1) (h2 : InfoIs P f2.type z2 1 b2) : ∀ f ∈ (#[f0, f1, f2] : Array Field).toList, ∃ i, P.info? f.type = some i ∧ i.size = (fun _ => 1) f.type := fun f hf => by
  simp only [List.mem_cons, List.not_mem_nil, or_false] at hf
  rcases hf with rfl | rfl | rfl
  · obtain ⟨i, g1, _, g3, _⟩ := h0.get; exact ⟨i, g1, g3⟩
  · obtain ⟨i, g1, _, g3, _⟩ := h1.get; exact ⟨i, g1, g3⟩
  · obtain ⟨i, g1, _, g3, _⟩ := h2.get; exact ⟨i, g1, g3⟩
theorem o_build31 {t : TypeId} {f0 f1 f2 : Field} {z0 z1 z2 y0 y1 y2 w : Value} {b0 b1 b2 s b : Nat} {x : Operand} (hu : P.underlying t = some (.struct #[f0, f1, f2])) (ho : f0.offset = 0) (h0 : InfoIs P f0.type z0 1 b0) (h1 : InfoIs P f1.type z1 1 b1) (h2 : InfoIs P f2.type z2 1 b2)
    (hi : InfoIs P t (.agg #[y0, y1, y2]) s b) (hc : isConst (.agg #[y0, y1, y2]) = true) (hx : aeval env x = w) (hw : w.cells = #[w]) (hK : K (.agg #[w, y1, y2]) h) : AOp P ⟨dst, .build t #[(0, x)], ty, pos, after, guard⟩ K env h := by
  obtain ⟨i, g1, g2, g3, g4⟩ := hi.get
  exact aop_build (fun _ => 1) hu g1 g2 hc (build3_sz h0 h1 h2) (out := #[w, y1, y2]) (by simp [Instr.fill, hx, ho, hw, show (Value.agg #[y0, y1, y2]).cells = #[y0, y1, y2] from rfl]) hK
theorem o_anyU {t yt : TypeId} {x y : Operand} {p q : Int} (hx : aeval env x = .int .u64 p) (hy : aeval env y = .int .u64 q) (hK : ∀ z, K (.int .u64 z) h) : AOp P ⟨dst, .binOp .add t x y yt, ty, pos, after, guard⟩ K env h := o_bin hx hy rfl (hK _)
end
def atB (bs : List Int) (i n : Int) : Int := if n ≤ 1 then 0 else if i < bs.length then bs.getD i.toNat 0 % n else (i * 37 + 11) % n
theorem atB_bnd {bs : List Int} (hb : BB bs) {i n : Int} (hn : 1 ≤ n) : 0 ≤ atB bs i n ∧ atB bs i n < n := by
  have h1 := hb.at i.toNat
  unfold atB
  split
  · omega
  · split
    · exact ⟨Int.emod_nonneg _ (by omega), Int.emod_lt_of_pos _ (by omega)⟩
    · exact ⟨Int.emod_nonneg _ (by omega), Int.emod_lt_of_pos _ (by omega)⟩
theorem byts_cells {h : AHeap} {v : Value} {bs : List Int} (hv : Byts h v bs) : v.cells = #[v] := by
  rcases hv with ⟨rfl, _⟩ | ⟨k, off, ver, cap, o, rfl, _⟩ <;> rfl
def smallB (x : Int) : Bool := decide (-36 ≤ x ∧ x ≤ 36)
theorem small_app {L : List Int} {x : Int} (h : L.all smallB = true) (hx : -36 ≤ x ∧ x ≤ 36) : (L ++ [x]).all smallB = true := by
  rw [List.all_append, h, List.all_cons, List.all_nil, smallB, decide_eq_true hx]; rfl
theorem small_set {L : List Int} {x : Int} {i : Nat} (h : L.all smallB = true) (hx : -36 ≤ x ∧ x ≤ 36) : (L.set i x).all smallB = true := by
  rw [List.all_eq_true] at h ⊢
  intro y hy
  rcases List.mem_or_eq_of_mem_set hy with h1 | rfl
  · exact h y h1
  · exact decide_eq_true hx
theorem app_zero {L : List Int} {x : Int} (h : 1 ≤ L.length) : (L ++ [x]).getD 0 0 = L.getD 0 0 := by
  rw [List.getD_eq_getElem?_getD, List.getElem?_append_left (by omega), ← List.getD_eq_getElem?_getD]
theorem set_zero {L : List Int} {x : Int} {i : Nat} (h : 1 ≤ i) : (L.set i x).getD 0 0 = L.getD 0 0 := by
  rw [List.getD_eq_getElem?_getD, List.getElem?_set_ne (by omega), ← List.getD_eq_getElem?_getD]
theorem sq_bnd {a b : Nat} (ha : a ≤ 6) (hb : b ≤ 6) : 0 ≤ (a : Int) * b ∧ (a : Int) * b ≤ 36 := by
  have h := Nat.mul_le_mul ha hb
  have e : ((a * b : Nat) : Int) = (a : Int) * b := Int.natCast_mul a b
  omega
theorem awp_cut {P : Program} {n : Nat} {c : Code} {Q : Exit → Env → AHeap → Prop} {env : Env} {h : AHeap} (l : List (Tmp × Value)) (hs : Slots env l) (hK : ∀ env1, Slots env1 l → AWp P n c Q env1 h) : AWp P n c Q env h := hK env hs
end Go.Am

namespace Go.Am
set_option linter.unusedSimpArgs false
set_option linter.unusedVariables false
/-! ## Rows as functions -/
def fS (i : Nat) (f : Nat → Int) (s : Nat) : Int := if s.testBit i then f s - f (s - 2 ^ i) else f s
def fA (i : Nat) (f : Nat → Int) (s : Nat) : Int := if s.testBit i then f s + f (s - 2 ^ i) else f s
def allS (f : Nat → Int) : Nat → Nat → Int
  | 0 => f
  | k + 1 => fS k (allS f k)
def allA (f : Nat → Int) : Nat → Nat → Int
  | 0 => f
  | k + 1 => fA k (allA f k)
theorem bitf1 : ∀ s < 64, ∀ i < 6, s.testBit i = true → (s - 2 ^ i).testBit i = false := by decide +kernel
theorem bitf2b : ∀ s < 64, ∀ i < 6, ∀ j < 6, (!(s.testBit i) || decide (j = i) || ((s - 2 ^ i).testBit j == s.testBit j)) = true := by decide +kernel
theorem bitf2 (s : Nat) (hs : s < 64) (i : Nat) (hi : i < 6) (j : Nat) (hj : j < 6) (h : s.testBit i = true) (hne : j ≠ i) : (s - 2 ^ i).testBit j = s.testBit j := by
  have := bitf2b s hs i hi j hj
  rw [h, decide_eq_false hne] at this
  simpa using this
theorem bitf (s : Nat) (hs : s < 64) (i : Nat) (hi : i < 6) (h : s.testBit i = true) : (s - 2 ^ i).testBit i = false ∧ ∀ j < 6, j ≠ i → (s - 2 ^ i).testBit j = s.testBit j := ⟨bitf1 s hs i hi h, fun j hj hne => bitf2 s hs i hi j hj h hne⟩
theorem sub64 {s i : Nat} (hs : s < 64) : s - 2 ^ i < 64 := Nat.lt_of_le_of_lt (Nat.sub_le _ _) hs
theorem fS_yes {i s : Nat} {f : Nat → Int} (h : s.testBit i = true) : fS i f s = f s - f (s - 2 ^ i) := if_pos h
theorem fS_no {i s : Nat} {f : Nat → Int} (h : s.testBit i = false) : fS i f s = f s := if_neg (by rw [h]; decide)
theorem fA_yes {i s : Nat} {f : Nat → Int} (h : s.testBit i = true) : fA i f s = f s + f (s - 2 ^ i) := if_pos h
theorem fA_no {i s : Nat} {f : Nat → Int} (h : s.testBit i = false) : fA i f s = f s := if_neg (by rw [h]; decide)
theorem fA_congr {i s : Nat} {f g : Nat → Int} (hs : s < 64) (h : ∀ t, t < 64 → f t = g t) : fA i f s = fA i g s := by
  unfold fA
  rw [h s hs, h (s - 2 ^ i) (sub64 hs)]
theorem fAS_self {i s : Nat} {f : Nat → Int} (hs : s < 64) (hi : i < 6) : fA i (fS i f) s = f s := by
  cases h : s.testBit i with
  | true =>
    rw [fA_yes h, fS_yes h, fS_no (bitf s hs i hi h).1]; omega
  | false => rw [fA_no h, fS_no h]
theorem fAS_comm {i j s : Nat} {f : Nat → Int} (hs : s < 64) (hi : i < 6) (hj : j < 6) (hne : i ≠ j) : fA i (fS j f) s = fS j (fA i f) s := by
  cases h1 : s.testBit i with
  | false =>
    rw [fA_no h1]
    cases h2 : s.testBit j with
    | false => rw [fS_no h2, fS_no h2, fA_no h1]
    | true =>
      rw [fS_yes h2, fS_yes h2, fA_no h1, fA_no (((bitf s hs j hj h2).2 i hi hne).trans h1)]
  | true =>
    have h3 := (bitf s hs i hi h1).2 j hj (Ne.symm hne)
    rw [fA_yes h1]
    cases h2 : s.testBit j with
    | false => rw [fS_no h2, fS_no h2, fS_no (h3.trans h2), fA_yes h1]
    | true =>
      have h4 := (bitf s hs j hj h2).2 i hi hne
      rw [fS_yes h2, fS_yes h2, fS_yes (h3.trans h2), fA_yes h1, fA_yes (h4.trans h1), show s - 2 ^ i - 2 ^ j = s - 2 ^ j - 2 ^ i by omega]
      omega
theorem allA_comm {j : Nat} {f : Nat → Int} (hj : j < 6) : ∀ (k : Nat), k ≤ j → ∀ s, s < 64 → allA (fS j f) k s = fS j (allA f k) s
  | 0, _, _, _ => rfl
  | k + 1, hk, s, hs => by
    rw [allA, fA_congr hs fun t ht => allA_comm hj k (by omega) t ht, fAS_comm hs (by omega) hj (by omega)]; rfl
theorem allAS {f : Nat → Int} : ∀ (k : Nat), k ≤ 6 → ∀ s, s < 64 → allA (allS f k) k s = f s
  | 0, _, _, _ => rfl
  | k + 1, hk, s, hs => by
    rw [allA, fA_congr hs fun t ht => (show allA (allS f (k + 1)) k t = fS k (allA (allS f k) k) t from allA_comm (by omega) k (Nat.le_refl _) t ht), fAS_self hs (by omega)]
    exact allAS k (by omega) s hs
/-! ## Sums over subsets -/
def subL : Nat → Nat → List Nat
  | 0, s => [s]
  | k + 1, s => if s.testBit k then subL k (s - 2 ^ k) ++ subL k s else subL k s
def sumQ (f : Nat → Int) (l : List Nat) : Int := l.foldl (fun a t => a + f t) 0
theorem foldl_from {f : Nat → Int} : ∀ (l : List Nat) (a : Int), l.foldl (fun a t => a + f t) a = a + sumQ f l
  | [], a => by simp [sumQ]
  | x :: l, a => by
    rw [sumQ, List.foldl_cons, List.foldl_cons, foldl_from l, foldl_from l]; omega
theorem sumQ_app {f : Nat → Int} {a b : List Nat} : sumQ f (a ++ b) = sumQ f a + sumQ f b := by
  rw [sumQ, List.foldl_append, foldl_from]; rfl
theorem allA_sum {f : Nat → Int} : ∀ (k s : Nat), allA f k s = sumQ f (subL k s)
  | 0, s => by simp [allA, subL, sumQ]
  | k + 1, s => by
    rw [allA, subL]
    cases h : s.testBit k with
    | true => rw [fA_yes h, if_pos rfl, sumQ_app, allA_sum k s, allA_sum k (s - 2 ^ k)]; omega
    | false => rw [fA_no h, if_neg (by decide), allA_sum k s]
def subs (n s : Nat) : List Nat := (List.range n).filter fun t => decide (t &&& s = t)
theorem subL_all : ∀ k < 7, ∀ s < 2 ^ k, subL k s = subs (2 ^ k) s := by decide +kernel
def totS (f : Nat → Int) (s : Nat) : Nat → Int
  | 0 => 0
  | t + 1 => if t &&& s = t then totS f s t + f t else totS f s t
theorem totS_sum {f : Nat → Int} {s : Nat} : ∀ n, totS f s n = sumQ f (subs n s)
  | 0 => rfl
  | n + 1 => by
    rw [totS, subs, List.range_succ, List.filter_append, sumQ_app]
    by_cases c : n &&& s = n
    · rw [if_pos c, totS_sum n]
      simp [subs, sumQ, c]
    · rw [if_neg c, totS_sum n]
      simp [subs, sumQ, c]
theorem tot_back {f : Nat → Int} {k s : Nat} (hk : k ≤ 6) (hs : s < 2 ^ k) : totS (allS f k) s (2 ^ k) = f s := by
  have h64 : 2 ^ k ≤ 2 ^ 6 := Nat.pow_le_pow_right (by decide) hk
  rw [totS_sum, ← subL_all k (by omega) s hs, ← allA_sum, allAS k hk s (by omega)]
/-! ## Bounds -/
theorem allS_bnd {f : Nat → Int} {m : Int} (hf : ∀ t, t < 64 → -m ≤ f t ∧ f t ≤ m) : ∀ (k s : Nat), s < 64 → -(m * 2 ^ k) ≤ allS f k s ∧ allS f k s ≤ m * 2 ^ k
  | 0, s, hs => by have := hf s hs; simp only [allS, Int.pow_zero, Int.mul_one]; exact this
  | k + 1, s, hs => by
    have h1 := allS_bnd hf k s hs
    have h2 := allS_bnd hf k (s - 2 ^ k) (sub64 hs)
    have e : m * 2 ^ (k + 1) = m * 2 ^ k * 2 := by rw [Int.pow_succ, Int.mul_assoc]
    rw [e, allS]
    unfold fS
    split <;> omega
theorem allA_bnd {f : Nat → Int} {m : Int} (hf : ∀ t, t < 64 → -m ≤ f t ∧ f t ≤ m) : ∀ (k s : Nat), s < 64 → -(m * 2 ^ k) ≤ allA f k s ∧ allA f k s ≤ m * 2 ^ k
  | 0, s, hs => by have := hf s hs; simp only [allA, Int.pow_zero, Int.mul_one]; exact this
  | k + 1, s, hs => by
    have h1 := allA_bnd hf k s hs
    have h2 := allA_bnd hf k (s - 2 ^ k) (sub64 hs)
    have e : m * 2 ^ (k + 1) = m * 2 ^ k * 2 := by rw [Int.pow_succ, Int.mul_assoc]
    rw [e, allA]
    unfold fA
    split <;> omega
theorem allS_zero {f : Nat → Int} : ∀ k, allS f k 0 = f 0
  | 0 => rfl
  | k + 1 => by rw [allS, fS_no (by simp), allS_zero k]
theorem allA_le {f g : Nat → Int} : ∀ (k s : Nat), (∀ t, t ≤ s → f t = g t) → allA f k s = allA g k s
  | 0, s, h => h s (Nat.le_refl _)
  | k + 1, s, h => by
    rw [allA, allA]
    unfold fA
    rw [allA_le k s h, allA_le k (s - 2 ^ k) fun t ht => h t (Nat.le_trans ht (Nat.sub_le _ _))]
/-! ## Rows as lists -/
theorem rowW_at {f : Int → Int → Int} {i : Nat} {l : List Int} (hl : l.length ≤ 64) (hi : i < 6) : ∀ s, s ≤ l.length → ∀ t, t < l.length →
    (rowW f i l s).getD t 0 = if t < s ∧ t.testBit i = true then f (l.getD t 0) (l.getD (t - 2 ^ i) 0) else l.getD t 0
  | 0, _, t, _ => by rw [rowW, if_neg (by omega)]
  | s + 1, hs, t, ht => by
    have ih := rowW_at (f := f) hl hi s (by omega)
    rw [rowW]
    cases h : s.testBit i with
    | true =>
      rw [if_pos rfl]
      have hge := (sub_bit s (by omega) i hi h).1
      have hp := Nat.two_pow_pos i
      by_cases e : t = s
      · subst e
        rw [if_pos ⟨by omega, h⟩, getD_set_at (by rw [rowW_len]; omega), ih t ht, if_neg (by omega), ih (t - 2 ^ i) (by omega), if_neg (by rw [(bitf t (by omega) i hi h).1]; simp)]
      · rw [getD_set (by rw [rowW_len]; omega), if_neg (fun e2 => e e2.symm), ih t ht]
        by_cases c : t < s ∧ t.testBit i = true
        · rw [if_pos c, if_pos ⟨by omega, c.2⟩]
        · rw [if_neg c, if_neg (by rintro ⟨h1, h2⟩; exact c ⟨by omega, h2⟩)]
    | false =>
      rw [if_neg (by decide), ih t ht]
      by_cases c : t < s ∧ t.testBit i = true
      · rw [if_pos c, if_pos ⟨by omega, c.2⟩]
      · rw [if_neg c, if_neg]
        rintro ⟨h1, h2⟩
        by_cases e : t = s
        · subst e; rw [h] at h2; cases h2
        · exact c ⟨by omega, h2⟩
theorem pow6 {k : Nat} (h : k ≤ 6) : (2 : Int) ^ k ≤ 64 ∧ 0 < (2 : Int) ^ k := by
  have h1 : 2 ^ k ≤ 2 ^ 6 := Nat.pow_le_pow_right (by decide) h
  have h2 := Nat.two_pow_pos k
  have e : ((2 ^ k : Nat) : Int) = 2 ^ k := by simp
  omega
theorem mul_pow_bnd {m : Int} {k : Nat} (hm : 0 ≤ m ∧ m ≤ 100000000) (hk : k ≤ 6) : 0 ≤ m * 2 ^ k ∧ m * 2 ^ k ≤ 6400000000 := by
  obtain ⟨h1, h2⟩ := pow6 hk
  have h3 : m * 2 ^ k ≤ 100000000 * 64 := Int.mul_le_mul hm.2 h1 (by omega) (by omega)
  exact ⟨Int.mul_nonneg hm.1 (by omega), by omega⟩
theorem allW_sub {xs : List Int} {m : Int} (hl : xs.length ≤ 64) (hm : 0 ≤ m ∧ m ≤ 100000000) (hb : ∀ t, t < 64 → -m ≤ atF xs t ∧ atF xs t ≤ m) : ∀ k, k ≤ 6 → ∀ t, t < xs.length → (allW subW xs k).getD t 0 = allS (atF xs) k t
  | 0, _, _, _ => rfl
  | k + 1, hk, t, ht => by
    have ih := allW_sub hl hm hb k (by omega)
    have hlen := allW_len (f := subW) (l := xs) k
    rw [allW, rowW_at (by omega) (by omega) xs.length (by omega) t (by omega), allS]
    cases h : t.testBit k with
    | true =>
      have hsl := Nat.sub_le t (2 ^ k)
      have b1 := allS_bnd hb k t (by omega)
      have b2 := allS_bnd hb k (t - 2 ^ k) (Nat.lt_of_le_of_lt hsl (by omega))
      have b3 := mul_pow_bnd hm (show k ≤ 6 by omega)
      rw [if_pos ⟨ht, rfl⟩, fS_yes h, ih t ht, ih (t - 2 ^ k) (Nat.lt_of_le_of_lt hsl ht), subW, wrap_id (by omega) (by omega)]
    | false => rw [if_neg (by simp), fS_no h, ih t ht]
theorem allW_add {xs : List Int} {m : Int} (hl : xs.length ≤ 64) (hm : 0 ≤ m ∧ m ≤ 100000000) (hb : ∀ t, t < 64 → -m ≤ atF xs t ∧ atF xs t ≤ m) : ∀ k, k ≤ 6 → ∀ t, t < xs.length → (allW addW xs k).getD t 0 = allA (atF xs) k t
  | 0, _, _, _ => rfl
  | k + 1, hk, t, ht => by
    have ih := allW_add hl hm hb k (by omega)
    have hlen := allW_len (f := addW) (l := xs) k
    rw [allW, rowW_at (by omega) (by omega) xs.length (by omega) t (by omega), allA]
    cases h : t.testBit k with
    | true =>
      have hsl := Nat.sub_le t (2 ^ k)
      have b1 := allA_bnd hb k t (by omega)
      have b2 := allA_bnd hb k (t - 2 ^ k) (Nat.lt_of_le_of_lt hsl (by omega))
      have b3 := mul_pow_bnd hm (show k ≤ 6 by omega)
      rw [if_pos ⟨ht, rfl⟩, fA_yes h, ih t ht, ih (t - 2 ^ k) (Nat.lt_of_le_of_lt hsl ht), addW, wrap_id (by omega) (by omega)]
    | false => rw [if_neg (by simp), fA_no h, ih t ht]
/-! ## Drawn worths -/
structure WOk (p : Int) (xs : List Int) : Prop where
  p6 : 1 ≤ p ∧ p ≤ 6
  len : xs.length = 2 ^ p.toNat
  zero : xs.getD 0 0 = 0
  small : xs.all smallB = true
theorem WOk.at {p : Int} {xs : List Int} (h : WOk p xs) (t : Nat) : -36 ≤ atF xs t ∧ atF xs t ≤ 36 := by
  unfold atF
  by_cases c : t < xs.length
  · rw [getD_at c]
    exact of_decide_eq_true (List.all_eq_true.1 h.small _ (List.getElem_mem _))
  · rw [List.getD_eq_getElem?_getD, List.getElem?_eq_none (by omega)]
    decide
theorem isW_any {m p : Int} {xs : List Int} (hp : 1 ≤ p ∧ p ≤ 6) (hl : xs.length = 2 ^ p.toNat) (h0 : xs.getD 0 0 = 0) (hb : ∀ t, t < xs.length → -m ≤ xs.getD t 0 ∧ xs.getD t 0 ≤ m) : isW m p xs = true := by
  obtain ⟨e, h2, h3⟩ := pow_nat hp
  refine (isW_yes (decide_eq_true hp) (by rw [hl]; exact e) h0 (List.all_eq_true.2 fun x hx => ?_)).symm
  obtain ⟨k, hk, rfl⟩ := List.getElem_of_mem hx
  have := hb k hk
  rw [getD_at hk] at this
  exact decide_eq_true this
theorem WOk.isW {p : Int} {xs : List Int} (h : WOk p xs) : isW 10000 p xs = true :=
  isW_any h.p6 h.len h.zero fun t _ => by have := h.at t; unfold atF at this; omega
theorem WOk.len64 {p : Int} {xs : List Int} (h : WOk p xs) : 2 ≤ xs.length ∧ xs.length ≤ 64 := by
  obtain ⟨e, h2, h3⟩ := pow_nat h.p6
  rw [h.len]; exact ⟨h2, h3⟩
theorem WOk.div_at {p : Int} {xs : List Int} (h : WOk p xs) {t : Nat} (ht : t < xs.length) : (allW subW xs p.toNat).getD t 0 = allS (atF xs) p.toNat t := by
  have := h.len64
  have hp := h.p6
  exact allW_sub (m := 36) (by omega) (by decide) (fun t _ => h.at t) p.toNat (by omega) t ht
theorem WOk.div_bnd {p : Int} {xs : List Int} (h : WOk p xs) (t : Nat) : -2304 ≤ (allW subW xs p.toNat).getD t 0 ∧ (allW subW xs p.toNat).getD t 0 ≤ 2304 := by
  have h1 := h.len64
  have hp := h.p6
  by_cases c : t < xs.length
  · rw [h.div_at c]
    have h2 := allS_bnd (m := 36) (fun t _ => h.at t) p.toNat t (by omega)
    have h3 := (pow6 (k := p.toNat) (by omega)).1
    omega
  · rw [List.getD_eq_getElem?_getD, List.getElem?_eq_none (by rw [allW_len]; omega)]
    decide
theorem WOk.div_isW {p : Int} {xs : List Int} (h : WOk p xs) : Am.isW 1000000 p (allW subW xs p.toNat) = true := by
  have h1 := h.len64
  refine isW_any h.p6 (by rw [allW_len]; exact h.len) ?_ fun t _ => by have := h.div_bnd t; omega
  rw [h.div_at (by omega), allS_zero]; exact h.zero
theorem ext_getD {a b : List Int} (hl : a.length = b.length) (h : ∀ t, t < a.length → a.getD t 0 = b.getD t 0) : a = b := by
  apply List.ext_getElem hl
  intro i h1 h2
  have := h i h1
  rwa [getD_at h1, getD_at h2] at this
theorem WOk.back {p : Int} {xs : List Int} (h : WOk p xs) : allW addW (allW subW xs p.toNat) p.toNat = xs := by
  have h1 := h.len64
  have hp := h.p6
  have hl : (allW subW xs p.toNat).length = xs.length := allW_len _
  refine ext_getD (by rw [allW_len, hl]) fun t ht => ?_
  rw [allW_len, hl] at ht
  rw [allW_add (m := 2304) (by omega) (by decide) (fun t _ => h.div_bnd t) p.toNat (by omega) t (by omega)]
  rw [allA_le (f := atF (allW subW xs p.toNat)) p.toNat t (g := allS (atF xs) p.toNat) fun u hu => h.div_at (by omega), allAS p.toNat (by omega) t (by omega)]; rfl
theorem totS_congr {f g : Nat → Int} {s : Nat} : ∀ n, (∀ t, t < n → f t = g t) → totS f s n = totS g s n
  | 0, _ => rfl
  | n + 1, h => by rw [totS, totS, totS_congr n fun t ht => h t (by omega), h n (by omega)]
theorem WOk.total {p : Int} {xs : List Int} (h : WOk p xs) {s : Nat} (hs : s < xs.length) : totS (atF (allW subW xs p.toNat)) s xs.length = xs.getD s 0 := by
  have hp := h.p6
  rw [totS_congr (f := atF (allW subW xs p.toNat)) xs.length (g := allS (atF xs) p.toNat) fun t ht => h.div_at ht]
  rw [h.len] at hs ⊢
  exact tot_back (by omega) hs
theorem totS_bnd {f : Nat → Int} {s : Nat} {m : Int} (hm : 0 ≤ m) (h : ∀ t, -m ≤ f t ∧ f t ≤ m) : ∀ n : Nat, -(m * n) ≤ totS f s n ∧ totS f s n ≤ m * n
  | 0 => by simp [totS]
  | n + 1 => by
    have ih := totS_bnd (s := s) hm h n
    have h1 := h n
    have e : m * ((n + 1 : Nat) : Int) = m * n + m := by rw [Int.natCast_add, Int.mul_add]; simp
    rw [e, totS]
    split <;> omega
theorem WOk.wg {p : Int} {xs ys : List Int} (h : WOk p xs) (h2 : WOk p ys) : (okWg p p 2 (-1) xs ys && Am.isW 10000 p (mapR (wgF 2 (-1) xs ys) p)) = true := by
  have e1 := wg_yes h.isW h2.isW rfl (show (-100 : Int) ≤ 2 ∧ (2 : Int) ≤ 100 by decide) (show (-100 : Int) ≤ -1 ∧ (-1 : Int) ≤ 100 by decide)
  have e2 : Am.isW 10000 p (mapR (wgF 2 (-1) xs ys) p) = true := mapR_isW h.p6 (by unfold wgF; rw [h.zero, h2.zero]; rfl) fun s => by
    have h3 := h.at s
    have h4 := h2.at s
    unfold atF at h3 h4
    unfold wgF
    omega
  rw [e1, e2]; rfl
theorem oth_bnd {p : Int} {xs : List Int} (h : WOk p xs) (s : Nat) : -72 ≤ othF xs s ∧ othF xs s ≤ 72 := by
  have h3 := h.at (xs.length - 1)
  have h4 := h.at (xs.length - 1 - s)
  unfold atF at h3 h4
  unfold othF
  omega
theorem WOk.oth {p : Int} {xs : List Int} (h : WOk p xs) : (Am.isW 10000 p xs && Am.isW 10000 p (mapR (othF xs) p)) = true := by
  rw [h.isW, mapR_isW h.p6 (by unfold othF; rw [Nat.sub_zero]; omega) fun s => by have := oth_bnd h s; omega]; rfl
theorem mapR_at {f : Nat → Int} {p : Int} {s : Nat} (hs : s < 2 ^ p.toNat) : (mapR f p).getD s 0 = f s := by
  rw [getD_at (by rw [mapR_len]; exact hs)]
  simp
theorem oth_two {p : Int} {xs : List Int} (h : WOk p xs) {s : Nat} (hs : s < xs.length) : othF (mapR (othF xs) p) s = xs.getD s 0 := by
  have h1 := h.len64
  have hl := h.len
  rw [othF, mapR_len, mapR_at (by omega), mapR_at (by omega), othF, othF, hl]
  rw [show 2 ^ p.toNat - 1 - (2 ^ p.toNat - 1) = 0 by omega, show 2 ^ p.toNat - 1 - (2 ^ p.toNat - 1 - s) = s by omega, h.zero]
  omega
theorem WOk.twice {p : Int} {xs : List Int} (h : WOk p xs) : mapR (othF (mapR (othF xs) p)) p = xs := by
  refine ext_getD (by rw [mapR_len, h.len]) fun t ht => ?_
  rw [mapR_len] at ht
  rw [mapR_at ht, oth_two h (by rw [h.len]; exact ht)]
theorem WOk.oth2 {p : Int} {xs : List Int} (h : WOk p xs) : (Am.isW 10000 p (mapR (othF xs) p) && Am.isW 10000 p (mapR (othF (mapR (othF xs) p)) p)) = true := by
  rw [h.twice, h.isW, Bool.and_true]
  exact (Bool.and_eq_true_iff.1 h.oth).2
theorem WOk.out {p q : Int} {xs : List Int} (h : WOk p xs) (hp : 2 ≤ p) (hq : 0 ≤ q ∧ q < p) : (Am.isW 10000 p xs && decide (0 ≤ q ∧ q ≤ p - 1) && decide (2 ≤ p) && Am.isW 10000 (p - 1) (mapR (outF xs q) (p - 1))) = true := by
  have hp6 := h.p6
  rw [h.isW, decide_eq_true (show 0 ≤ q ∧ q ≤ p - 1 by omega), decide_eq_true hp, mapR_isW (by omega) (by
    have e : posO q.toNat 0 = 0 := by simp [posO, andn]
    unfold outF; rw [e]; exact h.zero) fun s => by have := h.at (posO q.toNat s); unfold atF at this; unfold outF; omega]; rfl
theorem out_at {p q : Int} {xs : List Int} (h : WOk p xs) (hp : 2 ≤ p) (hq : 0 ≤ q ∧ q < p) {s : Nat} (hs : s < xs.length) (hb : s.testBit q.toNat = false) : cntO q.toNat s < 2 ^ (p - 1).toNat ∧ (mapR (outF xs q) (p - 1)).getD (cntO q.toNat s) 0 = xs.getD s 0 := by
  have hp6 := h.p6
  have h64 := h.len64
  have h1 : cntO q.toNat s < 2 ^ (p - 1).toNat := by
    have e := out_full h.len (by omega) hq rfl
    have hm : ∀ d, cntO q.toNat (s + 1) ≤ cntO q.toNat (s + 1 + d) := fun d => by
      induction d with
      | zero => exact Nat.le_refl _
      | succ d ih =>
        refine Nat.le_trans ih ?_
        rw [← Nat.add_assoc, cntO]
        split <;> omega
    have h2 := hm (xs.length - (s + 1))
    rw [show s + 1 + (xs.length - (s + 1)) = xs.length by omega, e, cntO_out hb] at h2
    omega
  refine ⟨h1, ?_⟩
  rw [mapR_at h1, outF, posO_cnt s (by omega) q.toNat (by omega) hb]
theorem pow_half {p : Int} (h : 2 ≤ p ∧ p ≤ 6) : 2 ^ p.toNat = 2 * 2 ^ (p - 1).toNat := by
  obtain ⟨k, hk⟩ : ∃ k, p.toNat = k + 1 := ⟨p.toNat - 1, by omega⟩
  rw [hk, show (p - 1).toNat = k by omega, Nat.pow_succ, Nat.mul_comm]
theorem mapR_wg {a b p : Int} {xs ys : List Int} {s : Nat} (hs : s < 2 ^ p.toNat) : (mapR (wgF a b xs ys) p).getD s 0 = a * xs.getD s 0 + b * ys.getD s 0 := mapR_at hs
theorem mapR_oth {p : Int} {xs : List Int} {s : Nat} (hs : s < 2 ^ p.toNat) : (mapR (othF xs) p).getD s 0 = xs.getD (xs.length - 1) 0 - xs.getD (xs.length - 1 - s) 0 := mapR_at hs
theorem totS_in {f : Nat → Int} {s t : Nat} (h : t &&& s = t) : totS f s (t + 1) = totS f s t + f t := if_pos h
theorem totS_out {f : Nat → Int} {s t : Nat} (h : ¬ t &&& s = t) : totS f s (t + 1) = totS f s t := if_neg h
end Go.Am

namespace Go.Am
set_option linter.unusedSimpArgs false
set_option linter.unusedVariables false
end Go.Am
