/-
  The abstract heap: sub-slices, sums, and the plain laws of lists that the walks use. General: no program is named.
-/
import Derived.Test.YtnbpakikglpkcaaAmRun
import Derived.Test.YtnbpakikglpkcaaAmSink
namespace Go.Am
set_option linter.unusedSimpArgs false
set_option linter.unusedVariables false

/-- A part of a slice. -/
def subv (v : Value) (l r : Nat) : Value := match v with
  | .slice (some ⟨k, off, ver⟩) _ c => .slice (some ⟨k, off + l, ver⟩) (r - l) (c - l)
  | x => x

/-- A part of a list. -/
def part (xs : List Int) (l r : Nat) : List Int := (xs.drop l).take (r - l)

theorem part_len {xs : List Int} {l r : Nat} (h1 : l ≤ r) (h2 : r ≤ xs.length) : (part xs l r).length = r - l := by
  simp [part]; omega

theorem Ints.sub {h : AHeap} {v : Value} {xs : List Int} (hv : Ints h v xs) {l r : Nat} (h0 : 0 < xs.length) (h1 : l ≤ r) (h2 : r ≤ xs.length) : Ints h (subv v l r) (part xs l r) := by
  rcases hv with ⟨rfl, rfl⟩ | ⟨k, off, ver, cap, o, rfl, g2, g3, g4, g5, g6, g7⟩
  · simp at h0
  · refine .inr ⟨k, off + l, ver, cap - l, o, by rw [part_len h1 h2]; rfl, g2, g3, g4, by rw [part_len h1 h2]; omega, by omega, fun i z hz => ?_⟩
    rw [Nat.add_assoc]
    refine g7 _ z ?_
    have hi : i < (part xs l r).length := (List.getElem?_eq_some_iff.1 hz).1
    rw [part_len h1 h2] at hi
    simp only [part, List.getElem?_take_of_lt hi, List.getElem?_drop] at hz
    exact hz

theorem within_sub {n : Nat} {v : Value} {l r : Nat} (hv : Within n v) : Within n (subv v l r) := by
  unfold subv
  split
  · cases hv with
    | prim h => cases h
    | slice h => exact .slice h
  · exact hv

section
variable {P : Program} {K : Value → AHeap → Prop} {env : Env} {h : AHeap} {dst : Option Tmp} {ty : TypeId} {pos : String} {after : Array Edge} {guard : Option (Nat × Bool)}
theorem o_sliceHi {t e : TypeId} {x y2 : Operand} {v z : Value} {b : Nat} {xs : List Int} {k2 : IntKind} {r : Int} (hu : P.underlying t = some (.slice e)) (hi : InfoIs P e z 1 b)
    (hx : aeval env x = v) (hv : Ints h v xs) (hy2 : aeval env y2 = .int k2 r) (h0 : 0 < xs.length) (hlr : 0 ≤ r) (hr : r ≤ xs.length)
    (hK : K (subv v 0 r.toNat) h) : AOp P ⟨dst, .slice t x none (some y2) none, ty, pos, after, guard⟩ K env h := by
  obtain ⟨inf, g1, _, g3, _⟩ := hi.get
  rcases hv with ⟨rfl, rfl⟩ | ⟨k, off, ver, cap, o, rfl, h2, h3, h4, h5, h6, h7⟩
  · simp at h0
  · refine aop_slice (l := 0) (r := r.toNat) hu g1 (by rw [g3, h4]) hx h2 h3 (.inl ⟨rfl, rfl⟩) (.inr ⟨y2, k2, rfl, by rw [hy2, Int.toNat_of_nonneg (by omega)]⟩) (by omega) (by omega) ?_
    rw [h4, Nat.mul_one]
    exact hK
end

theorem range_all_step {f : Nat → Bool} {s : Nat} (h : (List.range s).all f = true) (hf : f s = true) : (List.range (s + 1)).all f = true := by
  rw [List.range_succ, List.all_append, h]; simpa using hf

/-! ## Bits -/
theorem bits_and {a b : Nat} (ha : a < 4611686018427387904) : bits .and .i64 (a : Int) (b : Int) = ((a &&& b : Nat) : Int) := by
  have h1 : a &&& b ≤ a := Nat.and_le_left
  have e : (BitVec.ofInt 64 (a : Int) &&& BitVec.ofInt 64 (b : Int)).toNat = a &&& b := by
    rw [BitVec.ofInt_natCast, BitVec.ofInt_natCast, ← BitVec.ofNat_and, BitVec.toNat_ofNat, Nat.mod_eq_of_lt (by omega)]
  show IntKind.i64.wrap ((BitVec.ofInt 64 (a : Int) &&& BitVec.ofInt 64 (b : Int)).toNat : Int) = _
  rw [e, wrap_id (by omega) (by omega)]
theorem or_lt {a b : Nat} (n : Nat) (ha : a < 2 ^ n) (hb : b < 2 ^ n) : a ||| b < 2 ^ n := Nat.or_lt_two_pow ha hb
theorem bits_or {a b : Nat} (ha : a < 4611686018427387904) (hb : b < 4611686018427387904) : bits .or .i64 (a : Int) (b : Int) = ((a ||| b : Nat) : Int) := by
  have h1 : a ||| b < 2 ^ 62 := or_lt 62 (by simpa using ha) (by simpa using hb)
  have e : (BitVec.ofInt 64 (a : Int) ||| BitVec.ofInt 64 (b : Int)).toNat = a ||| b := by
    rw [BitVec.ofInt_natCast, BitVec.ofInt_natCast, ← BitVec.ofNat_or, BitVec.toNat_ofNat, Nat.mod_eq_of_lt (by omega)]
  show IntKind.i64.wrap ((BitVec.ofInt 64 (a : Int) ||| BitVec.ofInt 64 (b : Int)).toNat : Int) = _
  rw [e, wrap_id (by omega) (by omega)]
section
variable {P : Program} {K : Value → AHeap → Prop} {env : Env} {h : AHeap} {dst : Option Tmp} {ty t yt : TypeId} {pos : String} {after : Array Edge} {guard : Option (Nat × Bool)} {x y : Operand}
theorem o_and {p q : Int} {a b : Nat} (hx : aeval env x = i64 p) (hy : aeval env y = i64 q) (e1 : p = (a : Int)) (e2 : q = (b : Int)) (ha : a < 4611686018427387904) (hK : K (i64 ((a &&& b : Nat) : Int)) h) :
    AOp P ⟨dst, .binOp .and t x y yt, ty, pos, after, guard⟩ K env h := by
  subst e1 e2; exact o_bin hx hy (v := i64 ((a &&& b : Nat) : Int)) (by simp only [binInt, bits_and ha]) hK
theorem o_or {p q : Int} {a b : Nat} (hx : aeval env x = i64 p) (hy : aeval env y = i64 q) (e1 : p = (a : Int)) (e2 : q = (b : Int)) (ha : a < 4611686018427387904) (hb : b < 4611686018427387904) (hK : K (i64 ((a ||| b : Nat) : Int)) h) :
    AOp P ⟨dst, .binOp .or t x y yt, ty, pos, after, guard⟩ K env h := by
  subst e1 e2; exact o_bin hx hy (v := i64 ((a ||| b : Nat) : Int)) (by simp only [binInt, bits_or ha hb]) hK
theorem o_convU {src d : TypeId} {k : IntKind} {p : Int} {sd : TypeDesc} (hs : P.underlying src = some sd) (hd : P.underlying d = some (.int .u64))
    (hx : aeval env x = .int k p) (h1 : 0 ≤ p) (h2 : p ≤ 9223372036854775807) (hK : K (.int .u64 p) h) : AOp P ⟨dst, .convert src d x, ty, pos, after, guard⟩ K env h :=
  aop_conv_int hs hd hx (by
    have : IntKind.u64.wrap p = p := by simp only [IntKind.wrap, IntKind.bits, IntKind.signed, Bool.false_and, Bool.false_eq_true, if_false]; omega
    rw [this]; exact hK)
end
theorem amap0 {f : Operand → Value} : (#[] : Array Operand).map f = #[] := by simp
theorem amap4 {f : Operand → Value} {x y z a : Operand} {v w u t : Value} (h : f x = v) (h2 : f y = w) (h3 : f z = u) (h4 : f a = t) : #[x, y, z, a].map f = #[v, w, u, t] := by simp [h, h2, h3, h4]
theorem bit_is {s i : Nat} : ((s / 2 ^ i &&& 1 : Nat) : Int) = 1 ↔ s.testBit i = true := by
  rw [Nat.and_one_is_mod, Nat.testBit_eq_decide_div_mod_eq, decide_eq_true_eq]; omega
/-! ## Worths of sets -/
theorem nat_shr (s i : Nat) : ((s / 2 ^ i : Nat) : Int) = (s : Int) / 2 ^ i := by simp
theorem tup2 {a b a' b' : Bool} (h1 : a = a') (h2 : b = b') : packR [.bool a, .bool b] = .tuple #[.bool a', .bool b'] := by rw [h1, h2]; rfl
theorem within_tup2 {n : Nat} {a b : Value} (h1 : Within n a) (h2 : Within n b) : Within n (.tuple #[a, b]) := .tuple fun i hi => by
  match i, hi with
  | 0, _ => exact h1
  | 1, _ => exact h2
/-! ## Functions that change a block -/
theorem Closed.set {h : AHeap} (hc : Closed h) {k : Nat} {o : AObj} (ho : ∀ v ∈ o.cells, isPrim v = true) : Closed (h.set k o) := fun j x hx v hv => by
  rw [List.length_set]
  by_cases hj : j = k
  · subst hj
    by_cases hlt : j < h.length
    · rw [List.getElem?_set_self hlt] at hx; cases hx
      exact .prim (ho v hv)
    · rw [List.getElem?_eq_none (by simpa using hlt)] at hx; cases hx
  · rw [List.getElem?_set_ne (fun e => hj e.symm)] at hx
    exact hc j x hx v hv
theorem one_shl (i : Nat) : (1 : Int) * 2 ^ i = ((2 ^ i : Nat) : Int) := by simp
theorem bit_not {s i : Nat} (c : ((s / 2 ^ i &&& 1 : Nat) : Int) = 0) : s.testBit i = false := by
  rw [Nat.and_one_is_mod] at c
  rw [Nat.testBit_eq_decide_div_mod_eq, decide_eq_false]; omega
theorem bit_yes {s i : Nat} (c : ¬ ((s / 2 ^ i &&& 1 : Nat) : Int) = 0) : s.testBit i = true := by
  rw [Nat.and_one_is_mod] at c
  rw [Nat.testBit_eq_decide_div_mod_eq, decide_eq_true]; omega
theorem Ret.heap {P : Program} {f : FuncId} {a : List Value} {h h1 h2 : AHeap} {v : Value} (r : Ret P f a h v h1) (e : h1 = h2) : Ret P f a h v h2 := e ▸ r

/-! ## Marks -/
theorem retm_of {P : Program} {f : FuncId} {args : List Value} {h hb : AHeap} {V : Value} (hl : hb.length = h.length) (hw : Within h.length V) (hc : Closed h → Closed hb) (t : Tri P f args h fun v h' => v = V ∧ Grown hb h') : Ret P f args h V hb :=
  Tri.forget hl hw hc t
/-- The numbers from c on. -/
def upto (c : Int) (n : Nat) : List Int := (List.range n).map fun (i : Nat) => c + (i : Int)
theorem upto_len {c : Int} {n : Nat} : (upto c n).length = n := by simp [upto]
theorem upto_zero {c : Int} : upto c 0 = [] := rfl
theorem upto_succ {c : Int} {n : Nat} : upto c (n + 1) = upto c n ++ [c + (n : Int)] := by simp [upto, List.range_succ]
theorem upto_step {c : Int} {s : Nat} {xs : List Int} (hs : s < xs.length) : (upto c s ++ xs.drop s).set s (c + (s : Int)) = upto c (s + 1) ++ xs.drop (s + 1) := by
  rw [List.set_append_right _ _ (by rw [upto_len]; exact Nat.le_refl _), upto_len, Nat.sub_self, List.drop_eq_getElem_cons hs, List.set_cons_zero, upto_succ, List.append_assoc]; rfl
theorem upto_done {c : Int} {s : Nat} {xs : List Int} (hs : s = xs.length) : lst (upto c s ++ xs.drop s) = lst (upto c xs.length) := by subst hs; simp
theorem set_same {h : AHeap} {k : Nat} {o : AObj} (ho : h[k]? = some o) : h.set k o = h := by
  obtain ⟨hk, e⟩ := List.getElem?_eq_some_iff.1 ho
  subst e; exact List.set_getElem_self hk
theorem set_set {h : AHeap} {k : Nat} {o o' : AObj} : (h.set k o).set k o' = h.set k o' := List.set_set ..
theorem lk_set {h : AHeap} {k : Nat} {o : AObj} (hk : k < h.length) : (h.set k o)[k]? = some o := List.getElem?_set_self hk
def held (c : Int) (xs : List Int) : Int := if xs = upto c xs.length then c + xs.length else -1
theorem upto_take {c : Int} {s : Nat} {xs : List Int} (hs : s < xs.length) (h : xs.take s = upto c s) (e : xs.getD s 0 = c + (s : Int)) : xs.take (s + 1) = upto c (s + 1) := by
  rw [List.take_succ_eq_append_getElem hs, h, upto_succ, ← getD_at hs, e]
theorem held_yes {c : Int} {s : Nat} {xs : List Int} (h : xs.take s = upto c s) (hs : s = xs.length) : c + (s : Int) = held c xs := by
  subst hs; rw [List.take_length] at h; rw [held, if_pos h]
theorem held_no {c : Int} {s : Nat} {xs : List Int} (hs : s < xs.length) (h : ¬ xs.getD s 0 = c + (s : Int)) : (-1 : Int) = held c xs := by
  rw [held, if_neg fun e => h ?_]
  rw [getD_at hs]
  have : xs[s]? = (upto c xs.length)[s]? := by rw [← e]
  rw [List.getElem?_eq_getElem hs, upto, List.getElem?_map, List.getElem?_range hs] at this
  simpa using this

/-! ## Growing lists -/
section
variable {P : Program} {K : Value → AHeap → Prop} {env : Env} {h : AHeap} {dst : Option Tmp} {ty : TypeId} {pos : String} {after : Array Edge} {guard : Option (Nat × Bool)}
theorem news_ints {off : Nat} {o : AObj} {ys : List Int} (hz : ∀ (i : Nat) (z : Int), ys[i]? = some z → o.cells[off + i]? = some (i64 z)) : news o off (ys.length * 1) = ys.map i64 := by
  apply List.ext_getElem?
  intro i
  rw [Nat.mul_one]
  simp only [news, List.getElem?_map]
  by_cases hi : i < ys.length
  · rw [List.getElem?_take_of_lt hi, List.getElem?_drop, hz i _ (List.getElem?_eq_getElem hi), List.getElem?_eq_getElem hi]; rfl
  · rw [List.getElem?_eq_none (by simp; omega), List.getElem?_eq_none (by omega)]; rfl
/-- append(s, x...) of integers to a list of one's own. -/
theorem o_appendI {t e : TypeId} {s x : Operand} {k n : Nat} {xs ys : List Int} {v : Value} {h' : AHeap} (hu : P.underlying t = some (.slice e)) (hi : InfoIs P e (i64 0) 1 8)
    (hx : aeval env s = sl k n) (ho : h[k]? = some (lst xs)) (hn : xs.length = n) (hy : aeval env x = v) (hv : Ints h v ys)
    (hb : n + ys.length ≤ 1000000000) (hs : h.set k (lst (xs ++ ys)) = h') (hK : K (sl k (n + ys.length)) h') :
    AOp P ⟨dst, .call { callee := .builtin .append, args := #[s, x], argTypes := #[t, t] }, ty, pos, after, guard⟩ K env h := by
  obtain ⟨inf, g1, g2, g3, g4⟩ := hi.get
  subst hs hn
  have hno : (lst xs).cells.length = xs.length := by simp [lst]
  by_cases h0 : ys = []
  · subst h0
    refine aop_appendNone (q := match v with | .slice a _ _ => a | _ => none) (c2 := match v with | .slice _ _ c => c | _ => 0) hu g1 (.inr ⟨k, 0, _, _, _, lst xs, hx, ho, hno⟩) ?_ ?_ ?_
    · rcases hv with ⟨rfl, _⟩ | ⟨k2, off, ver, cap, o, rfl, _⟩ <;> exact hy
    · rcases hv with ⟨rfl, _⟩ | ⟨k2, off, ver, cap, o, rfl, h2, h3, _⟩
      · exact .inl ⟨rfl, rfl⟩
      · exact .inr ⟨k2, off, ver, o, rfl, h2, h3⟩
    · rw [hx]
      have : h.set k (lst (xs ++ [])) = h := by rw [List.append_nil]; exact set_same ho
      rw [this] at hK
      exact hK
  · rcases hv with ⟨_, rfl⟩ | ⟨k2, off, ver, cap, o, rfl, h2, h3, h4, h5, h6, h7⟩
    · exact absurd rfl h0
    · have hpos : 0 < ys.length := List.length_pos_iff.2 h0
      have hnews := news_ints h7
      refine aop_append (o := lst xs) (o2 := o) (m := ys.length) hu g1 g2 (by rw [g3]; rfl) (by rw [g3]; rfl) (by show 0 < 1; decide) (by rw [h4]; rfl) hx ho hno (by show xs.length * 1 = _; omega) rfl hy h2 h3
        (by show (news o off (ys.length * 1)).all oneCellA = true; rw [hnews]; simp [List.all_map]; intro a _; rfl) hpos (by rw [g4]; omega) (by omega) ?_
      have e1 : (lst xs).esz = 1 := rfl
      rw [e1, hnews]
      have e2 : (⟨(lst xs).cells ++ ys.map i64, true, 1⟩ : AObj) = lst (xs ++ ys) := by simp [lst]
      rw [e2, Nat.mul_one]
      exact hK
end

section
variable {P : Program} {K : Value → AHeap → Prop} {env : Env} {h : AHeap} {dst : Option Tmp} {ty : TypeId} {pos : String} {after : Array Edge} {guard : Option (Nat × Bool)}
theorem fill1 (p : Int) : Instr.fill (fun k => some (k * 1, 1)) (Array.map (fun x => (i64 0).cells[x % (i64 0).cells.size]!) (Array.range (1 * 1))) [(0, i64 p)] = some #[i64 p] := by
  have e : Array.range (1 * 1) = #[0] := by decide
  rw [e]
  simp [Instr.fill, Value.cells]
theorem o_buildI0 {t e : TypeId} {b : Nat} (hu : P.underlying t = some (.slice e)) (hi : InfoIs P e (i64 0) 1 b) (hK : ∀ k, k = h.length → K (sl k 0) (h ++ [lst []])) :
    AOp P ⟨dst, .buildSlice t 0 #[], ty, pos, after, guard⟩ K env h := by
  obtain ⟨inf, g1, g2, g3, g4⟩ := hi.get
  refine aop_buildSlice (out := #[]) hu g1 g2 rfl (by rw [g3]; rfl) (by omega) (by omega) (by simp [Instr.fill]) (by simp) ?_
  have := hK h.length rfl
  rw [g3]; exact this
theorem o_buildI1 {t e : TypeId} {b : Nat} {x : Operand} {p : Int} (hu : P.underlying t = some (.slice e)) (hi : InfoIs P e (i64 0) 1 b) (hx : aeval env x = i64 p) (hK : ∀ k, k = h.length → K (sl k 1) (h ++ [lst [p]])) :
    AOp P ⟨dst, .buildSlice t 1 #[(0, x)], ty, pos, after, guard⟩ K env h := by
  obtain ⟨inf, g1, g2, g3, g4⟩ := hi.get
  refine aop_buildSlice (out := #[i64 p]) hu g1 g2 rfl (by rw [g3]; rfl) (by omega) (by omega) (by rw [g3]; simp only [List.map_cons, List.map_nil, hx]; exact fill1 p) (by simp [g3]) ?_
  have := hK h.length rfl
  rw [g3]; exact this
end
theorem lst_prim {xs : List Int} : ∀ v ∈ (lst xs).cells, isPrim v = true := fun v hv => by
  simp only [lst, List.mem_map] at hv
  obtain ⟨z, _, rfl⟩ := hv
  rfl
end Go.Am
