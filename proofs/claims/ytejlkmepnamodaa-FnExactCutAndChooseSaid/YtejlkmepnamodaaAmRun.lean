/-
  The abstract heap: the laws as the walk uses them. General: no program is named.
-/
import Derived.Test.YtejlkmepnamodaaAmDraw
import Derived.Test.YtejlkmepnamodaaAmBuild
namespace Go.Am
set_option linter.unusedSimpArgs false
set_option linter.unusedVariables false
open Go.RowKit

abbrev i64 (z : Int) : Value := .int .i64 z
/-- A type's row: its zero, its cells, its bytes. -/
def InfoIs (P : Program) (e : TypeId) (z : Value) (size bytes : Nat) : Prop :=
  (P.info? e).map (fun i => (i.zero, i.size, i.bytes)) = some (some z, size, bytes)

theorem InfoIs.get {P : Program} {e : TypeId} {z : Value} {size bytes : Nat} (h : InfoIs P e z size bytes) : ∃ i, P.info? e = some i ∧ i.zero = some z ∧ i.size = size ∧ i.bytes = bytes := by
  unfold InfoIs at h
  cases hi : P.info? e with
  | none => rw [hi] at h; cases h
  | some i =>
    rw [hi] at h
    simp only [Option.map_some, Option.some.injEq, Prod.mk.injEq] at h
    exact ⟨i, rfl, h.1, h.2.1, h.2.2⟩

section
variable {P : Program} {ops : Array Oper} {KE : Env → AHeap → Prop} {os : List Oper} {env : Env} {h : AHeap} {d : Option Tmp} {op : Op} {ty : TypeId} {pos : String} {af : Array Edge} {g : Option (Nat × Bool)}

theorem a_do (hw : wantedA ops env ⟨d, op, ty, pos, af, g⟩ = some true) (ho : AOp P ⟨d, op, ty, pos, af, g⟩ (fun v h' => ARun P ops KE os (env.put d v) h') env h) :
    ARun P ops KE (⟨d, op, ty, pos, af, g⟩ :: os) env h := .inl ⟨hw, ho⟩
theorem a_no (hw : wantedA ops env ⟨d, op, ty, pos, af, g⟩ = some false) (ho : ARun P ops KE os (env.put d undef) h) : ARun P ops KE (⟨d, op, ty, pos, af, g⟩ :: os) env h := .inr ⟨hw, ho⟩
theorem a_end (hk : KE env h) : ARun P ops KE [] env h := hk

theorem d_do {v : Value} (hw : wantedA ops env ⟨d, op, ty, pos, af, g⟩ = some true) (ho : AOp P ⟨d, op, ty, pos, af, g⟩ (fun v' h' => v' = v ∧ h' = h) env h) (hv : Within h.length v)
    (k : DRun P ops KE os (env.put d v) h) : DRun P ops KE (⟨d, op, ty, pos, af, g⟩ :: os) env h :=
  .inl ⟨hw, v, [], by simpa using ho, by simpa using hv, by simp, by simpa using k⟩
theorem d_new {v : Value} {gs : List AObj} (hw : wantedA ops env ⟨d, op, ty, pos, af, g⟩ = some true) (ho : AOp P ⟨d, op, ty, pos, af, g⟩ (fun v' h' => v' = v ∧ h' = h ++ gs) env h) (hv : Within (h ++ gs).length v)
    (hg : ∀ x ∈ gs, ∀ u ∈ x.cells, Within (h ++ gs).length u)
    (k : DRun P ops KE os (env.put d v) (h ++ gs)) : DRun P ops KE (⟨d, op, ty, pos, af, g⟩ :: os) env h :=
  .inl ⟨hw, v, gs, ho, hv, hg, k⟩
theorem d_no (hw : wantedA ops env ⟨d, op, ty, pos, af, g⟩ = some false) (ho : DRun P ops KE os (env.put d undef) h) : DRun P ops KE (⟨d, op, ty, pos, af, g⟩ :: os) env h := .inr ⟨hw, ho⟩
theorem d_end (hk : KE env h) : DRun P ops KE [] env h := hk
end

section
variable {P : Program} {K : Value → AHeap → Prop} {env : Env} {h : AHeap} {dst : Option Tmp} {ty : TypeId} {pos : String} {after : Array Edge} {guard : Option (Nat × Bool)}

theorem o_move {x : Operand} {v : Value} (hv : aeval env x = v) (hK : K v h) : AOp P ⟨dst, .move x, ty, pos, after, guard⟩ K env h := aop_move (by rw [hv]; exact hK)
theorem o_assign {x : Operand} {v : Value} (hv : aeval env x = v) (hK : K v h) : AOp P ⟨dst, .assign x, ty, pos, after, guard⟩ K env h := aop_assign (by rw [hv]; exact hK)
theorem o_pickT {c x y : Operand} {v : Value} (hc : aeval env c = .bool true) (hv : aeval env x = v) (hK : K v h) : AOp P ⟨dst, .pick c x y, ty, pos, after, guard⟩ K env h :=
  aop_pick hc (by rw [if_pos rfl, hv]; exact hK)
theorem o_pickF {c x y : Operand} {v : Value} (hc : aeval env c = .bool false) (hv : aeval env y = v) (hK : K v h) : AOp P ⟨dst, .pick c x y, ty, pos, after, guard⟩ K env h :=
  aop_pick hc (by rw [if_neg (by simp), hv]; exact hK)

section
variable {t yt : TypeId} {x y : Operand} {k : IntKind} {p q : Int}
theorem o_lss (hx : aeval env x = .int k p) (hy : aeval env y = .int k q) (ht : p < q → K (.bool true) h) (hf : ¬ p < q → K (.bool false) h) : AOp P ⟨dst, .binOp .lss t x y yt, ty, pos, after, guard⟩ K env h :=
  aop_bin hx hy rfl (by by_cases c : p < q <;> simp only [c, decide_true, decide_false] <;> first | exact ht c | exact hf c)
theorem o_leq (hx : aeval env x = .int k p) (hy : aeval env y = .int k q) (ht : p ≤ q → K (.bool true) h) (hf : ¬ p ≤ q → K (.bool false) h) : AOp P ⟨dst, .binOp .leq t x y yt, ty, pos, after, guard⟩ K env h :=
  aop_bin hx hy rfl (by by_cases c : p ≤ q <;> simp only [c, decide_true, decide_false] <;> first | exact ht c | exact hf c)
theorem o_gtr (hx : aeval env x = .int k p) (hy : aeval env y = .int k q) (ht : q < p → K (.bool true) h) (hf : ¬ q < p → K (.bool false) h) : AOp P ⟨dst, .binOp .gtr t x y yt, ty, pos, after, guard⟩ K env h :=
  aop_bin hx hy rfl (by by_cases c : q < p <;> simp only [c, decide_true, decide_false] <;> first | exact ht c | exact hf c)
theorem o_geq (hx : aeval env x = .int k p) (hy : aeval env y = .int k q) (ht : q ≤ p → K (.bool true) h) (hf : ¬ q ≤ p → K (.bool false) h) : AOp P ⟨dst, .binOp .geq t x y yt, ty, pos, after, guard⟩ K env h :=
  aop_bin hx hy rfl (by by_cases c : q ≤ p <;> simp only [c, decide_true, decide_false] <;> first | exact ht c | exact hf c)
theorem o_eql (hx : aeval env x = .int k p) (hy : aeval env y = .int k q) (ht : p = q → K (.bool true) h) (hf : ¬ p = q → K (.bool false) h) : AOp P ⟨dst, .binOp .eql t x y yt, ty, pos, after, guard⟩ K env h :=
  aop_bin hx hy rfl (by
    by_cases c : p = q
    · have : (p == q) = true := by simp [c]
      rw [this]; exact ht c
    · have : (p == q) = false := by simp [c]
      rw [this]; exact hf c)
theorem o_neq (hx : aeval env x = .int k p) (hy : aeval env y = .int k q) (ht : ¬ p = q → K (.bool true) h) (hf : p = q → K (.bool false) h) : AOp P ⟨dst, .binOp .neq t x y yt, ty, pos, after, guard⟩ K env h :=
  aop_bin hx hy rfl (by
    by_cases c : p = q
    · have : (p != q) = false := by simp [c]
      rw [this]; exact hf c
    · have : (p != q) = true := by simp [c]
      rw [this]; exact ht c)
/-- Without a split: the test's value is a Bool term. -/
theorem o_bin {op : BinOp} {v : Value} (hx : aeval env x = .int k p) (hy : aeval env y = .int k q) (hv : binInt op k p q = some v) (hK : K v h) : AOp P ⟨dst, .binOp op t x y yt, ty, pos, after, guard⟩ K env h := aop_bin hx hy hv hK

theorem wrap_id {z : Int} (h1 : -9223372036854775808 ≤ z) (h2 : z ≤ 9223372036854775807) : IntKind.i64.wrap z = z := by rw [IntKind.wrap_i64]; omega

theorem o_add {p q : Int} (hx : aeval env x = i64 p) (hy : aeval env y = i64 q) (h1 : -9223372036854775808 ≤ p + q) (h2 : p + q ≤ 9223372036854775807) (hK : K (i64 (p + q)) h) : AOp P ⟨dst, .binOp .add t x y yt, ty, pos, after, guard⟩ K env h :=
  aop_bin hx hy rfl (by rw [wrap_id h1 h2]; exact hK)
theorem o_sub {p q : Int} (hx : aeval env x = i64 p) (hy : aeval env y = i64 q) (h1 : -9223372036854775808 ≤ p - q) (h2 : p - q ≤ 9223372036854775807) (hK : K (i64 (p - q)) h) : AOp P ⟨dst, .binOp .sub t x y yt, ty, pos, after, guard⟩ K env h :=
  aop_bin hx hy rfl (by rw [wrap_id h1 h2]; exact hK)
theorem o_mul {p q : Int} (hx : aeval env x = i64 p) (hy : aeval env y = i64 q) (h1 : -9223372036854775808 ≤ p * q) (h2 : p * q ≤ 9223372036854775807) (hK : K (i64 (p * q)) h) : AOp P ⟨dst, .binOp .mul t x y yt, ty, pos, after, guard⟩ K env h :=
  aop_bin hx hy rfl (by rw [wrap_id h1 h2]; exact hK)
end

theorem o_notT {t : TypeId} {x : Operand} (hx : aeval env x = .bool true) (hK : K (.bool false) h) : AOp P ⟨dst, .unOp .not t x, ty, pos, after, guard⟩ K env h := aop_not hx hK
theorem o_notF {t : TypeId} {x : Operand} (hx : aeval env x = .bool false) (hK : K (.bool true) h) : AOp P ⟨dst, .unOp .not t x, ty, pos, after, guard⟩ K env h := aop_not hx hK

theorem o_boolEq {t yt : TypeId} {x y : Operand} {p q : Bool} (hu : P.underlying t = some .bool) (hx : aeval env x = .bool p) (hy : aeval env y = .bool q) (hK : K (.bool (p == q)) h) :
    AOp P ⟨dst, .binOp .eql t x y yt, ty, pos, after, guard⟩ K env h := aop_bool_eq hu hx hy (.inl ⟨rfl, rfl⟩) hK
theorem o_boolNe {t yt : TypeId} {x y : Operand} {p q : Bool} (hu : P.underlying t = some .bool) (hx : aeval env x = .bool p) (hy : aeval env y = .bool q) (hK : K (.bool (p != q)) h) :
    AOp P ⟨dst, .binOp .neq t x y yt, ty, pos, after, guard⟩ K env h := aop_bool_eq hu hx hy (.inr ⟨rfl, rfl⟩) hK

theorem k_split {b : Bool} (ht : b = true → K (.bool true) h) (hf : b = false → K (.bool false) h) : K (.bool b) h := by
  cases b
  · exact hf rfl
  · exact ht rfl

theorem o_nilCheck {x : Operand} {ad : Addr} (hx : aeval env x = .pointer (some ad)) (hK : K (.pointer (some ad)) h) : AOp P ⟨dst, .nilCheck x, ty, pos, after, guard⟩ K env h := aop_nilCheck hx (by rw [hx]; exact hK)
theorem o_extract {x : Operand} {i : Nat} {vs : Array Value} {v : Value} (hx : aeval env x = .tuple vs) (hv : vs[i]? = some v) (hK : K v h) : AOp P ⟨dst, .extract x i, ty, pos, after, guard⟩ K env h := aop_extract hx hv hK

theorem o_alloc {e : TypeId} {z : Value} {s b : Nat} (hi : InfoIs P e z s b) (hc : isConst z = true) (hK : K (.pointer (some ⟨h.length, 0, some z.cells.size⟩)) (h ++ [⟨z.cells.toList, true, 1⟩])) :
    AOp P ⟨dst, .alloc e, ty, pos, after, guard⟩ K env h := by
  obtain ⟨i, h1, h2, _⟩ := hi.get
  exact aop_alloc h1 h2 hc hK
theorem o_box {e : TypeId} {x : Operand} {v : Value} (hx : aeval env x = v) (hK : K (.pointer (some ⟨h.length, 0, some v.cells.size⟩)) (h ++ [⟨v.cells.toList, true, 1⟩])) :
    AOp P ⟨dst, .box e x, ty, pos, after, guard⟩ K env h := aop_box hx hK
theorem o_load {t : TypeId} {x : Operand} {k off ver : Nat} {o : AObj} {dd : TypeDesc} {v : Value} (hu : P.underlying t = some dd) (hd : aggD dd = false)
    (hx : aeval env x = .pointer (some ⟨k, off, some ver⟩)) (ho : h[k]? = some o) (hver : o.cells.length = ver) (hv : o.cells[off]? = some v) (hK : K v h) :
    AOp P ⟨dst, .load t x, ty, pos, after, guard⟩ K env h := aop_load hu hd hx ho hver hv hK
theorem o_loadAgg {t : TypeId} {x : Operand} {k off ver s b : Nat} {o : AObj} {dd : TypeDesc} {z : Value} {vs : List Value} (hu : P.underlying t = some dd) (hd : aggD dd = true) (hi : InfoIs P t z s b)
    (hx : aeval env x = .pointer (some ⟨k, off, some ver⟩)) (ho : h[k]? = some o) (hver : o.cells.length = ver) (hv : (o.cells.drop off).take s = vs) (hl : vs.length = s) (hK : K (.agg vs.toArray) h) :
    AOp P ⟨dst, .load t x, ty, pos, after, guard⟩ K env h := by
  obtain ⟨i, h1, _, h3, _⟩ := hi.get
  exact aop_loadAgg hu hd h1 (by rw [h3, hl]) hx ho hver (by rw [hl]; exact hv) hK
theorem o_fieldAddr {s : TypeId} {x : Operand} {fi k off ver sz b : Nat} {o : AObj} {fs : Array Field} {f : Field} {z : Value} (hu : P.underlying s = some (.struct fs)) (hf : fs[fi]? = some f)
    (hi : InfoIs P f.type z (sz + 1) b) (hx : aeval env x = .pointer (some ⟨k, off, some ver⟩)) (ho : h[k]? = some o) (hver : o.cells.length = ver) (hK : K (.pointer (some ⟨k, off + f.offset, some ver⟩)) h) :
    AOp P ⟨dst, .fieldAddr s x fi, ty, pos, after, guard⟩ K env h := by
  obtain ⟨i, h1, _, h3, _⟩ := hi.get
  exact aop_fieldAddr hu hf h1 (by omega) hx ho hver hK
theorem o_store {t : TypeId} {x y : Operand} {k off ver b : Nat} {o : AObj} {z v : Value} (hi : InfoIs P t z 1 b)
    (hx : aeval env x = .pointer (some ⟨k, off, some ver⟩)) (ho : h[k]? = some o) (hver : o.cells.length = ver) (hm : o.mine = true) (hy : aeval env y = v) (hf : off < ver) (h1 : oneCellA v = true)
    (hK : K undef (h.set k ⟨o.cells.set off v, true, o.esz⟩)) : AOp P ⟨dst, .store t x y, ty, pos, after, guard⟩ K env h := by
  obtain ⟨i, h2, _, h3, _⟩ := hi.get
  exact aop_store h2 h3 hx ho hver hm hy hf h1 hK
theorem o_storeAgg {t : TypeId} {x y : Operand} {k off ver s b : Nat} {o : AObj} {z v : Value} (hi : InfoIs P t z s b)
    (hx : aeval env x = .pointer (some ⟨k, off, some ver⟩)) (ho : h[k]? = some o) (hver : o.cells.length = ver) (hm : o.mine = true) (hy : aeval env y = v) (hs : v.cells.size = s) (hf : off + s ≤ ver) (h0 : 0 < s)
    (h1 : v.cells.toList.all oneCellA = true)
    (hK : K undef (h.set k ⟨splice o.cells off v.cells.toList, true, o.esz⟩)) : AOp P ⟨dst, .store t x y, ty, pos, after, guard⟩ K env h := by
  obtain ⟨i, h2, _, h3, _⟩ := hi.get
  exact aop_storeAgg h2 (by omega) hx ho hver hm hy (by omega) (by omega) h1 hK
theorem o_make {t e : TypeId} {x y : Operand} {z : Value} {b : Nat} {k1 k2 : IntKind} {l c : Int} (hu : P.underlying t = some (.slice e)) (hi : InfoIs P e z 1 b) (hp : isPrim z = true) (ho : oneCellA z = true)
    (hx : aeval env x = .int k1 l) (hy : aeval env y = .int k2 c) (h0 : 0 ≤ l) (hlc : l ≤ c) (hb : (b : Int) * c ≤ 281474976710656) (h63 : c ≤ 9223372036854775807)
    (hK : K (.slice (some ⟨h.length, 0, some c.toNat⟩) l.toNat c.toNat) (h ++ [⟨List.replicate c.toNat z, true, 1⟩])) : AOp P ⟨dst, .makeSlice t x y, ty, pos, after, guard⟩ K env h := by
  obtain ⟨i, h1, h2, h3, h4⟩ := hi.get
  exact aop_make hu h1 h2 h3 hp ho hx hy h0 hlc (by rw [h4]; exact hb) h63 hK
theorem o_callF {f : FuncId} {xs : Array Operand} {ats : Array TypeId} {vs : List Value} (hv : xs.toList.map (aeval env) = vs) (ht : Tri P f vs h K) :
    AOp P ⟨dst, .call { callee := .value (.func f), args := xs, argTypes := ats }, ty, pos, after, guard⟩ K env h := aop_callF (by rw [hv]; exact ht)
theorem Ret.to {f : FuncId} {vs : List Value} {v : Value} {h' : AHeap} (r : Ret P f vs h v h') (hK : K v h') : Tri P f vs h K := r.mono fun _ _ ⟨e1, e2⟩ => by subst e1 e2; exact hK
end

/-! ## Lists of integers -/

/-- A slice value that reads as integers. -/
def Ints (h : AHeap) (v : Value) (xs : List Int) : Prop :=
  (v = .slice none 0 0 ∧ xs = []) ∨
  ∃ k off ver cap o, v = .slice (some ⟨k, off, some ver⟩) xs.length cap ∧ h[k]? = some o ∧ o.cells.length = ver ∧ o.esz = 1 ∧ xs.length ≤ cap ∧ off + cap = ver ∧
    ∀ (i : Nat) (z : Int), xs[i]? = some z → o.cells[off + i]? = some (i64 z)

theorem Ints.app {h : AHeap} {v : Value} {xs : List Int} (hv : Ints h v xs) (g : List AObj) : Ints (h ++ g) v xs := by
  rcases hv with hv | ⟨k, off, ver, cap, o, h1, h2, h3, h4, h5, h6, h7⟩
  · exact .inl hv
  · exact .inr ⟨k, off, ver, cap, o, h1, by rw [List.getElem?_append_left (List.getElem?_eq_some_iff.1 h2).1]; exact h2, h3, h4, h5, h6, h7⟩

theorem Ints.within {h : AHeap} {v : Value} {xs : List Int} (hv : Ints h v xs) : Within h.length v := by
  rcases hv with ⟨rfl, _⟩ | ⟨k, off, ver, cap, o, rfl, h2, _⟩
  · exact .prim rfl
  · exact .slice (List.getElem?_eq_some_iff.1 h2).1

/-- p points to element i of the list v. -/
def IsElem (v : Value) (i : Nat) (p : Value) : Prop :=
  match v with
  | .slice (some ⟨k, off, ver⟩) _ _ => p = .pointer (some ⟨k, off + i, ver⟩)
  | _ => False

section
variable {P : Program} {K : Value → AHeap → Prop} {env : Env} {h : AHeap} {dst : Option Tmp} {ty : TypeId} {pos : String} {after : Array Edge} {guard : Option (Nat × Bool)}

theorem o_lenI {t e : TypeId} {x : Operand} {v : Value} {xs : List Int} (hu : P.underlying t = some (.slice e)) (hx : aeval env x = v) (hv : Ints h v xs) (hK : K (i64 xs.length) h) :
    AOp P ⟨dst, .call { callee := .builtin .len, args := #[x], argTypes := #[t] }, ty, pos, after, guard⟩ K env h := by
  rcases hv with ⟨rfl, rfl⟩ | ⟨k, off, ver, cap, o, rfl, h2, h3, h4, h5, h6, h7⟩
  · exact aop_len hu hx (fun ad ha => by cases ha) hK
  · exact aop_len hu hx (fun ad ha => by cases ha; exact ⟨k, off, ver, o, rfl, h2, h3⟩) hK

theorem o_indexI {t e : TypeId} {x y : Operand} {v z : Value} {b : Nat} {xs : List Int} {kd : IntKind} {i : Nat} (hu : P.underlying t = some (.slice e)) (hi : InfoIs P e z 1 b)
    (hx : aeval env x = v) (hv : Ints h v xs) (hy : aeval env y = .int kd (i : Int)) (hlt : i < xs.length) (hK : ∀ p, IsElem v i p → K p h) : AOp P ⟨dst, .indexAddr t x y, ty, pos, after, guard⟩ K env h := by
  obtain ⟨inf, g1, _, g3, _⟩ := hi.get
  rcases hv with ⟨rfl, rfl⟩ | ⟨k, off, ver, cap, o, rfl, h2, h3, h4, h5, h6, h7⟩
  · simp at hlt
  · refine aop_indexAddr hu g1 (by rw [g3, h4]) hx h2 h3 hy (by omega) (by omega) (by omega) ?_
    rw [h4, Int.toNat_natCast, Nat.mul_one]
    exact hK _ rfl

theorem o_indexZ {t e : TypeId} {x y : Operand} {v z : Value} {b : Nat} {xs : List Int} {kd : IntKind} {i : Int} (hu : P.underlying t = some (.slice e)) (hi : InfoIs P e z 1 b)
    (hx : aeval env x = v) (hv : Ints h v xs) (hy : aeval env y = .int kd i) (h0 : 0 ≤ i) (hlt : i < xs.length) (hK : ∀ p, IsElem v i.toNat p → K p h) : AOp P ⟨dst, .indexAddr t x y, ty, pos, after, guard⟩ K env h :=
  o_indexI hu hi hx hv (by rw [hy, Int.toNat_of_nonneg h0]) (by omega) hK

theorem o_loadI {t : TypeId} {x : Operand} {v p : Value} {dd : TypeDesc} {xs : List Int} {i : Nat} (hu : P.underlying t = some dd) (hd : aggD dd = false) (hx : aeval env x = p) (hp : IsElem v i p) (hv : Ints h v xs) (hlt : i < xs.length)
    (hK : K (i64 (xs.getD i 0)) h) : AOp P ⟨dst, .load t x, ty, pos, after, guard⟩ K env h := by
  rcases hv with ⟨rfl, rfl⟩ | ⟨k, off, ver, cap, o, rfl, h2, h3, h4, h5, h6, h7⟩
  · simp at hlt
  · have hz : xs[i]? = some (xs.getD i 0) := by simp [List.getD_eq_getElem?_getD, List.getElem?_eq_getElem hlt]
    exact aop_load hu hd (hx.trans hp) h2 h3 (h7 i _ hz) hK
end

/-! ## Slots at a loop's head -/

def puts (e : Env) : List (Tmp × Value) → Env
  | [] => e
  | (t, v) :: l => (puts e l).put (some t) v

def Slots (env : Env) (l : List (Tmp × Value)) : Prop := ∃ e, env = puts e l

def AllEq (env : Env) : List (Tmp × Value) → Prop
  | [] => True
  | (t, v) :: l => env t = v ∧ AllEq env l

theorem Slots.mk {env : Env} : ∀ {l : List (Tmp × Value)}, AllEq env l → Slots env l := fun {l} h => ⟨env, by
  induction l with
  | nil => rfl
  | cons p l ih =>
    obtain ⟨t, v⟩ := p
    simp only [puts, ← ih h.2]
    funext u
    simp only [Env.put]
    split
    · rename_i e; subst e; exact h.1
    · rfl⟩


theorem ll1 {α : Type} {a b : List α} : (a ++ b).length = a.length + b.length := List.length_append
theorem ll2 {α : Type} {a : α} {b : List α} : (a :: b).length = b.length + 1 := rfl
theorem ll3 {α : Type} : ([] : List α).length = 0 := rfl
theorem ll4 {α : Type} {a : List α} {i : Nat} {x : α} : (a.set i x).length = a.length := List.length_set
/-! ## For the printed walks -/

theorem awp_condT {P : Program} {n : Nat} {Q : Exit → Env → AHeap → Prop} {env : Env} {h : AHeap} {t : Tmp} {x y : Code} (hc : env t = .bool true) (hx : AWp P n x Q env h) : AWp P n (.cond (.tmp t) x y) Q env h := awp_cond hc hx
theorem awp_condF {P : Program} {n : Nat} {Q : Exit → Env → AHeap → Prop} {env : Env} {h : AHeap} {t : Tmp} {x y : Code} (hc : env t = .bool false) (hx : AWp P n y Q env h) : AWp P n (.cond (.tmp t) x y) Q env h := awp_cond hc hx

theorem lmap_nil {env : Env} : ([] : List Operand).map (aeval env) = [] := rfl
theorem lmap_cons {env : Env} {x : Operand} {l : List Operand} {v : Value} {vs : List Value} (h : aeval env x = v) (t : l.map (aeval env) = vs) : (x :: l).map (aeval env) = v :: vs := by simp [h, t]

theorem lk_last {h : AHeap} {o : AObj} {k : Nat} (e : k = h.length) : (h ++ [o])[k]? = some o := by subst e; simp
theorem lk_prev {h g : AHeap} {o : AObj} {k : Nat} (e : h[k]? = some o) : (h ++ g)[k]? = some o := by rw [List.getElem?_append_left (List.getElem?_eq_some_iff.1 e).1]; exact e
theorem set_last {h : AHeap} {o o' : AObj} {k : Nat} (e : k = h.length) : (h ++ [o]).set k o' = h ++ [o'] := by subst e; simp
theorem set_prev {h g : AHeap} {o' : AObj} {k : Nat} (e : k < h.length) : (h ++ g).set k o' = h.set k o' ++ g := by rw [List.set_append_left _ _ e]

theorem Ret.toB {P : Program} {K : Value → AHeap → Prop} {h : AHeap} {f : FuncId} {vs : List Value} {b : Bool} {h' : AHeap} (r : Ret P f vs h (.bool b) h') (ht : b = true → K (.bool true) h') (hf : b = false → K (.bool false) h') : Tri P f vs h K :=
  r.to (k_split ht hf)

section
variable {P : Program} {K : Value → AHeap → Prop} {env : Env} {h : AHeap} {dst : Option Tmp} {ty : TypeId} {pos : String} {after : Array Edge} {guard : Option (Nat × Bool)}
theorem o_boxN {e : TypeId} {x : Operand} {v : Value} {n : Nat} {cs : List Value} (hx : aeval env x = v) (hc : v.cells.toList = cs) (hn : cs.length = n) (hK : ∀ k, k = h.length → K (.pointer (some ⟨k, 0, some n⟩)) (h ++ [⟨cs, true, 1⟩])) :
    AOp P ⟨dst, .box e x, ty, pos, after, guard⟩ K env h := o_box hx (by subst hc hn; exact hK _ rfl)
theorem o_allocN {e : TypeId} {z : Value} {s b n : Nat} {cs : List Value} (hi : InfoIs P e z s b) (hz : isConst z = true) (hc : z.cells.toList = cs) (hn : cs.length = n) (hK : ∀ k, k = h.length → K (.pointer (some ⟨k, 0, some n⟩)) (h ++ [⟨cs, true, 1⟩])) :
    AOp P ⟨dst, .alloc e, ty, pos, after, guard⟩ K env h := o_alloc hi hz (by subst hc hn; exact hK _ rfl)
end

def Grown (h h' : AHeap) : Prop := ∃ g, h' = h ++ g
theorem Grown.refl (h : AHeap) : Grown h h := ⟨[], by simp⟩
theorem Grown.push {h h' : AHeap} (p : Grown h h') (g : List AObj) : Grown h (h' ++ g) := by
  obtain ⟨g0, rfl⟩ := p
  exact ⟨g0 ++ g, by simp⟩

/-- A function that answers one value without references, and leaves all as it was. -/
theorem ret_of {P : Program} {f : FuncId} {args : List Value} {h : AHeap} {V : Value} (hw : Within h.length V) (t : Tri P f args h fun v h' => v = V ∧ Grown h h') : Ret P f args h V h :=
  Tri.forget rfl hw (fun c => c) t


theorem ares_tmp {P : Program} {h : AHeap} {env : Env} {t : Tmp} {v : Value} (e : env t = v) : ARes P h env (.tmp t) v := e.symm

/-- A block of integers of one's own, and the slice over all of it. -/
def lst (xs : List Int) : AObj := ⟨xs.map i64, true, 1⟩
abbrev sl (k n : Nat) : Value := .slice (some ⟨k, 0, some n⟩) n n

theorem Ints.own {h : AHeap} {k n : Nat} {xs : List Int} (ho : h[k]? = some (lst xs)) (hn : xs.length = n) : Ints h (sl k n) xs := by
  subst hn
  exact .inr ⟨k, 0, _, _, lst xs, rfl, ho, by simp [lst], rfl, Nat.le_refl _, by simp, fun i z hz => by simp [lst, hz]⟩
theorem Ints.new {h : AHeap} {k n : Nat} {xs : List Int} (e : k = h.length) (hn : xs.length = n) : Ints (h ++ [lst xs]) (sl k n) xs := Ints.own (lk_last e) hn

/-- The contract of a function that makes one new block. -/
def RetN (P : Program) (f : FuncId) (args : List Value) (h : AHeap) (V : Nat → Value) (o : AObj) : Prop := Ret P f args h (V h.length) (h ++ [o])

theorem RetN.toN {P : Program} {K : Value → AHeap → Prop} {h : AHeap} {f : FuncId} {vs : List Value} {V : Nat → Value} {o : AObj} (r : RetN P f vs h V o) (hK : ∀ k, k = h.length → (h ++ [o])[k]? = some o → K (V k) (h ++ [o])) : Tri P f vs h K :=
  Ret.to r (hK _ rfl (by simp))

section
variable {P : Program} {K : Value → AHeap → Prop} {env : Env} {h : AHeap} {dst : Option Tmp} {ty : TypeId} {pos : String} {after : Array Edge} {guard : Option (Nat × Bool)}

theorem o_makeI {t e : TypeId} {x y : Operand} {b n : Nat} {k1 k2 : IntKind} (hu : P.underlying t = some (.slice e)) (hi : InfoIs P e (i64 0) 1 b)
    (hx : aeval env x = .int k1 n) (hy : aeval env y = .int k2 n) (hb : b * n ≤ 281474976710656) (h63 : n ≤ 9223372036854775807)
    (hK : ∀ k, k = h.length → K (sl k n) (h ++ [lst (List.replicate n 0)])) : AOp P ⟨dst, .makeSlice t x y, ty, pos, after, guard⟩ K env h := by
  refine o_make hu hi rfl rfl hx hy (by omega) (by omega) ?_ (by omega) ?_
  · have : ((b * n : Nat) : Int) ≤ 281474976710656 := by omega
    rwa [Int.natCast_mul] at this
  · simp only [Int.toNat_natCast]
    have := hK _ rfl
    simpa [lst] using this

theorem o_storeI {t : TypeId} {x y : Operand} {b k i : Nat} {z : Value} {ys : List Int} {p : Value} {q : Int} {n : Nat} {h' : AHeap} (hi : InfoIs P t z 1 b) (hx : aeval env x = p) (hp : IsElem (sl k n) i p)
    (ho : h[k]? = some (lst ys)) (hn : ys.length = n) (hlt : i < ys.length) (hy : aeval env y = i64 q) (hs : h.set k (lst (ys.set i q)) = h') (hK : K undef h') : AOp P ⟨dst, .store t x y, ty, pos, after, guard⟩ K env h := by
  subst hn
  refine o_store hi (hx.trans hp) ho (by simp [lst]) rfl hy (by simpa using hlt) rfl ?_
  subst hs
  simpa [lst, List.map_set] using hK
end


section
variable {P : Program} {ops : Array Oper} {KE : Env → AHeap → Prop} {os : List Oper} {env : Env} {h : AHeap} {d : Option Tmp} {op : Op} {ty : TypeId} {pos : String} {af : Array Edge} {g : Option (Nat × Bool)}
theorem d_eql {t yt : TypeId} {x y : Operand} {k : IntKind} {p q : Int} (hw : wantedA ops env ⟨d, .binOp .eql t x y yt, ty, pos, af, g⟩ = some true) (hx : aeval env x = .int k p) (hy : aeval env y = .int k q)
    (ht : p = q → DRun P ops KE os (env.put d (.bool true)) h) (hf : ¬ p = q → DRun P ops KE os (env.put d (.bool false)) h) : DRun P ops KE (⟨d, .binOp .eql t x y yt, ty, pos, af, g⟩ :: os) env h := by
  by_cases c : p = q
  · exact d_do hw (o_eql hx hy (fun _ => ⟨rfl, rfl⟩) (fun n => absurd c n)) (.prim rfl) (ht c)
  · exact d_do hw (o_eql hx hy (fun n => absurd n c) (fun _ => ⟨rfl, rfl⟩)) (.prim rfl) (hf c)
theorem d_neq {t yt : TypeId} {x y : Operand} {k : IntKind} {p q : Int} (hw : wantedA ops env ⟨d, .binOp .neq t x y yt, ty, pos, af, g⟩ = some true) (hx : aeval env x = .int k p) (hy : aeval env y = .int k q)
    (ht : ¬ p = q → DRun P ops KE os (env.put d (.bool true)) h) (hf : p = q → DRun P ops KE os (env.put d (.bool false)) h) : DRun P ops KE (⟨d, .binOp .neq t x y yt, ty, pos, af, g⟩ :: os) env h := by
  by_cases c : p = q
  · exact d_do hw (o_neq hx hy (fun n => absurd c n) (fun _ => ⟨rfl, rfl⟩)) (.prim rfl) (hf c)
  · exact d_do hw (o_neq hx hy (fun _ => ⟨rfl, rfl⟩) (fun n => absurd n c)) (.prim rfl) (ht c)

theorem d_callB {f : FuncId} {xs : Array Operand} {ats : Array TypeId} {vs : List Value} {b : Bool} (hw : wantedA ops env ⟨d, .call { callee := .value (.func f), args := xs, argTypes := ats }, ty, pos, af, g⟩ = some true)
    (hv : xs.toList.map (aeval env) = vs) (r : Ret P f vs h (.bool b) h) (ht : b = true → DRun P ops KE os (env.put d (.bool true)) h) (hf : b = false → DRun P ops KE os (env.put d (.bool false)) h) :
    DRun P ops KE (⟨d, .call { callee := .value (.func f), args := xs, argTypes := ats }, ty, pos, af, g⟩ :: os) env h := by
  cases b
  · exact d_do hw (o_callF hv (r.to ⟨rfl, rfl⟩)) (.prim rfl) (hf rfl)
  · exact d_do hw (o_callF hv (r.to ⟨rfl, rfl⟩)) (.prim rfl) (ht rfl)

theorem d_callN {f : FuncId} {xs : Array Operand} {ats : Array TypeId} {vs : List Value} {V : Nat → Value} {o : AObj} (hw : wantedA ops env ⟨d, .call { callee := .value (.func f), args := xs, argTypes := ats }, ty, pos, af, g⟩ = some true)
    (hv : xs.toList.map (aeval env) = vs) (r : RetN P f vs h V o) (hV : Within (h.length + 1) (V h.length)) (ho : ∀ u ∈ o.cells, isPrim u = true)
    (hK : ∀ k, k = h.length → (h ++ [o])[k]? = some o → DRun P ops KE os (env.put d (V k)) (h ++ [o])) :
    DRun P ops KE (⟨d, .call { callee := .value (.func f), args := xs, argTypes := ats }, ty, pos, af, g⟩ :: os) env h :=
  d_new hw (o_callF hv (Ret.to r ⟨rfl, rfl⟩)) (by simpa using hV) (by simpa using fun u hu => Within.prim (ho u hu)) (hK _ rfl (by simp))

theorem IsElem.within {v p : Value} {xs : List Int} {i : Nat} (hv : Ints h v xs) (hp : IsElem v i p) : Within h.length p := by
  rcases hv with ⟨rfl, _⟩ | ⟨k, off, ver, cap, o, rfl, h2, _⟩
  · exact hp.elim
  · have : p = .pointer (some ⟨k, off + i, some ver⟩) := hp
    rw [this]
    exact .ptr (List.getElem?_eq_some_iff.1 h2).1

theorem d_indexI {t e : TypeId} {x y : Operand} {v z : Value} {b : Nat} {xs : List Int} {kd : IntKind} {i : Nat} (hw : wantedA ops env ⟨d, .indexAddr t x y, ty, pos, af, g⟩ = some true) (hu : P.underlying t = some (.slice e)) (hi : InfoIs P e z 1 b)
    (hx : aeval env x = v) (hv : Ints h v xs) (hy : aeval env y = .int kd (i : Int)) (hlt : i < xs.length) (hK : ∀ p, IsElem v i p → DRun P ops KE os (env.put d p) h) : DRun P ops KE (⟨d, .indexAddr t x y, ty, pos, af, g⟩ :: os) env h := by
  have ⟨p, hp⟩ : ∃ p, IsElem v i p := by
    rcases hv with ⟨rfl, rfl⟩ | ⟨k, off, ver, cap, o, rfl, _⟩
    · simp at hlt
    · exact ⟨_, rfl⟩
  refine d_do hw (o_indexI hu hi hx hv hy hlt fun p' hp' => ⟨?_, rfl⟩) (hp.within hv) (hK p hp)
  rcases hv with ⟨rfl, rfl⟩ | ⟨k, off, ver, cap, o, rfl, _⟩
  · simp at hlt
  · exact hp'.trans hp.symm
theorem d_indexZ {t e : TypeId} {x y : Operand} {v z : Value} {b : Nat} {xs : List Int} {kd : IntKind} {i : Int} (hw : wantedA ops env ⟨d, .indexAddr t x y, ty, pos, af, g⟩ = some true) (hu : P.underlying t = some (.slice e)) (hi : InfoIs P e z 1 b)
    (hx : aeval env x = v) (hv : Ints h v xs) (hy : aeval env y = .int kd i) (h0 : 0 ≤ i) (hlt : i < xs.length) (hK : ∀ p, IsElem v i.toNat p → DRun P ops KE os (env.put d p) h) : DRun P ops KE (⟨d, .indexAddr t x y, ty, pos, af, g⟩ :: os) env h :=
  d_indexI hw hu hi hx hv (by rw [hy, Int.toNat_of_nonneg h0]) (by omega) hK
end

section
variable {P : Program} {K : Value → AHeap → Prop} {env : Env} {h : AHeap} {dst : Option Tmp} {ty : TypeId} {pos : String} {after : Array Edge} {guard : Option (Nat × Bool)}
/-- A store into a variable. -/
theorem o_storeV {t : TypeId} {x y : Operand} {k off ver b : Nat} {o : AObj} {z v : Value} {cs : List Value} {h' : AHeap} (hi : InfoIs P t z 1 b)
    (hx : aeval env x = .pointer (some ⟨k, off, some ver⟩)) (ho : h[k]? = some o) (hver : o.cells.length = ver) (hm : o.mine = true) (he : o.esz = 1) (hy : aeval env y = v) (hf : (decide (off < ver)) = true) (h1 : oneCellA v = true)
    (hc : o.cells.set off v = cs) (hs : h.set k ⟨cs, true, 1⟩ = h') (hK : K undef h') : AOp P ⟨dst, .store t x y, ty, pos, after, guard⟩ K env h :=
  o_store hi hx ho hver hm hy (of_decide_eq_true hf) h1 (by rw [hc, he, hs]; exact hK)
theorem o_storeVAgg {t : TypeId} {x y : Operand} {k off ver s b : Nat} {o : AObj} {z v : Value} {cs : List Value} {h' : AHeap} (hi : InfoIs P t z s b)
    (hx : aeval env x = .pointer (some ⟨k, off, some ver⟩)) (ho : h[k]? = some o) (hver : o.cells.length = ver) (hm : o.mine = true) (he : o.esz = 1) (hy : aeval env y = v) (hl : v.cells.size = s) (hf : (decide (off + s ≤ ver ∧ 0 < s)) = true)
    (h1 : v.cells.toList.all oneCellA = true)
    (hc : splice o.cells off v.cells.toList = cs) (hs : h.set k ⟨cs, true, 1⟩ = h') (hK : K undef h') : AOp P ⟨dst, .store t x y, ty, pos, after, guard⟩ K env h :=
  o_storeAgg hi hx ho hver hm hy hl (of_decide_eq_true hf).1 (of_decide_eq_true hf).2 h1 (by rw [hc, he, hs]; exact hK)
end

theorem ares_cellAgg {P : Program} {h : AHeap} {env : Env} {a : Tmp} {t : TypeId} {k ver s b : Nat} {o : AObj} {d : TypeDesc} {z : Value} {vs : List Value} (he : env a = .pointer (some ⟨k, 0, some ver⟩)) (ho : h[k]? = some o) (hver : o.cells.length = ver)
    (hu : P.underlying t = some d) (hd : aggD d = true) (hi : InfoIs P t z s b) (hv : o.cells.take s = vs) (hl : vs.length = s) : ARes P h env (.cell a t) (.agg vs.toArray) := by
  obtain ⟨i, h1, _, h3, _⟩ := hi.get
  exact ⟨k, 0, ver, o, d, he, ho, hver, hu, .inr ⟨hd, i, vs, h1, by omega, by rw [List.drop_zero, hl]; exact hv, rfl⟩⟩

@[simp] theorem packR_one (v : Value) : packR [v] = v := rfl
@[simp] theorem packR_two (v w : Value) : packR [v, w] = .tuple #[v, w] := rfl
@[simp] theorem packR_three (v w x : Value) : packR [v, w, x] = .tuple #[v, w, x] := rfl

theorem Grown.len {h h' : AHeap} (p : Grown h h') : h.length ≤ h'.length := by
  obtain ⟨g, rfl⟩ := p; simp

/-- A function whose value refers to one new block. -/
theorem ret1_of {P : Program} {f : FuncId} {args : List Value} {h : AHeap} {V : Nat → Value} {o : AObj} (hV : ∀ (s : Nat → Nat) (k : Nat), VRen s (V k) (V (s k))) (hW : Within (h.length + 1) (V h.length)) (ho : ∀ v ∈ o.cells, isPrim v = true)
    (t : Tri P f args h fun v h' => ∃ k, v = V k ∧ Grown h h' ∧ h'[k]? = some o ∧ h.length ≤ k) : RetN P f args h V o :=
  Tri.forget1 rfl hW (fun c => c) ho (t.mono fun v h' ⟨k, e1, ⟨g, e2⟩, e3, e4⟩ => ⟨g, k, e2, e3, e4, by
    subst e1
    have := hV (fun j => if j < h.length then j else k) h.length
    simpa using this⟩)

theorem set_step {h g X : AHeap} {o' : AObj} {k : Nat} (e : k < h.length) (r : h.set k o' = X) : (h ++ g).set k o' = X ++ g := by rw [set_prev e, r]

theorem VRen.agg3 {s : Nat → Nat} {a b c a' b' c' : Value} (h1 : VRen s a a') (h2 : VRen s b b') (h3 : VRen s c c') : VRen s (.agg #[a, b, c]) (.agg #[a', b', c']) :=
  .agg rfl fun i q1 q2 => by
    match i, q1 with
    | 0, _ => exact h1
    | 1, _ => exact h2
    | 2, _ => exact h3
theorem VRen.agg2 {s : Nat → Nat} {a b a' b' : Value} (h1 : VRen s a a') (h2 : VRen s b b') : VRen s (.agg #[a, b]) (.agg #[a', b']) :=
  .agg rfl fun i q1 q2 => by
    match i, q1 with
    | 0, _ => exact h1
    | 1, _ => exact h2
theorem Within.agg3 {n : Nat} {a b c : Value} (h1 : Within n a) (h2 : Within n b) (h3 : Within n c) : Within n (.agg #[a, b, c]) :=
  .agg fun i q1 => by
    match i, q1 with
    | 0, _ => exact h1
    | 1, _ => exact h2
    | 2, _ => exact h3
theorem Within.agg2 {n : Nat} {a b : Value} (h1 : Within n a) (h2 : Within n b) : Within n (.agg #[a, b]) :=
  .agg fun i q1 => by
    match i, q1 with
    | 0, _ => exact h1
    | 1, _ => exact h2
/-- What is left of a size. -/
def szL (left : Int) (n : Nat) : Int := if left - n < 0 then -1 else left - n

theorem within_ptr {h : AHeap} {k off ver : Nat} {o : AObj} (ho : h[k]? = some o) : Within h.length (.pointer (some ⟨k, off, some ver⟩)) := .ptr (List.getElem?_eq_some_iff.1 ho).1
theorem within_sl {h : AHeap} {k off ver len cap : Nat} {o : AObj} (ho : h[k]? = some o) : Within h.length (.slice (some ⟨k, off, some ver⟩) len cap) := .slice (List.getElem?_eq_some_iff.1 ho).1

theorem szL_spec {left : Int} {n : Nat} (c : ¬ szL left n < 0) : 0 ≤ szL left n ∧ szL left n ≤ left ∧ (n : Int) ≤ left := by
  unfold szL at *; split at * <;> omega
theorem mul_bound {p q a b : Int} (hp : 0 ≤ p ∧ p ≤ a) (hq : 0 ≤ q ∧ q ≤ b) : 0 ≤ p * q ∧ p * q ≤ a * b :=
  ⟨Int.mul_nonneg hp.1 hq.1, Int.mul_le_mul hp.2 hq.2 hq.1 (by omega)⟩

section
variable {P : Program} {K : Value → AHeap → Prop} {env : Env} {h : AHeap} {dst : Option Tmp} {ty : TypeId} {pos : String} {after : Array Edge} {guard : Option (Nat × Bool)}
theorem o_boolEqL {t yt : TypeId} {x y : Operand} {p q b : Bool} (hu : P.underlying t = some .bool) (hx : aeval env x = .bool p) (hy : aeval env y = .bool q) (hb : (p == q) = b) (hK : K (.bool b) h) :
    AOp P ⟨dst, .binOp .eql t x y yt, ty, pos, after, guard⟩ K env h := o_boolEq hu hx hy (by rw [hb]; exact hK)
theorem o_boolNeL {t yt : TypeId} {x y : Operand} {p q b : Bool} (hu : P.underlying t = some .bool) (hx : aeval env x = .bool p) (hy : aeval env y = .bool q) (hb : (p != q) = b) (hK : K (.bool b) h) :
    AOp P ⟨dst, .binOp .neq t x y yt, ty, pos, after, guard⟩ K env h := o_boolNe hu hx hy (by rw [hb]; exact hK)
end

/-! ## Small laws of lists -/

theorem all_take_step {p : Int → Bool} {xs : List Int} {k : Nat} (hk : k < xs.length) (h : (xs.take k).all p = true) (hp : p (xs.getD k 0) = true) : (xs.take (k + 1)).all p = true := by
  rw [List.take_succ_eq_append_getElem hk, List.all_append, h]
  simpa [List.getD_eq_getElem?_getD, List.getElem?_eq_getElem hk] using hp
theorem all_take_full {p : Int → Bool} {xs : List Int} {k : Nat} (hk : ¬ k < xs.length) (h : (xs.take k).all p = true) : xs.all p = true := by
  rwa [List.take_of_length_le (by omega)] at h
theorem all_false {p : Int → Bool} {xs : List Int} {k : Nat} (hk : k < xs.length) (hp : p (xs.getD k 0) = false) : xs.all p = false := by
  rw [List.all_eq_false]
  exact ⟨xs[k], List.getElem_mem hk, by simpa [List.getD_eq_getElem?_getD, List.getElem?_eq_getElem hk] using hp⟩

theorem getD_at {xs : List Int} {k : Nat} (hk : k < xs.length) : xs.getD k 0 = xs[k] := by
  simp [List.getD_eq_getElem?_getD, List.getElem?_eq_getElem hk]
theorem fill_step {xs : List Int} {k n : Nat} (hn : n = xs.length) (hk : k < n) : (xs.take k ++ List.replicate (n - k) 0).set k (xs.getD k 0) = xs.take (k + 1) ++ List.replicate (n - (k + 1)) 0 := by
  subst hn
  have h1 : (xs.take k).length = k := by simp; omega
  have h2 : xs.length - k = (xs.length - (k + 1)) + 1 := by omega
  rw [List.set_append_right _ _ (by omega), h1, Nat.sub_self, h2, List.replicate_succ, List.set_cons_zero, List.take_succ_eq_append_getElem hk, getD_at hk]
  simp only [List.append_assoc, List.cons_append, List.nil_append]
theorem fill_full {xs : List Int} {k n : Nat} (hn : n = xs.length) (hk : ¬ k < n) : xs.take k ++ List.replicate (n - k) 0 = xs := by
  subst hn
  rw [List.take_of_length_le (by omega), show xs.length - k = 0 by omega]
  simp
theorem fill_len {xs : List Int} {k n : Nat} (hn : n = xs.length) (hk : k ≤ n) : (xs.take k ++ List.replicate (n - k) 0).length = n := by
  subst hn
  simp; omega

theorem eq_take_step {xs ys : List Int} {k : Nat} (h1 : k < xs.length) (h2 : k < ys.length) (h : xs.take k = ys.take k) (e : xs.getD k 0 = ys.getD k 0) : xs.take (k + 1) = ys.take (k + 1) := by
  rw [getD_at h1, getD_at h2] at e
  rw [List.take_succ_eq_append_getElem h1, List.take_succ_eq_append_getElem h2, h, e]
theorem eq_take_full {xs ys : List Int} {k : Nat} (hl : xs.length = ys.length) (hk : ¬ k < xs.length) (h : xs.take k = ys.take k) : xs = ys := by
  rwa [List.take_of_length_le (by omega), List.take_of_length_le (by omega)] at h
theorem ne_of_getD {xs ys : List Int} {k : Nat} (h : ¬ xs.getD k 0 = ys.getD k 0) : xs ≠ ys := fun e => h (by rw [e])
theorem ne_of_length {xs ys : List Int} (h : ¬ (xs.length : Int) = ys.length) : xs ≠ ys := fun e => h (by rw [e])

end Go.Am
