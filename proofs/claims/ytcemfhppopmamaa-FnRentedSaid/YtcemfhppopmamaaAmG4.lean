/-
  The abstract heap: what this claim needs of it. General: no program is named.
-/
import Derived.Test.YtcemfhppopmamaaAmG3
namespace Go.Am
set_option linter.unusedSimpArgs false
set_option linter.unusedVariables false
abbrev by8 (n : Int) : Value := .int .u8 n
def Byts (h : AHeap) (v : Value) (xs : List Int) : Prop :=
  (v = .slice none 0 0 ∧ xs = []) ∨
  ∃ k off ver cap o, v = .slice (some ⟨k, off, some ver⟩) xs.length cap ∧ h[k]? = some o ∧ o.cells.length = ver ∧ o.esz = 1 ∧ xs.length ≤ cap ∧ off + cap = ver ∧
    ∀ (i : Nat) (z : Int), xs[i]? = some z → o.cells[off + i]? = some (by8 z)
theorem Byts.app {h : AHeap} {v : Value} {xs : List Int} (hv : Byts h v xs) (g : List AObj) : Byts (h ++ g) v xs := by
  rcases hv with hv | ⟨k, off, ver, cap, o, h1, h2, h3, h4, h5, h6, h7⟩
  · exact .inl hv
  · exact .inr ⟨k, off, ver, cap, o, h1, by rw [List.getElem?_append_left (List.getElem?_eq_some_iff.1 h2).1]; exact h2, h3, h4, h5, h6, h7⟩
theorem Byts.within {h : AHeap} {v : Value} {xs : List Int} (hv : Byts h v xs) : Within h.length v := by
  rcases hv with ⟨rfl, _⟩ | ⟨k, off, ver, cap, o, rfl, h2, _⟩
  · exact .prim rfl
  · exact .slice (List.getElem?_eq_some_iff.1 h2).1
theorem byts_nil {h : AHeap} : Byts h (.slice none 0 0) [] := .inl ⟨rfl, rfl⟩
section
variable {P : Program} {K : Value → AHeap → Prop} {env : Env} {h : AHeap} {dst : Option Tmp} {ty : TypeId} {pos : String} {after : Array Edge} {guard : Option (Nat × Bool)}
theorem o_lenY {t e : TypeId} {x : Operand} {v : Value} {xs : List Int} (hu : P.underlying t = some (.slice e)) (hx : aeval env x = v) (hv : Byts h v xs) (hK : K (i64 xs.length) h) :
    AOp P ⟨dst, .call { callee := .builtin .len, args := #[x], argTypes := #[t] }, ty, pos, after, guard⟩ K env h := by
  rcases hv with ⟨rfl, rfl⟩ | ⟨k, off, ver, cap, o, rfl, h2, h3, h4, h5, h6, h7⟩
  · exact aop_len hu hx (fun ad ha => by cases ha) hK
  · exact aop_len hu hx (fun ad ha => by cases ha; exact ⟨k, off, ver, o, rfl, h2, h3⟩) hK
theorem o_indexY {t e : TypeId} {x y : Operand} {v z : Value} {b : Nat} {xs : List Int} {kd : IntKind} {i : Nat} (hu : P.underlying t = some (.slice e)) (hi : InfoIs P e z 1 b)
    (hx : aeval env x = v) (hv : Byts h v xs) (hy : aeval env y = .int kd (i : Int)) (hlt : i < xs.length) (hK : ∀ p, IsElem v i p → K p h) : AOp P ⟨dst, .indexAddr t x y, ty, pos, after, guard⟩ K env h := by
  obtain ⟨inf, g1, _, g3, _⟩ := hi.get
  rcases hv with ⟨rfl, rfl⟩ | ⟨k, off, ver, cap, o, rfl, h2, h3, h4, h5, h6, h7⟩
  · simp at hlt
  · refine aop_indexAddr hu g1 (by rw [g3, h4]) hx h2 h3 hy (by omega) (by omega) (by omega) ?_
    rw [h4, Int.toNat_natCast, Nat.mul_one]
    exact hK _ rfl
theorem o_indexYZ {t e : TypeId} {x y : Operand} {v z : Value} {b : Nat} {xs : List Int} {kd : IntKind} {i : Int} (hu : P.underlying t = some (.slice e)) (hi : InfoIs P e z 1 b)
    (hx : aeval env x = v) (hv : Byts h v xs) (hy : aeval env y = .int kd i) (h0 : 0 ≤ i) (hlt : i < xs.length) (hK : ∀ p, IsElem v i.toNat p → K p h) : AOp P ⟨dst, .indexAddr t x y, ty, pos, after, guard⟩ K env h :=
  o_indexY hu hi hx hv (by rw [hy, Int.toNat_of_nonneg h0]) (by omega) hK
theorem o_loadY {t : TypeId} {x : Operand} {v p : Value} {dd : TypeDesc} {xs : List Int} {i : Nat} (hu : P.underlying t = some dd) (hd : aggD dd = false) (hx : aeval env x = p) (hp : IsElem v i p) (hv : Byts h v xs) (hlt : i < xs.length)
    (hK : K (by8 (xs.getD i 0)) h) : AOp P ⟨dst, .load t x, ty, pos, after, guard⟩ K env h := by
  rcases hv with ⟨rfl, rfl⟩ | ⟨k, off, ver, cap, o, rfl, h2, h3, h4, h5, h6, h7⟩
  · simp at hlt
  · have hz : xs[i]? = some (xs.getD i 0) := by simp [List.getD_eq_getElem?_getD, List.getElem?_eq_getElem hlt]
    exact aop_load hu hd (hx.trans hp) h2 h3 (h7 i _ hz) hK
end
section
variable {P : Program} {ops : Array Oper} {KE : Env → AHeap → Prop} {os : List Oper} {env : Env} {h : AHeap} {d : Option Tmp} {op : Op} {ty : TypeId} {pos : String} {af : Array Edge} {g : Option (Nat × Bool)}
theorem IsElem.withinY {v p : Value} {xs : List Int} {i : Nat} (hv : Byts h v xs) (hp : IsElem v i p) : Within h.length p := by
  rcases hv with ⟨rfl, _⟩ | ⟨k, off, ver, cap, o, rfl, h2, _⟩
  · exact hp.elim
  · have : p = .pointer (some ⟨k, off + i, some ver⟩) := hp
    rw [this]
    exact .ptr (List.getElem?_eq_some_iff.1 h2).1
theorem d_indexY {t e : TypeId} {x y : Operand} {v z : Value} {b : Nat} {xs : List Int} {kd : IntKind} {i : Nat} (hw : wantedA ops env ⟨d, .indexAddr t x y, ty, pos, af, g⟩ = some true) (hu : P.underlying t = some (.slice e)) (hi : InfoIs P e z 1 b)
    (hx : aeval env x = v) (hv : Byts h v xs) (hy : aeval env y = .int kd (i : Int)) (hlt : i < xs.length) (hK : ∀ p, IsElem v i p → DRun P ops KE os (env.put d p) h) : DRun P ops KE (⟨d, .indexAddr t x y, ty, pos, af, g⟩ :: os) env h := by
  have ⟨p, hp⟩ : ∃ p, IsElem v i p := by
    rcases hv with ⟨rfl, rfl⟩ | ⟨k, off, ver, cap, o, rfl, _⟩
    · simp at hlt
    · exact ⟨_, rfl⟩
  refine d_do hw (o_indexY hu hi hx hv hy hlt fun p' hp' => ⟨?_, rfl⟩) (hp.withinY hv) (hK p hp)
  rcases hv with ⟨rfl, rfl⟩ | ⟨k, off, ver, cap, o, rfl, _⟩
  · simp at hlt
  · exact hp'.trans hp.symm
theorem d_indexYZ {t e : TypeId} {x y : Operand} {v z : Value} {b : Nat} {xs : List Int} {kd : IntKind} {i : Int} (hw : wantedA ops env ⟨d, .indexAddr t x y, ty, pos, af, g⟩ = some true) (hu : P.underlying t = some (.slice e)) (hi : InfoIs P e z 1 b)
    (hx : aeval env x = v) (hv : Byts h v xs) (hy : aeval env y = .int kd i) (h0 : 0 ≤ i) (hlt : i < xs.length) (hK : ∀ p, IsElem v i.toNat p → DRun P ops KE os (env.put d p) h) : DRun P ops KE (⟨d, .indexAddr t x y, ty, pos, af, g⟩ :: os) env h :=
  d_indexY hw hu hi hx hv (by rw [hy, Int.toNat_of_nonneg h0]) (by omega) hK
end
def BB (bs : List Int) : Prop := ∀ b ∈ bs, 0 ≤ b ∧ b < 256
theorem BB.at {bs : List Int} (h : BB bs) (i : Nat) : 0 ≤ bs.getD i 0 ∧ bs.getD i 0 < 256 := by
  by_cases c : i < bs.length
  · rw [getD_at c]; exact h _ (List.getElem_mem _)
  · rw [List.getD_eq_getElem?_getD, List.getElem?_eq_none (by omega)]
    exact ⟨Int.le_refl _, by decide⟩
/-- A source: the bytes, the place, the seed. -/
abbrev srcO (v : Value) (a s : Int) : AObj := ⟨[v, i64 a, .int .u64 s], true, 1⟩
theorem Byts.src {h : AHeap} {v v2 : Value} {bs : List Int} {kS : Nat} {a s a2 s2 : Int} (hv : Byts h v bs) (hS : h[kS]? = some (srcO v2 a s)) : Byts (h.set kS (srcO v2 a2 s2)) v bs := by
  rcases hv with hv | ⟨k, off, ver, cap, o, h1, h2, h3, h4, h5, h6, h7⟩
  · exact .inl hv
  · by_cases e : k = kS
    · subst e
      have hk := (List.getElem?_eq_some_iff.1 h2).1
      rw [h2, Option.some.injEq] at hS
      subst hS
      refine .inr ⟨k, off, ver, cap, srcO v2 a2 s2, h1, by rw [List.getElem?_set_self hk], h3, rfl, h5, h6, fun i z hi => ?_⟩
      have h8 := h7 i z hi
      revert h8
      generalize off + i = n
      intro h8
      match n, h8 with
      | 0, h8 => exact h8
      | 1, h8 => simp at h8
      | 2, h8 => simp at h8
      | n + 3, h8 => simp at h8
    · exact .inr ⟨k, off, ver, cap, o, h1, by rw [List.getElem?_set_ne (fun e2 => e e2.symm)]; exact h2, h3, h4, h5, h6, h7⟩
section
variable {P : Program} {K : Value → AHeap → Prop} {env : Env} {h : AHeap} {dst : Option Tmp} {ty : TypeId} {pos : String} {after : Array Edge} {guard : Option (Nat × Bool)}
theorem o_and255 {t yt : TypeId} {x y : Operand} {p : Int} (hx : aeval env x = .int .u64 p) (hy : aeval env y = .int .u64 255) (hK : ∀ q, 0 ≤ q → q < 256 → K (.int .u64 q) h) : AOp P ⟨dst, .binOp .and t x y yt, ty, pos, after, guard⟩ K env h := by
  have e : ((BitVec.ofInt 64 p &&& BitVec.ofInt 64 255).toNat) ≤ 255 := by
    rw [BitVec.toNat_and]
    exact Nat.le_trans Nat.and_le_right (by decide)
  refine o_bin hx hy (v := .int .u64 (IntKind.u64.wrap ((BitVec.ofInt 64 p &&& BitVec.ofInt 64 255).toNat : Int))) (by rfl) ?_
  have e2 : IntKind.u64.wrap ((BitVec.ofInt 64 p &&& BitVec.ofInt 64 255).toNat : Int) = ((BitVec.ofInt 64 p &&& BitVec.ofInt 64 255).toNat : Int) := by
    simp only [IntKind.wrap, IntKind.bits, IntKind.signed, Bool.false_and, Bool.false_eq_true, if_false]
    omega
  rw [e2]
  exact hK _ (by omega) (by omega)
theorem build3_sz {f0 f1 f2 : Field} {z0 z1 z2 : Value} {b0 b1 b2 : Nat} (h0 : InfoIs P f0.type z0 1 b0) (h1 : InfoIs P f1.type z1 1 b1) (h2 : InfoIs P f2.type z2 1 b2) : ∀ f ∈ (#[f0, f1, f2] : Array Field).toList, ∃ i, P.info? f.type = some i ∧ i.size = (fun _ => 1) f.type := fun f hf => by
  simp only [List.mem_cons, List.not_mem_nil, or_false] at hf
  rcases hf with rfl | rfl | rfl
  · obtain ⟨i, g1, _, g3, _⟩ := h0.get; exact ⟨i, g1, g3⟩
  · obtain ⟨i, g1, _, g3, _⟩ := h1.get; exact ⟨i, g1, g3⟩
  · obtain ⟨i, g1, _, g3, _⟩ := h2.get; exact ⟨i, g1, g3⟩
theorem o_build31 {t : TypeId} {f0 f1 f2 : Field} {z0 z1 z2 y0 y1 y2 w : Value} {b0 b1 b2 s b : Nat} {x : Operand} (hu : P.underlying t = some (.struct #[f0, f1, f2])) (ho : f0.offset = 0) (h0 : InfoIs P f0.type z0 1 b0) (h1 : InfoIs P f1.type z1 1 b1) (h2 : InfoIs P f2.type z2 1 b2)
    (hi : InfoIs P t (.agg #[y0, y1, y2]) s b) (hc : isConst (.agg #[y0, y1, y2]) = true) (hx : aeval env x = w) (hw : w.cells = #[w]) (hK : K (.agg #[w, y1, y2]) h) : AOp P ⟨dst, .build t #[(0, x)], ty, pos, after, guard⟩ K env h := by
  obtain ⟨i, g1, g2, g3, g4⟩ := hi.get
  exact aop_build (fun _ => 1) hu g1 g2 hc (build3_sz h0 h1 h2) (out := #[w, y1, y2]) (by simp [Instr.fill, hx, ho, hw, show (Value.agg #[y0, y1, y2]).cells = #[y0, y1, y2] from rfl]) hK
theorem o_build33 {t : TypeId} {f0 f1 f2 : Field} {z0 z1 z2 y0 y1 y2 w : Value} {b0 b1 b2 s b : Nat} {x y u : Operand} {p q : Int} (hu : P.underlying t = some (.struct #[f0, f1, f2])) (ho : f0.offset = 0) (ho1 : f1.offset = 1) (ho2 : f2.offset = 2) (h0 : InfoIs P f0.type z0 1 b0) (h1 : InfoIs P f1.type z1 1 b1) (h2 : InfoIs P f2.type z2 1 b2)
    (hi : InfoIs P t (.agg #[y0, y1, y2]) s b) (hc : isConst (.agg #[y0, y1, y2]) = true) (hx : aeval env x = i64 p) (hy : aeval env y = i64 q) (hz : aeval env u = w) (hw : w.cells = #[w]) (hK : K (.agg #[i64 p, i64 q, w]) h) : AOp P ⟨dst, .build t #[(0, x), (1, y), (2, u)], ty, pos, after, guard⟩ K env h := by
  obtain ⟨i, g1, g2, g3, g4⟩ := hi.get
  exact aop_build (fun _ => 1) hu g1 g2 hc (build3_sz h0 h1 h2) (out := #[i64 p, i64 q, w]) (by
    have e : (i64 p).cells = #[i64 p] := rfl
    have e2 : (i64 q).cells = #[i64 q] := rfl
    simp [Instr.fill, hx, ho, hy, ho1, hz, ho2, hw, e, e2, show (Value.agg #[y0, y1, y2]).cells = #[y0, y1, y2] from rfl]) hK
theorem o_anyU {t yt : TypeId} {x y : Operand} {p q : Int} (hx : aeval env x = .int .u64 p) (hy : aeval env y = .int .u64 q) (hK : ∀ z, K (.int .u64 z) h) : AOp P ⟨dst, .binOp .add t x y yt, ty, pos, after, guard⟩ K env h := o_bin hx hy rfl (hK _)
end
def at8 (bs : List Int) (i n : Int) : Int := if n ≤ 1 then 0 else if (bs.length : Int) ≤ i then 0 else bs.getD i.toNat 0 % n
theorem at8_bnd {bs : List Int} (hb : BB bs) {i n : Int} (hn : 1 ≤ n) : 0 ≤ at8 bs i n ∧ at8 bs i n < n := by
  have h1 := hb.at i.toNat
  unfold at8
  split
  · omega
  · split
    · omega
    · exact ⟨Int.emod_nonneg _ (by omega), Int.emod_lt_of_pos _ (by omega)⟩
theorem byts_cells {h : AHeap} {v : Value} {bs : List Int} (hv : Byts h v bs) : v.cells = #[v] := by
  rcases hv with ⟨rfl, _⟩ | ⟨k, off, ver, cap, o, rfl, _⟩ <;> rfl
def smallB (x : Int) : Bool := decide (-36 ≤ x ∧ x ≤ 36)
end Go.Am

namespace Go.Am
set_option linter.unusedSimpArgs false
set_option linter.unusedVariables false
/-! ## Rows as functions -/
def fS (i : Nat) (f : Nat → Int) (s : Nat) : Int := if s.testBit i then f s - f (s - 2 ^ i) else f s
def fA (i : Nat) (f : Nat → Int) (s : Nat) : Int := if s.testBit i then f s + f (s - 2 ^ i) else f s
def allS (f : Nat → Int) : Nat → Nat → Int
  | 0 => f
  | k + 1 => fS k (allS f k)
def allA (f : Nat → Int) : Nat → Nat → Int
  | 0 => f
  | k + 1 => fA k (allA f k)
theorem bitf1 : ∀ s < 64, ∀ i < 6, s.testBit i = true → (s - 2 ^ i).testBit i = false := by decide +kernel
theorem bitf2b : ∀ s < 64, ∀ i < 6, ∀ j < 6, (!(s.testBit i) || decide (j = i) || ((s - 2 ^ i).testBit j == s.testBit j)) = true := by decide +kernel
theorem bitf2 (s : Nat) (hs : s < 64) (i : Nat) (hi : i < 6) (j : Nat) (hj : j < 6) (h : s.testBit i = true) (hne : j ≠ i) : (s - 2 ^ i).testBit j = s.testBit j := by
  have := bitf2b s hs i hi j hj
  rw [h, decide_eq_false hne] at this
  simpa using this
theorem bitf (s : Nat) (hs : s < 64) (i : Nat) (hi : i < 6) (h : s.testBit i = true) : (s - 2 ^ i).testBit i = false ∧ ∀ j < 6, j ≠ i → (s - 2 ^ i).testBit j = s.testBit j := ⟨bitf1 s hs i hi h, fun j hj hne => bitf2 s hs i hi j hj h hne⟩
theorem sub64 {s i : Nat} (hs : s < 64) : s - 2 ^ i < 64 := Nat.lt_of_le_of_lt (Nat.sub_le _ _) hs
theorem fS_yes {i s : Nat} {f : Nat → Int} (h : s.testBit i = true) : fS i f s = f s - f (s - 2 ^ i) := if_pos h
theorem fS_no {i s : Nat} {f : Nat → Int} (h : s.testBit i = false) : fS i f s = f s := if_neg (by rw [h]; decide)
theorem fA_yes {i s : Nat} {f : Nat → Int} (h : s.testBit i = true) : fA i f s = f s + f (s - 2 ^ i) := if_pos h
theorem fA_no {i s : Nat} {f : Nat → Int} (h : s.testBit i = false) : fA i f s = f s := if_neg (by rw [h]; decide)
theorem fA_congr {i s : Nat} {f g : Nat → Int} (hs : s < 64) (h : ∀ t, t < 64 → f t = g t) : fA i f s = fA i g s := by
  unfold fA
  rw [h s hs, h (s - 2 ^ i) (sub64 hs)]
theorem fAS_self {i s : Nat} {f : Nat → Int} (hs : s < 64) (hi : i < 6) : fA i (fS i f) s = f s := by
  cases h : s.testBit i with
  | true =>
    rw [fA_yes h, fS_yes h, fS_no (bitf s hs i hi h).1]; omega
  | false => rw [fA_no h, fS_no h]
theorem fAS_comm {i j s : Nat} {f : Nat → Int} (hs : s < 64) (hi : i < 6) (hj : j < 6) (hne : i ≠ j) : fA i (fS j f) s = fS j (fA i f) s := by
  cases h1 : s.testBit i with
  | false =>
    rw [fA_no h1]
    cases h2 : s.testBit j with
    | false => rw [fS_no h2, fS_no h2, fA_no h1]
    | true =>
      rw [fS_yes h2, fS_yes h2, fA_no h1, fA_no (((bitf s hs j hj h2).2 i hi hne).trans h1)]
  | true =>
    have h3 := (bitf s hs i hi h1).2 j hj (Ne.symm hne)
    rw [fA_yes h1]
    cases h2 : s.testBit j with
    | false => rw [fS_no h2, fS_no h2, fS_no (h3.trans h2), fA_yes h1]
    | true =>
      have h4 := (bitf s hs j hj h2).2 i hi hne
      rw [fS_yes h2, fS_yes h2, fS_yes (h3.trans h2), fA_yes h1, fA_yes (h4.trans h1), show s - 2 ^ i - 2 ^ j = s - 2 ^ j - 2 ^ i by omega]
      omega
theorem allA_comm {j : Nat} {f : Nat → Int} (hj : j < 6) : ∀ (k : Nat), k ≤ j → ∀ s, s < 64 → allA (fS j f) k s = fS j (allA f k) s
  | 0, _, _, _ => rfl
  | k + 1, hk, s, hs => by
    rw [allA, fA_congr hs fun t ht => allA_comm hj k (by omega) t ht, fAS_comm hs (by omega) hj (by omega)]; rfl
theorem allAS {f : Nat → Int} : ∀ (k : Nat), k ≤ 6 → ∀ s, s < 64 → allA (allS f k) k s = f s
  | 0, _, _, _ => rfl
  | k + 1, hk, s, hs => by
    rw [allA, fA_congr hs fun t ht => (show allA (allS f (k + 1)) k t = fS k (allA (allS f k) k) t from allA_comm (by omega) k (Nat.le_refl _) t ht), fAS_self hs (by omega)]
    exact allAS k (by omega) s hs
/-! ## Sums over subsets -/
def subL : Nat → Nat → List Nat
  | 0, s => [s]
  | k + 1, s => if s.testBit k then subL k (s - 2 ^ k) ++ subL k s else subL k s
def sumQ (f : Nat → Int) (l : List Nat) : Int := l.foldl (fun a t => a + f t) 0
theorem foldl_from {f : Nat → Int} : ∀ (l : List Nat) (a : Int), l.foldl (fun a t => a + f t) a = a + sumQ f l
  | [], a => by simp [sumQ]
  | x :: l, a => by
    rw [sumQ, List.foldl_cons, List.foldl_cons, foldl_from l, foldl_from l]; omega
theorem sumQ_app {f : Nat → Int} {a b : List Nat} : sumQ f (a ++ b) = sumQ f a + sumQ f b := by
  rw [sumQ, List.foldl_append, foldl_from]; rfl
theorem allA_sum {f : Nat → Int} : ∀ (k s : Nat), allA f k s = sumQ f (subL k s)
  | 0, s => by simp [allA, subL, sumQ]
  | k + 1, s => by
    rw [allA, subL]
    cases h : s.testBit k with
    | true => rw [fA_yes h, if_pos rfl, sumQ_app, allA_sum k s, allA_sum k (s - 2 ^ k)]; omega
    | false => rw [fA_no h, if_neg (by decide), allA_sum k s]
def subs (n s : Nat) : List Nat := (List.range n).filter fun t => decide (t &&& s = t)
theorem subL_all : ∀ k < 7, ∀ s < 2 ^ k, subL k s = subs (2 ^ k) s := by decide +kernel
def totS (f : Nat → Int) (s : Nat) : Nat → Int
  | 0 => 0
  | t + 1 => if t &&& s = t then totS f s t + f t else totS f s t
theorem totS_sum {f : Nat → Int} {s : Nat} : ∀ n, totS f s n = sumQ f (subs n s)
  | 0 => rfl
  | n + 1 => by
    rw [totS, subs, List.range_succ, List.filter_append, sumQ_app]
    by_cases c : n &&& s = n
    · rw [if_pos c, totS_sum n]
      simp [subs, sumQ, c]
    · rw [if_neg c, totS_sum n]
      simp [subs, sumQ, c]
theorem tot_back {f : Nat → Int} {k s : Nat} (hk : k ≤ 6) (hs : s < 2 ^ k) : totS (allS f k) s (2 ^ k) = f s := by
  have h64 : 2 ^ k ≤ 2 ^ 6 := Nat.pow_le_pow_right (by decide) hk
  rw [totS_sum, ← subL_all k (by omega) s hs, ← allA_sum, allAS k hk s (by omega)]
/-! ## Bounds -/
theorem allS_bnd {f : Nat → Int} {m : Int} (hf : ∀ t, t < 64 → -m ≤ f t ∧ f t ≤ m) : ∀ (k s : Nat), s < 64 → -(m * 2 ^ k) ≤ allS f k s ∧ allS f k s ≤ m * 2 ^ k
  | 0, s, hs => by have := hf s hs; simp only [allS, Int.pow_zero, Int.mul_one]; exact this
  | k + 1, s, hs => by
    have h1 := allS_bnd hf k s hs
    have h2 := allS_bnd hf k (s - 2 ^ k) (sub64 hs)
    have e : m * 2 ^ (k + 1) = m * 2 ^ k * 2 := by rw [Int.pow_succ, Int.mul_assoc]
    rw [e, allS]
    unfold fS
    split <;> omega
theorem allA_bnd {f : Nat → Int} {m : Int} (hf : ∀ t, t < 64 → -m ≤ f t ∧ f t ≤ m) : ∀ (k s : Nat), s < 64 → -(m * 2 ^ k) ≤ allA f k s ∧ allA f k s ≤ m * 2 ^ k
  | 0, s, hs => by have := hf s hs; simp only [allA, Int.pow_zero, Int.mul_one]; exact this
  | k + 1, s, hs => by
    have h1 := allA_bnd hf k s hs
    have h2 := allA_bnd hf k (s - 2 ^ k) (sub64 hs)
    have e : m * 2 ^ (k + 1) = m * 2 ^ k * 2 := by rw [Int.pow_succ, Int.mul_assoc]
    rw [e, allA]
    unfold fA
    split <;> omega
theorem allA_le {f g : Nat → Int} : ∀ (k s : Nat), (∀ t, t ≤ s → f t = g t) → allA f k s = allA g k s
  | 0, s, h => h s (Nat.le_refl _)
  | k + 1, s, h => by
    rw [allA, allA]
    unfold fA
    rw [allA_le k s h, allA_le k (s - 2 ^ k) fun t ht => h t (Nat.le_trans ht (Nat.sub_le _ _))]
/-! ## Rows as lists -/
theorem rowW_at {f : Int → Int → Int} {i : Nat} {l : List Int} (hl : l.length ≤ 64) (hi : i < 6) : ∀ s, s ≤ l.length → ∀ t, t < l.length →
    (rowW f i l s).getD t 0 = if t < s ∧ t.testBit i = true then f (l.getD t 0) (l.getD (t - 2 ^ i) 0) else l.getD t 0
  | 0, _, t, _ => by rw [rowW, if_neg (by omega)]
  | s + 1, hs, t, ht => by
    have ih := rowW_at (f := f) hl hi s (by omega)
    rw [rowW]
    cases h : s.testBit i with
    | true =>
      rw [if_pos rfl]
      have hge := (sub_bit s (by omega) i hi h).1
      have hp := Nat.two_pow_pos i
      by_cases e : t = s
      · subst e
        rw [if_pos ⟨by omega, h⟩, getD_set_at (by rw [rowW_len]; omega), ih t ht, if_neg (by omega), ih (t - 2 ^ i) (by omega), if_neg (by rw [(bitf t (by omega) i hi h).1]; simp)]
      · rw [getD_set (by rw [rowW_len]; omega), if_neg (fun e2 => e e2.symm), ih t ht]
        by_cases c : t < s ∧ t.testBit i = true
        · rw [if_pos c, if_pos ⟨by omega, c.2⟩]
        · rw [if_neg c, if_neg (by rintro ⟨h1, h2⟩; exact c ⟨by omega, h2⟩)]
    | false =>
      rw [if_neg (by decide), ih t ht]
      by_cases c : t < s ∧ t.testBit i = true
      · rw [if_pos c, if_pos ⟨by omega, c.2⟩]
      · rw [if_neg c, if_neg]
        rintro ⟨h1, h2⟩
        by_cases e : t = s
        · subst e; rw [h] at h2; cases h2
        · exact c ⟨by omega, h2⟩
theorem pow6 {k : Nat} (h : k ≤ 6) : (2 : Int) ^ k ≤ 64 ∧ 0 < (2 : Int) ^ k := by
  have h1 : 2 ^ k ≤ 2 ^ 6 := Nat.pow_le_pow_right (by decide) h
  have h2 := Nat.two_pow_pos k
  have e : ((2 ^ k : Nat) : Int) = 2 ^ k := by simp
  omega
theorem mul_pow_bnd {m : Int} {k : Nat} (hm : 0 ≤ m ∧ m ≤ 100000000) (hk : k ≤ 6) : 0 ≤ m * 2 ^ k ∧ m * 2 ^ k ≤ 6400000000 := by
  obtain ⟨h1, h2⟩ := pow6 hk
  have h3 : m * 2 ^ k ≤ 100000000 * 64 := Int.mul_le_mul hm.2 h1 (by omega) (by omega)
  exact ⟨Int.mul_nonneg hm.1 (by omega), by omega⟩
theorem allW_sub {xs : List Int} {m : Int} (hl : xs.length ≤ 64) (hm : 0 ≤ m ∧ m ≤ 100000000) (hb : ∀ t, t < 64 → -m ≤ atF xs t ∧ atF xs t ≤ m) : ∀ k, k ≤ 6 → ∀ t, t < xs.length → (allW subW xs k).getD t 0 = allS (atF xs) k t
  | 0, _, _, _ => rfl
  | k + 1, hk, t, ht => by
    have ih := allW_sub hl hm hb k (by omega)
    have hlen := allW_len (f := subW) (l := xs) k
    rw [allW, rowW_at (by omega) (by omega) xs.length (by omega) t (by omega), allS]
    cases h : t.testBit k with
    | true =>
      have hsl := Nat.sub_le t (2 ^ k)
      have b1 := allS_bnd hb k t (by omega)
      have b2 := allS_bnd hb k (t - 2 ^ k) (Nat.lt_of_le_of_lt hsl (by omega))
      have b3 := mul_pow_bnd hm (show k ≤ 6 by omega)
      rw [if_pos ⟨ht, rfl⟩, fS_yes h, ih t ht, ih (t - 2 ^ k) (Nat.lt_of_le_of_lt hsl ht), subW, wrap_id (by omega) (by omega)]
    | false => rw [if_neg (by simp), fS_no h, ih t ht]
theorem allW_add {xs : List Int} {m : Int} (hl : xs.length ≤ 64) (hm : 0 ≤ m ∧ m ≤ 100000000) (hb : ∀ t, t < 64 → -m ≤ atF xs t ∧ atF xs t ≤ m) : ∀ k, k ≤ 6 → ∀ t, t < xs.length → (allW addW xs k).getD t 0 = allA (atF xs) k t
  | 0, _, _, _ => rfl
  | k + 1, hk, t, ht => by
    have ih := allW_add hl hm hb k (by omega)
    have hlen := allW_len (f := addW) (l := xs) k
    rw [allW, rowW_at (by omega) (by omega) xs.length (by omega) t (by omega), allA]
    cases h : t.testBit k with
    | true =>
      have hsl := Nat.sub_le t (2 ^ k)
      have b1 := allA_bnd hb k t (by omega)
      have b2 := allA_bnd hb k (t - 2 ^ k) (Nat.lt_of_le_of_lt hsl (by omega))
      have b3 := mul_pow_bnd hm (show k ≤ 6 by omega)
      rw [if_pos ⟨ht, rfl⟩, fA_yes h, ih t ht, ih (t - 2 ^ k) (Nat.lt_of_le_of_lt hsl ht), addW, wrap_id (by omega) (by omega)]
    | false => rw [if_neg (by simp), fA_no h, ih t ht]
/-! ## Drawn worths -/
structure WOk (p : Int) (xs : List Int) : Prop where
  p6 : 1 ≤ p ∧ p ≤ 6
  len : xs.length = 2 ^ p.toNat
  zero : xs.getD 0 0 = 0
  small : xs.all smallB = true
theorem WOk.at {p : Int} {xs : List Int} (h : WOk p xs) (t : Nat) : -36 ≤ atF xs t ∧ atF xs t ≤ 36 := by
  unfold atF
  by_cases c : t < xs.length
  · rw [getD_at c]
    exact of_decide_eq_true (List.all_eq_true.1 h.small _ (List.getElem_mem _))
  · rw [List.getD_eq_getElem?_getD, List.getElem?_eq_none (by omega)]
    decide
theorem isW_any {m p : Int} {xs : List Int} (hp : 1 ≤ p ∧ p ≤ 6) (hl : xs.length = 2 ^ p.toNat) (h0 : xs.getD 0 0 = 0) (hb : ∀ t, t < xs.length → -m ≤ xs.getD t 0 ∧ xs.getD t 0 ≤ m) : isW m p xs = true := by
  obtain ⟨e, h2, h3⟩ := pow_nat hp
  refine (isW_yes (decide_eq_true hp) (by rw [hl]; exact e) h0 (List.all_eq_true.2 fun x hx => ?_)).symm
  obtain ⟨k, hk, rfl⟩ := List.getElem_of_mem hx
  have := hb k hk
  rw [getD_at hk] at this
  exact decide_eq_true this
theorem WOk.isW {p : Int} {xs : List Int} (h : WOk p xs) : isW 10000 p xs = true :=
  isW_any h.p6 h.len h.zero fun t _ => by have := h.at t; unfold atF at this; omega
theorem WOk.len64 {p : Int} {xs : List Int} (h : WOk p xs) : 2 ≤ xs.length ∧ xs.length ≤ 64 := by
  obtain ⟨e, h2, h3⟩ := pow_nat h.p6
  rw [h.len]; exact ⟨h2, h3⟩
theorem WOk.div_at {p : Int} {xs : List Int} (h : WOk p xs) {t : Nat} (ht : t < xs.length) : (allW subW xs p.toNat).getD t 0 = allS (atF xs) p.toNat t := by
  have := h.len64
  have hp := h.p6
  exact allW_sub (m := 36) (by omega) (by decide) (fun t _ => h.at t) p.toNat (by omega) t ht
theorem WOk.div_bnd {p : Int} {xs : List Int} (h : WOk p xs) (t : Nat) : -2304 ≤ (allW subW xs p.toNat).getD t 0 ∧ (allW subW xs p.toNat).getD t 0 ≤ 2304 := by
  have h1 := h.len64
  have hp := h.p6
  by_cases c : t < xs.length
  · rw [h.div_at c]
    have h2 := allS_bnd (m := 36) (fun t _ => h.at t) p.toNat t (by omega)
    have h3 := (pow6 (k := p.toNat) (by omega)).1
    omega
  · rw [List.getD_eq_getElem?_getD, List.getElem?_eq_none (by rw [allW_len]; omega)]
    decide
theorem ext_getD {a b : List Int} (hl : a.length = b.length) (h : ∀ t, t < a.length → a.getD t 0 = b.getD t 0) : a = b := by
  apply List.ext_getElem hl
  intro i h1 h2
  have := h i h1
  rwa [getD_at h1, getD_at h2] at this
theorem WOk.back {p : Int} {xs : List Int} (h : WOk p xs) : allW addW (allW subW xs p.toNat) p.toNat = xs := by
  have h1 := h.len64
  have hp := h.p6
  have hl : (allW subW xs p.toNat).length = xs.length := allW_len _
  refine ext_getD (by rw [allW_len, hl]) fun t ht => ?_
  rw [allW_len, hl] at ht
  rw [allW_add (m := 2304) (by omega) (by decide) (fun t _ => h.div_bnd t) p.toNat (by omega) t (by omega)]
  rw [allA_le (f := atF (allW subW xs p.toNat)) p.toNat t (g := allS (atF xs) p.toNat) fun u hu => h.div_at (by omega), allAS p.toNat (by omega) t (by omega)]; rfl
theorem totS_congr {f g : Nat → Int} {s : Nat} : ∀ n, (∀ t, t < n → f t = g t) → totS f s n = totS g s n
  | 0, _ => rfl
  | n + 1, h => by rw [totS, totS, totS_congr n fun t ht => h t (by omega), h n (by omega)]
theorem WOk.total {p : Int} {xs : List Int} (h : WOk p xs) {s : Nat} (hs : s < xs.length) : totS (atF (allW subW xs p.toNat)) s xs.length = xs.getD s 0 := by
  have hp := h.p6
  rw [totS_congr (f := atF (allW subW xs p.toNat)) xs.length (g := allS (atF xs) p.toNat) fun t ht => h.div_at ht]
  rw [h.len] at hs ⊢
  exact tot_back (by omega) hs
theorem mapR_at {f : Nat → Int} {p : Int} {s : Nat} (hs : s < 2 ^ p.toNat) : (mapR f p).getD s 0 = f s := by
  rw [getD_at (by rw [mapR_len]; exact hs)]
  simp
theorem oth_two {p : Int} {xs : List Int} (h : WOk p xs) {s : Nat} (hs : s < xs.length) : othF (mapR (othF xs) p) s = xs.getD s 0 := by
  have h1 := h.len64
  have hl := h.len
  rw [othF, mapR_len, mapR_at (by omega), mapR_at (by omega), othF, othF, hl]
  rw [show 2 ^ p.toNat - 1 - (2 ^ p.toNat - 1) = 0 by omega, show 2 ^ p.toNat - 1 - (2 ^ p.toNat - 1 - s) = s by omega, h.zero]
  omega
theorem WOk.twice {p : Int} {xs : List Int} (h : WOk p xs) : mapR (othF (mapR (othF xs) p)) p = xs := by
  refine ext_getD (by rw [mapR_len, h.len]) fun t ht => ?_
  rw [mapR_len] at ht
  rw [mapR_at ht, oth_two h (by rw [h.len]; exact ht)]
theorem WOk.out {p q : Int} {xs : List Int} (h : WOk p xs) (hp : 2 ≤ p) (hq : 0 ≤ q ∧ q < p) : (Am.isW 10000 p xs && decide (0 ≤ q ∧ q ≤ p - 1) && decide (2 ≤ p) && Am.isW 10000 (p - 1) (mapR (outF xs q) (p - 1))) = true := by
  have hp6 := h.p6
  rw [h.isW, decide_eq_true (show 0 ≤ q ∧ q ≤ p - 1 by omega), decide_eq_true hp, mapR_isW (by omega) (by
    have e : posO q.toNat 0 = 0 := by simp [posO, andn]
    unfold outF; rw [e]; exact h.zero) fun s => by have := h.at (posO q.toNat s); unfold atF at this; unfold outF; omega]; rfl
end Go.Am

namespace Go.Am
set_option linter.unusedSimpArgs false
set_option linter.unusedVariables false
/-! ## Orders of all rooms -/
structure PermN (n : Nat) (g : List Int) : Prop where
  len : g.length = n
  bnd : ∀ i, i < n → 0 ≤ g.getD i 0 ∧ g.getD i 0 < (n : Int)
  inj : ∀ i j, i < n → j < n → g.getD i 0 = g.getD j 0 → i = j
def tau (a b k : Nat) : Nat := if b = k then a else if a = k then b else k
def sw (g : List Int) (a b : Nat) : List Int := (g.set a (g.getD b 0)).set b (g.getD a 0)
theorem sw_at {g : List Int} {a b k : Nat} (ha : a < g.length) (hb : b < g.length) : (sw g a b).getD k 0 = g.getD (tau a b k) 0 := by
  unfold sw tau
  rw [getD_set (by rw [List.length_set]; exact hb), getD_set ha]
  by_cases h1 : b = k
  · rw [if_pos h1, if_pos h1]
  · rw [if_neg h1, if_neg h1]
    by_cases h2 : a = k
    · rw [if_pos h2, if_pos h2]
    · rw [if_neg h2, if_neg h2]
theorem tau_lt {a b k n : Nat} (ha : a < n) (hb : b < n) (hk : k < n) : tau a b k < n := by
  unfold tau; split
  · exact ha
  · split
    · exact hb
    · exact hk
theorem tau_inj {a b i j : Nat} (h : tau a b i = tau a b j) : i = j := by
  unfold tau at h
  repeat' split at h
  all_goals omega
theorem PermN.sw {n : Nat} {g : List Int} (p : PermN n g) {a b : Nat} (ha : a < n) (hb : b < n) : PermN n (sw g a b) := by
  have hl := p.len
  refine ⟨by simp [Am.sw, p.len], fun i hi => ?_, fun i j hi hj e => ?_⟩
  · rw [sw_at (by omega) (by omega)]; exact p.bnd _ (tau_lt ha hb hi)
  · rw [sw_at (by omega) (by omega), sw_at (by omega) (by omega)] at e
    exact tau_inj (p.inj _ _ (tau_lt ha hb hi) (tau_lt ha hb hj) e)
/-! ## The greatest sum -/
theorem runB_le {f : List Int → Int} : ∀ (ls : List (List Int)) (st : BSt), (st.1 ≠ none → st.2 ≤ (runB f st ls).2) ∧ ∀ l ∈ ls, f l ≤ (runB f st ls).2
  | [], st => ⟨fun _ => Int.le_refl _, fun l hl => by cases hl⟩
  | a :: ls, (o, m) => by
    have e : runB f (o, m) (a :: ls) = runB f (stepB f (o, m) a) ls := rfl
    rw [e]
    obtain ⟨h1, h2⟩ := runB_le (f := f) ls (stepB f (o, m) a)
    have h3 : (stepB f (o, m) a).1 ≠ none ∧ f a ≤ (stepB f (o, m) a).2 ∧ (o ≠ none → m ≤ (stepB f (o, m) a).2) := by
      cases o with
      | none => exact ⟨by simp [stepB], Int.le_refl _, fun h => absurd rfl h⟩
      | some c =>
        by_cases hc : m < f a
        · rw [stepB_yes hc]; exact ⟨by simp, Int.le_refl _, fun _ => Int.le_of_lt hc⟩
        · rw [stepB_no hc]; exact ⟨by simp, by show f a ≤ m; omega, fun _ => Int.le_refl _⟩
    have h4 := h1 h3.1
    refine ⟨fun ho => Int.le_trans (h3.2.2 ho) h4, fun l hl => ?_⟩
    rcases List.mem_cons.1 hl with rfl | hl
    · exact Int.le_trans h3.2.1 h4
    · exact h2 l hl
theorem permR_mem {n : Nat} : ∀ (d : Nat) (t u : List Int), u.length = d → (∀ i, i < d → 0 ≤ u.getD i 0 ∧ u.getD i 0 < (n : Int)) → (∀ i, i < d → (t ++ u.take i).contains (u.getD i 0) = false) → t ++ u ∈ permR n d t
  | 0, t, u, hl, _, _ => by
    have : u = [] := List.length_eq_zero_iff.1 hl
    subst this
    simp [permR]
  | d + 1, t, [], hl, _, _ => by simp at hl
  | d + 1, t, k :: u, hl, hb, hf => by
    have hk := hb 0 (by omega)
    have hc := hf 0 (by omega)
    simp only [List.getD_cons_zero, List.take_zero, List.append_nil] at hk hc
    obtain ⟨m, rfl⟩ := Int.eq_ofNat_of_zero_le hk.1
    rw [permR, List.mem_flatMap]
    refine ⟨m, List.mem_range.2 (by omega), ?_⟩
    rw [if_neg (by rw [hc]; decide)]
    have ih := permR_mem (n := n) d (t ++ [(m : Int)]) u (by simpa using hl) (fun i hi => by have := hb (i + 1) (by omega); simpa using this) (fun i hi => by
      have := hf (i + 1) (by omega)
      rw [List.take_succ_cons, List.getD_cons_succ] at this
      rwa [List.append_assoc, List.singleton_append])
    rwa [List.append_assoc, List.singleton_append] at ih
theorem PermN.mem {n : Nat} {g : List Int} (p : PermN n g) : g ∈ permR n n [] := by
  have h := permR_mem (n := n) n [] g p.len p.bnd fun i hi => by
    rw [List.nil_append, ← Bool.not_eq_true, List.contains_iff_mem]
    intro hm
    obtain ⟨k, hk, e⟩ := List.getElem_of_mem hm
    have hki : k < i := by rw [List.length_take] at hk; omega
    rw [List.getElem_take] at e
    have hl := p.len
    have := p.inj k i (by omega) hi (by rw [getD_at (by omega)]; exact e)
    omega
  rwa [List.nil_append] at h
theorem rm_most {xs : List Int} {n : Nat} (hb : xs.all (fun x => decide (0 ≤ x ∧ x ≤ 1000)) = true) {g : List Int} (p : PermN n g) : sumW6 xs n g n ≤ sumW6 xs n (rmL xs n) n := by
  have h := (runB_le (f := fP xs n) (permR n n []) (none, 0)).2 g p.mem
  have e := best_end hb (n := n)
  rw [Nat.sub_zero] at e
  rw [e] at h
  exact h
/-- Chosen rooms are free ones. -/
theorem rooms_free {xs : List Int} {n : Nat} (hb : xs.all (fun x => decide (0 ≤ x ∧ x ≤ 1000)) = true) : ∀ (d : Nat) (t : List Int), t.length + d = n → ∀ i, i < d → (t ++ (roomsR xs n d t).1.take i).contains ((roomsR xs n d t).1.getD i 0) = false
  | 0, _, _, i, hi => absurd hi (by omega)
  | d + 1, t, ht, i, hi => by
    have key : ∀ k, k ≤ n → (roomsK xs n d t k).1 = [] ∨ ∀ i, i < d + 1 → (t ++ (roomsK xs n d t k).1.take i).contains ((roomsK xs n d t k).1.getD i 0) = false := by
      intro k
      induction k with
      | zero => intro _; exact .inl rfl
      | succ k ih =>
        intro hk
        rw [roomsK_step, stepR]
        split
        · exact ih (by omega)
        · rename_i hc
          split
          · refine .inr fun i hi => ?_
            cases i with
            | zero =>
              simp only [List.take_zero, List.append_nil, List.getD_cons_zero]
              simpa using hc
            | succ i =>
              have h2 := rooms_free hb (n := n) d (t ++ [(k : Int)]) (by simp; omega) i (by omega)
              rw [List.append_assoc, List.singleton_append] at h2
              simpa using h2
          · exact ih (by omega)
    rw [roomsR_end]
    rcases key n (Nat.le_refl _) with h | h
    · have := rooms_len hb (n := n) (d := d + 1) (t := t) ht
      rw [roomsR_end, h] at this
      simp at this
    · exact h i hi
theorem rm_perm {xs : List Int} {n : Nat} (hb : xs.all (fun x => decide (0 ≤ x ∧ x ≤ 1000)) = true) : PermN n (rmL xs n) := by
  have hl := rmL_len hb (n := n)
  have hf := rooms_free hb (n := n) n [] (by simp)
  have lt : ∀ i j, i < j → j < n → (rmL xs n).getD i 0 ≠ (rmL xs n).getD j 0 := fun i j hij hj e => by
    have h1 := hf j hj
    rw [List.nil_append, ← Bool.not_eq_true, List.contains_iff_mem] at h1
    refine h1 ?_
    show (rmL xs n).getD j 0 ∈ (rmL xs n).take j
    rw [← e, getD_at (by omega)]
    refine List.mem_of_getElem? (i := i) ?_
    rw [List.getElem?_take, if_pos hij, List.getElem?_eq_getElem]
  refine ⟨hl, fun i hi => rmL_bnd _ (by rw [getD_at (by omega)]; exact List.getElem_mem _), fun i j hi hj e => ?_⟩
  by_cases h1 : i < j
  · exact absurd e (lt i j h1 hj)
  · by_cases h2 : j < i
    · exact absurd e.symm (lt j i h2 hi)
    · omega
/-! ## Rings do not pay -/
section
variable {xs : List Int} {n : Nat}
/-- What player i has of the room of player j. -/
def wR (xs : List Int) (n i j : Nat) : Int := wV xs n i ((rmL xs n).getD j 0)
/-- A way through players, its end first: each gets the room of the one before it. -/
def wayW (xs : List Int) (n : Nat) : List Nat → Int
  | [] => 0
  | [_] => 0
  | a :: b :: l => (wR xs n b a - wR xs n b b) + wayW xs n (b :: l)
theorem wayW_cut : ∀ (a : List Nat) (y : Nat) (b : List Nat), wayW xs n (a ++ y :: b) = wayW xs n (a ++ [y]) + wayW xs n (y :: b)
  | [], y, b => by simp [wayW]
  | [x], y, b => by simp [wayW]
  | x :: z :: a, y, b => by
    have := wayW_cut (z :: a) y b
    simp only [List.cons_append] at this ⊢
    rw [wayW, this, wayW]; omega
theorem sum_set : ∀ (s : Nat) {g : List Int} {u : Nat} {y : Int}, u < g.length → s ≤ g.length → sumW6 xs n (g.set u y) s = sumW6 xs n g s + if u < s then wV xs n u y - wV xs n u (g.getD u 0) else 0
  | 0, _, _, _, _, _ => by simp [sumW6]
  | s + 1, g, u, y, hu, hs => by
    rw [sumW6, sumW6, sum_set s hu (by omega), getD_set hu]
    by_cases h1 : u = s
    · subst h1
      rw [if_pos rfl, if_neg (by omega), if_pos (by omega)]; omega
    · rw [if_neg h1]
      by_cases h2 : u < s
      · rw [if_pos h2, if_pos (by omega)]; omega
      · rw [if_neg h2, if_neg (by omega)]; omega
theorem sum_sw {g : List Int} {a b : Nat} (hl : g.length = n) (ha : a < n) (hb : b < n) (hne : a ≠ b) :
    sumW6 xs n (sw g a b) n = sumW6 xs n g n - wV xs n a (g.getD a 0) - wV xs n b (g.getD b 0) + wV xs n a (g.getD b 0) + wV xs n b (g.getD a 0) := by
  unfold sw
  rw [sum_set n (by rw [List.length_set]; omega) (by rw [List.length_set]; omega), if_pos hb, sum_set n (by omega) (by omega), if_pos ha, getD_set (by omega), if_neg hne]
  omega
theorem ring_sw {x : Nat} (hx : x < n) : ∀ (l : List Nat) (prev : Nat) (g : List Int), PermN n g → g.getD x 0 = (rmL xs n).getD prev 0 → (∀ v ∈ l, v < n ∧ v ≠ x ∧ g.getD v 0 = (rmL xs n).getD v 0) → l.Nodup →
    ∃ g', PermN n g' ∧ sumW6 xs n g' n = sumW6 xs n g n + wayW xs n (prev :: (l ++ [x])) + wR xs n x x - wR xs n x prev
  | [], prev, g, p, h, _, _ => ⟨g, p, by simp only [List.nil_append, wayW]; omega⟩
  | v :: l, prev, g, p, h, hv, hd => by
    obtain ⟨h1, h2, h3⟩ := hv v (by simp)
    have hc := List.nodup_cons.1 hd
    have hl := p.len
    obtain ⟨g', p', e⟩ := ring_sw hx l v (sw g x v) (p.sw hx h1) (by rw [sw_at (by omega) (by omega), tau, if_neg h2, if_pos rfl, h3]) (fun u hu => by
      obtain ⟨k1, k2, k3⟩ := hv u (by simp [hu])
      refine ⟨k1, k2, ?_⟩
      rw [sw_at (by omega) (by omega), tau, if_neg (fun e => hc.1 (by rw [e]; exact hu)), if_neg (fun e => k2 e.symm)]; exact k3) hc.2
    refine ⟨g', p', ?_⟩
    rw [e, sum_sw hl hx h1 (Ne.symm h2), h, h3]
    simp only [List.cons_append, wayW]
    unfold wR
    omega
theorem ring_simple (hb : xs.all (fun x => decide (0 ≤ x ∧ x ≤ 1000)) = true) {x : Nat} {l : List Nat} (hx : x < n) (hl : ∀ v ∈ l, v < n) (hd : (x :: l).Nodup) : wayW xs n (x :: (l ++ [x])) ≤ 0 := by
  have hc := List.nodup_cons.1 hd
  obtain ⟨g', p', e⟩ := ring_sw (xs := xs) hx l x (rmL xs n) (rm_perm hb) rfl (fun v hv => ⟨hl v hv, fun e => hc.1 (by rw [← e]; exact hv), rfl⟩) hc.2
  have := rm_most hb p'
  omega
theorem dup_split : ∀ (l : List Nat), ¬ l.Nodup → ∃ a y b c, l = a ++ y :: (b ++ y :: c)
  | [], h => absurd List.nodup_nil h
  | x :: l, h => by
    by_cases hm : x ∈ l
    · obtain ⟨b, c, e⟩ := List.append_of_mem hm
      exact ⟨[], x, b, c, by rw [e]; rfl⟩
    · have h2 : ¬ l.Nodup := fun hn => h (List.nodup_cons.2 ⟨hm, hn⟩)
      obtain ⟨a, y, b, c, e⟩ := dup_split l h2
      exact ⟨x :: a, y, b, c, by rw [e]; rfl⟩
theorem ring_all (hb : xs.all (fun x => decide (0 ≤ x ∧ x ≤ 1000)) = true) : ∀ (m : Nat) (x : Nat) (l : List Nat), l.length ≤ m → x < n → (∀ v ∈ l, v < n) → wayW xs n (x :: (l ++ [x])) ≤ 0 := by
  intro m
  induction m with
  | zero =>
    intro x l hm hx _
    have : l = [] := List.length_eq_zero_iff.1 (by omega)
    subst this
    exact ring_simple hb hx (fun v hv => by cases hv) (by simp)
  | succ m ih =>
    intro x l hm hx hl
    by_cases hd : (x :: l).Nodup
    · exact ring_simple hb hx hl hd
    · obtain ⟨a, y, b, c, e⟩ := dup_split _ hd
      cases a with
      | nil =>
        simp only [List.nil_append, List.cons.injEq] at e
        obtain ⟨rfl, rfl⟩ := e
        simp only [List.length_append, List.length_cons] at hm
        have h1 := ih x b (by omega) hx fun v hv => hl v (by simp [hv])
        have h2 := ih x c (by omega) hx fun v hv => hl v (by simp [hv])
        have e2 : x :: ((b ++ x :: c) ++ [x]) = (x :: b) ++ x :: (c ++ [x]) := by simp
        rw [e2, wayW_cut, List.cons_append]
        omega
      | cons x' a =>
        simp only [List.cons_append, List.cons.injEq] at e
        obtain ⟨rfl, rfl⟩ := e
        have hlen : (a ++ y :: (b ++ y :: c)).length = a.length + b.length + c.length + 2 := by simp; omega
        have hy := hl y (by simp)
        have h1 := ih y b (by omega) hy fun v hv => hl v (by simp [hv])
        have h2 := ih x (a ++ y :: c) (by simp; omega) hx fun v hv => hl v (by
          simp only [List.mem_append, List.mem_cons] at hv ⊢
          rcases hv with h | h | h
          · exact .inl h
          · exact .inr (.inl h)
          · exact .inr (.inr (.inr (.inr h))))
        have e2 : x :: ((a ++ y :: (b ++ y :: c)) ++ [x]) = (x :: a) ++ y :: (b ++ y :: (c ++ [x])) := by simp
        have e3 : x :: ((a ++ y :: c) ++ [x]) = (x :: a) ++ y :: (c ++ [x]) := by simp
        rw [e3, wayW_cut] at h2
        rw [e2, wayW_cut, show y :: (b ++ y :: (c ++ [x])) = (y :: b) ++ y :: (c ++ [x]) by simp, wayW_cut (y :: b)]
        simp only [List.cons_append] at h1 h2 ⊢
        omega
/-- A way can be cut down to n players and pays as much. -/
theorem way_short (hb : xs.all (fun x => decide (0 ≤ x ∧ x ≤ 1000)) = true) : ∀ (m : Nat) (x : Nat) (l : List Nat), l.length ≤ m → x < n → (∀ v ∈ l, v < n) → ∃ l', (∀ v ∈ l', v < n) ∧ l'.length + 1 ≤ n ∧ wayW xs n (x :: l) ≤ wayW xs n (x :: l') := by
  intro m
  induction m with
  | zero =>
    intro x l hm hx _
    have : l = [] := List.length_eq_zero_iff.1 (by omega)
    subst this
    exact ⟨[], fun v hv => (by cases hv), by simp; omega, Int.le_refl _⟩
  | succ m ih =>
    intro x l hm hx hl
    by_cases hd : (x :: l).Nodup
    · refine ⟨l, hl, ?_, Int.le_refl _⟩
      have h1 := pigeon n ((x :: l).map fun (v : Nat) => (v : Int)) (fun z hz => by
        simp only [List.mem_map] at hz
        obtain ⟨v, hv, rfl⟩ := hz
        have : v < n := by
          rcases List.mem_cons.1 hv with rfl | h
          · exact hx
          · exact hl v h
        omega) (by
        unfold List.Nodup at hd ⊢
        rw [List.pairwise_map]
        exact hd.imp fun h e => h (by omega))
      simpa using h1
    · obtain ⟨a, y, b, c, e⟩ := dup_split _ hd
      cases a with
      | nil =>
        simp only [List.nil_append, List.cons.injEq] at e
        obtain ⟨rfl, rfl⟩ := e
        simp only [List.length_append, List.length_cons] at hm
        obtain ⟨l', k1, k2, k3⟩ := ih x c (by omega) hx fun v hv => hl v (by simp [hv])
        refine ⟨l', k1, k2, Int.le_trans ?_ k3⟩
        have h1 := ring_all hb b.length x b (Nat.le_refl _) hx fun v hv => hl v (by simp [hv])
        rw [show x :: (b ++ x :: c) = (x :: b) ++ x :: c by simp, wayW_cut, List.cons_append]
        omega
      | cons x' a =>
        simp only [List.cons_append, List.cons.injEq] at e
        obtain ⟨rfl, rfl⟩ := e
        have hlen : (a ++ y :: (b ++ y :: c)).length = a.length + b.length + c.length + 2 := by simp; omega
        have hy := hl y (by simp)
        obtain ⟨l', k1, k2, k3⟩ := ih x (a ++ y :: c) (by simp; omega) hx fun v hv => hl v (by
          simp only [List.mem_append, List.mem_cons] at hv ⊢
          rcases hv with h | h | h
          · exact .inl h
          · exact .inr (.inl h)
          · exact .inr (.inr (.inr (.inr h))))
        refine ⟨l', k1, k2, Int.le_trans ?_ k3⟩
        have h1 := ring_all hb b.length y b (Nat.le_refl _) hy fun v hv => hl v (by simp [hv])
        rw [show x :: (a ++ y :: (b ++ y :: c)) = (x :: a) ++ y :: (b ++ y :: c) by simp, wayW_cut, show x :: (a ++ y :: c) = (x :: a) ++ y :: c by simp, wayW_cut (x :: a) y c, show y :: (b ++ y :: c) = (y :: b) ++ y :: c by simp, wayW_cut (y :: b)]
        simp only [List.cons_append] at h1 ⊢
        omega
end
end Go.Am

namespace Go.Am
set_option linter.unusedSimpArgs false
set_option linter.unusedVariables false
section
variable {xs : List Int} {n : Nat}
def payR (xs : List Int) (n : Nat) (j : Int) : List Nat → Int
  | [] => 0
  | i :: l => (wV xs n i j - wR xs n i i) + wayW xs n (i :: l)
theorem payR_room {v : Nat} : ∀ l : List Nat, payR xs n ((rmL xs n).getD v 0) l = wayW xs n (v :: l)
  | [] => rfl
  | i :: l => rfl
theorem wR_bnd (hb : xs.all (fun x => decide (0 ≤ x ∧ x ≤ 1000)) = true) (i j : Nat) : 0 ≤ wR xs n i j ∧ wR xs n i j ≤ 1000 := wV_bnd hb
theorem wayW_bnd (hb : xs.all (fun x => decide (0 ≤ x ∧ x ≤ 1000)) = true) : ∀ l : List Nat, wayW xs n l ≤ 1000 * l.length
  | [] => by simp [wayW]
  | [_] => by simp [wayW]
  | a :: b :: l => by
    have h1 := wR_bnd (n := n) hb b a
    have h2 := wR_bnd (n := n) hb b b
    have h3 := wayW_bnd hb (b :: l)
    rw [wayW]
    simp only [List.length_cons] at h3 ⊢
    omega
structure InvR (xs : List Int) (n : Nat) (r : List Int) : Prop where
  len : r.length = n
  nn : ∀ j, j < n → 0 ≤ r.getD j 0
  att : ∀ j, j < n → ∃ l, (∀ i ∈ l, i < n) ∧ r.getD j 0 = payR xs n j l
theorem InvR.bnd {r : List Int} (h : InvR xs n r) (ok : RentOk xs n) {j : Nat} (hj : j < n) : r.getD j 0 ≤ 7000 := by
  obtain ⟨l, h1, h2⟩ := h.att j hj
  have hn := ok.n6
  rw [h2]
  cases l with
  | nil => simp [payR]
  | cons i l =>
    obtain ⟨l', k1, k2, k3⟩ := way_short ok.bnd l.length i l (Nat.le_refl _) (h1 i (by simp)) fun v hv => h1 v (by simp [hv])
    have h3 := wayW_bnd (n := n) ok.bnd (i :: l')
    have h4 := wV_bnd ok.bnd (n := n) (i := i) (t := j)
    have h5 := wR_bnd (n := n) ok.bnd i i
    rw [payR]
    simp only [List.length_cons] at h3
    omega
def cR (xs : List Int) (n i : Nat) (j : Int) : Int := wV xs n i j - wV xs n i ((rmL xs n).getD i 0)
theorem relI_eq {r : List Int} (h : InvR xs n r) (ok : RentOk xs n) {i j : Nat} (hi : i < n) (hj : j < n) :
    relI xs (rmL xs n) n j r i = r.set j (max (r.getD j 0) (r.getD ((rmL xs n).getD i 0).toNat 0 + cR xs n i j)) := by
  have hp := (rm_perm ok.bnd (n := n)).bnd i hi
  have h1 := h.bnd ok (j := ((rmL xs n).getD i 0).toNat) (by omega)
  have h2 := h.nn ((rmL xs n).getD i 0).toNat (by omega)
  have h3 := wV_bnd ok.bnd (n := n) (i := i) (t := j)
  have h4 := wV_bnd ok.bnd (n := n) (i := i) (t := (rmL xs n).getD i 0)
  rw [relI, wrap_id (z := r.getD ((rmL xs n).getD i 0).toNat 0 + wV xs n i j) (by omega) (by omega), wrap_id (by omega) (by omega), cR]
  congr 2
  omega
theorem max_or (a b : Int) : max a b = a ∨ max a b = b := by omega
theorem relI_inv {r : List Int} (h : InvR xs n r) (ok : RentOk xs n) {i j : Nat} (hi : i < n) (hj : j < n) :
    InvR xs n (relI xs (rmL xs n) n j r i) ∧ (∀ k, r.getD k 0 ≤ (relI xs (rmL xs n) n j r i).getD k 0) ∧ r.getD ((rmL xs n).getD i 0).toNat 0 + cR xs n i j ≤ (relI xs (rmL xs n) n j r i).getD j 0 := by
  have hl := h.len
  rw [relI_eq h ok hi hj]
  have hp := (rm_perm ok.bnd (n := n)).bnd i hi
  refine ⟨⟨by simp [hl], fun k hk => ?_, fun k hk => ?_⟩, fun k => ?_, ?_⟩
  · rw [getD_set (by omega)]
    have := h.nn k hk
    split
    · rename_i e; subst e; omega
    · exact this
  · rw [getD_set (by omega)]
    split
    · rename_i e; subst e
      rcases max_or (r.getD j 0) (r.getD ((rmL xs n).getD i 0).toNat 0 + cR xs n i j) with e | e
      · rw [e]; exact h.att j hj
      · rw [e]
        obtain ⟨l, h1, h2⟩ := h.att ((rmL xs n).getD i 0).toNat (by omega)
        refine ⟨i :: l, fun v hv => ?_, ?_⟩
        · rcases List.mem_cons.1 hv with rfl | hv
          · exact hi
          · exact h1 v hv
        · rw [h2, Int.toNat_of_nonneg hp.1, payR_room, payR, cR, wR]; omega
    · exact h.att k hk
  · rw [getD_set (by omega)]
    split
    · rename_i e; subst e; omega
    · exact Int.le_refl _
  · rw [getD_set (by omega), if_pos rfl]; omega
theorem relJ_inv {r : List Int} (h : InvR xs n r) (ok : RentOk xs n) {j : Nat} (hj : j < n) : ∀ i, i ≤ n → InvR xs n (relJ xs (rmL xs n) n j r i) ∧ (∀ k, r.getD k 0 ≤ (relJ xs (rmL xs n) n j r i).getD k 0) ∧ ∀ i', i' < i → r.getD ((rmL xs n).getD i' 0).toNat 0 + cR xs n i' j ≤ (relJ xs (rmL xs n) n j r i).getD j 0
  | 0, _ => ⟨h, fun k => Int.le_refl _, fun i' hi' => by omega⟩
  | i + 1, hi => by
    obtain ⟨h1, h2, h3⟩ := relJ_inv h ok hj i (by omega)
    obtain ⟨k1, k2, k3⟩ := relI_inv h1 ok (show i < n by omega) hj
    refine ⟨k1, fun k => Int.le_trans (h2 k) (k2 k), fun i' hi' => ?_⟩
    by_cases e : i' = i
    · subst e
      have := h2 ((rmL xs n).getD i' 0).toNat
      rw [relJ]; omega
    · exact Int.le_trans (h3 i' (by omega)) (k2 j)
theorem relA_inv {r : List Int} (h : InvR xs n r) (ok : RentOk xs n) : ∀ j, j ≤ n → InvR xs n (relA xs (rmL xs n) n r j) ∧ (∀ k, r.getD k 0 ≤ (relA xs (rmL xs n) n r j).getD k 0) ∧ ∀ j' i', j' < j → i' < n → r.getD ((rmL xs n).getD i' 0).toNat 0 + cR xs n i' j' ≤ (relA xs (rmL xs n) n r j).getD j' 0
  | 0, _ => ⟨h, fun k => Int.le_refl _, fun j' i' hj' => by omega⟩
  | j + 1, hj => by
    obtain ⟨h1, h2, h3⟩ := relA_inv h ok j (by omega)
    obtain ⟨k1, k2, k3⟩ := relJ_inv h1 ok (show j < n by omega) n (Nat.le_refl _)
    refine ⟨k1, fun k => Int.le_trans (h2 k) (k2 k), fun j' i' hj' hi' => ?_⟩
    by_cases e : j' = j
    · subst e
      have h4 := k3 i' hi'
      have h5 := h2 ((rmL xs n).getD i' 0).toNat
      rw [relA]; omega
    · exact Int.le_trans (h3 j' i' (by omega) hi') (k2 j')
theorem relT_inv (ok : RentOk xs n) : ∀ t, InvR xs n (relT xs (rmL xs n) n t) ∧ ∀ j, j < n → ∀ l : List Nat, (∀ i ∈ l, i < n) → l.length ≤ t → payR xs n j l ≤ (relT xs (rmL xs n) n t).getD j 0
  | 0 => by
    have h0 : ∀ j, (List.replicate n (0 : Int)).getD j 0 = 0 := fun j => by
      rw [List.getD_eq_getElem?_getD, List.getElem?_replicate]; split <;> rfl
    refine ⟨⟨by simp [relT], fun j _ => by rw [relT, h0]; omega, fun j _ => ⟨[], fun i hi => (by cases hi), by rw [relT, h0]; rfl⟩⟩, fun j _ l _ hl => ?_⟩
    have : l = [] := List.length_eq_zero_iff.1 (by omega)
    subst this
    rw [relT, h0]; exact Int.le_refl _
  | t + 1 => by
    obtain ⟨h1, h2⟩ := relT_inv ok t
    obtain ⟨k1, k2, k3⟩ := relA_inv h1 ok n (Nat.le_refl _)
    refine ⟨k1, fun j hj l hl hlen => ?_⟩
    cases l with
    | nil => exact k1.nn j hj
    | cons i l =>
      have hi := hl i (by simp)
      have hp := (rm_perm ok.bnd (n := n)).bnd i hi
      have h3 := h2 ((rmL xs n).getD i 0).toNat (by omega) l (fun v hv => hl v (by simp [hv])) (by simpa using hlen)
      have h4 := k3 j i hj hi
      rw [Int.toNat_of_nonneg hp.1, payR_room] at h3
      rw [relT, payR]
      unfold cR at h4
      unfold wR
      omega
theorem rel_fair (ok : RentOk xs n) {i j : Nat} (hi : i < n) (hj : j < n) : (relT xs (rmL xs n) n n).getD ((rmL xs n).getD i 0).toNat 0 + cR xs n i j ≤ (relT xs (rmL xs n) n n).getD j 0 := by
  obtain ⟨h1, h2⟩ := relT_inv ok n
  have hp := (rm_perm ok.bnd (n := n)).bnd i hi
  obtain ⟨l, k1, k2⟩ := h1.att ((rmL xs n).getD i 0).toNat (by omega)
  obtain ⟨l', q1, q2, q3⟩ := way_short ok.bnd l.length i l (Nat.le_refl _) hi k1
  have h3 := h2 j hj (i :: l') (fun v hv => by
    rcases List.mem_cons.1 hv with rfl | hv
    · exact hi
    · exact q1 v hv) (by simpa using q2)
  rw [k2, Int.toNat_of_nonneg hp.1, payR_room]
  rw [payR] at h3
  unfold cR
  unfold wR at h3
  omega
/-! ## Prices -/
def sumI (l : List Int) : Nat → Int
  | 0 => 0
  | s + 1 => sumI l s + l.getD s 0
theorem sumW_I {B : Int} (hB : 0 ≤ B ∧ B ≤ 100000000) {l : List Int} (h : ∀ j, j < l.length → -B ≤ l.getD j 0 ∧ l.getD j 0 ≤ B) (hl : l.length ≤ 64) : ∀ s, s ≤ l.length → sumW (l.take s) = sumI l s ∧ -(B * s) ≤ sumI l s ∧ sumI l s ≤ B * s
  | 0, _ => by simp [sumW, sumI]
  | s + 1, hs => by
    obtain ⟨h1, h2, h3⟩ := sumW_I hB h hl s (by omega)
    have h4 := h s (by omega)
    have e : B * ((s + 1 : Nat) : Int) = B * s + B := by rw [Int.natCast_add, Int.mul_add]; simp
    have h5 : B * (s : Int) ≤ 100000000 * 64 := Int.mul_le_mul hB.2 (by omega) (by omega) (by omega)
    have h6 : 0 ≤ B * (s : Int) := Int.mul_nonneg hB.1 (by omega)
    rw [← sumW_step (by omega), h1, sumI, e, wrap_id (by omega) (by omega)]
    omega
def prR (xs : List Int) (n : Nat) (total : Int) (j : Nat) : Int := (relT xs (rmL xs n) n n).getD j 0 * n + total - sumI (relT xs (rmL xs n) n n) n
theorem r_sum (ok : RentOk xs n) : sumW (relT xs (rmL xs n) n n) = sumI (relT xs (rmL xs n) n n) n ∧ 0 ≤ sumI (relT xs (rmL xs n) n n) n ∧ sumI (relT xs (rmL xs n) n n) n ≤ 42000 := by
  obtain ⟨h1, _⟩ := relT_inv ok n
  have hn := ok.n6
  have hl := h1.len
  obtain ⟨a, b, c⟩ := sumW_I (B := 7000) (by decide) (l := relT xs (rmL xs n) n n) (fun j hj => by have := h1.nn j (by omega); have := h1.bnd ok (j := j) (by omega); omega) (by omega) n (by omega)
  rw [List.take_of_length_le (by omega)] at a
  have nn : ∀ s, s ≤ n → 0 ≤ sumI (relT xs (rmL xs n) n n) s := by
    intro s
    induction s with
    | zero => intro _; exact Int.le_refl _
    | succ s ih => intro hs; have := ih (by omega); have := h1.nn s (by omega); rw [sumI]; omega
  exact ⟨a, nn n (Nat.le_refl _), by omega⟩
theorem mulN_bnd (ok : RentOk xs n) {j : Nat} (hj : j < n) : 0 ≤ (relT xs (rmL xs n) n n).getD j 0 * n ∧ (relT xs (rmL xs n) n n).getD j 0 * n ≤ 42000 := by
  obtain ⟨h1, _⟩ := relT_inv ok n
  have h2 := h1.nn j hj
  have h3 := h1.bnd ok hj
  have hn := ok.n6
  have h4 : (relT xs (rmL xs n) n n).getD j 0 * (n : Int) ≤ 7000 * 6 := Int.mul_le_mul h3 (by omega) (by omega) (by omega)
  exact ⟨Int.mul_nonneg h2 (by omega), by omega⟩
theorem price_eq (ok : RentOk xs n) {total : Int} (ht : 0 ≤ total ∧ total ≤ 100000) {j : Nat} (hj : j < n) : (pricesL (relT xs (rmL xs n) n n) n total n).getD j 0 = prR xs n total j ∧ -42000 ≤ prR xs n total j ∧ prR xs n total j ≤ 142000 := by
  obtain ⟨a, b, c⟩ := r_sum ok
  have h1 := mulN_bnd ok hj
  have e : (pricesL (relT xs (rmL xs n) n n) n total n).getD j 0 = priceP (relT xs (rmL xs n) n n) n total j := by
    rw [getD_at (by rw [pricesL_len]; exact hj)]; simp [pricesL]
  rw [e, priceP, a, wrap_id (z := (relT xs (rmL xs n) n n).getD j 0 * n) (by omega) (by omega), wrap_id (z := (relT xs (rmL xs n) n n).getD j 0 * n + total) (by omega) (by omega), wrap_id (by omega) (by omega), prR]
  omega
theorem sum_prices (ok : RentOk xs n) {total : Int} (ht : 0 ≤ total ∧ total ≤ 100000) : sumW (pricesL (relT xs (rmL xs n) n n) n total n) = total * n := by
  have hl : (pricesL (relT xs (rmL xs n) n n) n total n).length = n := pricesL_len
  have hn := ok.n6
  obtain ⟨a, _, _⟩ := sumW_I (B := 142000) (by decide) (l := pricesL (relT xs (rmL xs n) n n) n total n) (fun j hj => by have := price_eq ok ht (j := j) (by omega); omega) (by omega) n (by omega)
  rw [List.take_of_length_le (by omega)] at a
  rw [a]
  have key : ∀ s : Nat, s ≤ n → sumI (pricesL (relT xs (rmL xs n) n n) n total n) s = sumI (relT xs (rmL xs n) n n) s * n + total * s - sumI (relT xs (rmL xs n) n n) n * s := by
    intro s
    induction s with
    | zero => intro _; simp [sumI]
    | succ s ih =>
      intro hs
      rw [sumI, ih (by omega), (price_eq ok ht (show s < n by omega)).1, prR, sumI, Int.natCast_add, Int.add_mul, Int.mul_add, Int.mul_add]
      simp only [Int.natCast_one, Int.mul_one]
      omega
  rw [key n (Nat.le_refl _)]
  omega
end
end Go.Am

namespace Go.Am
set_option linter.unusedSimpArgs false
set_option linter.unusedVariables false
def v12 (x : Int) : Bool := decide (0 ≤ x ∧ x ≤ 11)
structure VOk (n : Nat) (xs : List Int) : Prop where
  n1 : 1 ≤ n
  n6 : n ≤ 6
  len : (xs.length : Int) = (n : Int) * (n : Int)
  small : xs.all v12 = true
theorem v12_app {L : List Int} {x : Int} (h : L.all v12 = true) (hx : 0 ≤ x ∧ x ≤ 11) : (L ++ [x]).all v12 = true := by
  rw [List.all_append, h, List.all_cons, List.all_nil, v12, decide_eq_true hx]; rfl
theorem VOk.all {n : Nat} {xs : List Int} (h : VOk n xs) : xs.all (fun x => decide (0 ≤ x ∧ x ≤ 1000)) = true := by
  refine List.all_eq_true.2 fun x hx => decide_eq_true ?_
  have := of_decide_eq_true (List.all_eq_true.1 h.small x hx)
  omega
theorem VOk.ok {n : Nat} {xs : List Int} (h : VOk n xs) : RentOk xs n := ⟨h.n1, h.n6, h.len, h.all⟩
theorem VOk.valid {n : Nat} {xs : List Int} (h : VOk n xs) : validV n n xs = true := by
  have h1 := h.n1
  have h6 := h.n6
  unfold validV
  rw [h.all, decide_eq_true (show 1 ≤ (n : Int) ∧ (n : Int) ≤ 6 by omega), decide_eq_true (show 1 ≤ (n : Int) ∧ (n : Int) ≤ 8 by omega), decide_eq_true h.len]; rfl
theorem VOk.rentK {n : Nat} {xs : List Int} (h : VOk n xs) {total : Int} (ht : 0 ≤ total ∧ total ≤ 100000) : rentK n n xs total = true := by
  rw [Am.rentK, h.valid, decide_eq_true rfl, decide_eq_true ht]; rfl
section
variable {n : Nat} {xs : List Int}
theorem rm_permB (ok : RentOk xs n) : permB (rmL xs n) (rmL xs n).length = true := by
  have p := rm_perm ok.bnd (n := n)
  have hl := p.len
  refine List.all_eq_true.2 fun s hs => ?_
  have hs' : s < n := by have := List.mem_range.1 hs; omega
  have h1 := p.bnd s hs'
  rw [decide_eq_true (show 0 ≤ (rmL xs n).getD s 0 ∧ (rmL xs n).getD s 0 ≤ ((rmL xs n).length : Int) - 1 by omega), Bool.true_and, Bool.not_eq_true']
  have := rooms_free ok.bnd (n := n) n [] (by simp) s hs'
  rwa [List.nil_append] at this
theorem rent_any (ok : RentOk xs n) (hv : validV n n xs = true) {ps : List Int} (hl : ps.length = n) (hb : ∀ j, j < n → -1000000000 ≤ ps.getD j 0 ∧ ps.getD j 0 ≤ 1000000000) : rentV n n xs (rmL xs n) ps = true := by
  have hrl := rmL_len ok.bnd (n := n)
  have ha : (ps.all fun m => decide (-1000000000 ≤ m ∧ m ≤ 1000000000)) = true := by
    refine List.all_eq_true.2 fun x hx => decide_eq_true ?_
    obtain ⟨k, hk, rfl⟩ := List.getElem_of_mem hx
    have := hb k (by omega)
    rwa [getD_at hk] at this
  rw [rentV, hv, decide_eq_true rfl, decide_eq_true (show ((rmL xs n).length : Int) = n by omega), rm_permB ok, decide_eq_true (show ((ps.length : Nat) : Int) = n by omega), ha]; rfl
def prL (xs : List Int) (n : Nat) (total : Int) : List Int := pricesL (relT xs (rmL xs n) n n) n total n
theorem prL_len {total : Int} : (prL xs n total).length = n := pricesL_len
theorem rent_valid (ok : RentOk xs n) (hv : validV n n xs = true) {total : Int} (ht : 0 ≤ total ∧ total ≤ 100000) : rentV n n xs (rmL xs n) (prL xs n total) = true :=
  rent_any ok hv prL_len fun j hj => by
    have := price_eq ok ht hj
    unfold prL
    omega
theorem rentF_eq (ok : RentOk xs n) {ps : List Int} (hb : ∀ j, j < n → -1000000000 ≤ ps.getD j 0 ∧ ps.getD j 0 ≤ 1000000000) {i : Nat} {j : Int} (hj : 0 ≤ j ∧ j < n) :
    rentF xs ps n n i j = wV xs n i j * n - ps.getD j.toNat 0 ∧ 0 ≤ wV xs n i j * n ∧ wV xs n i j * n ≤ 6000 := by
  have h1 := wV_bnd ok.bnd (n := n) (i := i) (t := j)
  have h2 := hb j.toNat (by omega)
  have hn := ok.n6
  have h3 : wV xs n i j * (n : Int) ≤ 1000 * 6 := Int.mul_le_mul h1.2 (by omega) (by omega) (by omega)
  have h4 : 0 ≤ wV xs n i j * (n : Int) := Int.mul_nonneg h1.1 (by omega)
  refine ⟨?_, h4, by omega⟩
  show IntKind.i64.wrap (IntKind.i64.wrap (wV xs n i j * n) - ps.getD j.toNat 0) = _
  rw [wrap_id (z := wV xs n i j * n) (by omega) (by omega), wrap_id (by omega) (by omega)]
theorem rent_fair (ok : RentOk xs n) {total : Int} (ht : 0 ≤ total ∧ total ≤ 100000) : allN n (fairS xs (rmL xs n) (prL xs n total) n n) = true := by
  refine List.all_eq_true.2 fun i hi => List.all_eq_true.2 fun j hj => ?_
  have hi := List.mem_range.1 hi
  have hj := List.mem_range.1 hj
  have hp := (rm_perm ok.bnd (n := n)).bnd i hi
  have hb : ∀ j, j < n → -1000000000 ≤ (prL xs n total).getD j 0 ∧ (prL xs n total).getD j 0 ≤ 1000000000 := fun j hj => by
    have := price_eq ok ht hj
    unfold prL; omega
  have e1 := (rentF_eq ok hb (i := i) (j := (rmL xs n).getD i 0) hp).1
  have e2 := (rentF_eq ok hb (i := i) (j := (j : Int)) (by omega)).1
  have p1 := (price_eq ok ht (j := ((rmL xs n).getD i 0).toNat) (by omega)).1
  have p2 := (price_eq ok ht hj).1
  have hf := rel_fair ok hi hj
  rw [fairS, e1, e2]
  refine decide_eq_true ?_
  unfold prL
  rw [p1, Int.toNat_natCast, p2, prR, prR]
  unfold cR at hf
  have h5 : ((relT xs (rmL xs n) n n).getD ((rmL xs n).getD i 0).toNat 0 + (wV xs n i j - wV xs n i ((rmL xs n).getD i 0))) * (n : Int) ≤ (relT xs (rmL xs n) n n).getD j 0 * n := Int.mul_le_mul_of_nonneg_right hf (by omega)
  rw [Int.add_mul, Int.sub_mul] at h5
  omega
def raL (xs : List Int) (n : Nat) (total : Int) : List Int := (prL xs n total).set ((rmL xs n).getD 0 0).toNat ((prL xs n total).getD ((rmL xs n).getD 0 0).toNat 0 + 100000)
theorem raL_len {total : Int} : (raL xs n total).length = n := by rw [raL, List.length_set, prL_len]
theorem raL_at (ok : RentOk xs n) {total : Int} {j : Nat} : (raL xs n total).getD j 0 = if ((rmL xs n).getD 0 0).toNat = j then (prL xs n total).getD j 0 + 100000 else (prL xs n total).getD j 0 := by
  have hp := (rm_perm ok.bnd (n := n)).bnd 0 (by have := ok.n1; omega)
  rw [raL, getD_set (by rw [prL_len]; omega)]
  split
  · rename_i e; rw [e]
  · rfl
theorem raL_bnd (ok : RentOk xs n) {total : Int} (ht : 0 ≤ total ∧ total ≤ 100000) (j : Nat) (hj : j < n) : -1000000000 ≤ (raL xs n total).getD j 0 ∧ (raL xs n total).getD j 0 ≤ 1000000000 := by
  have := price_eq ok ht hj
  rw [raL_at ok]
  unfold prL
  split <;> omega
theorem raise_valid (ok : RentOk xs n) (hv : validV n n xs = true) {total : Int} (ht : 0 ≤ total ∧ total ≤ 100000) : rentV n n xs (rmL xs n) (raL xs n total) = true :=
  rent_any ok hv raL_len (raL_bnd ok ht)
theorem raise_fair (ok : RentOk xs n) {total : Int} (ht : 0 ≤ total ∧ total ≤ 100000) : allN n (fairS xs (rmL xs n) (raL xs n total) n n) = decide (n = 1) := by
  have hn1 := ok.n1
  have hp := (rm_perm ok.bnd (n := n)).bnd 0 (by omega)
  by_cases c : n = 1
  · subst c
    rw [decide_eq_true rfl]
    have e : (rmL xs 1).getD 0 0 = 0 := by omega
    refine List.all_eq_true.2 fun i hi => List.all_eq_true.2 fun j hj => ?_
    have hi := List.mem_range.1 hi
    have hj := List.mem_range.1 hj
    obtain rfl : i = 0 := by omega
    obtain rfl : j = 0 := by omega
    rw [fairS, e]
    exact decide_eq_true (Int.lt_irrefl _)
  · rw [decide_eq_false c]
    obtain ⟨j, hj, hne⟩ : ∃ j, j < n ∧ ((rmL xs n).getD 0 0).toNat ≠ j := by
      by_cases c0 : ((rmL xs n).getD 0 0).toNat = 0
      · exact ⟨1, by omega, by omega⟩
      · exact ⟨0, by omega, c0⟩
    refine allN_no (s := 0) (t := j) (by omega) hj ?_
    have e1 := rentF_eq ok (raL_bnd ok ht) (i := 0) (j := (rmL xs n).getD 0 0) hp
    have e2 := rentF_eq ok (raL_bnd ok ht) (i := 0) (j := (j : Int)) (by omega)
    have p1 := price_eq ok ht (j := ((rmL xs n).getD 0 0).toNat) (by omega)
    have p2 := price_eq ok ht hj
    rw [fairS, e1.1, e2.1, Int.toNat_natCast, raL_at ok, raL_at ok, if_pos rfl, if_neg hne]
    have q1 : (prL xs n total).getD ((rmL xs n).getD 0 0).toNat 0 = _ := p1.1
    have q2 : (prL xs n total).getD j 0 = _ := p2.1
    have m1 := mulN_bnd ok (j := ((rmL xs n).getD 0 0).toNat) (by omega)
    have m2 := mulN_bnd ok hj
    unfold prR at q1 q2
    refine decide_eq_false fun h => h ?_
    omega
/-! ## Another order of rooms -/
def shO (n : Nat) (sh : Int) : List Int := (List.range n).map fun (i : Nat) => ((i : Int) + sh) % (n : Int)
theorem shO_at {sh : Int} {i : Nat} (hi : i < n) : (shO n sh).getD i 0 = ((i : Int) + sh) % (n : Int) := by
  rw [getD_at (by simp [shO]; exact hi)]; simp [shO]
theorem sh_perm {sh : Int} (hs : 0 ≤ sh ∧ sh < n) : PermN n (shO n sh) := by
  refine ⟨by simp [shO], fun i hi => ?_, fun i j hi hj e => ?_⟩
  · rw [shO_at hi]
    exact ⟨Int.emod_nonneg _ (by omega), Int.emod_lt_of_pos _ (by omega)⟩
  · rw [shO_at hi, shO_at hj] at e
    have key : ∀ i : Nat, i < n → ((i : Int) + sh) % (n : Int) = if (i : Int) + sh < n then (i : Int) + sh else (i : Int) + sh - n := fun i hi => by
      split
      · exact Int.emod_eq_of_lt (by omega) (by assumption)
      · rw [← Int.sub_emod_right]
        exact Int.emod_eq_of_lt (by omega) (by omega)
    rw [key i hi, key j hj] at e
    split at e <;> split at e <;> omega
theorem other_le (ok : RentOk xs n) {sh : Int} (hs : 0 ≤ sh ∧ sh < n) : sumW6 xs n (shO n sh) n ≤ sumW6 xs n (rmL xs n) n := rm_most ok.bnd (sh_perm hs)
theorem Ret.valEq {P : Program} {f : FuncId} {vs : List Value} {h h' : AHeap} {v w : Value} (r : Ret P f vs h v h') (e : v = w) : Ret P f vs h w h' := by subst e; exact r
theorem fair_yes (ok : RentOk xs n) (hv : validV n n xs = true) {total : Int} (ht : 0 ≤ total ∧ total ≤ 100000) :
    Value.tuple #[.bool (rentV n n xs (rmL xs n) (prL xs n total) && allN ((n : Int)).toNat (fairS xs (rmL xs n) (prL xs n total) n n)), .bool (rentV n n xs (rmL xs n) (prL xs n total))] = .tuple #[.bool true, .bool true] := by
  rw [rent_valid ok hv ht, Int.toNat_natCast, rent_fair ok ht]; rfl
theorem fair_raise (ok : RentOk xs n) (hv : validV n n xs = true) {total : Int} (ht : 0 ≤ total ∧ total ≤ 100000) :
    Value.tuple #[.bool (rentV n n xs (rmL xs n) (raL xs n total) && allN ((n : Int)).toNat (fairS xs (rmL xs n) (raL xs n total) n n)), .bool (rentV n n xs (rmL xs n) (raL xs n total))] = .tuple #[.bool (decide ((n : Int) = 1)), .bool true] := by
  have e : decide (n = 1) = decide ((n : Int) = 1) := by
    by_cases c : n = 1
    · rw [decide_eq_true c, decide_eq_true (by omega)]
    · rw [decide_eq_false c, decide_eq_false (by omega)]
  rw [raise_valid ok hv ht, Int.toNat_natCast, raise_fair ok ht, e]; rfl
theorem rentRm_nat : rentRm (n : Int) xs = rmL xs n := by rw [rentRm, Int.toNat_natCast]
theorem rentPr_nat {total : Int} : rentPr (n : Int) xs total = prL xs n total := by rw [rentPr, Int.toNat_natCast]; rfl
theorem sum_sh {sh : Int} {s : Nat} (hs : s < n) : sumW6 xs n (shO n sh) s + xs.getD ((s : Int) * n + ((s : Int) + sh) % n).toNat 0 = sumW6 xs n (shO n sh) (s + 1) := by
  rw [sumW6, shO_at hs]; rfl
theorem mul_600 {a b : Int} (ha : 0 ≤ a ∧ a ≤ 100) (hb : 0 ≤ b ∧ b ≤ 6) : 0 ≤ a * b ∧ a * b ≤ 600 :=
  ⟨Int.mul_nonneg ha.1 hb.1, by have := Int.mul_le_mul ha.2 hb.2 hb.1 (show (0 : Int) ≤ 100 by decide); omega⟩
end
end Go.Am

namespace Go.Am
set_option linter.unusedSimpArgs false
set_option linter.unusedVariables false
end Go.Am
