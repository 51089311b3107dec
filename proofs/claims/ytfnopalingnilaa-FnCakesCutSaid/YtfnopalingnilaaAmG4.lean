/-
  The abstract heap: what this claim needs of it. General: no program is named.
-/
import Derived.Test.YtfnopalingnilaaAmG3
namespace Go.Am
set_option linter.unusedSimpArgs false
set_option linter.unusedVariables false
def lstF (xs : List Nat) : AObj := ⟨xs.map fl, true, 1⟩
def Flts (h : AHeap) (v : Value) (xs : List Nat) : Prop :=
  (v = .slice none 0 0 ∧ xs = []) ∨
  ∃ k off ver cap o, v = .slice (some ⟨k, off, some ver⟩) xs.length cap ∧ h[k]? = some o ∧ o.cells.length = ver ∧ o.esz = 1 ∧ xs.length ≤ cap ∧ off + cap = ver ∧
    ∀ (i : Nat) (z : Nat), xs[i]? = some z → o.cells[off + i]? = some (fl z)
theorem Flts.app {h : AHeap} {v : Value} {xs : List Nat} (hv : Flts h v xs) (g : List AObj) : Flts (h ++ g) v xs := by
  rcases hv with hv | ⟨k, off, ver, cap, o, h1, h2, h3, h4, h5, h6, h7⟩
  · exact .inl hv
  · exact .inr ⟨k, off, ver, cap, o, h1, by rw [List.getElem?_append_left (List.getElem?_eq_some_iff.1 h2).1]; exact h2, h3, h4, h5, h6, h7⟩
theorem Flts.within {h : AHeap} {v : Value} {xs : List Nat} (hv : Flts h v xs) : Within h.length v := by
  rcases hv with ⟨rfl, _⟩ | ⟨k, off, ver, cap, o, rfl, h2, _⟩
  · exact .prim rfl
  · exact .slice (List.getElem?_eq_some_iff.1 h2).1
theorem lstF_prim {xs : List Nat} : ∀ v ∈ (lstF xs).cells, isPrim v = true := fun v hv => by
  simp only [lstF, List.mem_map] at hv
  obtain ⟨z, _, rfl⟩ := hv
  rfl
theorem flts_nil {h : AHeap} : Flts h (.slice none 0 0) [] := .inl ⟨rfl, rfl⟩
theorem Flts.own {h : AHeap} {k n : Nat} {xs : List Nat} (ho : h[k]? = some (lstF xs)) (hn : xs.length = n) : Flts h (sl k n) xs := by
  subst hn
  exact .inr ⟨k, 0, _, _, lstF xs, rfl, ho, by simp [lstF], rfl, Nat.le_refl _, by simp, fun i z hz => by simp [lstF, hz]⟩
section
variable {P : Program} {K : Value → AHeap → Prop} {env : Env} {h : AHeap} {dst : Option Tmp} {ty : TypeId} {pos : String} {after : Array Edge} {guard : Option (Nat × Bool)}
theorem o_lenF {t e : TypeId} {x : Operand} {v : Value} {xs : List Nat} (hu : P.underlying t = some (.slice e)) (hx : aeval env x = v) (hv : Flts h v xs) (hK : K (i64 xs.length) h) :
    AOp P ⟨dst, .call { callee := .builtin .len, args := #[x], argTypes := #[t] }, ty, pos, after, guard⟩ K env h := by
  rcases hv with ⟨rfl, rfl⟩ | ⟨k, off, ver, cap, o, rfl, h2, h3, h4, h5, h6, h7⟩
  · exact aop_len hu hx (fun ad ha => by cases ha) hK
  · exact aop_len hu hx (fun ad ha => by cases ha; exact ⟨k, off, ver, o, rfl, h2, h3⟩) hK
theorem o_indexF {t e : TypeId} {x y : Operand} {v z : Value} {b : Nat} {xs : List Nat} {kd : IntKind} {i : Nat} (hu : P.underlying t = some (.slice e)) (hi : InfoIs P e z 1 b)
    (hx : aeval env x = v) (hv : Flts h v xs) (hy : aeval env y = .int kd (i : Int)) (hlt : i < xs.length) (hK : ∀ p, IsElem v i p → K p h) : AOp P ⟨dst, .indexAddr t x y, ty, pos, after, guard⟩ K env h := by
  obtain ⟨inf, g1, _, g3, _⟩ := hi.get
  rcases hv with ⟨rfl, rfl⟩ | ⟨k, off, ver, cap, o, rfl, h2, h3, h4, h5, h6, h7⟩
  · simp at hlt
  · refine aop_indexAddr hu g1 (by rw [g3, h4]) hx h2 h3 hy (by omega) (by omega) (by omega) ?_
    rw [h4, Int.toNat_natCast, Nat.mul_one]
    exact hK _ rfl
theorem o_indexFZ {t e : TypeId} {x y : Operand} {v z : Value} {b : Nat} {xs : List Nat} {kd : IntKind} {i : Int} (hu : P.underlying t = some (.slice e)) (hi : InfoIs P e z 1 b)
    (hx : aeval env x = v) (hv : Flts h v xs) (hy : aeval env y = .int kd i) (h0 : 0 ≤ i) (hlt : i < xs.length) (hK : ∀ p, IsElem v i.toNat p → K p h) : AOp P ⟨dst, .indexAddr t x y, ty, pos, after, guard⟩ K env h :=
  o_indexF hu hi hx hv (by rw [hy, Int.toNat_of_nonneg h0]) (by omega) hK
theorem o_loadF {t : TypeId} {x : Operand} {v p : Value} {dd : TypeDesc} {xs : List Nat} {i : Nat} (hu : P.underlying t = some dd) (hd : aggD dd = false) (hx : aeval env x = p) (hp : IsElem v i p) (hv : Flts h v xs) (hlt : i < xs.length)
    (hK : K (fl (xs.getD i 0)) h) : AOp P ⟨dst, .load t x, ty, pos, after, guard⟩ K env h := by
  rcases hv with ⟨rfl, rfl⟩ | ⟨k, off, ver, cap, o, rfl, h2, h3, h4, h5, h6, h7⟩
  · simp at hlt
  · have hz : xs[i]? = some (xs.getD i 0) := by simp [List.getD_eq_getElem?_getD, List.getElem?_eq_getElem hlt]
    exact aop_load hu hd (hx.trans hp) h2 h3 (h7 i _ hz) hK
theorem o_makeF {t e : TypeId} {x y : Operand} {b n : Nat} {k1 k2 : IntKind} (hu : P.underlying t = some (.slice e)) (hi : InfoIs P e (fl 0) 1 b)
    (hx : aeval env x = .int k1 n) (hy : aeval env y = .int k2 n) (hb : b * n ≤ 281474976710656) (h63 : n ≤ 9223372036854775807)
    (hK : ∀ k, k = h.length → K (sl k n) (h ++ [lstF (List.replicate n 0)])) : AOp P ⟨dst, .makeSlice t x y, ty, pos, after, guard⟩ K env h := by
  refine o_make hu hi rfl rfl hx hy (by omega) (by omega) ?_ (by omega) ?_
  · have : ((b * n : Nat) : Int) ≤ 281474976710656 := by omega
    rwa [Int.natCast_mul] at this
  · simp only [Int.toNat_natCast]
    have := hK _ rfl
    simpa [lstF] using this
theorem o_storeF {t : TypeId} {x y : Operand} {b k i : Nat} {z : Value} {ys : List Nat} {p : Value} {q : Nat} {n : Nat} {h' : AHeap} (hi : InfoIs P t z 1 b) (hx : aeval env x = p) (hp : IsElem (sl k n) i p)
    (ho : h[k]? = some (lstF ys)) (hn : ys.length = n) (hlt : i < ys.length) (hy : aeval env y = fl q) (hs : h.set k (lstF (ys.set i q)) = h') (hK : K undef h') : AOp P ⟨dst, .store t x y, ty, pos, after, guard⟩ K env h := by
  subst hn
  refine o_store hi (hx.trans hp) ho (by simp [lstF]) rfl hy (by simpa using hlt) rfl ?_
  subst hs
  simpa [lstF, List.map_set] using hK
end
section
variable {P : Program} {K : Value → AHeap → Prop} {env : Env} {h : AHeap} {dst : Option Tmp} {ty : TypeId} {pos : String} {after : Array Edge} {guard : Option (Nat × Bool)}
theorem news_flts {off : Nat} {o : AObj} {ys : List Nat} (hz : ∀ (i : Nat) (z : Nat), ys[i]? = some z → o.cells[off + i]? = some (fl z)) : news o off (ys.length * 1) = ys.map fl := by
  apply List.ext_getElem?
  intro i
  rw [Nat.mul_one]
  simp only [news, List.getElem?_map]
  by_cases hi : i < ys.length
  · rw [List.getElem?_take_of_lt hi, List.getElem?_drop, hz i _ (List.getElem?_eq_getElem hi), List.getElem?_eq_getElem hi]; rfl
  · rw [List.getElem?_eq_none (by simp; omega), List.getElem?_eq_none (by omega)]; rfl
theorem o_appendF {t e : TypeId} {s x : Operand} {k n : Nat} {xs ys : List Nat} {v : Value} {h' : AHeap} (hu : P.underlying t = some (.slice e)) (hi : InfoIs P e (fl 0) 1 4)
    (hx : aeval env s = sl k n) (ho : h[k]? = some (lstF xs)) (hn : xs.length = n) (hy : aeval env x = v) (hv : Flts h v ys)
    (hb : n + ys.length ≤ 1000000000) (hs : h.set k (lstF (xs ++ ys)) = h') (hK : K (sl k (n + ys.length)) h') :
    AOp P ⟨dst, .call { callee := .builtin .append, args := #[s, x], argTypes := #[t, t] }, ty, pos, after, guard⟩ K env h := by
  obtain ⟨inf, g1, g2, g3, g4⟩ := hi.get
  subst hs hn
  have hno : (lstF xs).cells.length = xs.length := by simp [lstF]
  by_cases h0 : ys = []
  · subst h0
    refine aop_appendNone (q := match v with | .slice a _ _ => a | _ => none) (c2 := match v with | .slice _ _ c => c | _ => 0) hu g1 (.inr ⟨k, 0, _, _, _, lstF xs, hx, ho, hno⟩) ?_ ?_ ?_
    · rcases hv with ⟨rfl, _⟩ | ⟨k2, off, ver, cap, o, rfl, _⟩ <;> exact hy
    · rcases hv with ⟨rfl, _⟩ | ⟨k2, off, ver, cap, o, rfl, h2, h3, _⟩
      · exact .inl ⟨rfl, rfl⟩
      · exact .inr ⟨k2, off, ver, o, rfl, h2, h3⟩
    · rw [hx]
      have : h.set k (lstF (xs ++ [])) = h := by rw [List.append_nil]; exact set_same ho
      rw [this] at hK
      exact hK
  · rcases hv with ⟨_, rfl⟩ | ⟨k2, off, ver, cap, o, rfl, h2, h3, h4, h5, h6, h7⟩
    · exact absurd rfl h0
    · have hpos : 0 < ys.length := List.length_pos_iff.2 h0
      have hnews := news_flts h7
      refine aop_append (o := lstF xs) (o2 := o) (m := ys.length) hu g1 g2 (by rw [g3]; rfl) (by rw [g3]; rfl) (by show 0 < 1; decide) (by rw [h4]; rfl) hx ho hno (by show xs.length * 1 = _; omega) rfl hy h2 h3
        (by show (news o off (ys.length * 1)).all oneCellA = true; rw [hnews]; simp [List.all_map]; intro a _; rfl) hpos (by rw [g4]; omega) (by omega) ?_
      have e1 : (lstF xs).esz = 1 := rfl
      rw [e1, hnews]
      have e2 : (⟨(lstF xs).cells ++ ys.map fl, true, 1⟩ : AObj) = lstF (xs ++ ys) := by simp [lstF]
      rw [e2, Nat.mul_one]
      exact hK
theorem fillF1 (p : Nat) : Instr.fill (fun k => some (k * 1, 1)) (Array.map (fun x => (fl 0).cells[x % (fl 0).cells.size]!) (Array.range (1 * 1))) [(0, fl p)] = some #[fl p] := by
  have e : Array.range (1 * 1) = #[0] := by decide
  rw [e]
  simp [Instr.fill, Value.cells]
theorem o_buildF0 {t e : TypeId} {b : Nat} (hu : P.underlying t = some (.slice e)) (hi : InfoIs P e (fl 0) 1 b) (hK : ∀ k, k = h.length → K (sl k 0) (h ++ [lstF []])) :
    AOp P ⟨dst, .buildSlice t 0 #[], ty, pos, after, guard⟩ K env h := by
  obtain ⟨inf, g1, g2, g3, g4⟩ := hi.get
  refine aop_buildSlice (out := #[]) hu g1 g2 rfl (by rw [g3]; rfl) (by omega) (by omega) (by simp [Instr.fill]) (by simp) ?_
  have := hK h.length rfl
  rw [g3]; exact this
theorem o_buildF1 {t e : TypeId} {b : Nat} {x : Operand} {p : Nat} (hu : P.underlying t = some (.slice e)) (hi : InfoIs P e (fl 0) 1 b) (hx : aeval env x = fl p) (hK : ∀ k, k = h.length → K (sl k 1) (h ++ [lstF [p]])) :
    AOp P ⟨dst, .buildSlice t 1 #[(0, x)], ty, pos, after, guard⟩ K env h := by
  obtain ⟨inf, g1, g2, g3, g4⟩ := hi.get
  refine aop_buildSlice (out := #[fl p]) hu g1 g2 rfl (by rw [g3]; rfl) (by omega) (by omega) (by rw [g3]; simp only [List.map_cons, List.map_nil, hx]; exact fillF1 p) (by simp [g3]) ?_
  have := hK h.length rfl
  rw [g3]; exact this
end
section
variable {P : Program} {K : Value → AHeap → Prop} {env : Env} {h : AHeap} {dst : Option Tmp} {ty : TypeId} {pos : String} {after : Array Edge} {guard : Option (Nat × Bool)}
theorem o_makeFZ {t e : TypeId} {x y : Operand} {b : Nat} {l : Int} {k1 k2 : IntKind} (hu : P.underlying t = some (.slice e)) (hi : InfoIs P e (fl 0) 1 b)
    (hx : aeval env x = .int k1 l) (hy : aeval env y = .int k2 l) (hb : 0 ≤ l ∧ b * l ≤ 281474976710656) (h63 : l ≤ 9223372036854775807)
    (hK : ∀ k, k = h.length → K (sl k l.toNat) (h ++ [lstF (List.replicate l.toNat 0)])) : AOp P ⟨dst, .makeSlice t x y, ty, pos, after, guard⟩ K env h := by
  obtain ⟨n, rfl⟩ := Int.eq_ofNat_of_zero_le hb.1
  have h1 : ((n : Int)).toNat = n := Int.toNat_natCast n
  rw [h1] at hK
  have e1 : (b : Int) * (n : Int) = ((b * n : Nat) : Int) := (Int.natCast_mul b n).symm
  have e2 := hb.2
  rw [e1] at e2
  exact o_makeF hu hi hx hy (by omega) (by omega) hK
end
section
variable {P : Program} {ops : Array Oper} {KE : Env → AHeap → Prop} {os : List Oper} {env : Env} {h : AHeap} {d : Option Tmp} {op : Op} {ty : TypeId} {pos : String} {af : Array Edge} {g : Option (Nat × Bool)}
theorem IsElem.withinF {v p : Value} {xs : List Nat} {i : Nat} (hv : Flts h v xs) (hp : IsElem v i p) : Within h.length p := by
  rcases hv with ⟨rfl, _⟩ | ⟨k, off, ver, cap, o, rfl, h2, _⟩
  · exact hp.elim
  · have : p = .pointer (some ⟨k, off + i, some ver⟩) := hp
    rw [this]
    exact .ptr (List.getElem?_eq_some_iff.1 h2).1
theorem d_indexF {t e : TypeId} {x y : Operand} {v z : Value} {b : Nat} {xs : List Nat} {kd : IntKind} {i : Nat} (hw : wantedA ops env ⟨d, .indexAddr t x y, ty, pos, af, g⟩ = some true) (hu : P.underlying t = some (.slice e)) (hi : InfoIs P e z 1 b)
    (hx : aeval env x = v) (hv : Flts h v xs) (hy : aeval env y = .int kd (i : Int)) (hlt : i < xs.length) (hK : ∀ p, IsElem v i p → DRun P ops KE os (env.put d p) h) : DRun P ops KE (⟨d, .indexAddr t x y, ty, pos, af, g⟩ :: os) env h := by
  have ⟨p, hp⟩ : ∃ p, IsElem v i p := by
    rcases hv with ⟨rfl, rfl⟩ | ⟨k, off, ver, cap, o, rfl, _⟩
    · simp at hlt
    · exact ⟨_, rfl⟩
  refine d_do hw (o_indexF hu hi hx hv hy hlt fun p' hp' => ⟨?_, rfl⟩) (hp.withinF hv) (hK p hp)
  rcases hv with ⟨rfl, rfl⟩ | ⟨k, off, ver, cap, o, rfl, _⟩
  · simp at hlt
  · exact hp'.trans hp.symm
theorem d_indexFZ {t e : TypeId} {x y : Operand} {v z : Value} {b : Nat} {xs : List Nat} {kd : IntKind} {i : Int} (hw : wantedA ops env ⟨d, .indexAddr t x y, ty, pos, af, g⟩ = some true) (hu : P.underlying t = some (.slice e)) (hi : InfoIs P e z 1 b)
    (hx : aeval env x = v) (hv : Flts h v xs) (hy : aeval env y = .int kd i) (h0 : 0 ≤ i) (hlt : i < xs.length) (hK : ∀ p, IsElem v i.toNat p → DRun P ops KE os (env.put d p) h) : DRun P ops KE (⟨d, .indexAddr t x y, ty, pos, af, g⟩ :: os) env h :=
  d_indexF hw hu hi hx hv (by rw [hy, Int.toNat_of_nonneg h0]) (by omega) hK
end
section
variable {P : Program} {ops : Array Oper} {KE : Env → AHeap → Prop} {os : List Oper} {env : Env} {h : AHeap} {d : Option Tmp} {ty : TypeId} {pos : String} {af : Array Edge} {g : Option (Nat × Bool)}
end
theorem retLF_of {P : Program} {f : FuncId} {args : List Value} {h : AHeap} {ok : Bool} {n : Nat} {l : List Nat} (t : Tri P f args h (OptQ ok (VL n) (lstF l) NL h)) : RetO P f args h ok (VL n) (lstF l) NL :=
  reto_of (fun _ _ => .tup2 .slice (.prim rfl)) (.tup2 (.slice (by omega)) (.prim rfl)) lstF_prim within_nilb t
end Go.Am

namespace Go.Am
set_option linter.unusedSimpArgs false
set_option linter.unusedVariables false
open Ieee
theorem pow_cut {c : Nat} (a b n : Nat) (h : c = a + b) (hn : 2 ^ a = n) : (2 : Nat) ^ c = n * 2 ^ b := by rw [h, Nat.pow_add, hn]
theorem pow2_le (a b : Nat) (h : a ≤ b) : (2 : Nat) ^ a ≤ 2 ^ b := Nat.pow_le_pow_right (by decide) h
theorem half_lt (m j n : Nat) (hm : m < 2 ^ 24) (hj : j + 25 ≤ n) : 2 * (m * 2 ^ j) < 2 ^ n := by
  have h1 : m * 2 ^ j < 2 ^ 24 * 2 ^ j := Nat.mul_lt_mul_of_pos_right hm (Nat.two_pow_pos _)
  have h2 := pow2_le (j + 25) n hj
  rw [Nat.pow_add] at h2
  omega
theorem one_nat (u : Nat) : (1 : Int).toNat * u = u := Nat.one_mul u
theorem zero_nat (u : Nat) : (0 : Int).toNat * u = 0 := Nat.zero_mul u

/-! ## Values over one base -/
def V (m : Nat) (i : Int) : Nat := m * 2 ^ (i + 300).toNat
theorem vle_iff {m n : Nat} {i j : Int} (hi : -300 ≤ i) (hj : -300 ≤ j) : vle m i n j ↔ V m i ≤ V n j := by
  unfold vle V
  have e1 : (i + 300).toNat = (i - min i j).toNat + (min i j + 300).toNat := by omega
  have e2 : (j + 300).toNat = (j - min i j).toNat + (min i j + 300).toNat := by omega
  rw [e1, e2, Nat.pow_add, Nat.pow_add, ← Nat.mul_assoc, ← Nat.mul_assoc]
  constructor
  · intro h; exact Nat.mul_le_mul_right _ h
  · intro h; exact Nat.le_of_mul_le_mul_right h (Nat.two_pow_pos _)
theorem near_leV {y mag m0 : Nat} {place i0 : Int} (hy : single.read y = .number false m0 i0) (hp : -300 ≤ place) (h : V mag place ≤ V m0 i0) : NB (single.nearest false mag place) ∧ leB (single.nearest false mag place) y = true :=
  near_le hy ((vle_iff hp (by have := s_num hy; omega)).2 h)
theorem leB_V {x y m n : Nat} {i j : Int} (hx : single.read x = .number false m i) (hy : single.read y = .number false n j) : leB x y = true ↔ V m i ≤ V n j := by
  have a := s_num hx
  have b := s_num hy
  constructor
  · intro h; exact (vle_iff (by omega) (by omega)).1 (vle_of_leB hx hy h)
  · intro h; exact leB_of_vle hx hy ((vle_iff (by omega) (by omega)).2 h)
theorem leB_trans {x y z : Nat} (hx : NB x) (hy : NB y) (hz : NB z) (h1 : leB x y = true) (h2 : leB y z = true) : leB x z = true := by
  obtain ⟨a, i, e1⟩ := hx
  obtain ⟨b, j, e2⟩ := hy
  obtain ⟨c, k, e3⟩ := hz
  exact (leB_V e1 e3).2 (Nat.le_trans ((leB_V e1 e2).1 h1) ((leB_V e2 e3).1 h2))
/-- A number of the format, by its rung. -/
theorem read_rung {kept : Nat} {last : Int} (h1 : 8388608 ≤ kept) (h2 : kept ≤ 16777216) (h3 : -149 ≤ last) (h4 : last ≤ 100) : ∃ m i, single.read (single.word false ((last + 149).toNat * 8388608 + kept)) = .number false m i ∧ V m i = kept * 2 ^ (last + 300).toNat := by
  have hw := s_parts false ((last + 149).toNat * 8388608 + kept) (by omega)
  rw [s_read, hw.1, hw.2]
  rw [if_neg (by omega), if_pos (by omega)]
  refine ⟨_, _, rfl, ?_⟩
  by_cases c : kept = 16777216
  · subst c
    rw [show ((last + 149).toNat * 8388608 + 16777216) / 8388608 = (last + 149).toNat + 2 by omega, show ((last + 149).toNat * 8388608 + 16777216) % 8388608 = 0 by omega]
    unfold V
    rw [show (-149 + (((last + 149).toNat + 2 - 1 : Nat) : Int) + 300).toNat = (last + 300).toNat + 1 by omega, Nat.pow_succ]
    omega
  · rw [show ((last + 149).toNat * 8388608 + kept) / 8388608 = (last + 149).toNat + 1 by omega, show ((last + 149).toNat * 8388608 + kept) % 8388608 = kept - 8388608 by omega]
    unfold V
    rw [show (-149 + (((last + 149).toNat + 1 - 1 : Nat) : Int) + 300).toNat = (last + 300).toNat by omega, show 8388608 + (kept - 8388608) = kept by omega]
theorem rep {D : Nat} (h0 : 0 < D) (h1 : D ≤ 16777216) : ∃ y m i, single.read y = .number false m i ∧ V m i = D * 2 ^ 276 := by
  by_cases c : D = 16777216
  · refine ⟨fI 1, _, _, read_one, ?_⟩
    subst c
    unfold V
    have gen : ∀ x a : Nat, x = a + 1 → 8388608 * 2 ^ x = 16777216 * 2 ^ a := fun x a h => by rw [h, pow_cut 1 a 2 (Nat.add_comm a 1) rfl, ← Nat.mul_assoc]
    refine gen _ 276 ?_
    rfl
  · have hl : D.log2 ≤ 23 := log2_le (by omega) (show D < 2 ^ (23 + 1) by omega)
    have hlo := pow_log2 (m := D) (by omega)
    have hhi := lt_log2 (n := D)
    have hk1 : 8388608 ≤ D * 2 ^ (23 - D.log2) := by
      have := Nat.mul_le_mul_right (2 ^ (23 - D.log2)) hlo
      rw [← Nat.pow_add, show D.log2 + (23 - D.log2) = 23 by omega] at this
      exact this
    have hk2 : D * 2 ^ (23 - D.log2) ≤ 16777216 := by
      have := Nat.mul_le_mul_right (2 ^ (23 - D.log2)) (Nat.le_of_lt hhi)
      rw [← Nat.pow_add, show D.log2 + 1 + (23 - D.log2) = 24 by omega] at this
      exact this
    obtain ⟨m, i, e, hv⟩ := read_rung (last := (D.log2 : Int) - 47) hk1 hk2 (by omega) (by omega)
    refine ⟨_, m, i, e, ?_⟩
    rw [hv, Nat.mul_assoc, ← Nat.pow_add, show 23 - D.log2 + ((D.log2 : Int) - 47 + 300).toNat = 276 by omega]

/-! ## Rounding, told more finely -/
theorem cut_parts {neg : Bool} {n d : Nat} (hd : d ≤ n.log2 + 2) : Toward.even.cut neg n d = cutE (n / 2 ^ d) (n % 2 ^ d) (2 ^ d) := cut_eq (Nat.min_eq_left hd)
theorem cut_half {neg : Bool} {n d : Nat} (hd : d + 1 ≤ n.log2 + 2) : Toward.even.cut neg n (d + 1) * 2 ^ (d + 1) ≤ n + 2 ^ d := by
  rw [cut_parts hd]
  unfold cutE
  have hp := Nat.two_pow_pos d
  have h1 := Nat.div_add_mod n (2 ^ (d + 1))
  have h2 : 2 ^ (d + 1) = 2 * 2 ^ d := by rw [Nat.pow_succ, Nat.mul_comm]
  generalize hq : n / 2 ^ (d + 1) = q at *
  generalize hr : n % 2 ^ (d + 1) = r at *
  cases hb : (decide (2 ^ (d + 1) < 2 * r) || (2 ^ (d + 1) == 2 * r && q % 2 == 1))
  · simp only [Bool.toNat_false, Nat.add_zero]
    rw [Nat.mul_comm]; omega
  · have h3 : 2 ^ d ≤ r := by
      rw [Bool.or_eq_true] at hb
      rcases hb with hb | hb
      · have := of_decide_eq_true hb; omega
      · rw [Bool.and_eq_true, beq_iff_eq] at hb; omega
    simp only [Bool.toNat_true]
    rw [Nat.add_mul, Nat.one_mul, Nat.mul_comm q]
    omega
theorem cut_le_half {neg : Bool} {n d M : Nat} (hd : d + 1 ≤ n.log2 + 2) (he : M % 2 = 0) (h : n ≤ M * 2 ^ (d + 1) + 2 ^ d) : Toward.even.cut neg n (d + 1) ≤ M := by
  rw [cut_parts hd]
  unfold cutE
  have hp := Nat.two_pow_pos d
  have h1 := Nat.div_add_mod n (2 ^ (d + 1))
  have hm := Nat.mod_lt n (Nat.two_pow_pos (d + 1))
  have h2 : 2 ^ (d + 1) = 2 * 2 ^ d := by rw [Nat.pow_succ, Nat.mul_comm]
  have hq : n / 2 ^ (d + 1) ≤ M := by
    have : n / 2 ^ (d + 1) < M + 1 := by
      rw [Nat.div_lt_iff_lt_mul (Nat.two_pow_pos _), Nat.add_mul, Nat.one_mul]; omega
    omega
  have hb1 : (decide (2 ^ (d + 1) < 2 * (n % 2 ^ (d + 1))) || (2 ^ (d + 1) == 2 * (n % 2 ^ (d + 1)) && n / 2 ^ (d + 1) % 2 == 1)).toNat ≤ 1 := Bool.toNat_le _
  by_cases c : n / 2 ^ (d + 1) = M
  · rw [c, Nat.mul_comm] at h1
    rw [c, decide_eq_false (by omega), Bool.false_or, he]
    simp
  · omega
theorem cut_ge {neg : Bool} {n d M : Nat} (hd : d ≤ n.log2 + 2) (h : M * 2 ^ d ≤ n) : M ≤ Toward.even.cut neg n d := by
  rw [cut_parts hd]
  unfold cutE
  have : M ≤ n / 2 ^ d := (Nat.le_div_iff_mul_le (Nat.two_pow_pos _)).2 h
  omega
/-- The word of a number that is not too small, with its last place. -/
theorem near_at {N : Nat} {p : Int} (hN : N ≠ 0) (h1 : -126 ≤ p + (N.log2 : Int)) (h2 : p + (N.log2 : Int) ≤ 100) :
    single.nearest false N p = single.word false ((p + (N.log2 : Int) - 23 + 149).toNat * 8388608 + Toward.even.cut false (N <<< (p - (p + (N.log2 : Int) - 23)).toNat) (p + (N.log2 : Int) - 23 - p).toNat) := by
  rw [Format.nearest, if_neg hN]
  show single.word false (min ((max (p + (N.log2 : Int) - (23 : Nat)) (-149) - (-149)).toNat * 8388608 + Toward.even.cut false (N <<< (p - max (p + (N.log2 : Int) - (23 : Nat)) (-149)).toNat) (max (p + (N.log2 : Int) - (23 : Nat)) (-149) - p).toNat) 2139095040) = _
  rw [show max (p + (N.log2 : Int) - ((23 : Nat) : Int)) (-149) = p + (N.log2 : Int) - 23 by omega]
  have hc := cut_le (neg := false) (n := N <<< (p - (p + (N.log2 : Int) - 23)).toNat) (b := (p + (N.log2 : Int) - 23 - p).toNat) (f := 23) (by have := log2_shl (a := (p - (p + (N.log2 : Int) - 23)).toNat) hN; omega)
  have h24 : (2 : Nat) ^ (23 + 1) = 16777216 := by decide
  rw [h24] at hc
  rw [Nat.min_eq_left (by omega), show p + (N.log2 : Int) - 23 - -149 = p + (N.log2 : Int) - 23 + 149 by omega]
theorem near_err {N : Nat} {p : Int} (hN : N ≠ 0) (h0 : -300 ≤ p) (h1 : -126 ≤ p + (N.log2 : Int)) (h2 : p + (N.log2 : Int) ≤ 90) : ∃ m i, single.read (single.nearest false N p) = .number false m i ∧ V m i * 16777216 ≤ V N p * 16777217 := by
  have hlo := pow_log2 (m := N) hN
  have hhi := lt_log2 (n := N)
  rw [near_at hN h1 (by omega)]
  by_cases c : N.log2 ≤ 23
  · -- told exactly
    rw [show (p + (N.log2 : Int) - 23 - p).toNat = 0 by omega, show (p - (p + (N.log2 : Int) - 23)).toNat = 23 - N.log2 by omega]
    have hcut : Toward.even.cut false (N <<< (23 - N.log2)) 0 = N * 2 ^ (23 - N.log2) := by
      rw [cut_parts (Nat.zero_le _), Nat.pow_zero, Nat.div_one, Nat.mod_one, Nat.shiftLeft_eq]
      unfold cutE; simp
    rw [hcut]
    have hk1 : 8388608 ≤ N * 2 ^ (23 - N.log2) := by
      have := Nat.mul_le_mul_right (2 ^ (23 - N.log2)) hlo
      rw [← Nat.pow_add, show N.log2 + (23 - N.log2) = 23 by omega] at this
      exact this
    have hk2 : N * 2 ^ (23 - N.log2) ≤ 16777216 := by
      have := Nat.mul_le_mul_right (2 ^ (23 - N.log2)) (Nat.le_of_lt hhi)
      rw [← Nat.pow_add, show N.log2 + 1 + (23 - N.log2) = 24 by omega] at this
      exact this
    obtain ⟨m, i, e, hv⟩ := read_rung (last := p + (N.log2 : Int) - 23) hk1 hk2 (by omega) (by omega)
    refine ⟨m, i, e, ?_⟩
    rw [hv, Nat.mul_assoc N, ← Nat.pow_add, show 23 - N.log2 + (p + (N.log2 : Int) - 23 + 300).toNat = (p + 300).toNat by omega]
    unfold V
    exact Nat.mul_le_mul_left _ (by omega)
  · rw [show (p - (p + (N.log2 : Int) - 23)).toNat = 0 by omega, Nat.shiftLeft_zero, show (p + (N.log2 : Int) - 23 - p).toNat = (N.log2 - 24) + 1 by omega]
    have hh := cut_half (neg := false) (n := N) (d := N.log2 - 24) (by omega)
    have hge := cut_ge (neg := false) (n := N) (d := N.log2 - 24 + 1) (M := 8388608) (by omega) (by
      rw [show 8388608 = 2 ^ 23 from by decide, ← Nat.pow_add, show 23 + (N.log2 - 24 + 1) = N.log2 by omega]; exact hlo)
    have hle := cut_le (neg := false) (n := N) (b := N.log2 - 24 + 1) (f := 23) (by omega)
    have h24 : (2 : Nat) ^ (23 + 1) = 16777216 := by decide
    rw [h24] at hle
    obtain ⟨m, i, e, hv⟩ := read_rung (last := p + (N.log2 : Int) - 23) hge hle (by omega) (by omega)
    refine ⟨m, i, e, ?_⟩
    rw [hv]
    unfold V
    rw [show (p + (N.log2 : Int) - 23 + 300).toNat = (N.log2 - 24 + 1) + (p + 300).toNat by omega, Nat.pow_add, ← Nat.mul_assoc, Nat.mul_right_comm, Nat.mul_right_comm N]
    refine Nat.mul_le_mul_right _ ?_
    have h3 := Nat.mul_le_mul_right 16777216 hh
    have h4 : 2 ^ (N.log2 - 24) * 16777216 ≤ N := by
      rw [show 16777216 = 2 ^ 24 from by decide, ← Nat.pow_add, show N.log2 - 24 + 24 = N.log2 by omega]; exact hlo
    refine Nat.le_trans h3 ?_
    rw [Nat.add_mul, show N * 16777217 = N * 16777216 + N from Nat.mul_succ N 16777216]
    exact Nat.add_le_add_left h4 _
/-- At most half a last place over a whole number. -/
theorem near_le_half {q mag : Nat} {place : Int} (hq : 1 ≤ q ∧ q ≤ 16) (hp : -299 ≤ place) (_hp2 : place ≤ 200) (h : V mag place ≤ (q * 16777216 + 1) * 2 ^ 276) : NB (single.nearest false mag place) ∧ leB (single.nearest false mag place) (fI (q : Int)) = true := by
  obtain ⟨e276, he276⟩ : ∃ e : Nat, e = 276 := ⟨_, rfl⟩
  obtain ⟨e300, he300⟩ : ∃ e : Nat, e = 300 := ⟨_, rfl⟩
  rewrite [← he276] at h
  obtain ⟨M0, J, e0, hJ, hM0⟩ := fI_val (k := q) hq.2
  have hVq : V M0 J = q * 2 ^ e300 := by
    have := s_num e0
    unfold V
    rw [hM0, Nat.mul_assoc, ← Nat.pow_add, show (-J).toNat + (J + 300).toNat = e300 by omega]
  by_cases c : V mag place ≤ q * 2 ^ e300
  · exact near_leV e0 (by omega) (by rw [hVq]; exact c)
  · -- all in places of 2^-300
    have hs : single.nearest false mag place = single.nearest false (V mag place) (-300) := by
      have := near_scale (f := single) (neg := false) (m := mag) (k := (place + 300).toNat) (p := place)
      rw [Nat.shiftLeft_eq, show place - (((place + 300).toNat : Nat) : Int) = -300 by omega] at this
      exact this.symm
    rw [hs]
    generalize V mag place = N at *
    have h300 : (2 : Nat) ^ e300 = 16777216 * 2 ^ e276 := pow_cut 24 e276 16777216 (by omega) (by decide)
    have hp276 := Nat.two_pow_pos e276
    have hN : N ≠ 0 := by rintro rfl; omega
    have htq : q.log2 ≤ 4 := log2_le (by omega) (by omega)
    have hql := pow_log2 (m := q) (by omega)
    have hqh := lt_log2 (n := q)
    have hlog : N.log2 = 300 + q.log2 := by
      have h1 : 300 + q.log2 ≤ N.log2 := by
        refine (Nat.le_log2 hN).2 ?_
        rw [show 300 + q.log2 = e300 + q.log2 by omega, Nat.pow_add, Nat.mul_comm]
        have := Nat.mul_le_mul_right (2 ^ e300) hql
        omega
      have h2 : N.log2 ≤ 300 + q.log2 := by
        refine log2_le hN ?_
        rw [show 300 + q.log2 + 1 = (q.log2 + 1) + e300 by omega, Nat.pow_add]
        have h3 := Nat.mul_le_mul_right (2 ^ e300) (show q + 1 ≤ 2 ^ (q.log2 + 1) by omega)
        rw [Nat.add_mul, Nat.one_mul] at h3
        rw [Nat.add_mul, Nat.one_mul, Nat.mul_assoc, ← h300] at h
        refine Nat.lt_of_lt_of_le ?_ h3
        omega
      omega
    rw [near_at hN (by omega) (by omega), hlog, show (-300 - (-300 + ((300 + q.log2 : Nat) : Int) - 23)).toNat = 0 by omega, Nat.shiftLeft_zero, show (-300 + ((300 + q.log2 : Nat) : Int) - 23 - -300).toNat = (276 + q.log2) + 1 by omega]
    have hM : q * 2 ^ (23 - q.log2) * 2 ^ (276 + q.log2 + 1) = q * 2 ^ e300 := by
      rw [Nat.mul_assoc, ← Nat.pow_add, show 23 - q.log2 + (276 + q.log2 + 1) = e300 by omega]
    have hpl : 2 ^ e276 ≤ 2 ^ (276 + q.log2) := pow2_le _ _ (by omega)
    have k1 := cut_le_half (neg := false) (n := N) (d := 276 + q.log2) (M := q * 2 ^ (23 - q.log2)) (by omega) (by
      rw [show 23 - q.log2 = (22 - q.log2) + 1 by omega, Nat.pow_succ, ← Nat.mul_assoc, Nat.mul_mod_left]) (by
      rw [hM]
      rw [Nat.add_mul, Nat.one_mul, Nat.mul_assoc, ← h300] at h
      exact Nat.le_trans h (Nat.add_le_add_left hpl _))
    have k2 := cut_ge (neg := false) (n := N) (d := 276 + q.log2 + 1) (M := q * 2 ^ (23 - q.log2)) (by omega) (by rw [hM]; omega)
    have k3 : Toward.even.cut false N (276 + q.log2 + 1) = q * 2 ^ (23 - q.log2) := Nat.le_antisymm k1 k2
    rw [k3]
    have hk1 : 8388608 ≤ q * 2 ^ (23 - q.log2) := by
      have := Nat.mul_le_mul_right (2 ^ (23 - q.log2)) hql
      rw [← Nat.pow_add, show q.log2 + (23 - q.log2) = 23 by omega] at this
      exact this
    have hk2 : q * 2 ^ (23 - q.log2) ≤ 16777216 := by
      have := Nat.mul_le_mul_right (2 ^ (23 - q.log2)) (Nat.le_of_lt hqh)
      rw [← Nat.pow_add, show q.log2 + 1 + (23 - q.log2) = 24 by omega] at this
      exact this
    obtain ⟨m, i, e, hv⟩ := read_rung (last := -300 + ((300 + q.log2 : Nat) : Int) - 23) hk1 hk2 (by omega) (by omega)
    refine ⟨⟨m, i, e⟩, (leB_V e e0).2 ?_⟩
    rw [hv, hVq, Nat.mul_assoc, ← Nat.pow_add, show 23 - q.log2 + (-300 + ((300 + q.log2 : Nat) : Int) - 23 + 300).toNat = e300 by omega]
    exact Nat.le_refl _
end Go.Am

namespace Go.Am
set_option linter.unusedSimpArgs false
set_option linter.unusedVariables false
open Ieee
def UU : Nat := 2 ^ 300
def AA : Nat := 2 ^ 276
theorem UU_eq : UU = 16777216 * AA := by
  unfold UU AA
  exact pow_cut (c := 300) 24 276 16777216 rfl (by decide)
theorem AA_pos : 0 < AA := by unfold AA; exact Nat.two_pow_pos 276
theorem mul_pow3 (m a b c : Nat) (h : a + b = c) : m * 2 ^ c = m * 2 ^ a * 2 ^ b := by rw [← h, Nat.pow_add, Nat.mul_assoc]
theorem mul_AA (m a c : Nat) (h : a + 276 = c) : m * 2 ^ c = m * 2 ^ a * AA := by unfold AA; exact mul_pow3 m a 276 c h
theorem log_hi (G j e : Nat) (h : G.log2 + 1 + j ≤ e) : G * 2 ^ j ≤ 2 ^ e := by
  have h1 : G * 2 ^ j ≤ 2 ^ (G.log2 + 1) * 2 ^ j := Nat.mul_le_mul_right _ (Nat.le_of_lt lt_log2)
  rw [← Nat.pow_add] at h1
  exact Nat.le_trans h1 (pow2_le _ _ h)
theorem log_two (G j a b : Nat) (hG : G ≠ 0) (h : a + b ≤ G.log2 + j) : 2 ^ a * 2 ^ b ≤ G * 2 ^ j := by
  have h1 : 2 ^ G.log2 * 2 ^ j ≤ G * 2 ^ j := Nat.mul_le_mul_right _ (pow_log2 hG)
  rw [← Nat.pow_add] at h1 ⊢
  exact Nat.le_trans (pow2_le _ _ h) h1
theorem hi_AA (G j : Nat) (h : G.log2 + 1 + j ≤ 276) : G * 2 ^ j ≤ AA := by unfold AA; exact log_hi G j 276 h
theorem lo_AA (G j : Nat) (hG : G ≠ 0) (h : 35 + 276 ≤ G.log2 + j) : 34359738368 * AA ≤ G * 2 ^ j := by
  have h1 : ∀ b : Nat, 34359738368 * 2 ^ b = 2 ^ 35 * 2 ^ b := fun b => rfl
  unfold AA
  exact Nat.le_trans (Nat.le_of_eq (h1 276)) (log_two G j 35 276 hG h)
theorem UU_pos : 0 < UU := by unfold UU; exact Nat.two_pow_pos 300
/-- A number of the format that is not below zero, and its value. -/
def NV (x v : Nat) : Prop := ∃ m i, single.read x = .number false m i ∧ V m i = v
theorem NV.nb {x v : Nat} (h : NV x v) : NB x := by obtain ⟨m, i, e, _⟩ := h; exact ⟨m, i, e⟩
theorem NB.nv {x : Nat} (h : NB x) : ∃ v, NV x v := by obtain ⟨m, i, e⟩ := h; exact ⟨_, m, i, e, rfl⟩
theorem leB_NV {x y a b : Nat} (hx : NV x a) (hy : NV y b) : leB x y = true ↔ a ≤ b := by
  obtain ⟨m, i, e1, rfl⟩ := hx
  obtain ⟨n, j, e2, rfl⟩ := hy
  exact leB_V e1 e2
theorem gtB_NV {x y a b : Nat} (hx : NV x a) (hy : NV y b) : gtB x y = true ↔ b < a := by
  have h := leB_NV hx hy
  have hn := not_gt (x := x) (y := y) (by obtain ⟨m, i, e, _⟩ := hx; rw [NN, e]; rfl) (by obtain ⟨m, i, e, _⟩ := hy; rw [NN, e]; rfl)
  constructor
  · intro hg
    rw [hg] at hn
    have : ¬ a ≤ b := fun hh => by rw [h.2 hh] at hn; cases hn
    omega
  · intro hg
    cases hc : gtB x y
    · rw [hc] at hn
      have := h.1 hn.symm
      omega
    · rfl
theorem near_NV {y mag c : Nat} {place : Int} (hy : NV y c) (hp : -300 ≤ place) (h : V mag place ≤ c) : ∃ v, NV (single.nearest false mag place) v ∧ v ≤ c := by
  obtain ⟨m, i, e, rfl⟩ := hy
  obtain ⟨h1, h2⟩ := near_leV e hp h
  obtain ⟨v, hv⟩ := h1.nv
  exact ⟨v, hv, (leB_NV hv ⟨m, i, e, rfl⟩).1 h2⟩
def chkV (n : Nat) : Bool := match single.read (fI (n : Int)) with
  | .number false m i => decide (i ≤ 0) && (m == n * 2 ^ (-i).toNat)
  | _ => false
theorem t_valN : ((List.range 1001).all chkV) = true := by kernel_rfl
theorem fI_pl0 {n : Int} (h0 : 0 ≤ n) (h1 : n ≤ 1000) : ∃ m i, single.read (fI n) = .number false m i ∧ i ≤ 0 ∧ V m i = n.toNat * UU := by
  have hh := List.all_eq_true.1 t_valN n.toNat (List.mem_range.2 (by omega))
  unfold chkV at hh
  rw [show ((n.toNat : Nat) : Int) = n by omega] at hh
  split at hh
  · rename_i m i e
    rw [Bool.and_eq_true, decide_eq_true_eq, beq_iff_eq] at hh
    have hb := s_num e
    refine ⟨m, i, e, hh.1, ?_⟩
    unfold V UU
    rw [hh.2, Nat.mul_assoc, ← Nat.pow_add, show (-i).toNat + (i + 300).toNat = 300 by omega]
  · cases hh
theorem fI_NV {n : Int} (h0 : 0 ≤ n) (h1 : n ≤ 1000) : NV (fI n) (n.toNat * UU) := by
  obtain ⟨m, i, e, _, h⟩ := fI_pl0 h0 h1
  exact ⟨m, i, e, h⟩
theorem rep_NV {D : Nat} (h0 : 0 < D) (h1 : D ≤ 16777216) : ∃ y, NV y (D * AA) := by
  obtain ⟨y, m, i, e, hv⟩ := rep h0 h1
  refine ⟨y, m, i, e, ?_⟩
  unfold AA
  exact hv
theorem V_split {m : Nat} {i b : Int} (h1 : b ≤ i) (h2 : -300 ≤ b) : m * 2 ^ (i - b).toNat * 2 ^ (b + 300).toNat = V m i := by
  unfold V
  rw [Nat.mul_assoc, ← Nat.pow_add, show (i - b).toNat + (b + 300).toNat = (i + 300).toNat by omega]
theorem add_at {x y a b : Nat} (hx : NV x a) (hy : NV y b) : ∃ g p, fAdd x y = single.nearest false g p ∧ -149 ≤ p ∧ p ≤ 104 ∧ V g p = a + b := by
  obtain ⟨m, i, e1, rfl⟩ := hx
  obtain ⟨n, j, e2, rfl⟩ := hy
  have h1 := s_num e1
  have h2 := s_num e2
  have hs : (Datum.number false m i).sum (.number false n j) = some (.number false (m * 2 ^ (i - min i j).toNat + n * 2 ^ (j - min i j).toNat) (min i j)) := by
    show some (Datum.number (if signed false m (i - min i j).toNat + signed false n (j - min i j).toNat = 0 then false && false else decide (signed false m (i - min i j).toNat + signed false n (j - min i j).toNat < 0)) (signed false m (i - min i j).toNat + signed false n (j - min i j).toNat).natAbs (min i j)) = _
    rw [signed_false, signed_false, ← Int.natCast_add, Int.natAbs_natCast]
    have : (if ((m * 2 ^ (i - min i j).toNat + n * 2 ^ (j - min i j).toNat : Nat) : Int) = 0 then false && false else decide (((m * 2 ^ (i - min i j).toNat + n * 2 ^ (j - min i j).toNat : Nat) : Int) < 0)) = false := by
      split
      · rfl
      · rw [decide_eq_false]
        have := Int.natCast_nonneg (m * 2 ^ (i - min i j).toNat + n * 2 ^ (j - min i j).toNat)
        omega
    rw [this]
  have e : single.add x y = some (single.nearest false (m * 2 ^ (i - min i j).toNat + n * 2 ^ (j - min i j).toNat) (min i j)) := by rw [Format.add, e1, e2, hs]; rfl
  refine ⟨_, _, by rw [fAdd, e]; rfl, by omega, by omega, ?_⟩
  rw [← V_split (m := m) (i := i) (b := min i j) (by omega) (by omega), ← V_split (m := n) (i := j) (b := min i j) (by omega) (by omega), ← Nat.add_mul]
  rfl
theorem sub_at {x y a b : Nat} (hx : NV x a) (hy : NV y b) (hle : b ≤ a) : ∃ g p, fSub x y = single.nearest false g p ∧ -149 ≤ p ∧ V g p = a - b := by
  obtain ⟨m, i, e1, rfl⟩ := hx
  obtain ⟨n, j, e2, rfl⟩ := hy
  have h1 := s_num e1
  have h2 := s_num e2
  rw [← V_split (m := m) (i := i) (b := min i j) (by omega) (by omega), ← V_split (m := n) (i := j) (b := min i j) (by omega) (by omega)] at hle
  have hle2 := Nat.le_of_mul_le_mul_right hle (Nat.two_pow_pos _)
  have hs : (Datum.number false m i).sum (.number true n j) = some (.number false (m * 2 ^ (i - min i j).toNat - n * 2 ^ (j - min i j).toNat) (min i j)) := by
    show some (Datum.number (if signed false m (i - min i j).toNat + signed true n (j - min i j).toNat = 0 then false && true else decide (signed false m (i - min i j).toNat + signed true n (j - min i j).toNat < 0)) (signed false m (i - min i j).toNat + signed true n (j - min i j).toNat).natAbs (min i j)) = _
    rw [signed_false, signed_true]
    generalize m * 2 ^ (i - min i j).toNat = P at *
    generalize n * 2 ^ (j - min i j).toNat = Q at *
    rw [show ((P : Nat) : Int) + -((Q : Nat) : Int) = ((P - Q : Nat) : Int) by omega, Int.natAbs_natCast]
    have : (if ((P - Q : Nat) : Int) = 0 then false && true else decide (((P - Q : Nat) : Int) < 0)) = false := by
      split
      · rfl
      · rw [decide_eq_false]; omega
    rw [this]
  have e : single.sub x y = some (single.nearest false (m * 2 ^ (i - min i j).toNat - n * 2 ^ (j - min i j).toNat) (min i j)) := by
    rw [Format.sub, e1, e2]
    show ((Datum.number false m i).sum (.number true n j)).map _ = _
    rw [hs]; rfl
  refine ⟨_, _, by rw [fSub, e]; rfl, by omega, ?_⟩
  rw [← V_split (m := m) (i := i) (b := min i j) (by omega) (by omega), ← V_split (m := n) (i := j) (b := min i j) (by omega) (by omega), ← Nat.sub_mul]
  rfl
theorem mul_at {x y a b : Nat} (hx : NV x a) (hy : NV y b) : ∃ g p, fMul x y = single.nearest false g p ∧ -298 ≤ p ∧ V g p * UU = a * b := by
  obtain ⟨m, i, e1, rfl⟩ := hx
  obtain ⟨n, j, e2, rfl⟩ := hy
  have h1 := s_num e1
  have h2 := s_num e2
  have e : single.mul x y = some (single.nearest false (m * n) (i + j)) := by rw [Format.mul, e1, e2]; rfl
  refine ⟨m * n, i + j, by rw [fMul, e]; rfl, by omega, ?_⟩
  unfold V UU
  have : (i + j + 300).toNat + 300 = (i + 300).toNat + (j + 300).toNat := by omega
  rw [Nat.mul_assoc, ← Nat.pow_add 2 (i + j + 300).toNat 300, this, Nat.pow_add 2 (i + 300).toNat (j + 300).toNat]
  rw [Nat.mul_assoc, Nat.mul_assoc, Nat.mul_left_comm n]
theorem div_NV {l n a b c y : Nat} (hl : NV l a) (hn : ∃ m i, single.read n = .number false m i ∧ i ≤ 0 ∧ m ≠ 0 ∧ V m i = b) (hy : NV y c) (h : a * UU ≤ b * c) : ∃ v, NV (fDiv l n) v ∧ v ≤ c := by
  obtain ⟨ml, il, e1, rfl⟩ := hl
  obtain ⟨mn, jn, e2, hj0, hmn, rfl⟩ := hn
  have h1 := s_num e1
  have h2 := s_num e2
  have hll : ml.log2 ≤ 23 := by
    by_cases h0 : ml = 0
    · subst h0; decide
    · exact log2_le h0 (by omega)
  have hnl : mn.log2 ≤ 23 := log2_le hmn (by omega)
  generalize hmore : 25 + mn.log2 - ml.log2 = more
  have hq : single.div l n = some (single.nearest false (2 * ((ml <<< more) / mn) + ((ml <<< more) % mn != 0).toNat) (il - jn - (more : Int) - 1)) := by
    rw [Format.div, e1, e2]
    show (Datum.quotient 25 (.number false ml il) (.number false mn jn)).map single.write = _
    rw [Datum.quotient, if_neg hmn, hmore]; rfl
  rw [show fDiv l n = single.nearest false (2 * ((ml <<< more) / mn) + ((ml <<< more) % mn != 0).toNat) (il - jn - (more : Int) - 1) by rw [fDiv, hq]; rfl]
  refine near_NV hy (by omega) ?_
  obtain ⟨mr, ir, e3, rfl⟩ := hy
  have h3 := s_num e3
  by_cases h0 : ml = 0
  · subst h0
    rw [Nat.zero_shiftLeft, Nat.zero_div, Nat.zero_mod, V]
    simp
  -- the remainder's bound
  have hstar : (ml <<< more) * 2 ^ ((il - jn - (more : Int) - 1 + 300).toNat + 1) ≤ mn * V mr ir := by
    unfold V UU at h
    rw [Nat.shiftLeft_eq]
    refine Nat.le_of_mul_le_mul_right (c := 2 ^ (jn + 300).toNat) ?_ (Nat.two_pow_pos _)
    rw [Nat.mul_assoc, Nat.mul_assoc, ← Nat.pow_add, ← Nat.pow_add]
    rw [Nat.mul_assoc, ← Nat.pow_add 2 (il + 300).toNat 300] at h
    rw [show more + ((il - jn - (more : Int) - 1 + 300).toNat + 1 + (jn + 300).toNat) = (il + 300).toNat + 300 by omega]
    unfold V
    rw [Nat.mul_right_comm]
    exact h
  have hpl : il - jn - (more : Int) - 1 ≤ ir := by
    have hmr : mr ≠ 0 := by
      rintro rfl
      unfold V at hstar
      rw [Nat.zero_mul, Nat.mul_zero, Nat.shiftLeft_eq] at hstar
      have := Nat.mul_pos (Nat.mul_pos (show 0 < ml by omega) (Nat.two_pow_pos more)) (Nat.two_pow_pos ((il - jn - (more : Int) - 1 + 300).toNat + 1))
      omega
    have hrl : mr.log2 ≤ 23 := log2_le hmr (by omega)
    have hlo := pow_log2 h0
    have k1 : 2 ^ (ml.log2 + more + ((il - jn - (more : Int) - 1 + 300).toNat + 1)) ≤ (ml <<< more) * 2 ^ ((il - jn - (more : Int) - 1 + 300).toNat + 1) := by
      rw [Nat.pow_add, Nat.pow_add, Nat.shiftLeft_eq]
      exact Nat.mul_le_mul_right _ (Nat.mul_le_mul_right _ hlo)
    have k2 : mn * V mr ir < 2 ^ ((mn.log2 + 1) + ((mr.log2 + 1) + (ir + 300).toNat)) := by
      unfold V
      rw [Nat.pow_add 2 (mn.log2 + 1), Nat.pow_add 2 (mr.log2 + 1)]
      refine Nat.mul_lt_mul'' lt_log2 (Nat.mul_lt_mul_of_pos_right lt_log2 (Nat.two_pow_pos _))
    have k3 := (Nat.pow_lt_pow_iff_right (a := 2) (by decide)).1 (Nat.lt_of_le_of_lt k1 (Nat.lt_of_le_of_lt hstar k2))
    omega
  generalize ml <<< more = D at *
  obtain ⟨t, ht⟩ : ∃ t, (ir + 300).toNat = (il - jn - (more : Int) - 1 + 300).toNat + t := ⟨(ir + 300).toNat - (il - jn - (more : Int) - 1 + 300).toNat, by omega⟩
  have hVr : V mr ir = mr * 2 ^ t * 2 ^ (il - jn - (more : Int) - 1 + 300).toNat := by
    unfold V
    rw [ht, Nat.pow_add, Nat.mul_assoc, Nat.mul_comm (2 ^ t)]
  rw [hVr] at hstar ⊢
  unfold V
  refine Nat.mul_le_mul_right _ ?_
  -- D * 2 <= mn * R
  rw [Nat.pow_succ, Nat.mul_comm (2 ^ (il - jn - (more : Int) - 1 + 300).toNat), ← Nat.mul_assoc, ← Nat.mul_assoc] at hstar
  have hs2 := Nat.le_of_mul_le_mul_right hstar (Nat.two_pow_pos _)
  generalize mr * 2 ^ t = R at *
  have hpos : 0 < mn := by omega
  have hdm := Nat.div_add_mod D mn
  have hml := Nat.mod_lt D hpos
  have hk : D / mn * 2 ≤ R := by
    refine Nat.le_of_mul_le_mul_left (c := mn) ?_ hpos
    rw [← Nat.mul_assoc]
    omega
  by_cases c : D % mn = 0
  · rw [c]; simp; omega
  · have hlt : D / mn * 2 ≠ R := by
      rintro rfl
      rw [← Nat.mul_assoc] at hs2
      omega
    have : (D % mn != 0).toNat ≤ 1 := Bool.toNat_le _
    omega
end Go.Am

namespace Go.Am
set_option linter.unusedSimpArgs false
set_option linter.unusedVariables false
open Ieee
theorem nf_of {E : Int} {x : Nat} (h : NB x) (hs : Sm E x) : NF E x := by
  obtain ⟨m, i, e⟩ := h
  obtain ⟨s, n, j, e2, b⟩ := hs
  rw [e] at e2
  injection e2 with h1 h2 h3
  subst h2 h3
  exact ⟨m, i, e, b⟩
theorem fI_NVk {k : Nat} (h : k ≤ 1000) : NV (fI (k : Int)) (k * UU) := fI_NV (n := (k : Int)) (by omega) (by omega)
theorem fI_NVk1 {k : Nat} (h : k + 1 ≤ 1000) : NV (fI ((k : Int) + 1)) ((k + 1) * UU) := fI_NV (n := (k : Int) + 1) (by omega) (by omega)
theorem one_NV : NV (fI 1) UU := by have := fI_NV (n := 1) (by decide) (by decide); rwa [one_nat] at this
theorem cA_nv {x k vx : Nat} (hk : k ≤ 100) (hx : NV x vx) (c : gtB (fI ((k : Int) + 1)) x = true) :
    ∃ α, NV (cA x k) α ∧ k * UU ≤ α ∧ α < (k + 1) * UU ∧ ((cA x k = x ∧ α = vx ∧ k * UU < vx) ∨ α = k * UU) := by
  have h1 := (gtB_NV (fI_NVk1 (k := k) (by omega)) hx).1 c
  have hU := UU_pos
  have hs : (k + 1) * UU = k * UU + UU := Nat.succ_mul k UU
  cases hg : gtB x (fI (k : Int))
  · rw [cA_no hg]
    exact ⟨_, fI_NVk (by omega), Nat.le_refl _, by omega, .inr rfl⟩
  · rw [cA_yes hg]
    have h2 := (gtB_NV hx (fI_NVk (k := k) (by omega))).1 hg
    exact ⟨vx, hx, by omega, h1, .inl ⟨rfl, rfl, h2⟩⟩
theorem part_nv {k α a : Nat} (hk : k ≤ 100) (ha : NV a α) (h1 : k * UU ≤ α) (h2 : α < (k + 1) * UU) : ∃ v, NV (fSub (fI ((k : Int) + 1)) a) v ∧ v ≤ UU := by
  obtain ⟨g, p, e, hp, hv⟩ := sub_at (fI_NVk1 (k := k) (by omega)) ha (Nat.le_of_lt h2)
  rw [e]
  refine near_NV one_NV (by omega) ?_
  have hs : (k + 1) * UU = k * UU + UU := Nat.succ_mul k UU
  omega
theorem piece_nv {x k vx : Nat} {ws : List Int} (hw : okW ws) (hk : k < ws.length) (hx : NV x vx) (c : gtB (fI ((k : Int) + 1)) x = true) : ∃ v, NV (mP x ws k) v ∧ v ≤ (ws.getD k 0).toNat * UU := by
  have hl := hw.1
  have hb := hw.2 k hk
  obtain ⟨α, h1, h2, h3, _⟩ := cA_nv (by omega) hx c
  obtain ⟨d, hd, hd1⟩ := part_nv (k := k) (by omega) h1 h2 h3
  have hn := fI_NV hb.1 hb.2
  obtain ⟨g, p, e, hp, hv⟩ := mul_at hn hd
  rw [mP, e]
  refine near_NV hn (by omega) ?_
  refine Nat.le_of_mul_le_mul_right (c := UU) ?_ UU_pos
  rw [hv]
  exact Nat.mul_le_mul_left _ hd1
theorem mLeft_nfG {x w vx : Nat} {ws : List Int} {E : Int} (hx : NV x vx) (hX : PlD x) (hw : okW ws) (h0 : NF E w) (hE : 24 ≤ E ∧ E ≤ 60) : ∀ k : Nat, k ≤ ws.length → (∀ j, j < k → mHit x w ws j = false) → NF (E + 2 * k) (mLeft x w ws k)
  | 0, _, _ => h0.mono (by omega)
  | k + 1, hk, hj => by
    have hl := hw.1
    have hb := hw.2 k (by omega)
    have ih := mLeft_nfG hx hX hw h0 hE k (by omega) fun j hjk => hj j (by omega)
    rw [mLeft]
    split
    · rename_i c
      obtain ⟨v, hP, hv⟩ := piece_nv hw (k := k) (by omega) hx c
      obtain ⟨lv, hL⟩ := ih.nb.nv
      have hPn := nf_of hP.nb (mP_ok hX hw (k := k) (by omega)).2.2
      have hle : leB (mP x ws k) (mLeft x w ws k) = true := by
        have hh := hj k (by omega)
        rw [mHit, c, Bool.true_and, Bool.and_eq_false_iff] at hh
        rcases hh with hh | hh
        · obtain ⟨o, ho⟩ := ord_some hPn.sm.nn ih.sm.nn
          rw [geB, ho] at hh
          rw [leB, ho]
          cases o <;> first | rfl | cases hh
        · have hz : ws.getD k 0 = 0 := by have := of_decide_eq_false hh; omega
          rw [hz] at hv
          refine (leB_NV hP hL).2 ?_
          rw [zero_nat] at hv
          omega
      exact (sub_nf ih (hPn.mono (by omega)) hle (by omega) (by omega)).mono (by omega)
    · exact ih.mono (by omega)
theorem add_cap {a b va vb c R : Nat} (ha : NV a va) (hb : NV b vb) (hR : NV R c) (h : va + vb ≤ c) : NB (fAdd a b) ∧ leB (fAdd a b) R = true := by
  obtain ⟨g, p, e, hp, _, hv⟩ := add_at ha hb
  rw [e]
  obtain ⟨v, h1, h2⟩ := near_NV hR (by omega) (show V g p ≤ c by omega)
  exact ⟨h1.nb, (leB_NV h1 hR).2 h2⟩
theorem small_D {X D : Nat} (h : 1 * 16777216 = X + D) (h3 : 1 * 16777216 ≤ 2 * X) : D < 16777216 := by omega
theorem half_UU (m j : Nat) (hm : m < 2 ^ 24) (hj : j + 25 ≤ 300) : 2 * (m * 2 ^ j) < UU := by
  unfold UU
  exact half_lt m j 300 hm hj
/-- Less than one place on: the ends meet. -/
theorem last_part {x l n : Nat} {q vx vl : Nat} {N : Int} (hq : 1 ≤ q ∧ q ≤ 16) (hN : 1 ≤ N ∧ N ≤ 1000) (hx : NV x vx) (h1 : (q - 1) * UU < vx) (h2 : vx < q * UU) (h3 : q * UU ≤ 2 * vx) (hl : NV l vl) (hle : ∃ vP, NV (fMul (fI N) (fSub (fI (q : Int)) x)) vP ∧ vl ≤ vP) (hn : n = fI N) :
    NB (fAdd x (fDiv l n)) ∧ leB (fAdd x (fDiv l n)) (fI (q : Int)) = true := by
  subst hn
  have hA := AA_pos
  have hUA := UU_eq
  have hU := UU_pos
  -- the place in small units
  obtain ⟨m, i, e, hvx⟩ := hx
  have hb := s_num e
  have hi : -24 ≤ i := by
    by_cases c : -24 ≤ i
    · exact c
    · exfalso
      have k3 : m < 2 ^ 24 := by rw [show (2 : Nat) ^ 24 = 16777216 from by decide]; exact hb.1
      have k4 := half_UU m (i + 300).toNat k3 (by omega)
      have k6 : m * 2 ^ (i + 300).toNat = vx := hvx
      rw [k6] at k4
      have k5 : UU ≤ q * UU := Nat.le_mul_of_pos_left _ (by omega)
      omega
  obtain ⟨X, hX⟩ : ∃ X, vx = X * AA := by
    refine ⟨m * 2 ^ (i + 24).toNat, ?_⟩
    rw [← hvx]
    exact mul_AA m (i + 24).toNat (i + 300).toNat (by omega)
  have hx : NV x (X * AA) := ⟨m, i, e, by rw [hvx, hX]⟩
  rw [hX, hUA, ← Nat.mul_assoc] at h1 h2 h3
  rw [← Nat.mul_assoc 2] at h3
  have h1' := Nat.lt_of_mul_lt_mul_right h1
  have h2' := Nat.lt_of_mul_lt_mul_right h2
  have h3' := Nat.le_of_mul_le_mul_right h3 hA
  obtain ⟨D, hD⟩ : ∃ D, q * 16777216 = X + D := ⟨q * 16777216 - X, (Nat.add_sub_of_le (Nat.le_of_lt h2')).symm⟩
  have hD0 : 0 < D := by omega
  have hD1 : D < 16777216 := by
    by_cases c : q = 1
    · rw [c] at hD h3'; exact small_D hD h3'
    · obtain ⟨q', rfl⟩ : ∃ q', q = q' + 1 := ⟨q - 1, by omega⟩
      rw [Nat.add_sub_cancel] at h1'
      omega
  -- what is left of the piece
  obtain ⟨vP, hP, hlP⟩ := hle
  obtain ⟨y0, hy0⟩ := rep_NV hD0 (Nat.le_of_lt hD1)
  have hqV := fI_NVk (k := q) (by omega)
  have hqUA : q * UU = (X + D) * AA := by rw [hUA, ← Nat.mul_assoc, hD]
  obtain ⟨g, p, e2, hp, hv⟩ := sub_at hqV hx (by rw [hqUA]; exact Nat.mul_le_mul_right _ (by omega))
  obtain ⟨vd, hd, hd1⟩ := near_NV hy0 (mag := g) (place := p) (by omega) (by rw [hv, hqUA, Nat.add_mul]; omega)
  rw [← e2] at hd
  -- the piece
  obtain ⟨mm, im, e3, him, hVm⟩ := fI_pl0 (n := N) (by omega) hN.2
  have hNV : NV (fI N) (N.toNat * UU) := ⟨mm, im, e3, hVm⟩
  obtain ⟨G, pp, e4, hpp, hVG⟩ := mul_at hNV hd
  have hVG' : V G pp = N.toNat * vd := by
    refine Nat.eq_of_mul_eq_mul_right hU ?_
    rw [hVG, Nat.mul_right_comm]
  have hVGle : V G pp ≤ N.toNat * (D * AA) := by rw [hVG']; exact Nat.mul_le_mul_left _ hd1
  have hPle : vP ≤ N.toNat * ((D + 1) * AA) := by
    rw [e4] at hP
    obtain ⟨y1, hy1⟩ := rep_NV (D := 1) (by omega) (by omega)
    rw [Nat.one_mul] at hy1
    have hNA : AA ≤ N.toNat * ((D + 1) * AA) := by
      have k1 : 1 * AA ≤ (D + 1) * AA := Nat.mul_le_mul_right _ (by omega)
      have k2 : 1 * ((D + 1) * AA) ≤ N.toNat * ((D + 1) * AA) := Nat.mul_le_mul_right _ (by omega)
      omega
    obtain ⟨mP, iP, eP, hVP⟩ := hP
    by_cases c0 : V G pp ≤ AA
    · obtain ⟨v2, h5, h6⟩ := near_NV hy1 (mag := G) (place := pp) (by omega) c0
      obtain ⟨m5, i5, e5, h7⟩ := h5
      rw [eP] at e5
      injection e5 with _ a1 a2
      subst a1 a2
      omega
    · have hG : G ≠ 0 := by rintro rfl; unfold V at c0; omega
      have hlo := pow_log2 hG
      have hhi := lt_log2 (n := G)
      have b1 : -126 ≤ pp + (G.log2 : Int) := by
        by_cases cc : -126 ≤ pp + (G.log2 : Int)
        · exact cc
        · exfalso
          apply c0
          exact hi_AA G (pp + 300).toNat (by omega)
      have b2 : pp + (G.log2 : Int) ≤ 90 := by
        by_cases cc : pp + (G.log2 : Int) ≤ 90
        · exact cc
        · exfalso
          have k1 : 34359738368 * AA ≤ V G pp := lo_AA G (pp + 300).toNat hG (by omega)
          have k2 : N.toNat * (D * AA) ≤ 1000 * (16777216 * AA) := Nat.mul_le_mul (by omega) (Nat.mul_le_mul_right _ (by omega))
          omega
      obtain ⟨m5, i5, e5, h7⟩ := near_err hG (by omega) b1 b2
      rw [eP] at e5
      injection e5 with _ a1 a2
      subst a1 a2
      rw [hVP] at h7
      have k1 : vP * 16777216 ≤ N.toNat * (D * AA) * 16777217 := Nat.le_trans h7 (Nat.mul_le_mul_right _ hVGle)
      refine Nat.le_of_mul_le_mul_right (c := 16777216) (Nat.le_trans k1 ?_) (by omega)
      rw [Nat.mul_assoc, Nat.mul_assoc N.toNat]
      refine Nat.mul_le_mul_left _ ?_
      rw [show D * AA * 16777217 = D * AA * 16777216 + D * AA from Nat.mul_succ _ 16777216, Nat.add_mul, Nat.one_mul, Nat.add_mul]
      have : D * AA ≤ 16777216 * AA := Nat.mul_le_mul_right _ (Nat.le_of_lt hD1)
      rw [Nat.mul_comm AA]
      exact Nat.add_le_add_left this _
  -- the quotient
  obtain ⟨y2, hy2⟩ := rep_NV (D := D + 1) (by omega) (by omega)
  have hmm0 : mm ≠ 0 := by
    rintro rfl
    unfold V at hVm
    rw [Nat.zero_mul] at hVm
    have := Nat.mul_pos (show 0 < N.toNat by omega) hU
    omega
  obtain ⟨vr, hr, hr1⟩ := div_NV hl ⟨mm, im, e3, him, hmm0, hVm⟩ hy2 (by
    rw [Nat.mul_right_comm]
    exact Nat.mul_le_mul_right _ (Nat.le_trans hlP hPle))
  -- the sum
  obtain ⟨G2, p2, e6, hp2, hp3, hv2⟩ := add_at hx hr
  rw [e6]
  refine near_le_half hq (by omega) (by omega) ?_
  rw [hv2]
  show _ ≤ (q * 16777216 + 1) * AA
  have : X * AA + (D + 1) * AA = (q * 16777216 + 1) * AA := by rw [← Nat.add_mul, hD, Nat.add_assoc]
  omega
end Go.Am

namespace Go.Am
set_option linter.unusedSimpArgs false
set_option linter.unusedVariables false

section
variable {P : Program} {K : Value → AHeap → Prop} {env : Env} {h : AHeap} {dst : Option Tmp} {ty : TypeId} {pos : String} {after : Array Edge} {guard : Option (Nat × Bool)}
theorem aop_appendIn {t e : TypeId} {s x : Operand} {i : TypeInfo} {k ver n cp k2 off2 ver2 m c2 : Nat} {o o2 : AObj} (hu : P.underlying t = some (.slice e)) (hi : P.info? e = some i)
    (hs : i.size = o.esz) (hpos : 0 < o.esz) (hs2 : o2.esz = o.esz)
    (hx : aeval env s = .slice (some ⟨k, 0, some ver⟩) n cp) (ho : h[k]? = some o) (hver : o.cells.length = ver) (hfull : cp * o.esz = ver) (hm : o.mine = true)
    (hy : aeval env x = .slice (some ⟨k2, off2, some ver2⟩) m c2) (ho2 : h[k2]? = some o2) (hver2 : o2.cells.length = ver2) (h1 : (news o2 off2 (m * o.esz)).all oneCellA = true)
    (hm0 : 0 < m) (hfit : n + m ≤ cp)
    (hK : K (.slice (some ⟨k, 0, some ver⟩) (n + m) cp) (h.set k ⟨o.cells.take (n * o.esz) ++ news o2 off2 (m * o.esz) ++ o.cells.drop ((n + m) * o.esz), true, o.esz⟩)) :
    AOp P ⟨dst, .call { callee := .builtin .append, args := #[s, x], argTypes := #[t, t] }, ty, pos, after, guard⟩ K env h :=
  .of_run fun mp w a hr hop => by
    have hp := hop s (by simp [Op.operands, Call.operands])
    have hq := hop x (by simp [Op.operands, Call.operands])
    rw [hx] at hp; rw [hy] at hq
    have hk := (List.getElem?_eq_some_iff.1 ho).1
    obtain ⟨ad, cx, rs, hxe, hrl, hnl, hcells, hrel⟩ := hr.news hq ho2 hver2 hm0 (by rw [hs2]; exact hpos)
    rw [hs2] at hrl hnl hrel
    obtain ⟨l, hl, b, cap', hse, c1, c2', c3, c4, c5⟩ := hp.slice_inv ho hver
    have hone := news_oneCell (by rw [hrl, hnl]) h1 hrel
    have hmm : 0 < m * o.esz := Nat.mul_pos hm0 hpos
    have hmul : (n + m) * o.esz = n * o.esz + m * o.esz := Nat.add_mul _ _ _
    have hfv : (n + m) * o.esz ≤ ver := by rw [← hfull]; exact Nat.mul_le_mul_right _ hfit
    have hlen' : (o.cells.take (n * o.esz) ++ Am.news o2 off2 (m * o.esz) ++ o.cells.drop ((n + m) * o.esz)).length = ver := by
      rw [List.length_append, List.length_append, hnl, List.length_take, List.length_drop]; omega
    have hop0 : 0 < o.cells.length := by omega
    obtain ⟨cr, te, fz, hblk, hcr, hmine⟩ := hr.holds k o l ho hl hop0
    obtain ⟨hbase, rfl, hcap⟩ := hmine hm
    have hcap2 := (c5 hm).1 hop0
    have hb0 := c4 (by omega)
    rw [hbase] at hb0
    subst hb0
    have hroom : n + m ≤ cap' := by omega
    have hfit2 : 0 + n * i.size + rs.length ≤ cr.size := by
      rw [hrl, hcap, ← hcap2, hs, Nat.zero_add, Nat.zero_add, ← Nat.add_mul]
      exact Nat.mul_le_mul_right _ hroom
    have hrun := run_append_room' (P := P) w t ty e te i hu hi l.block 0 n cap' cr hblk ad m cx rs (by rw [hs]; exact hrl) hcells hone hroom hfit2
    simp only [Nat.zero_add] at hrun hfit2
    rw [hs] at hrun hfit2
    have hexec : (execOp a.eval ⟨dst, .call { callee := .builtin .append, args := #[s, x], argTypes := #[t, t] }, ty, pos, after, guard⟩).run P w = .ok (.value (.slice (some ⟨l.block, 0, none⟩) (n + m) cap')) (w.setRow l.block (cr.toList.take (n * o.esz) ++ rs ++ cr.toList.drop (n * o.esz + rs.length)).toArray) := by
      simp only [execOp, resolve, invoke, builtin, Sem.run_bind, Sem.run_pure, Result.andThen_ok, List.map_toArray, List.map_cons, List.map_nil]
      rw [hse, hxe, hrun]
      simp
    have hcs : n * o.esz + rs.length ≤ cr.size := hfit2
    have hreal : ∀ j (hj : j < (o.cells.take (n * o.esz) ++ Am.news o2 off2 (m * o.esz) ++ o.cells.drop ((n + m) * o.esz)).length), ∃ r, (cr.toList.take (n * o.esz) ++ rs ++ cr.toList.drop (n * o.esz + rs.length)).toArray[j]? = some r ∧ VRel mp h (o.cells.take (n * o.esz) ++ Am.news o2 off2 (m * o.esz) ++ o.cells.drop ((n + m) * o.esz))[j] r := fun j hj => by
      have hg : (o.cells.take (n * o.esz) ++ Am.news o2 off2 (m * o.esz) ++ o.cells.drop ((n + m) * o.esz))[j]? = some (o.cells.take (n * o.esz) ++ Am.news o2 off2 (m * o.esz) ++ o.cells.drop ((n + m) * o.esz))[j] := List.getElem?_eq_getElem hj
      generalize (o.cells.take (n * o.esz) ++ Am.news o2 off2 (m * o.esz) ++ o.cells.drop ((n + m) * o.esz))[j] = v at hg
      rw [hlen'] at hj
      have ht1 : (o.cells.take (n * o.esz)).length = n * o.esz := by rw [List.length_take]; omega
      have ht2 : (cr.toList.take (n * o.esz)).length = n * o.esz := by rw [List.length_take, Array.length_toList]; omega
      have hold : ∀ j, j < ver → ∀ v, o.cells[j]? = some v → ∃ r, cr.toList[j]? = some r ∧ VRel mp h v r := fun j hj v hv => by
        obtain ⟨r, g1, g2⟩ := hcr j (by omega)
        rw [hbase, Nat.zero_add] at g1
        refine ⟨r, by simpa using g1, ?_⟩
        rw [List.getElem?_eq_getElem (by omega), Option.some.injEq] at hv
        subst hv; exact g2
      simp only [List.getElem?_toArray]
      rw [List.append_assoc, List.getElem?_append] at hg ⊢
      rw [ht1] at hg
      rw [ht2]
      by_cases c1 : j < n * o.esz
      · rw [if_pos c1] at hg ⊢
        rw [List.getElem?_take, if_pos c1] at hg ⊢
        exact hold j hj v hg
      · rw [if_neg c1] at hg ⊢
        rw [List.getElem?_append] at hg ⊢
        rw [hnl] at hg
        by_cases c2 : j - n * o.esz < m * o.esz
        · rw [if_pos c2] at hg
          rw [if_pos (by omega)]
          have hjr : j - n * o.esz < rs.length := by omega
          rw [List.getElem?_eq_getElem hjr]
          exact ⟨_, rfl, hrel _ _ _ hg (List.getElem?_eq_getElem hjr)⟩
        · rw [if_neg c2] at hg
          rw [if_neg (by omega)]
          rw [List.getElem?_drop] at hg ⊢
          rw [show (n + m) * o.esz + (j - n * o.esz - m * o.esz) = j by omega] at hg
          rw [show n * o.esz + rs.length + (j - n * o.esz - rs.length) = j by omega]
          exact hold j hj v hg
    obtain ⟨r1, s1⟩ := hr.rewrite ho hm hl (l' := l) (cs := o.cells.take (n * o.esz) ++ Am.news o2 off2 (m * o.esz) ++ o.cells.drop ((n + m) * o.esz)) (c' := (cr.toList.take (n * o.esz) ++ rs ++ cr.toList.drop (n * o.esz + rs.length)).toArray) (ty := te) (by rw [hlen']; omega) (setRow_heap w l.block cr _ te (0, 0) hblk) hbase
      (by rw [← hcap]; simp only [List.size_toArray, List.length_append, List.length_take, List.length_drop, Array.length_toList]; omega) (.inl ⟨rfl, hop0⟩)
      (by simp [World.setRow]) rfl rfl rfl (fun b _ hne => setRow_other w l.block b _ hne) hreal
    refine ⟨_, _, _, _, _, hexec, r1, s1, ?_, hK⟩
    refine .slice (o := ⟨o.cells.take (n * o.esz) ++ Am.news o2 off2 (m * o.esz) ++ o.cells.drop ((n + m) * o.esz), true, o.esz⟩) (by simp [hk]) (by simp only []; omega) ⟨_, _, _, rfl⟩ fun _ => ⟨l, by simp [Map.push], _, cap', rfl, hfit, c2', by simp only []; omega, fun _ => by simp [hbase], fun _ => ⟨fun _ => by simpa using hcap2, fun hz0 => by simp only [] at hz0; omega⟩⟩

/-- append(s, x...) of integers to a cut list of one's own: in place. -/
theorem o_appendIn {t e : TypeId} {s x : Operand} {k n L : Nat} {xs ys : List Int} {v : Value} {h' : AHeap} (hu : P.underlying t = some (.slice e)) (hi : InfoIs P e (i64 0) 1 8)
    (hx : aeval env s = .slice (some ⟨k, 0, some L⟩) n L) (ho : h[k]? = some (lst xs)) (hn : xs.length = L) (hy : aeval env x = v) (hv : Ints h v ys) (h0 : 0 < ys.length)
    (hfit : n + ys.length ≤ L) (hs : h.set k (lst (xs.take n ++ ys ++ xs.drop (n + ys.length))) = h') (hK : K (.slice (some ⟨k, 0, some L⟩) (n + ys.length) L) h') :
    AOp P ⟨dst, .call { callee := .builtin .append, args := #[s, x], argTypes := #[t, t] }, ty, pos, after, guard⟩ K env h := by
  obtain ⟨inf, g1, g2, g3, g4⟩ := hi.get
  subst hs
  have hno : (lst xs).cells.length = L := by simp [lst, hn]
  rcases hv with ⟨_, rfl⟩ | ⟨k2, off, ver, cap, o, rfl, h2, h3, h4, h5, h6, h7⟩
  · simp at h0
  · have hnews := news_ints h7
    have e1 : (lst xs).esz = 1 := rfl
    refine aop_appendIn (o := lst xs) (o2 := o) (m := ys.length) (cp := L) hu g1 (by rw [g3]; rfl) (by show 0 < 1; decide) (by rw [h4]; rfl) hx ho hno (by rw [e1, Nat.mul_one]) rfl hy h2 h3
      (by rw [e1, hnews]; simp [List.all_map]; intro a _; rfl) h0 hfit ?_
    rw [e1, hnews]
    have e2 : (⟨(lst xs).cells.take (n * 1) ++ ys.map i64 ++ (lst xs).cells.drop ((n + ys.length) * 1), true, 1⟩ : AObj) = lst (xs.take n ++ ys ++ xs.drop (n + ys.length)) := by
      simp [lst, List.map_take, List.map_drop]
    rw [e2]
    exact hK
end
/-- A cut list, as it reads. -/
theorem Ints.cut {h : AHeap} {k n L : Nat} {xs : List Int} (ho : h[k]? = some (lst xs)) (hn : xs.length = L) (hl : n ≤ L) : Ints h (.slice (some ⟨k, 0, some L⟩) n L) (xs.take n) := by
  subst hn
  have hlen : (xs.take n).length = n := by rw [List.length_take]; omega
  refine .inr ⟨k, 0, _, _, lst xs, by rw [hlen], ho, by simp [lst], rfl, by omega, by omega, fun i z hz => ?_⟩
  rw [List.getElem?_take] at hz
  split at hz
  · simp [lst, hz]
  · cases hz
end Go.Am

namespace Go.Am
set_option linter.unusedSimpArgs false
set_option linter.unusedVariables false
open Go.RowKit
end Go.Am

namespace Go.Am
set_option linter.unusedSimpArgs false
set_option linter.unusedVariables false

end Go.Am

namespace Go.Am
set_option linter.unusedSimpArgs false
set_option linter.unusedVariables false
section
variable {P : Program} {ops : Array Oper} {KE : Env → AHeap → Prop} {os : List Oper} {env : Env} {h : AHeap} {d : Option Tmp} {ty : TypeId} {pos : String} {af : Array Edge} {g : Option (Nat × Bool)}
end

/-! ## The state of the recursion -/
structure PlanS (h H : AHeap) (kO : Nat) (al : List (List Int)) (s : Nat) (r : Nat → Nat) (ss : List Int) (n : Nat) (m : Int) : Prop where
  own : OwnS h.length H kO al s r
  far : ∀ i, i < s → h.length + 7 ≤ r i
  len : ss.length = n
  bnd : ∀ x ∈ ss, 0 ≤ x ∧ x ≤ m
  sle : s ≤ al.length
theorem lk_far {X Y g : AHeap} {k : Nat} (e : X.length = Y.length) (hk : X.length ≤ k) : (X ++ g)[k]? = (Y ++ g)[k]? := by
  rw [List.getElem?_append_right hk, List.getElem?_append_right (by omega), e]
end Go.Am

namespace Go.Am
set_option linter.unusedSimpArgs false
set_option linter.unusedVariables false
end Go.Am

namespace Go.Am
set_option linter.unusedSimpArgs false
set_option linter.unusedVariables false
structure PlanT (h H : AHeap) (kO : Nat) (al : List (List Int)) (s : Nat) (r : Nat → Nat) : Prop where
  own : OwnS h.length H kO al s r
  far : ∀ i, i < s → h.length + 3 ≤ r i
  sle : s ≤ al.length
theorem getD_set_at {l : List Int} {i : Nat} {x : Int} (h : i < l.length) : (l.set i x).getD i 0 = x := by
  rw [getD_at (by simpa using h)]; simp
end Go.Am

namespace Go.Am
set_option linter.unusedSimpArgs false
set_option linter.unusedVariables false

/-! ## Appending to a cut list -/
section
variable {P : Program} {K : Value → AHeap → Prop} {env : Env} {h : AHeap} {dst : Option Tmp} {ty : TypeId} {pos : String} {after : Array Edge} {guard : Option (Nat × Bool)}
end
/-! ## Rows that are kept -/
structure RowG (b : Nat) (H : AHeap) (kO : Nat) (al : List (List Int)) (s : Nat) (r : Nat → Nat) (bad : Nat → Prop) : Prop where
  own : OwnS b H kO al s r
  far : ∀ i, i < s → ¬ bad (r i)
  sle : s ≤ al.length
theorem RowG.set {b : Nat} {H H' : AHeap} {kO k s : Nat} {al : List (List Int)} {r : Nat → Nat} {bad : Nat → Prop} {o : AObj} (p : RowG b H kO al s r bad) (hs : H.set k o = H') (hk : k ≠ kO) (hb : bad k) : RowG b H' kO al s r bad := by
  subst hs
  refine ⟨⟨by rw [List.getElem?_set_ne hk]; exact p.own.out, p.own.low, fun i hi => ?_, p.own.inj⟩, p.far, p.sle⟩
  obtain ⟨h1, h2, h3⟩ := p.own.row i hi
  exact ⟨h1, h2, by rw [List.getElem?_set_ne fun e => p.far i hi (by rw [← e]; exact hb)]; exact h3⟩
theorem RowG.push {b : Nat} {H g : AHeap} {kO s : Nat} {al : List (List Int)} {r : Nat → Nat} {bad : Nat → Prop} (p : RowG b H kO al s r bad) : RowG b (H ++ g) kO al s r bad := ⟨owns_push p.own, p.far, p.sle⟩
theorem RowG.lt {b : Nat} {H : AHeap} {kO s : Nat} {al : List (List Int)} {r : Nat → Nat} {bad : Nat → Prop} (p : RowG b H kO al s r bad) {i : Nat} (hi : i < s) : r i < H.length := (List.getElem?_eq_some_iff.1 (p.own.row i hi).2.2).1
theorem RowG.bad {b : Nat} {H : AHeap} {kO s : Nat} {al : List (List Int)} {r : Nat → Nat} {bad bad' : Nat → Prop} (p : RowG b H kO al s r bad) (h : ∀ j, j < H.length → ¬ bad j → ¬ bad' j) : RowG b H kO al s r bad' := ⟨p.own, fun i hi => h _ (p.lt hi) (p.far i hi), p.sle⟩
theorem RowG.add {b : Nat} {H H' : AHeap} {kO kR s : Nat} {al : List (List Int)} {r : Nat → Nat} {bad : Nat → Prop} {ss : List Int} {t : AObj} (p : RowG b H kO al s r bad) (hs : s < al.length) (hrow : rowAt al s = ss) (hb : b ≤ H.length) (hbad : ¬ bad kR) (hk : kR = H.length)
    (hH : (H ++ [lst ss] ++ [t]).set kO (vls (rvals r al s ++ [sl kR ss.length])) = H') : RowG b H' kO al (s + 1) (fun i => if i = s then kR else r i) bad := by
  subst hrow
  have := owns_step (t := t) p.own hb hk
  rw [hH] at this
  refine ⟨this, fun i hi => ?_, by omega⟩
  by_cases e : i = s
  · subst e; simp only [if_true]; exact hbad
  · simp only [if_neg e]; exact p.far i (by omega)
/-! ## Rings -/
/-! ## What is given -/
structure GivesOk (xss : List (List Int)) : Prop where
  n1 : 1 ≤ xss.length
  n8 : xss.length ≤ 8
  row : ∀ i, (rowAt xss i).length ≤ 8
  bnd : ∀ i, ∀ x ∈ rowAt xss i, 0 ≤ x ∧ x < (xss.length : Int)
section
variable {P : Program} {K : Value → AHeap → Prop} {env : Env} {h : AHeap} {dst : Option Tmp} {ty : TypeId} {pos : String} {after : Array Edge} {guard : Option (Nat × Bool)}
/-- A cut list, cut again. -/
theorem o_sliceCut {t e : TypeId} {x y2 : Operand} {k n L r b : Nat} {zs : List Int} {z0 : Value} {k1 : IntKind} {z : Int} (hu : P.underlying t = some (.slice e)) (hi : InfoIs P e z0 1 b)
    (hx : aeval env x = .slice (some ⟨k, 0, some L⟩) n L) (ho : h[k]? = some (lst zs)) (hn : zs.length = L) (hy2 : aeval env y2 = .int k1 z) (hz : z = (r : Int)) (hr : r ≤ L)
    (hK : K (.slice (some ⟨k, 0, some L⟩) r L) h) : AOp P ⟨dst, .slice t x none (some y2) none, ty, pos, after, guard⟩ K env h := by
  obtain ⟨i, h1, _, h3, _⟩ := hi.get
  subst hz
  refine aop_slice (l := 0) (r := r) hu h1 (by rw [h3]; rfl) hx ho (by simp [lst, hn]) (.inl ⟨rfl, rfl⟩) (.inr ⟨y2, k1, rfl, hy2⟩) (Nat.zero_le _) hr ?_
  show K (.slice (some ⟨k, 0 + 0 * 1, some L⟩) (r - 0) (L - 0)) h
  simpa using hK
end
theorem rall_false {f : Nat → Bool} {n k : Nat} (hk : k < n) (h : f k = false) : (List.range n).all f = false := by
  rw [List.all_eq_false]
  exact ⟨k, List.mem_range.2 hk, by rw [h]; decide⟩
end Go.Am

namespace Go.Am
set_option linter.unusedSimpArgs false
set_option linter.unusedVariables false

/-! ## Two lists -/
abbrev VT2 (n m k : Nat) : Value := .tuple #[sl k n, sl (k + 1) m, .bool true]
abbrev NL2 : Value := .tuple #[.slice none 0 0, .slice none 0 0, .bool false]
theorem within_nl2 {n : Nat} : Within n NL2 := .tup3 (.prim rfl) (.prim rfl) (.prim rfl)
/-! ## All orders, and the best of them -/
def wV (xs : List Int) (n i t : Int) : Int := xs.getD (i * n + t).toNat 0
def sumW6 (xs : List Int) (n : Int) (l : List Int) : Nat → Int
  | 0 => 0
  | s + 1 => sumW6 xs n l s + wV xs n s (l.getD s 0)
theorem wV_bnd {xs : List Int} (hb : xs.all (fun x => decide (0 ≤ x ∧ x ≤ 1000)) = true) {n i t : Int} : 0 ≤ wV xs n i t ∧ wV xs n i t ≤ 1000 := by
  unfold wV
  by_cases h : (i * n + t).toNat < xs.length
  · rw [getD_at h]
    exact of_decide_eq_true (List.all_eq_true.1 hb _ (List.getElem_mem _))
  · rw [List.getD_eq_getElem?_getD, List.getElem?_eq_none (by omega)]
    exact ⟨Int.le_refl _, by decide⟩
theorem sumW6_app {xs : List Int} {n : Int} {l m : List Int} : ∀ s : Nat, s ≤ l.length → sumW6 xs n (l ++ m) s = sumW6 xs n l s
  | 0, _ => rfl
  | s + 1, h => by
    rw [sumW6, sumW6, sumW6_app s (by omega), List.getD_eq_getElem?_getD, List.getElem?_append_left (by omega), ← List.getD_eq_getElem?_getD]
def permR (n : Nat) : Nat → List Int → List (List Int)
  | 0, t => [t]
  | d + 1, t => (List.range n).flatMap fun (k : Nat) => if t.contains (k : Int) then [] else permR n d (t ++ [(k : Int)])
abbrev BSt := Option (List Int) × Int
def stepB (f : List Int → Int) (st : BSt) (l : List Int) : BSt := match st.1 with
  | none => (some l, f l)
  | some _ => if st.2 < f l then (some l, f l) else st
def runB (f : List Int → Int) (st : BSt) (ls : List (List Int)) : BSt := ls.foldl (stepB f) st
theorem runB_app {f : List Int → Int} {st : BSt} {a b : List (List Int)} : runB f st (a ++ b) = runB f (runB f st a) b := List.foldl_append
theorem stepB_none {f : List Int → Int} {m : Int} {l : List Int} : stepB f (none, m) l = (some l, f l) := rfl
theorem stepB_yes {f : List Int → Int} {c l : List Int} {m : Int} (h : m < f l) : stepB f (some c, m) l = (some l, f l) := if_pos h
theorem stepB_no {f : List Int → Int} {c l : List Int} {m : Int} (h : ¬ m < f l) : stepB f (some c, m) l = (some c, m) := if_neg h
theorem stepB_two {f : List Int → Int} {st : BSt} {a b : List Int} : stepB f (stepB f st a) b = stepB f st (if f a < f b then b else a) := by
  obtain ⟨o, m⟩ := st
  cases o with
  | none =>
    rw [stepB_none, stepB_none]
    by_cases h2 : f a < f b
    · rw [stepB_yes h2, if_pos h2]
    · rw [stepB_no h2, if_neg h2]
  | some c =>
    by_cases h1 : m < f a
    · rw [stepB_yes h1]
      by_cases h2 : f a < f b
      · rw [stepB_yes h2, if_pos h2, stepB_yes (show m < f b by omega)]
      · rw [stepB_no h2, if_neg h2, stepB_yes h1]
    · rw [stepB_no h1]
      by_cases h2 : f a < f b
      · rw [if_pos h2]
      · rw [if_neg h2, stepB_no h1, stepB_no (show ¬ m < f b by omega)]
/-- The rooms with the greatest sum, by trying all for the next player. -/
def stepR (xs : List Int) (n : Nat) (g : List Int → List Int × Int) (t : List Int) (st : List Int × Int) (k : Nat) : List Int × Int :=
  if t.contains (k : Int) then st else if st.2 < (g (t ++ [(k : Int)])).2 + wV xs n t.length k then ((k : Int) :: (g (t ++ [(k : Int)])).1, (g (t ++ [(k : Int)])).2 + wV xs n t.length k) else st
def roomsR (xs : List Int) (n : Nat) : Nat → List Int → List Int × Int
  | 0, _ => ([], 0)
  | d + 1, t => (List.range n).foldl (stepR xs n (roomsR xs n d) t) ([], -1)
def roomsK (xs : List Int) (n d : Nat) (t : List Int) (k : Nat) : List Int × Int := (List.range k).foldl (stepR xs n (roomsR xs n d) t) ([], -1)
theorem roomsK_step {xs : List Int} {n d k : Nat} {t : List Int} : roomsK xs n d t (k + 1) = stepR xs n (roomsR xs n d) t (roomsK xs n d t k) k := by
  unfold roomsK
  rw [List.range_succ, List.foldl_append]; rfl
theorem roomsK_has {xs : List Int} {n d k : Nat} {t : List Int} (h : t.contains (k : Int) = true) : roomsK xs n d t (k + 1) = roomsK xs n d t k := by rw [roomsK_step, stepR, if_pos h]
theorem roomsK_new {xs : List Int} {n d k : Nat} {t : List Int} (h : t.contains (k : Int) = false) (c : (roomsK xs n d t k).2 < (roomsR xs n d (t ++ [(k : Int)])).2 + wV xs n t.length k) :
    roomsK xs n d t (k + 1) = ((k : Int) :: (roomsR xs n d (t ++ [(k : Int)])).1, (roomsR xs n d (t ++ [(k : Int)])).2 + wV xs n t.length k) := by rw [roomsK_step, stepR, if_neg (by rw [h]; decide), if_pos c]
theorem roomsK_old {xs : List Int} {n d k : Nat} {t : List Int} (h : t.contains (k : Int) = false) (c : ¬ (roomsK xs n d t k).2 < (roomsR xs n d (t ++ [(k : Int)])).2 + wV xs n t.length k) :
    roomsK xs n d t (k + 1) = roomsK xs n d t k := by rw [roomsK_step, stepR, if_neg (by rw [h]; decide), if_neg c]
theorem all_there : ∀ (n : Nat) (t : List Int), (∀ k, k < n → (k : Int) ∈ t) → n ≤ t.length
  | 0, _, _ => Nat.zero_le _
  | n + 1, t, h => by
    have h1 := h n (by omega)
    have h2 := all_there n (t.erase (n : Int)) fun k hk => (List.mem_erase_of_ne (by omega)).2 (h k (by omega))
    have h3 := List.length_pos_of_mem h1
    rw [List.length_erase_of_mem h1] at h2
    omega
theorem exists_free {n : Nat} {t : List Int} (ht : t.length < n) : ∃ k, k < n ∧ t.contains (k : Int) = false := by
  refine Classical.byContradiction fun hno => ?_
  have hall : ∀ k, k < n → (k : Int) ∈ t := fun k hk => by
    refine Classical.byContradiction fun hm => hno ⟨k, hk, ?_⟩
    rw [← Bool.not_eq_true, List.contains_iff_mem]
    exact hm
  exact absurd (all_there n t hall) (by omega)
def BestQ (xs : List Int) (n d : Nat) (t : List Int) (ls : List (List Int)) (q : List Int × Int) : Prop :=
  (∀ st, runB (fun l => sumW6 xs n l n) st ls = stepB (fun l => sumW6 xs n l n) st (t ++ q.1)) ∧ sumW6 xs n (t ++ q.1) n = sumW6 xs n t t.length + q.2 ∧ 0 ≤ q.2 ∧ q.1.length = d
theorem best_rooms {xs : List Int} (hb : xs.all (fun x => decide (0 ≤ x ∧ x ≤ 1000)) = true) {n : Nat} : ∀ (d : Nat) (t : List Int), t.length + d = n → BestQ xs n d t (permR n d t) (roomsR xs n d t)
  | 0, t, ht => by
    have e : t.length = n := by omega
    refine ⟨fun st => ?_, ?_, Int.le_refl _, rfl⟩
    · rw [show permR n 0 t = [t] from rfl, show (roomsR xs n 0 t).1 = [] from rfl, List.append_nil]; rfl
    · show sumW6 xs n (t ++ []) n = sumW6 xs n t t.length + 0
      rw [List.append_nil, e]; omega
  | d + 1, t, ht => by
    have hpre : ∀ k, k ≤ n → ((∀ j, j < k → t.contains (j : Int) = true) ∧ roomsK xs n d t k = ([], -1) ∧ ((List.range k).flatMap fun (k : Nat) => if t.contains (k : Int) then [] else permR n d (t ++ [(k : Int)])) = []) ∨
        BestQ xs n (d + 1) t ((List.range k).flatMap fun (k : Nat) => if t.contains (k : Int) then [] else permR n d (t ++ [(k : Int)])) (roomsK xs n d t k) := by
      intro k
      induction k with
      | zero => intro _; exact .inl ⟨fun j hj => absurd hj (by omega), rfl, rfl⟩
      | succ k ih =>
        intro hk
        have hfl : ((List.range (k + 1)).flatMap fun (k : Nat) => if t.contains (k : Int) then [] else permR n d (t ++ [(k : Int)])) = ((List.range k).flatMap fun (k : Nat) => if t.contains (k : Int) then [] else permR n d (t ++ [(k : Int)])) ++ (if t.contains (k : Int) then [] else permR n d (t ++ [(k : Int)])) := by
          rw [List.range_succ, List.flatMap_append, List.flatMap_cons, List.flatMap_nil, List.append_nil]
        rw [hfl]
        cases hc : t.contains (k : Int) with
        | true =>
          rw [roomsK_has hc, if_pos rfl, List.append_nil]
          rcases ih (by omega) with ⟨h1, h2, h3⟩ | h1
          · refine .inl ⟨fun j hj => ?_, h2, h3⟩
            by_cases e : j = k
            · subst e; exact hc
            · exact h1 j (by omega)
          · exact .inr h1
        | false =>
          rw [if_neg (by decide)]
          obtain ⟨q1, q2, q3, q4⟩ := best_rooms hb (n := n) d (t ++ [(k : Int)]) (by simp; omega)
          have e1 : (t ++ [(k : Int)]).length = t.length + 1 := by simp
          have e2 : sumW6 xs n (t ++ [(k : Int)]) (t ++ [(k : Int)]).length = sumW6 xs n t t.length + wV xs n t.length k := by
            rw [e1, sumW6, sumW6_app t.length (Nat.le_refl _), List.getD_eq_getElem?_getD, List.getElem?_append_right (Nat.le_refl _), Nat.sub_self]; rfl
          have hw := wV_bnd hb (n := n) (i := t.length) (t := k)
          have e3 : t ++ [(k : Int)] ++ (roomsR xs n d (t ++ [(k : Int)])).1 = t ++ ((k : Int) :: (roomsR xs n d (t ++ [(k : Int)])).1) := by simp
          rw [e2, e3] at q2
          rw [e3] at q1
          rcases ih (by omega) with ⟨h1, h2, h3⟩ | ⟨h1, h2, h3, h4⟩
          · rw [roomsK_new hc (by rw [h2]; show (-1 : Int) < _; omega), h3, List.nil_append]
            exact .inr ⟨q1, by rw [q2]; show _ = _ + ((roomsR xs n d (t ++ [(k : Int)])).2 + wV xs n t.length k); omega, by show 0 ≤ (roomsR xs n d (t ++ [(k : Int)])).2 + wV xs n t.length k; omega, by simp [q4]⟩
          · by_cases c : (roomsK xs n d t k).2 < (roomsR xs n d (t ++ [(k : Int)])).2 + wV xs n t.length k
            · rw [roomsK_new hc c]
              refine .inr ⟨fun st => ?_, by rw [q2]; show _ = _ + ((roomsR xs n d (t ++ [(k : Int)])).2 + wV xs n t.length k); omega, by show 0 ≤ (roomsR xs n d (t ++ [(k : Int)])).2 + wV xs n t.length k; omega, by simp [q4]⟩
              rw [runB_app, h1, q1, stepB_two, if_pos (by rw [h2, q2]; omega)]
            · rw [roomsK_old hc c]
              refine .inr ⟨fun st => ?_, h2, h3, h4⟩
              rw [runB_app, h1, q1, stepB_two, if_neg (by rw [h2, q2]; omega)]
    rcases hpre n (Nat.le_refl _) with ⟨h1, _, _⟩ | h1
    · obtain ⟨k, hk, hf⟩ := exists_free (n := n) (t := t) (by omega)
      rw [h1 k hk] at hf; cases hf
    · exact h1
end Go.Am

namespace Go.Am
set_option linter.unusedSimpArgs false
set_option linter.unusedVariables false
def fP (xs : List Int) (n : Nat) (l : List Int) : Int := sumW6 xs n l n
def rmL (xs : List Int) (n : Nat) : List Int := (roomsR xs n n []).1
def BestV (H : AHeap) (lo n : Nat) (bv : Value) (bo : Option (List Int)) : Prop :=
  (bo = none ∧ bv = .slice none 0 0) ∨ ∃ k bl, bo = some bl ∧ bv = sl k n ∧ lo ≤ k ∧ H[k]? = some (lst bl) ∧ bl.length = n
theorem BestV.push {H g : AHeap} {lo n : Nat} {bv : Value} {bo : Option (List Int)} (h : BestV H lo n bv bo) : BestV (H ++ g) lo n bv bo := by
  rcases h with h | ⟨k, bl, h1, h2, h3, h4, h5⟩
  · exact .inl h
  · exact .inr ⟨k, bl, h1, h2, h3, lk_prev h4, h5⟩
theorem BestV.far {X Y g : AHeap} {lo n : Nat} {bv : Value} {bo : Option (List Int)} (h : BestV (X ++ g) lo n bv bo) (e : X.length = Y.length) (hlo : X.length ≤ lo) : BestV (Y ++ g) lo n bv bo := by
  rcases h with h | ⟨k, bl, h1, h2, h3, h4, h5⟩
  · exact .inl h
  · exact .inr ⟨k, bl, h1, h2, h3, by rw [← lk_far e (by omega)]; exact h4, h5⟩
theorem best_end {xs : List Int} (hb : xs.all (fun x => decide (0 ≤ x ∧ x ≤ 1000)) = true) {n : Nat} : runB (fP xs n) (none, 0) (permR n (n - 0) []) = (some (rmL xs n), fP xs n (rmL xs n)) := by
  obtain ⟨h1, _⟩ := best_rooms hb (n := n) n [] (by simp)
  exact (h1 (none, 0)).trans rfl
theorem rooms_range {xs : List Int} {n : Nat} : ∀ (d : Nat) (t : List Int), ∀ y ∈ (roomsR xs n d t).1, 0 ≤ y ∧ y < (n : Int)
  | 0, _, y, hy => by cases hy
  | d + 1, t, y, hy => by
    have key : ∀ k, k ≤ n → ∀ y ∈ (roomsK xs n d t k).1, 0 ≤ y ∧ y < (n : Int) := by
      intro k
      induction k with
      | zero => intro _ y hy; cases hy
      | succ k ih =>
        intro hk y hy
        rw [roomsK_step, stepR] at hy
        split at hy
        · exact ih (by omega) y hy
        · split at hy
          · rcases List.mem_cons.1 hy with rfl | hy
            · omega
            · exact rooms_range d _ y hy
          · exact ih (by omega) y hy
    exact key n (Nat.le_refl _) y hy
theorem rooms_len {xs : List Int} (hb : xs.all (fun x => decide (0 ≤ x ∧ x ≤ 1000)) = true) {n d : Nat} {t : List Int} (h : t.length + d = n) : (roomsR xs n d t).1.length = d := (best_rooms hb d t h).2.2.2
theorem rmL_len {xs : List Int} (hb : xs.all (fun x => decide (0 ≤ x ∧ x ≤ 1000)) = true) {n : Nat} : (rmL xs n).length = n := rooms_len hb (by simp)
theorem rmL_bnd {xs : List Int} {n : Nat} : ∀ y ∈ rmL xs n, 0 ≤ y ∧ y < (n : Int) := rooms_range n []
theorem roomsR_end {xs : List Int} {n d : Nat} {t : List Int} : roomsR xs n (d + 1) t = roomsK xs n d t n := rfl

/-! ## Rents -/
structure RentOk (xs : List Int) (n : Nat) : Prop where
  n1 : 1 ≤ n
  n6 : n ≤ 6
  len : (xs.length : Int) = (n : Int) * (n : Int)
  bnd : xs.all (fun x => decide (0 ≤ x ∧ x ≤ 1000)) = true
end Go.Am

namespace Go.Am
set_option linter.unusedSimpArgs false
set_option linter.unusedVariables false
section
variable {P : Program} {K : Value → AHeap → Prop} {env : Env} {h : AHeap} {dst : Option Tmp} {ty : TypeId} {pos : String} {after : Array Edge} {guard : Option (Nat × Bool)}
end
end Go.Am

namespace Go.Am
set_option linter.unusedSimpArgs false
set_option linter.unusedVariables false
abbrev by8 (n : Int) : Value := .int .u8 n
def Byts (h : AHeap) (v : Value) (xs : List Int) : Prop :=
  (v = .slice none 0 0 ∧ xs = []) ∨
  ∃ k off ver cap o, v = .slice (some ⟨k, off, some ver⟩) xs.length cap ∧ h[k]? = some o ∧ o.cells.length = ver ∧ o.esz = 1 ∧ xs.length ≤ cap ∧ off + cap = ver ∧
    ∀ (i : Nat) (z : Int), xs[i]? = some z → o.cells[off + i]? = some (by8 z)
theorem Byts.app {h : AHeap} {v : Value} {xs : List Int} (hv : Byts h v xs) (g : List AObj) : Byts (h ++ g) v xs := by
  rcases hv with hv | ⟨k, off, ver, cap, o, h1, h2, h3, h4, h5, h6, h7⟩
  · exact .inl hv
  · exact .inr ⟨k, off, ver, cap, o, h1, by rw [List.getElem?_append_left (List.getElem?_eq_some_iff.1 h2).1]; exact h2, h3, h4, h5, h6, h7⟩
theorem Byts.within {h : AHeap} {v : Value} {xs : List Int} (hv : Byts h v xs) : Within h.length v := by
  rcases hv with ⟨rfl, _⟩ | ⟨k, off, ver, cap, o, rfl, h2, _⟩
  · exact .prim rfl
  · exact .slice (List.getElem?_eq_some_iff.1 h2).1
theorem byts_nil {h : AHeap} : Byts h (.slice none 0 0) [] := .inl ⟨rfl, rfl⟩
section
variable {P : Program} {K : Value → AHeap → Prop} {env : Env} {h : AHeap} {dst : Option Tmp} {ty : TypeId} {pos : String} {after : Array Edge} {guard : Option (Nat × Bool)}
theorem o_lenY {t e : TypeId} {x : Operand} {v : Value} {xs : List Int} (hu : P.underlying t = some (.slice e)) (hx : aeval env x = v) (hv : Byts h v xs) (hK : K (i64 xs.length) h) :
    AOp P ⟨dst, .call { callee := .builtin .len, args := #[x], argTypes := #[t] }, ty, pos, after, guard⟩ K env h := by
  rcases hv with ⟨rfl, rfl⟩ | ⟨k, off, ver, cap, o, rfl, h2, h3, h4, h5, h6, h7⟩
  · exact aop_len hu hx (fun ad ha => by cases ha) hK
  · exact aop_len hu hx (fun ad ha => by cases ha; exact ⟨k, off, ver, o, rfl, h2, h3⟩) hK
theorem o_indexY {t e : TypeId} {x y : Operand} {v z : Value} {b : Nat} {xs : List Int} {kd : IntKind} {i : Nat} (hu : P.underlying t = some (.slice e)) (hi : InfoIs P e z 1 b)
    (hx : aeval env x = v) (hv : Byts h v xs) (hy : aeval env y = .int kd (i : Int)) (hlt : i < xs.length) (hK : ∀ p, IsElem v i p → K p h) : AOp P ⟨dst, .indexAddr t x y, ty, pos, after, guard⟩ K env h := by
  obtain ⟨inf, g1, _, g3, _⟩ := hi.get
  rcases hv with ⟨rfl, rfl⟩ | ⟨k, off, ver, cap, o, rfl, h2, h3, h4, h5, h6, h7⟩
  · simp at hlt
  · refine aop_indexAddr hu g1 (by rw [g3, h4]) hx h2 h3 hy (by omega) (by omega) (by omega) ?_
    rw [h4, Int.toNat_natCast, Nat.mul_one]
    exact hK _ rfl
theorem o_indexYZ {t e : TypeId} {x y : Operand} {v z : Value} {b : Nat} {xs : List Int} {kd : IntKind} {i : Int} (hu : P.underlying t = some (.slice e)) (hi : InfoIs P e z 1 b)
    (hx : aeval env x = v) (hv : Byts h v xs) (hy : aeval env y = .int kd i) (h0 : 0 ≤ i) (hlt : i < xs.length) (hK : ∀ p, IsElem v i.toNat p → K p h) : AOp P ⟨dst, .indexAddr t x y, ty, pos, after, guard⟩ K env h :=
  o_indexY hu hi hx hv (by rw [hy, Int.toNat_of_nonneg h0]) (by omega) hK
theorem o_loadY {t : TypeId} {x : Operand} {v p : Value} {dd : TypeDesc} {xs : List Int} {i : Nat} (hu : P.underlying t = some dd) (hd : aggD dd = false) (hx : aeval env x = p) (hp : IsElem v i p) (hv : Byts h v xs) (hlt : i < xs.length)
    (hK : K (by8 (xs.getD i 0)) h) : AOp P ⟨dst, .load t x, ty, pos, after, guard⟩ K env h := by
  rcases hv with ⟨rfl, rfl⟩ | ⟨k, off, ver, cap, o, rfl, h2, h3, h4, h5, h6, h7⟩
  · simp at hlt
  · have hz : xs[i]? = some (xs.getD i 0) := by simp [List.getD_eq_getElem?_getD, List.getElem?_eq_getElem hlt]
    exact aop_load hu hd (hx.trans hp) h2 h3 (h7 i _ hz) hK
end
section
variable {P : Program} {ops : Array Oper} {KE : Env → AHeap → Prop} {os : List Oper} {env : Env} {h : AHeap} {d : Option Tmp} {op : Op} {ty : TypeId} {pos : String} {af : Array Edge} {g : Option (Nat × Bool)}
theorem IsElem.withinY {v p : Value} {xs : List Int} {i : Nat} (hv : Byts h v xs) (hp : IsElem v i p) : Within h.length p := by
  rcases hv with ⟨rfl, _⟩ | ⟨k, off, ver, cap, o, rfl, h2, _⟩
  · exact hp.elim
  · have : p = .pointer (some ⟨k, off + i, some ver⟩) := hp
    rw [this]
    exact .ptr (List.getElem?_eq_some_iff.1 h2).1
theorem d_indexY {t e : TypeId} {x y : Operand} {v z : Value} {b : Nat} {xs : List Int} {kd : IntKind} {i : Nat} (hw : wantedA ops env ⟨d, .indexAddr t x y, ty, pos, af, g⟩ = some true) (hu : P.underlying t = some (.slice e)) (hi : InfoIs P e z 1 b)
    (hx : aeval env x = v) (hv : Byts h v xs) (hy : aeval env y = .int kd (i : Int)) (hlt : i < xs.length) (hK : ∀ p, IsElem v i p → DRun P ops KE os (env.put d p) h) : DRun P ops KE (⟨d, .indexAddr t x y, ty, pos, af, g⟩ :: os) env h := by
  have ⟨p, hp⟩ : ∃ p, IsElem v i p := by
    rcases hv with ⟨rfl, rfl⟩ | ⟨k, off, ver, cap, o, rfl, _⟩
    · simp at hlt
    · exact ⟨_, rfl⟩
  refine d_do hw (o_indexY hu hi hx hv hy hlt fun p' hp' => ⟨?_, rfl⟩) (hp.withinY hv) (hK p hp)
  rcases hv with ⟨rfl, rfl⟩ | ⟨k, off, ver, cap, o, rfl, _⟩
  · simp at hlt
  · exact hp'.trans hp.symm
theorem d_indexYZ {t e : TypeId} {x y : Operand} {v z : Value} {b : Nat} {xs : List Int} {kd : IntKind} {i : Int} (hw : wantedA ops env ⟨d, .indexAddr t x y, ty, pos, af, g⟩ = some true) (hu : P.underlying t = some (.slice e)) (hi : InfoIs P e z 1 b)
    (hx : aeval env x = v) (hv : Byts h v xs) (hy : aeval env y = .int kd i) (h0 : 0 ≤ i) (hlt : i < xs.length) (hK : ∀ p, IsElem v i.toNat p → DRun P ops KE os (env.put d p) h) : DRun P ops KE (⟨d, .indexAddr t x y, ty, pos, af, g⟩ :: os) env h :=
  d_indexY hw hu hi hx hv (by rw [hy, Int.toNat_of_nonneg h0]) (by omega) hK
end
def BB (bs : List Int) : Prop := ∀ b ∈ bs, 0 ≤ b ∧ b < 256
theorem BB.at {bs : List Int} (h : BB bs) (i : Nat) : 0 ≤ bs.getD i 0 ∧ bs.getD i 0 < 256 := by
  by_cases c : i < bs.length
  · rw [getD_at c]; exact h _ (List.getElem_mem _)
  · rw [List.getD_eq_getElem?_getD, List.getElem?_eq_none (by omega)]
    exact ⟨Int.le_refl _, by decide⟩
/-- A source: the bytes, the place, the seed. -/
abbrev srcO (v : Value) (a s : Int) : AObj := ⟨[v, i64 a, .int .u64 s], true, 1⟩
theorem Byts.src {h : AHeap} {v v2 : Value} {bs : List Int} {kS : Nat} {a s a2 s2 : Int} (hv : Byts h v bs) (hS : h[kS]? = some (srcO v2 a s)) : Byts (h.set kS (srcO v2 a2 s2)) v bs := by
  rcases hv with hv | ⟨k, off, ver, cap, o, h1, h2, h3, h4, h5, h6, h7⟩
  · exact .inl hv
  · by_cases e : k = kS
    · subst e
      have hk := (List.getElem?_eq_some_iff.1 h2).1
      rw [h2, Option.some.injEq] at hS
      subst hS
      refine .inr ⟨k, off, ver, cap, srcO v2 a2 s2, h1, by rw [List.getElem?_set_self hk], h3, rfl, h5, h6, fun i z hi => ?_⟩
      have h8 := h7 i z hi
      revert h8
      generalize off + i = n
      intro h8
      match n, h8 with
      | 0, h8 => exact h8
      | 1, h8 => simp at h8
      | 2, h8 => simp at h8
      | n + 3, h8 => simp at h8
    · exact .inr ⟨k, off, ver, cap, o, h1, by rw [List.getElem?_set_ne (fun e2 => e e2.symm)]; exact h2, h3, h4, h5, h6, h7⟩
section
variable {P : Program} {K : Value → AHeap → Prop} {env : Env} {h : AHeap} {dst : Option Tmp} {ty : TypeId} {pos : String} {after : Array Edge} {guard : Option (Nat × Bool)}
theorem o_and255 {t yt : TypeId} {x y : Operand} {p : Int} (hx : aeval env x = .int .u64 p) (hy : aeval env y = .int .u64 255) (hK : ∀ q, 0 ≤ q → q < 256 → K (.int .u64 q) h) : AOp P ⟨dst, .binOp .and t x y yt, ty, pos, after, guard⟩ K env h := by
  have e : ((BitVec.ofInt 64 p &&& BitVec.ofInt 64 255).toNat) ≤ 255 := by
    rw [BitVec.toNat_and]
    exact Nat.le_trans Nat.and_le_right (by decide)
  refine o_bin hx hy (v := .int .u64 (IntKind.u64.wrap ((BitVec.ofInt 64 p &&& BitVec.ofInt 64 255).toNat : Int))) (by rfl) ?_
  have e2 : IntKind.u64.wrap ((BitVec.ofInt 64 p &&& BitVec.ofInt 64 255).toNat : Int) = ((BitVec.ofInt 64 p &&& BitVec.ofInt 64 255).toNat : Int) := by
    simp only [IntKind.wrap, IntKind.bits, IntKind.signed, Bool.false_and, Bool.false_eq_true, if_false]
    omega
  rw [e2]
  exact hK _ (by omega) (by omega)
theorem build3_sz {f0 f1 f2 : Field} {z0 z1 z2 : Value} {b0 b1 b2 : Nat} (h0 : InfoIs P f0.type z0 1 b0) (h1 : InfoIs P f1.type z1 1 b1) (h2 : InfoIs P f2.type z2 1 b2) : ∀ f ∈ (#[f0, f1, f2] : Array Field).toList, ∃ i, P.info? f.type = some i ∧ i.size = (fun _ => 1) f.type := fun f hf => by
  simp only [List.mem_cons, List.not_mem_nil, or_false] at hf
  rcases hf with rfl | rfl | rfl
  · obtain ⟨i, g1, _, g3, _⟩ := h0.get; exact ⟨i, g1, g3⟩
  · obtain ⟨i, g1, _, g3, _⟩ := h1.get; exact ⟨i, g1, g3⟩
  · obtain ⟨i, g1, _, g3, _⟩ := h2.get; exact ⟨i, g1, g3⟩
theorem o_build31 {t : TypeId} {f0 f1 f2 : Field} {z0 z1 z2 y0 y1 y2 w : Value} {b0 b1 b2 s b : Nat} {x : Operand} (hu : P.underlying t = some (.struct #[f0, f1, f2])) (ho : f0.offset = 0) (h0 : InfoIs P f0.type z0 1 b0) (h1 : InfoIs P f1.type z1 1 b1) (h2 : InfoIs P f2.type z2 1 b2)
    (hi : InfoIs P t (.agg #[y0, y1, y2]) s b) (hc : isConst (.agg #[y0, y1, y2]) = true) (hx : aeval env x = w) (hw : w.cells = #[w]) (hK : K (.agg #[w, y1, y2]) h) : AOp P ⟨dst, .build t #[(0, x)], ty, pos, after, guard⟩ K env h := by
  obtain ⟨i, g1, g2, g3, g4⟩ := hi.get
  exact aop_build (fun _ => 1) hu g1 g2 hc (build3_sz h0 h1 h2) (out := #[w, y1, y2]) (by simp [Instr.fill, hx, ho, hw, show (Value.agg #[y0, y1, y2]).cells = #[y0, y1, y2] from rfl]) hK
theorem o_build33 {t : TypeId} {f0 f1 f2 : Field} {z0 z1 z2 y0 y1 y2 w : Value} {b0 b1 b2 s b : Nat} {x y u : Operand} {p q : Int} (hu : P.underlying t = some (.struct #[f0, f1, f2])) (ho : f0.offset = 0) (ho1 : f1.offset = 1) (ho2 : f2.offset = 2) (h0 : InfoIs P f0.type z0 1 b0) (h1 : InfoIs P f1.type z1 1 b1) (h2 : InfoIs P f2.type z2 1 b2)
    (hi : InfoIs P t (.agg #[y0, y1, y2]) s b) (hc : isConst (.agg #[y0, y1, y2]) = true) (hx : aeval env x = i64 p) (hy : aeval env y = i64 q) (hz : aeval env u = w) (hw : w.cells = #[w]) (hK : K (.agg #[i64 p, i64 q, w]) h) : AOp P ⟨dst, .build t #[(0, x), (1, y), (2, u)], ty, pos, after, guard⟩ K env h := by
  obtain ⟨i, g1, g2, g3, g4⟩ := hi.get
  exact aop_build (fun _ => 1) hu g1 g2 hc (build3_sz h0 h1 h2) (out := #[i64 p, i64 q, w]) (by
    have e : (i64 p).cells = #[i64 p] := rfl
    have e2 : (i64 q).cells = #[i64 q] := rfl
    simp [Instr.fill, hx, ho, hy, ho1, hz, ho2, hw, e, e2, show (Value.agg #[y0, y1, y2]).cells = #[y0, y1, y2] from rfl]) hK
theorem o_anyU {t yt : TypeId} {x y : Operand} {p q : Int} (hx : aeval env x = .int .u64 p) (hy : aeval env y = .int .u64 q) (hK : ∀ z, K (.int .u64 z) h) : AOp P ⟨dst, .binOp .add t x y yt, ty, pos, after, guard⟩ K env h := o_bin hx hy rfl (hK _)
end
def at8 (bs : List Int) (i n : Int) : Int := if n ≤ 1 then 0 else if (bs.length : Int) ≤ i then 0 else bs.getD i.toNat 0 % n
theorem at8_bnd {bs : List Int} (hb : BB bs) {i n : Int} (hn : 1 ≤ n) : 0 ≤ at8 bs i n ∧ at8 bs i n < n := by
  have h1 := hb.at i.toNat
  unfold at8
  split
  · omega
  · split
    · omega
    · exact ⟨Int.emod_nonneg _ (by omega), Int.emod_lt_of_pos _ (by omega)⟩
theorem byts_cells {h : AHeap} {v : Value} {bs : List Int} (hv : Byts h v bs) : v.cells = #[v] := by
  rcases hv with ⟨rfl, _⟩ | ⟨k, off, ver, cap, o, rfl, _⟩ <;> rfl
def smallB (x : Int) : Bool := decide (-36 ≤ x ∧ x ≤ 36)
theorem awp_cut {P : Program} {n : Nat} {c : Code} {Q : Exit → Env → AHeap → Prop} {env : Env} {h : AHeap} (l : List (Tmp × Value)) (hs : Slots env l) (hK : ∀ env1, Slots env1 l → AWp P n c Q env1 h) : AWp P n c Q env h := hK env hs
end Go.Am

namespace Go.Am
set_option linter.unusedSimpArgs false
set_option linter.unusedVariables false
/-! ## Rows as functions -/
def fS (i : Nat) (f : Nat → Int) (s : Nat) : Int := if s.testBit i then f s - f (s - 2 ^ i) else f s
def fA (i : Nat) (f : Nat → Int) (s : Nat) : Int := if s.testBit i then f s + f (s - 2 ^ i) else f s
def allS (f : Nat → Int) : Nat → Nat → Int
  | 0 => f
  | k + 1 => fS k (allS f k)
def allA (f : Nat → Int) : Nat → Nat → Int
  | 0 => f
  | k + 1 => fA k (allA f k)
theorem bitf1 : ∀ s < 64, ∀ i < 6, s.testBit i = true → (s - 2 ^ i).testBit i = false := by decide +kernel
theorem bitf2b : ∀ s < 64, ∀ i < 6, ∀ j < 6, (!(s.testBit i) || decide (j = i) || ((s - 2 ^ i).testBit j == s.testBit j)) = true := by decide +kernel
theorem bitf2 (s : Nat) (hs : s < 64) (i : Nat) (hi : i < 6) (j : Nat) (hj : j < 6) (h : s.testBit i = true) (hne : j ≠ i) : (s - 2 ^ i).testBit j = s.testBit j := by
  have := bitf2b s hs i hi j hj
  rw [h, decide_eq_false hne] at this
  simpa using this
theorem bitf (s : Nat) (hs : s < 64) (i : Nat) (hi : i < 6) (h : s.testBit i = true) : (s - 2 ^ i).testBit i = false ∧ ∀ j < 6, j ≠ i → (s - 2 ^ i).testBit j = s.testBit j := ⟨bitf1 s hs i hi h, fun j hj hne => bitf2 s hs i hi j hj h hne⟩
theorem sub64 {s i : Nat} (hs : s < 64) : s - 2 ^ i < 64 := Nat.lt_of_le_of_lt (Nat.sub_le _ _) hs
theorem fS_yes {i s : Nat} {f : Nat → Int} (h : s.testBit i = true) : fS i f s = f s - f (s - 2 ^ i) := if_pos h
theorem fS_no {i s : Nat} {f : Nat → Int} (h : s.testBit i = false) : fS i f s = f s := if_neg (by rw [h]; decide)
theorem fA_yes {i s : Nat} {f : Nat → Int} (h : s.testBit i = true) : fA i f s = f s + f (s - 2 ^ i) := if_pos h
theorem fA_no {i s : Nat} {f : Nat → Int} (h : s.testBit i = false) : fA i f s = f s := if_neg (by rw [h]; decide)
theorem fA_congr {i s : Nat} {f g : Nat → Int} (hs : s < 64) (h : ∀ t, t < 64 → f t = g t) : fA i f s = fA i g s := by
  unfold fA
  rw [h s hs, h (s - 2 ^ i) (sub64 hs)]
theorem fAS_self {i s : Nat} {f : Nat → Int} (hs : s < 64) (hi : i < 6) : fA i (fS i f) s = f s := by
  cases h : s.testBit i with
  | true =>
    rw [fA_yes h, fS_yes h, fS_no (bitf s hs i hi h).1]; omega
  | false => rw [fA_no h, fS_no h]
theorem fAS_comm {i j s : Nat} {f : Nat → Int} (hs : s < 64) (hi : i < 6) (hj : j < 6) (hne : i ≠ j) : fA i (fS j f) s = fS j (fA i f) s := by
  cases h1 : s.testBit i with
  | false =>
    rw [fA_no h1]
    cases h2 : s.testBit j with
    | false => rw [fS_no h2, fS_no h2, fA_no h1]
    | true =>
      rw [fS_yes h2, fS_yes h2, fA_no h1, fA_no (((bitf s hs j hj h2).2 i hi hne).trans h1)]
  | true =>
    have h3 := (bitf s hs i hi h1).2 j hj (Ne.symm hne)
    rw [fA_yes h1]
    cases h2 : s.testBit j with
    | false => rw [fS_no h2, fS_no h2, fS_no (h3.trans h2), fA_yes h1]
    | true =>
      have h4 := (bitf s hs j hj h2).2 i hi hne
      rw [fS_yes h2, fS_yes h2, fS_yes (h3.trans h2), fA_yes h1, fA_yes (h4.trans h1), show s - 2 ^ i - 2 ^ j = s - 2 ^ j - 2 ^ i by omega]
      omega
theorem allA_comm {j : Nat} {f : Nat → Int} (hj : j < 6) : ∀ (k : Nat), k ≤ j → ∀ s, s < 64 → allA (fS j f) k s = fS j (allA f k) s
  | 0, _, _, _ => rfl
  | k + 1, hk, s, hs => by
    rw [allA, fA_congr hs fun t ht => allA_comm hj k (by omega) t ht, fAS_comm hs (by omega) hj (by omega)]; rfl
theorem allAS {f : Nat → Int} : ∀ (k : Nat), k ≤ 6 → ∀ s, s < 64 → allA (allS f k) k s = f s
  | 0, _, _, _ => rfl
  | k + 1, hk, s, hs => by
    rw [allA, fA_congr hs fun t ht => (show allA (allS f (k + 1)) k t = fS k (allA (allS f k) k) t from allA_comm (by omega) k (Nat.le_refl _) t ht), fAS_self hs (by omega)]
    exact allAS k (by omega) s hs
/-! ## Sums over subsets -/
def subL : Nat → Nat → List Nat
  | 0, s => [s]
  | k + 1, s => if s.testBit k then subL k (s - 2 ^ k) ++ subL k s else subL k s
def sumQ (f : Nat → Int) (l : List Nat) : Int := l.foldl (fun a t => a + f t) 0
theorem foldl_from {f : Nat → Int} : ∀ (l : List Nat) (a : Int), l.foldl (fun a t => a + f t) a = a + sumQ f l
  | [], a => by simp [sumQ]
  | x :: l, a => by
    rw [sumQ, List.foldl_cons, List.foldl_cons, foldl_from l, foldl_from l]; omega
theorem sumQ_app {f : Nat → Int} {a b : List Nat} : sumQ f (a ++ b) = sumQ f a + sumQ f b := by
  rw [sumQ, List.foldl_append, foldl_from]; rfl
theorem allA_sum {f : Nat → Int} : ∀ (k s : Nat), allA f k s = sumQ f (subL k s)
  | 0, s => by simp [allA, subL, sumQ]
  | k + 1, s => by
    rw [allA, subL]
    cases h : s.testBit k with
    | true => rw [fA_yes h, if_pos rfl, sumQ_app, allA_sum k s, allA_sum k (s - 2 ^ k)]; omega
    | false => rw [fA_no h, if_neg (by decide), allA_sum k s]
def subs (n s : Nat) : List Nat := (List.range n).filter fun t => decide (t &&& s = t)
theorem subL_all : ∀ k < 7, ∀ s < 2 ^ k, subL k s = subs (2 ^ k) s := by decide +kernel
def totS (f : Nat → Int) (s : Nat) : Nat → Int
  | 0 => 0
  | t + 1 => if t &&& s = t then totS f s t + f t else totS f s t
theorem totS_sum {f : Nat → Int} {s : Nat} : ∀ n, totS f s n = sumQ f (subs n s)
  | 0 => rfl
  | n + 1 => by
    rw [totS, subs, List.range_succ, List.filter_append, sumQ_app]
    by_cases c : n &&& s = n
    · rw [if_pos c, totS_sum n]
      simp [subs, sumQ, c]
    · rw [if_neg c, totS_sum n]
      simp [subs, sumQ, c]
theorem tot_back {f : Nat → Int} {k s : Nat} (hk : k ≤ 6) (hs : s < 2 ^ k) : totS (allS f k) s (2 ^ k) = f s := by
  have h64 : 2 ^ k ≤ 2 ^ 6 := Nat.pow_le_pow_right (by decide) hk
  rw [totS_sum, ← subL_all k (by omega) s hs, ← allA_sum, allAS k hk s (by omega)]
/-! ## Bounds -/
theorem allS_bnd {f : Nat → Int} {m : Int} (hf : ∀ t, t < 64 → -m ≤ f t ∧ f t ≤ m) : ∀ (k s : Nat), s < 64 → -(m * 2 ^ k) ≤ allS f k s ∧ allS f k s ≤ m * 2 ^ k
  | 0, s, hs => by have := hf s hs; simp only [allS, Int.pow_zero, Int.mul_one]; exact this
  | k + 1, s, hs => by
    have h1 := allS_bnd hf k s hs
    have h2 := allS_bnd hf k (s - 2 ^ k) (sub64 hs)
    have e : m * 2 ^ (k + 1) = m * 2 ^ k * 2 := by rw [Int.pow_succ, Int.mul_assoc]
    rw [e, allS]
    unfold fS
    split <;> omega
theorem allA_bnd {f : Nat → Int} {m : Int} (hf : ∀ t, t < 64 → -m ≤ f t ∧ f t ≤ m) : ∀ (k s : Nat), s < 64 → -(m * 2 ^ k) ≤ allA f k s ∧ allA f k s ≤ m * 2 ^ k
  | 0, s, hs => by have := hf s hs; simp only [allA, Int.pow_zero, Int.mul_one]; exact this
  | k + 1, s, hs => by
    have h1 := allA_bnd hf k s hs
    have h2 := allA_bnd hf k (s - 2 ^ k) (sub64 hs)
    have e : m * 2 ^ (k + 1) = m * 2 ^ k * 2 := by rw [Int.pow_succ, Int.mul_assoc]
    rw [e, allA]
    unfold fA
    split <;> omega
theorem allA_le {f g : Nat → Int} : ∀ (k s : Nat), (∀ t, t ≤ s → f t = g t) → allA f k s = allA g k s
  | 0, s, h => h s (Nat.le_refl _)
  | k + 1, s, h => by
    rw [allA, allA]
    unfold fA
    rw [allA_le k s h, allA_le k (s - 2 ^ k) fun t ht => h t (Nat.le_trans ht (Nat.sub_le _ _))]
/-! ## Rows as lists -/
theorem rowW_at {f : Int → Int → Int} {i : Nat} {l : List Int} (hl : l.length ≤ 64) (hi : i < 6) : ∀ s, s ≤ l.length → ∀ t, t < l.length →
    (rowW f i l s).getD t 0 = if t < s ∧ t.testBit i = true then f (l.getD t 0) (l.getD (t - 2 ^ i) 0) else l.getD t 0
  | 0, _, t, _ => by rw [rowW, if_neg (by omega)]
  | s + 1, hs, t, ht => by
    have ih := rowW_at (f := f) hl hi s (by omega)
    rw [rowW]
    cases h : s.testBit i with
    | true =>
      rw [if_pos rfl]
      have hge := (sub_bit s (by omega) i hi h).1
      have hp := Nat.two_pow_pos i
      by_cases e : t = s
      · subst e
        rw [if_pos ⟨by omega, h⟩, getD_set_at (by rw [rowW_len]; omega), ih t ht, if_neg (by omega), ih (t - 2 ^ i) (by omega), if_neg (by rw [(bitf t (by omega) i hi h).1]; simp)]
      · rw [getD_set (by rw [rowW_len]; omega), if_neg (fun e2 => e e2.symm), ih t ht]
        by_cases c : t < s ∧ t.testBit i = true
        · rw [if_pos c, if_pos ⟨by omega, c.2⟩]
        · rw [if_neg c, if_neg (by rintro ⟨h1, h2⟩; exact c ⟨by omega, h2⟩)]
    | false =>
      rw [if_neg (by decide), ih t ht]
      by_cases c : t < s ∧ t.testBit i = true
      · rw [if_pos c, if_pos ⟨by omega, c.2⟩]
      · rw [if_neg c, if_neg]
        rintro ⟨h1, h2⟩
        by_cases e : t = s
        · subst e; rw [h] at h2; cases h2
        · exact c ⟨by omega, h2⟩
theorem pow6 {k : Nat} (h : k ≤ 6) : (2 : Int) ^ k ≤ 64 ∧ 0 < (2 : Int) ^ k := by
  have h1 : 2 ^ k ≤ 2 ^ 6 := Nat.pow_le_pow_right (by decide) h
  have h2 := Nat.two_pow_pos k
  have e : ((2 ^ k : Nat) : Int) = 2 ^ k := by simp
  omega
theorem mul_pow_bnd {m : Int} {k : Nat} (hm : 0 ≤ m ∧ m ≤ 100000000) (hk : k ≤ 6) : 0 ≤ m * 2 ^ k ∧ m * 2 ^ k ≤ 6400000000 := by
  obtain ⟨h1, h2⟩ := pow6 hk
  have h3 : m * 2 ^ k ≤ 100000000 * 64 := Int.mul_le_mul hm.2 h1 (by omega) (by omega)
  exact ⟨Int.mul_nonneg hm.1 (by omega), by omega⟩
theorem allW_sub {xs : List Int} {m : Int} (hl : xs.length ≤ 64) (hm : 0 ≤ m ∧ m ≤ 100000000) (hb : ∀ t, t < 64 → -m ≤ atF xs t ∧ atF xs t ≤ m) : ∀ k, k ≤ 6 → ∀ t, t < xs.length → (allW subW xs k).getD t 0 = allS (atF xs) k t
  | 0, _, _, _ => rfl
  | k + 1, hk, t, ht => by
    have ih := allW_sub hl hm hb k (by omega)
    have hlen := allW_len (f := subW) (l := xs) k
    rw [allW, rowW_at (by omega) (by omega) xs.length (by omega) t (by omega), allS]
    cases h : t.testBit k with
    | true =>
      have hsl := Nat.sub_le t (2 ^ k)
      have b1 := allS_bnd hb k t (by omega)
      have b2 := allS_bnd hb k (t - 2 ^ k) (Nat.lt_of_le_of_lt hsl (by omega))
      have b3 := mul_pow_bnd hm (show k ≤ 6 by omega)
      rw [if_pos ⟨ht, rfl⟩, fS_yes h, ih t ht, ih (t - 2 ^ k) (Nat.lt_of_le_of_lt hsl ht), subW, wrap_id (by omega) (by omega)]
    | false => rw [if_neg (by simp), fS_no h, ih t ht]
theorem allW_add {xs : List Int} {m : Int} (hl : xs.length ≤ 64) (hm : 0 ≤ m ∧ m ≤ 100000000) (hb : ∀ t, t < 64 → -m ≤ atF xs t ∧ atF xs t ≤ m) : ∀ k, k ≤ 6 → ∀ t, t < xs.length → (allW addW xs k).getD t 0 = allA (atF xs) k t
  | 0, _, _, _ => rfl
  | k + 1, hk, t, ht => by
    have ih := allW_add hl hm hb k (by omega)
    have hlen := allW_len (f := addW) (l := xs) k
    rw [allW, rowW_at (by omega) (by omega) xs.length (by omega) t (by omega), allA]
    cases h : t.testBit k with
    | true =>
      have hsl := Nat.sub_le t (2 ^ k)
      have b1 := allA_bnd hb k t (by omega)
      have b2 := allA_bnd hb k (t - 2 ^ k) (Nat.lt_of_le_of_lt hsl (by omega))
      have b3 := mul_pow_bnd hm (show k ≤ 6 by omega)
      rw [if_pos ⟨ht, rfl⟩, fA_yes h, ih t ht, ih (t - 2 ^ k) (Nat.lt_of_le_of_lt hsl ht), addW, wrap_id (by omega) (by omega)]
    | false => rw [if_neg (by simp), fA_no h, ih t ht]
/-! ## Drawn worths -/
structure WOk (p : Int) (xs : List Int) : Prop where
  p6 : 1 ≤ p ∧ p ≤ 6
  len : xs.length = 2 ^ p.toNat
  zero : xs.getD 0 0 = 0
  small : xs.all smallB = true
theorem WOk.at {p : Int} {xs : List Int} (h : WOk p xs) (t : Nat) : -36 ≤ atF xs t ∧ atF xs t ≤ 36 := by
  unfold atF
  by_cases c : t < xs.length
  · rw [getD_at c]
    exact of_decide_eq_true (List.all_eq_true.1 h.small _ (List.getElem_mem _))
  · rw [List.getD_eq_getElem?_getD, List.getElem?_eq_none (by omega)]
    decide
theorem isW_any {m p : Int} {xs : List Int} (hp : 1 ≤ p ∧ p ≤ 6) (hl : xs.length = 2 ^ p.toNat) (h0 : xs.getD 0 0 = 0) (hb : ∀ t, t < xs.length → -m ≤ xs.getD t 0 ∧ xs.getD t 0 ≤ m) : isW m p xs = true := by
  obtain ⟨e, h2, h3⟩ := pow_nat hp
  refine (isW_yes (decide_eq_true hp) (by rw [hl]; exact e) h0 (List.all_eq_true.2 fun x hx => ?_)).symm
  obtain ⟨k, hk, rfl⟩ := List.getElem_of_mem hx
  have := hb k hk
  rw [getD_at hk] at this
  exact decide_eq_true this
theorem WOk.isW {p : Int} {xs : List Int} (h : WOk p xs) : isW 10000 p xs = true :=
  isW_any h.p6 h.len h.zero fun t _ => by have := h.at t; unfold atF at this; omega
theorem WOk.len64 {p : Int} {xs : List Int} (h : WOk p xs) : 2 ≤ xs.length ∧ xs.length ≤ 64 := by
  obtain ⟨e, h2, h3⟩ := pow_nat h.p6
  rw [h.len]; exact ⟨h2, h3⟩
theorem WOk.div_at {p : Int} {xs : List Int} (h : WOk p xs) {t : Nat} (ht : t < xs.length) : (allW subW xs p.toNat).getD t 0 = allS (atF xs) p.toNat t := by
  have := h.len64
  have hp := h.p6
  exact allW_sub (m := 36) (by omega) (by decide) (fun t _ => h.at t) p.toNat (by omega) t ht
theorem WOk.div_bnd {p : Int} {xs : List Int} (h : WOk p xs) (t : Nat) : -2304 ≤ (allW subW xs p.toNat).getD t 0 ∧ (allW subW xs p.toNat).getD t 0 ≤ 2304 := by
  have h1 := h.len64
  have hp := h.p6
  by_cases c : t < xs.length
  · rw [h.div_at c]
    have h2 := allS_bnd (m := 36) (fun t _ => h.at t) p.toNat t (by omega)
    have h3 := (pow6 (k := p.toNat) (by omega)).1
    omega
  · rw [List.getD_eq_getElem?_getD, List.getElem?_eq_none (by rw [allW_len]; omega)]
    decide
theorem ext_getD {a b : List Int} (hl : a.length = b.length) (h : ∀ t, t < a.length → a.getD t 0 = b.getD t 0) : a = b := by
  apply List.ext_getElem hl
  intro i h1 h2
  have := h i h1
  rwa [getD_at h1, getD_at h2] at this
theorem WOk.back {p : Int} {xs : List Int} (h : WOk p xs) : allW addW (allW subW xs p.toNat) p.toNat = xs := by
  have h1 := h.len64
  have hp := h.p6
  have hl : (allW subW xs p.toNat).length = xs.length := allW_len _
  refine ext_getD (by rw [allW_len, hl]) fun t ht => ?_
  rw [allW_len, hl] at ht
  rw [allW_add (m := 2304) (by omega) (by decide) (fun t _ => h.div_bnd t) p.toNat (by omega) t (by omega)]
  rw [allA_le (f := atF (allW subW xs p.toNat)) p.toNat t (g := allS (atF xs) p.toNat) fun u hu => h.div_at (by omega), allAS p.toNat (by omega) t (by omega)]; rfl
theorem totS_congr {f g : Nat → Int} {s : Nat} : ∀ n, (∀ t, t < n → f t = g t) → totS f s n = totS g s n
  | 0, _ => rfl
  | n + 1, h => by rw [totS, totS, totS_congr n fun t ht => h t (by omega), h n (by omega)]
theorem WOk.total {p : Int} {xs : List Int} (h : WOk p xs) {s : Nat} (hs : s < xs.length) : totS (atF (allW subW xs p.toNat)) s xs.length = xs.getD s 0 := by
  have hp := h.p6
  rw [totS_congr (f := atF (allW subW xs p.toNat)) xs.length (g := allS (atF xs) p.toNat) fun t ht => h.div_at ht]
  rw [h.len] at hs ⊢
  exact tot_back (by omega) hs
theorem mapR_at {f : Nat → Int} {p : Int} {s : Nat} (hs : s < 2 ^ p.toNat) : (mapR f p).getD s 0 = f s := by
  rw [getD_at (by rw [mapR_len]; exact hs)]
  simp
theorem oth_two {p : Int} {xs : List Int} (h : WOk p xs) {s : Nat} (hs : s < xs.length) : othF (mapR (othF xs) p) s = xs.getD s 0 := by
  have h1 := h.len64
  have hl := h.len
  rw [othF, mapR_len, mapR_at (by omega), mapR_at (by omega), othF, othF, hl]
  rw [show 2 ^ p.toNat - 1 - (2 ^ p.toNat - 1) = 0 by omega, show 2 ^ p.toNat - 1 - (2 ^ p.toNat - 1 - s) = s by omega, h.zero]
  omega
theorem WOk.twice {p : Int} {xs : List Int} (h : WOk p xs) : mapR (othF (mapR (othF xs) p)) p = xs := by
  refine ext_getD (by rw [mapR_len, h.len]) fun t ht => ?_
  rw [mapR_len] at ht
  rw [mapR_at ht, oth_two h (by rw [h.len]; exact ht)]
theorem WOk.out {p q : Int} {xs : List Int} (h : WOk p xs) (hp : 2 ≤ p) (hq : 0 ≤ q ∧ q < p) : (Am.isW 10000 p xs && decide (0 ≤ q ∧ q ≤ p - 1) && decide (2 ≤ p) && Am.isW 10000 (p - 1) (mapR (outF xs q) (p - 1))) = true := by
  have hp6 := h.p6
  rw [h.isW, decide_eq_true (show 0 ≤ q ∧ q ≤ p - 1 by omega), decide_eq_true hp, mapR_isW (by omega) (by
    have e : posO q.toNat 0 = 0 := by simp [posO, andn]
    unfold outF; rw [e]; exact h.zero) fun s => by have := h.at (posO q.toNat s); unfold atF at this; unfold outF; omega]; rfl
end Go.Am

namespace Go.Am
set_option linter.unusedSimpArgs false
set_option linter.unusedVariables false
/-! ## Orders of all rooms -/
structure PermN (n : Nat) (g : List Int) : Prop where
  len : g.length = n
  bnd : ∀ i, i < n → 0 ≤ g.getD i 0 ∧ g.getD i 0 < (n : Int)
  inj : ∀ i j, i < n → j < n → g.getD i 0 = g.getD j 0 → i = j
def tau (a b k : Nat) : Nat := if b = k then a else if a = k then b else k
def sw (g : List Int) (a b : Nat) : List Int := (g.set a (g.getD b 0)).set b (g.getD a 0)
theorem sw_at {g : List Int} {a b k : Nat} (ha : a < g.length) (hb : b < g.length) : (sw g a b).getD k 0 = g.getD (tau a b k) 0 := by
  unfold sw tau
  rw [getD_set (by rw [List.length_set]; exact hb), getD_set ha]
  by_cases h1 : b = k
  · rw [if_pos h1, if_pos h1]
  · rw [if_neg h1, if_neg h1]
    by_cases h2 : a = k
    · rw [if_pos h2, if_pos h2]
    · rw [if_neg h2, if_neg h2]
theorem tau_lt {a b k n : Nat} (ha : a < n) (hb : b < n) (hk : k < n) : tau a b k < n := by
  unfold tau; split
  · exact ha
  · split
    · exact hb
    · exact hk
theorem tau_inj {a b i j : Nat} (h : tau a b i = tau a b j) : i = j := by
  unfold tau at h
  repeat' split at h
  all_goals omega
theorem PermN.sw {n : Nat} {g : List Int} (p : PermN n g) {a b : Nat} (ha : a < n) (hb : b < n) : PermN n (sw g a b) := by
  have hl := p.len
  refine ⟨by simp [Am.sw, p.len], fun i hi => ?_, fun i j hi hj e => ?_⟩
  · rw [sw_at (by omega) (by omega)]; exact p.bnd _ (tau_lt ha hb hi)
  · rw [sw_at (by omega) (by omega), sw_at (by omega) (by omega)] at e
    exact tau_inj (p.inj _ _ (tau_lt ha hb hi) (tau_lt ha hb hj) e)
/-! ## The greatest sum -/
theorem runB_le {f : List Int → Int} : ∀ (ls : List (List Int)) (st : BSt), (st.1 ≠ none → st.2 ≤ (runB f st ls).2) ∧ ∀ l ∈ ls, f l ≤ (runB f st ls).2
  | [], st => ⟨fun _ => Int.le_refl _, fun l hl => by cases hl⟩
  | a :: ls, (o, m) => by
    have e : runB f (o, m) (a :: ls) = runB f (stepB f (o, m) a) ls := rfl
    rw [e]
    obtain ⟨h1, h2⟩ := runB_le (f := f) ls (stepB f (o, m) a)
    have h3 : (stepB f (o, m) a).1 ≠ none ∧ f a ≤ (stepB f (o, m) a).2 ∧ (o ≠ none → m ≤ (stepB f (o, m) a).2) := by
      cases o with
      | none => exact ⟨by simp [stepB], Int.le_refl _, fun h => absurd rfl h⟩
      | some c =>
        by_cases hc : m < f a
        · rw [stepB_yes hc]; exact ⟨by simp, Int.le_refl _, fun _ => Int.le_of_lt hc⟩
        · rw [stepB_no hc]; exact ⟨by simp, by show f a ≤ m; omega, fun _ => Int.le_refl _⟩
    have h4 := h1 h3.1
    refine ⟨fun ho => Int.le_trans (h3.2.2 ho) h4, fun l hl => ?_⟩
    rcases List.mem_cons.1 hl with rfl | hl
    · exact Int.le_trans h3.2.1 h4
    · exact h2 l hl
theorem permR_mem {n : Nat} : ∀ (d : Nat) (t u : List Int), u.length = d → (∀ i, i < d → 0 ≤ u.getD i 0 ∧ u.getD i 0 < (n : Int)) → (∀ i, i < d → (t ++ u.take i).contains (u.getD i 0) = false) → t ++ u ∈ permR n d t
  | 0, t, u, hl, _, _ => by
    have : u = [] := List.length_eq_zero_iff.1 hl
    subst this
    simp [permR]
  | d + 1, t, [], hl, _, _ => by simp at hl
  | d + 1, t, k :: u, hl, hb, hf => by
    have hk := hb 0 (by omega)
    have hc := hf 0 (by omega)
    simp only [List.getD_cons_zero, List.take_zero, List.append_nil] at hk hc
    obtain ⟨m, rfl⟩ := Int.eq_ofNat_of_zero_le hk.1
    rw [permR, List.mem_flatMap]
    refine ⟨m, List.mem_range.2 (by omega), ?_⟩
    rw [if_neg (by rw [hc]; decide)]
    have ih := permR_mem (n := n) d (t ++ [(m : Int)]) u (by simpa using hl) (fun i hi => by have := hb (i + 1) (by omega); simpa using this) (fun i hi => by
      have := hf (i + 1) (by omega)
      rw [List.take_succ_cons, List.getD_cons_succ] at this
      rwa [List.append_assoc, List.singleton_append])
    rwa [List.append_assoc, List.singleton_append] at ih
theorem PermN.mem {n : Nat} {g : List Int} (p : PermN n g) : g ∈ permR n n [] := by
  have h := permR_mem (n := n) n [] g p.len p.bnd fun i hi => by
    rw [List.nil_append, ← Bool.not_eq_true, List.contains_iff_mem]
    intro hm
    obtain ⟨k, hk, e⟩ := List.getElem_of_mem hm
    have hki : k < i := by rw [List.length_take] at hk; omega
    rw [List.getElem_take] at e
    have hl := p.len
    have := p.inj k i (by omega) hi (by rw [getD_at (by omega)]; exact e)
    omega
  rwa [List.nil_append] at h
theorem rm_most {xs : List Int} {n : Nat} (hb : xs.all (fun x => decide (0 ≤ x ∧ x ≤ 1000)) = true) {g : List Int} (p : PermN n g) : sumW6 xs n g n ≤ sumW6 xs n (rmL xs n) n := by
  have h := (runB_le (f := fP xs n) (permR n n []) (none, 0)).2 g p.mem
  have e := best_end hb (n := n)
  rw [Nat.sub_zero] at e
  rw [e] at h
  exact h
/-- Chosen rooms are free ones. -/
theorem rooms_free {xs : List Int} {n : Nat} (hb : xs.all (fun x => decide (0 ≤ x ∧ x ≤ 1000)) = true) : ∀ (d : Nat) (t : List Int), t.length + d = n → ∀ i, i < d → (t ++ (roomsR xs n d t).1.take i).contains ((roomsR xs n d t).1.getD i 0) = false
  | 0, _, _, i, hi => absurd hi (by omega)
  | d + 1, t, ht, i, hi => by
    have key : ∀ k, k ≤ n → (roomsK xs n d t k).1 = [] ∨ ∀ i, i < d + 1 → (t ++ (roomsK xs n d t k).1.take i).contains ((roomsK xs n d t k).1.getD i 0) = false := by
      intro k
      induction k with
      | zero => intro _; exact .inl rfl
      | succ k ih =>
        intro hk
        rw [roomsK_step, stepR]
        split
        · exact ih (by omega)
        · rename_i hc
          split
          · refine .inr fun i hi => ?_
            cases i with
            | zero =>
              simp only [List.take_zero, List.append_nil, List.getD_cons_zero]
              simpa using hc
            | succ i =>
              have h2 := rooms_free hb (n := n) d (t ++ [(k : Int)]) (by simp; omega) i (by omega)
              rw [List.append_assoc, List.singleton_append] at h2
              simpa using h2
          · exact ih (by omega)
    rw [roomsR_end]
    rcases key n (Nat.le_refl _) with h | h
    · have := rooms_len hb (n := n) (d := d + 1) (t := t) ht
      rw [roomsR_end, h] at this
      simp at this
    · exact h i hi
theorem rm_perm {xs : List Int} {n : Nat} (hb : xs.all (fun x => decide (0 ≤ x ∧ x ≤ 1000)) = true) : PermN n (rmL xs n) := by
  have hl := rmL_len hb (n := n)
  have hf := rooms_free hb (n := n) n [] (by simp)
  have lt : ∀ i j, i < j → j < n → (rmL xs n).getD i 0 ≠ (rmL xs n).getD j 0 := fun i j hij hj e => by
    have h1 := hf j hj
    rw [List.nil_append, ← Bool.not_eq_true, List.contains_iff_mem] at h1
    refine h1 ?_
    show (rmL xs n).getD j 0 ∈ (rmL xs n).take j
    rw [← e, getD_at (by omega)]
    refine List.mem_of_getElem? (i := i) ?_
    rw [List.getElem?_take, if_pos hij, List.getElem?_eq_getElem]
  refine ⟨hl, fun i hi => rmL_bnd _ (by rw [getD_at (by omega)]; exact List.getElem_mem _), fun i j hi hj e => ?_⟩
  by_cases h1 : i < j
  · exact absurd e (lt i j h1 hj)
  · by_cases h2 : j < i
    · exact absurd e.symm (lt j i h2 hi)
    · omega
/-! ## Rings do not pay -/
section
variable {xs : List Int} {n : Nat}
/-- What player i has of the room of player j. -/
def wR (xs : List Int) (n i j : Nat) : Int := wV xs n i ((rmL xs n).getD j 0)
/-- A way through players, its end first: each gets the room of the one before it. -/
def wayW (xs : List Int) (n : Nat) : List Nat → Int
  | [] => 0
  | [_] => 0
  | a :: b :: l => (wR xs n b a - wR xs n b b) + wayW xs n (b :: l)
theorem wayW_cut : ∀ (a : List Nat) (y : Nat) (b : List Nat), wayW xs n (a ++ y :: b) = wayW xs n (a ++ [y]) + wayW xs n (y :: b)
  | [], y, b => by simp [wayW]
  | [x], y, b => by simp [wayW]
  | x :: z :: a, y, b => by
    have := wayW_cut (z :: a) y b
    simp only [List.cons_append] at this ⊢
    rw [wayW, this, wayW]; omega
theorem sum_set : ∀ (s : Nat) {g : List Int} {u : Nat} {y : Int}, u < g.length → s ≤ g.length → sumW6 xs n (g.set u y) s = sumW6 xs n g s + if u < s then wV xs n u y - wV xs n u (g.getD u 0) else 0
  | 0, _, _, _, _, _ => by simp [sumW6]
  | s + 1, g, u, y, hu, hs => by
    rw [sumW6, sumW6, sum_set s hu (by omega), getD_set hu]
    by_cases h1 : u = s
    · subst h1
      rw [if_pos rfl, if_neg (by omega), if_pos (by omega)]; omega
    · rw [if_neg h1]
      by_cases h2 : u < s
      · rw [if_pos h2, if_pos (by omega)]; omega
      · rw [if_neg h2, if_neg (by omega)]; omega
theorem sum_sw {g : List Int} {a b : Nat} (hl : g.length = n) (ha : a < n) (hb : b < n) (hne : a ≠ b) :
    sumW6 xs n (sw g a b) n = sumW6 xs n g n - wV xs n a (g.getD a 0) - wV xs n b (g.getD b 0) + wV xs n a (g.getD b 0) + wV xs n b (g.getD a 0) := by
  unfold sw
  rw [sum_set n (by rw [List.length_set]; omega) (by rw [List.length_set]; omega), if_pos hb, sum_set n (by omega) (by omega), if_pos ha, getD_set (by omega), if_neg hne]
  omega
theorem ring_sw {x : Nat} (hx : x < n) : ∀ (l : List Nat) (prev : Nat) (g : List Int), PermN n g → g.getD x 0 = (rmL xs n).getD prev 0 → (∀ v ∈ l, v < n ∧ v ≠ x ∧ g.getD v 0 = (rmL xs n).getD v 0) → l.Nodup →
    ∃ g', PermN n g' ∧ sumW6 xs n g' n = sumW6 xs n g n + wayW xs n (prev :: (l ++ [x])) + wR xs n x x - wR xs n x prev
  | [], prev, g, p, h, _, _ => ⟨g, p, by simp only [List.nil_append, wayW]; omega⟩
  | v :: l, prev, g, p, h, hv, hd => by
    obtain ⟨h1, h2, h3⟩ := hv v (by simp)
    have hc := List.nodup_cons.1 hd
    have hl := p.len
    obtain ⟨g', p', e⟩ := ring_sw hx l v (sw g x v) (p.sw hx h1) (by rw [sw_at (by omega) (by omega), tau, if_neg h2, if_pos rfl, h3]) (fun u hu => by
      obtain ⟨k1, k2, k3⟩ := hv u (by simp [hu])
      refine ⟨k1, k2, ?_⟩
      rw [sw_at (by omega) (by omega), tau, if_neg (fun e => hc.1 (by rw [e]; exact hu)), if_neg (fun e => k2 e.symm)]; exact k3) hc.2
    refine ⟨g', p', ?_⟩
    rw [e, sum_sw hl hx h1 (Ne.symm h2), h, h3]
    simp only [List.cons_append, wayW]
    unfold wR
    omega
theorem ring_simple (hb : xs.all (fun x => decide (0 ≤ x ∧ x ≤ 1000)) = true) {x : Nat} {l : List Nat} (hx : x < n) (hl : ∀ v ∈ l, v < n) (hd : (x :: l).Nodup) : wayW xs n (x :: (l ++ [x])) ≤ 0 := by
  have hc := List.nodup_cons.1 hd
  obtain ⟨g', p', e⟩ := ring_sw (xs := xs) hx l x (rmL xs n) (rm_perm hb) rfl (fun v hv => ⟨hl v hv, fun e => hc.1 (by rw [← e]; exact hv), rfl⟩) hc.2
  have := rm_most hb p'
  omega
theorem dup_split : ∀ (l : List Nat), ¬ l.Nodup → ∃ a y b c, l = a ++ y :: (b ++ y :: c)
  | [], h => absurd List.nodup_nil h
  | x :: l, h => by
    by_cases hm : x ∈ l
    · obtain ⟨b, c, e⟩ := List.append_of_mem hm
      exact ⟨[], x, b, c, by rw [e]; rfl⟩
    · have h2 : ¬ l.Nodup := fun hn => h (List.nodup_cons.2 ⟨hm, hn⟩)
      obtain ⟨a, y, b, c, e⟩ := dup_split l h2
      exact ⟨x :: a, y, b, c, by rw [e]; rfl⟩
theorem ring_all (hb : xs.all (fun x => decide (0 ≤ x ∧ x ≤ 1000)) = true) : ∀ (m : Nat) (x : Nat) (l : List Nat), l.length ≤ m → x < n → (∀ v ∈ l, v < n) → wayW xs n (x :: (l ++ [x])) ≤ 0 := by
  intro m
  induction m with
  | zero =>
    intro x l hm hx _
    have : l = [] := List.length_eq_zero_iff.1 (by omega)
    subst this
    exact ring_simple hb hx (fun v hv => by cases hv) (by simp)
  | succ m ih =>
    intro x l hm hx hl
    by_cases hd : (x :: l).Nodup
    · exact ring_simple hb hx hl hd
    · obtain ⟨a, y, b, c, e⟩ := dup_split _ hd
      cases a with
      | nil =>
        simp only [List.nil_append, List.cons.injEq] at e
        obtain ⟨rfl, rfl⟩ := e
        simp only [List.length_append, List.length_cons] at hm
        have h1 := ih x b (by omega) hx fun v hv => hl v (by simp [hv])
        have h2 := ih x c (by omega) hx fun v hv => hl v (by simp [hv])
        have e2 : x :: ((b ++ x :: c) ++ [x]) = (x :: b) ++ x :: (c ++ [x]) := by simp
        rw [e2, wayW_cut, List.cons_append]
        omega
      | cons x' a =>
        simp only [List.cons_append, List.cons.injEq] at e
        obtain ⟨rfl, rfl⟩ := e
        have hlen : (a ++ y :: (b ++ y :: c)).length = a.length + b.length + c.length + 2 := by simp; omega
        have hy := hl y (by simp)
        have h1 := ih y b (by omega) hy fun v hv => hl v (by simp [hv])
        have h2 := ih x (a ++ y :: c) (by simp; omega) hx fun v hv => hl v (by
          simp only [List.mem_append, List.mem_cons] at hv ⊢
          rcases hv with h | h | h
          · exact .inl h
          · exact .inr (.inl h)
          · exact .inr (.inr (.inr (.inr h))))
        have e2 : x :: ((a ++ y :: (b ++ y :: c)) ++ [x]) = (x :: a) ++ y :: (b ++ y :: (c ++ [x])) := by simp
        have e3 : x :: ((a ++ y :: c) ++ [x]) = (x :: a) ++ y :: (c ++ [x]) := by simp
        rw [e3, wayW_cut] at h2
        rw [e2, wayW_cut, show y :: (b ++ y :: (c ++ [x])) = (y :: b) ++ y :: (c ++ [x]) by simp, wayW_cut (y :: b)]
        simp only [List.cons_append] at h1 h2 ⊢
        omega
/-- A way can be cut down to n players and pays as much. -/
theorem way_short (hb : xs.all (fun x => decide (0 ≤ x ∧ x ≤ 1000)) = true) : ∀ (m : Nat) (x : Nat) (l : List Nat), l.length ≤ m → x < n → (∀ v ∈ l, v < n) → ∃ l', (∀ v ∈ l', v < n) ∧ l'.length + 1 ≤ n ∧ wayW xs n (x :: l) ≤ wayW xs n (x :: l') := by
  intro m
  induction m with
  | zero =>
    intro x l hm hx _
    have : l = [] := List.length_eq_zero_iff.1 (by omega)
    subst this
    exact ⟨[], fun v hv => (by cases hv), by simp; omega, Int.le_refl _⟩
  | succ m ih =>
    intro x l hm hx hl
    by_cases hd : (x :: l).Nodup
    · refine ⟨l, hl, ?_, Int.le_refl _⟩
      have h1 := pigeon n ((x :: l).map fun (v : Nat) => (v : Int)) (fun z hz => by
        simp only [List.mem_map] at hz
        obtain ⟨v, hv, rfl⟩ := hz
        have : v < n := by
          rcases List.mem_cons.1 hv with rfl | h
          · exact hx
          · exact hl v h
        omega) (by
        unfold List.Nodup at hd ⊢
        rw [List.pairwise_map]
        exact hd.imp fun h e => h (by omega))
      simpa using h1
    · obtain ⟨a, y, b, c, e⟩ := dup_split _ hd
      cases a with
      | nil =>
        simp only [List.nil_append, List.cons.injEq] at e
        obtain ⟨rfl, rfl⟩ := e
        simp only [List.length_append, List.length_cons] at hm
        obtain ⟨l', k1, k2, k3⟩ := ih x c (by omega) hx fun v hv => hl v (by simp [hv])
        refine ⟨l', k1, k2, Int.le_trans ?_ k3⟩
        have h1 := ring_all hb b.length x b (Nat.le_refl _) hx fun v hv => hl v (by simp [hv])
        rw [show x :: (b ++ x :: c) = (x :: b) ++ x :: c by simp, wayW_cut, List.cons_append]
        omega
      | cons x' a =>
        simp only [List.cons_append, List.cons.injEq] at e
        obtain ⟨rfl, rfl⟩ := e
        have hlen : (a ++ y :: (b ++ y :: c)).length = a.length + b.length + c.length + 2 := by simp; omega
        have hy := hl y (by simp)
        obtain ⟨l', k1, k2, k3⟩ := ih x (a ++ y :: c) (by simp; omega) hx fun v hv => hl v (by
          simp only [List.mem_append, List.mem_cons] at hv ⊢
          rcases hv with h | h | h
          · exact .inl h
          · exact .inr (.inl h)
          · exact .inr (.inr (.inr (.inr h))))
        refine ⟨l', k1, k2, Int.le_trans ?_ k3⟩
        have h1 := ring_all hb b.length y b (Nat.le_refl _) hy fun v hv => hl v (by simp [hv])
        rw [show x :: (a ++ y :: (b ++ y :: c)) = (x :: a) ++ y :: (b ++ y :: c) by simp, wayW_cut, show x :: (a ++ y :: c) = (x :: a) ++ y :: c by simp, wayW_cut (x :: a) y c, show y :: (b ++ y :: c) = (y :: b) ++ y :: c by simp, wayW_cut (y :: b)]
        simp only [List.cons_append] at h1 ⊢
        omega
end
end Go.Am

namespace Go.Am
set_option linter.unusedSimpArgs false
set_option linter.unusedVariables false
section
variable {xs : List Int} {n : Nat}
def payR (xs : List Int) (n : Nat) (j : Int) : List Nat → Int
  | [] => 0
  | i :: l => (wV xs n i j - wR xs n i i) + wayW xs n (i :: l)
theorem wR_bnd (hb : xs.all (fun x => decide (0 ≤ x ∧ x ≤ 1000)) = true) (i j : Nat) : 0 ≤ wR xs n i j ∧ wR xs n i j ≤ 1000 := wV_bnd hb
theorem wayW_bnd (hb : xs.all (fun x => decide (0 ≤ x ∧ x ≤ 1000)) = true) : ∀ l : List Nat, wayW xs n l ≤ 1000 * l.length
  | [] => by simp [wayW]
  | [_] => by simp [wayW]
  | a :: b :: l => by
    have h1 := wR_bnd (n := n) hb b a
    have h2 := wR_bnd (n := n) hb b b
    have h3 := wayW_bnd hb (b :: l)
    rw [wayW]
    simp only [List.length_cons] at h3 ⊢
    omega
structure InvR (xs : List Int) (n : Nat) (r : List Int) : Prop where
  len : r.length = n
  nn : ∀ j, j < n → 0 ≤ r.getD j 0
  att : ∀ j, j < n → ∃ l, (∀ i ∈ l, i < n) ∧ r.getD j 0 = payR xs n j l
theorem InvR.bnd {r : List Int} (h : InvR xs n r) (ok : RentOk xs n) {j : Nat} (hj : j < n) : r.getD j 0 ≤ 7000 := by
  obtain ⟨l, h1, h2⟩ := h.att j hj
  have hn := ok.n6
  rw [h2]
  cases l with
  | nil => simp [payR]
  | cons i l =>
    obtain ⟨l', k1, k2, k3⟩ := way_short ok.bnd l.length i l (Nat.le_refl _) (h1 i (by simp)) fun v hv => h1 v (by simp [hv])
    have h3 := wayW_bnd (n := n) ok.bnd (i :: l')
    have h4 := wV_bnd ok.bnd (n := n) (i := i) (t := j)
    have h5 := wR_bnd (n := n) ok.bnd i i
    rw [payR]
    simp only [List.length_cons] at h3
    omega
/-! ## Prices -/
end
end Go.Am

namespace Go.Am
set_option linter.unusedSimpArgs false
set_option linter.unusedVariables false
def v12 (x : Int) : Bool := decide (0 ≤ x ∧ x ≤ 11)
structure VOk (n : Nat) (xs : List Int) : Prop where
  n1 : 1 ≤ n
  n6 : n ≤ 6
  len : (xs.length : Int) = (n : Int) * (n : Int)
  small : xs.all v12 = true
theorem v12_app {L : List Int} {x : Int} (h : L.all v12 = true) (hx : 0 ≤ x ∧ x ≤ 11) : (L ++ [x]).all v12 = true := by
  rw [List.all_append, h, List.all_cons, List.all_nil, v12, decide_eq_true hx]; rfl
theorem VOk.all {n : Nat} {xs : List Int} (h : VOk n xs) : xs.all (fun x => decide (0 ≤ x ∧ x ≤ 1000)) = true := by
  refine List.all_eq_true.2 fun x hx => decide_eq_true ?_
  have := of_decide_eq_true (List.all_eq_true.1 h.small x hx)
  omega
theorem VOk.ok {n : Nat} {xs : List Int} (h : VOk n xs) : RentOk xs n := ⟨h.n1, h.n6, h.len, h.all⟩
theorem VOk.valid {n : Nat} {xs : List Int} (h : VOk n xs) : validV n n xs = true := by
  have h1 := h.n1
  have h6 := h.n6
  unfold validV
  rw [h.all, decide_eq_true (show 1 ≤ (n : Int) ∧ (n : Int) ≤ 6 by omega), decide_eq_true (show 1 ≤ (n : Int) ∧ (n : Int) ≤ 8 by omega), decide_eq_true h.len]; rfl
section
variable {n : Nat} {xs : List Int}
/-! ## Another order of rooms -/
theorem Ret.valEq {P : Program} {f : FuncId} {vs : List Value} {h h' : AHeap} {v w : Value} (r : Ret P f vs h v h') (e : v = w) : Ret P f vs h w h' := by subst e; exact r
end
end Go.Am
