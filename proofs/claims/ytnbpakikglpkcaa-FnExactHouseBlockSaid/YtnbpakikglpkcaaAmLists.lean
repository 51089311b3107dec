/-
  The abstract heap: lists of lists of integers. General: no program is named.
-/
import Derived.Test.YtnbpakikglpkcaaAmLib2
namespace Go.Am
set_option linter.unusedSimpArgs false
set_option linter.unusedVariables false

/-- A slice value that reads as lists of integers. -/
def Lists (h : AHeap) (v : Value) (xss : List (List Int)) : Prop :=
  (v = .slice none 0 0 ∧ xss = []) ∨
  ∃ k off ver cap o, v = .slice (some ⟨k, off, some ver⟩) xss.length cap ∧ h[k]? = some o ∧ o.cells.length = ver ∧ o.esz = 1 ∧ xss.length ≤ cap ∧ off + cap = ver ∧
    ∀ (i : Nat) (xs : List Int), xss[i]? = some xs → ∃ u, o.cells[off + i]? = some u ∧ Ints h u xs

theorem lists_nil {h : AHeap} : Lists h (.slice none 0 0) [] := .inl ⟨rfl, rfl⟩

theorem Lists.app {h : AHeap} {v : Value} {xss : List (List Int)} (hv : Lists h v xss) (g : List AObj) : Lists (h ++ g) v xss := by
  rcases hv with hv | ⟨k, off, ver, cap, o, h1, h2, h3, h4, h5, h6, h7⟩
  · exact .inl hv
  · exact .inr ⟨k, off, ver, cap, o, h1, lk_prev h2, h3, h4, h5, h6, fun i xs hi => by
      obtain ⟨u, g1, g2⟩ := h7 i xs hi
      exact ⟨u, g1, g2.app g⟩⟩

theorem Lists.within {h : AHeap} {v : Value} {xss : List (List Int)} (hv : Lists h v xss) : Within h.length v := by
  rcases hv with ⟨rfl, _⟩ | ⟨k, off, ver, cap, o, rfl, h2, _⟩
  · exact .prim rfl
  · exact .slice (List.getElem?_eq_some_iff.1 h2).1

def rowAt (xss : List (List Int)) (i : Nat) : List Int := xss.getD i []
theorem rowAt_some {xss : List (List Int)} {i : Nat} (h : i < xss.length) : xss[i]? = some (rowAt xss i) := by
  simp [rowAt, List.getD_eq_getElem?_getD, List.getElem?_eq_getElem h]
theorem rowAt_mem {xss : List (List Int)} {i : Nat} (h : i < xss.length) : rowAt xss i ∈ xss := List.mem_of_getElem? (rowAt_some h)

section
variable {P : Program} {K : Value → AHeap → Prop} {env : Env} {h : AHeap} {dst : Option Tmp} {ty : TypeId} {pos : String} {after : Array Edge} {guard : Option (Nat × Bool)}

theorem o_lenL {t e : TypeId} {x : Operand} {v : Value} {xss : List (List Int)} (hu : P.underlying t = some (.slice e)) (hx : aeval env x = v) (hv : Lists h v xss) (hK : K (i64 xss.length) h) :
    AOp P ⟨dst, .call { callee := .builtin .len, args := #[x], argTypes := #[t] }, ty, pos, after, guard⟩ K env h := by
  rcases hv with ⟨rfl, rfl⟩ | ⟨k, off, ver, cap, o, rfl, h2, h3, h4, h5, h6, h7⟩
  · exact aop_len hu hx (fun ad ha => by cases ha) hK
  · exact aop_len hu hx (fun ad ha => by cases ha; exact ⟨k, off, ver, o, rfl, h2, h3⟩) hK

theorem o_indexL {t e : TypeId} {x y : Operand} {v z : Value} {b : Nat} {xss : List (List Int)} {kd : IntKind} {i : Int} (hu : P.underlying t = some (.slice e)) (hi : InfoIs P e z 1 b)
    (hx : aeval env x = v) (hv : Lists h v xss) (hy : aeval env y = .int kd i) (h0 : 0 ≤ i) (hlt : i < xss.length) (hK : ∀ p, IsElem v i.toNat p → K p h) : AOp P ⟨dst, .indexAddr t x y, ty, pos, after, guard⟩ K env h := by
  obtain ⟨inf, g1, _, g3, _⟩ := hi.get
  rcases hv with ⟨rfl, rfl⟩ | ⟨k, off, ver, cap, o, rfl, h2, h3, h4, h5, h6, h7⟩
  · simp at hlt; omega
  · refine aop_indexAddr hu g1 (by rw [g3, h4]) hx h2 h3 hy h0 hlt (by omega) ?_
    rw [h4, Nat.mul_one]
    exact hK _ rfl

end

theorem IsElem.withinL {h : AHeap} {v p : Value} {xss : List (List Int)} {i : Nat} (hv : Lists h v xss) (hp : IsElem v i p) : Within h.length p := by
  rcases hv with ⟨rfl, _⟩ | ⟨k, off, ver, cap, o, rfl, h2, _⟩
  · exact hp.elim
  · have : p = .pointer (some ⟨k, off + i, some ver⟩) := hp
    rw [this]
    exact .ptr (List.getElem?_eq_some_iff.1 h2).1

section
variable {P : Program} {ops : Array Oper} {KE : Env → AHeap → Prop} {os : List Oper} {env : Env} {h : AHeap} {d : Option Tmp} {ty : TypeId} {pos : String} {af : Array Edge} {g : Option (Nat × Bool)}
theorem d_indexL {t e : TypeId} {x y : Operand} {v z : Value} {b : Nat} {xss : List (List Int)} {kd : IntKind} {i : Int} (hw : wantedA ops env ⟨d, .indexAddr t x y, ty, pos, af, g⟩ = some true) (hu : P.underlying t = some (.slice e)) (hi : InfoIs P e z 1 b)
    (hx : aeval env x = v) (hv : Lists h v xss) (hy : aeval env y = .int kd i) (h0 : 0 ≤ i) (hlt : i < xss.length) (hK : ∀ p, IsElem v i.toNat p → DRun P ops KE os (env.put d p) h) : DRun P ops KE (⟨d, .indexAddr t x y, ty, pos, af, g⟩ :: os) env h := by
  have ⟨p, hp⟩ : ∃ p, IsElem v i.toNat p := by
    rcases hv with ⟨rfl, rfl⟩ | ⟨k, off, ver, cap, o, rfl, _⟩
    · simp at hlt; omega
    · exact ⟨_, rfl⟩
  refine d_do hw (o_indexL hu hi hx hv hy h0 hlt fun p' hp' => ⟨?_, rfl⟩) (hp.withinL hv) (hK p hp)
  rcases hv with ⟨rfl, rfl⟩ | ⟨k, off, ver, cap, o, rfl, _⟩
  · simp at hlt; omega
  · exact hp'.trans hp.symm
end

/-! ## Own lists of lists -/

/-- A block of one's own with any values. -/
def vls (us : List Value) : AObj := ⟨us, true, 1⟩

/-- Slices over rows that lie one behind the other. -/
def vrows : Nat → List (List Int) → List Value
  | _, [] => []
  | k, x :: xs => sl k x.length :: vrows (k + 1) xs
theorem vrows_len : ∀ {k : Nat} {xss : List (List Int)}, (vrows k xss).length = xss.length
  | _, [] => rfl
  | k, x :: xs => by simp [vrows, vrows_len (k := k + 1) (xss := xs)]
theorem vrows_app : ∀ {k : Nat} {a b : List (List Int)}, vrows k (a ++ b) = vrows k a ++ vrows (k + a.length) b
  | k, [], b => by simp [vrows]
  | k, x :: a, b => by simp [vrows, vrows_app (k := k + 1) (a := a) (b := b), Nat.add_assoc, Nat.add_comm 1]
theorem vrows_get : ∀ {k i : Nat} {xss : List (List Int)}, i < xss.length → (vrows k xss)[i]? = some (sl (k + i) (rowAt xss i).length)
  | k, 0, x :: xs, _ => rfl
  | k, i + 1, x :: xs, h => by
    have := vrows_get (k := k + 1) (i := i) (xss := xs) (by simpa using h)
    rw [vrows, List.getElem?_cons_succ, this]
    simp [rowAt, Nat.add_assoc, Nat.add_comm 1]
theorem vrows_congr : ∀ {k : Nat} {a b : List (List Int)}, a.map List.length = b.map List.length → vrows k a = vrows k b
  | k, [], [], _ => rfl
  | k, [], _ :: _, h => by simp at h
  | k, _ :: _, [], h => by simp at h
  | k, x :: a, y :: b, h => by
    simp only [List.map_cons, List.cons.injEq] at h
    rw [vrows, vrows, h.1, vrows_congr h.2]

/-- Lists in new memory: the outer block at k, the rows behind it. -/
def lls (k : Nat) (xss : List (List Int)) : List AObj := vls (vrows (k + 1) xss) :: xss.map lst
@[simp] theorem lls_len {k : Nat} {xss : List (List Int)} : (lls k xss).length = xss.length + 1 := by simp [lls]

theorem lls_outer {h : AHeap} {k : Nat} {xss : List (List Int)} (hk : k = h.length) : (h ++ lls k xss)[k]? = some (vls (vrows (k + 1) xss)) := by subst hk; simp [lls]
theorem lls_row {h : AHeap} {k i : Nat} {xss : List (List Int)} (hk : k = h.length) (hi : i < xss.length) : (h ++ lls k xss)[k + 1 + i]? = some (lst (rowAt xss i)) := by
  subst hk
  rw [List.getElem?_append_right (by omega), lls, show h.length + 1 + i - h.length = i + 1 by omega, List.getElem?_cons_succ, List.getElem?_map, rowAt_some hi]
  rfl
theorem lls_lists {h : AHeap} {k n : Nat} {xss : List (List Int)} (hk : k = h.length) (hn : xss.length = n) : Lists (h ++ lls k xss) (sl k n) xss := by
  subst hn
  refine .inr ⟨k, 0, _, _, _, rfl, lls_outer hk, by simp [vls, vrows_len], rfl, Nat.le_refl _, by simp, fun i xs hi => ?_⟩
  have hlt := (List.getElem?_eq_some_iff.1 hi).1
  rw [Nat.zero_add]
  refine ⟨_, vrows_get hlt, ?_⟩
  have : xs = rowAt xss i := by rw [rowAt_some hlt] at hi; exact (Option.some.inj hi).symm
  subst this
  exact Ints.own (lls_row hk hlt) rfl

theorem lls_set {h : AHeap} {k i : Nat} {xss : List (List Int)} {ys : List Int} (hk : k = h.length) (hi : i < xss.length) (hy : ys.length = (rowAt xss i).length) :
    (h ++ lls k xss).set (k + 1 + i) (lst ys) = h ++ lls k (xss.set i ys) := by
  subst hk
  rw [List.set_append_right _ _ (by omega), show h.length + 1 + i - h.length = i + 1 by omega, lls, List.set_cons_succ, lls, List.map_set]
  congr 3
  refine vrows_congr ?_
  rw [List.map_set, hy]
  have hi' : i < (xss.map List.length).length := by simpa using hi
  have : (rowAt xss i).length = (xss.map List.length)[i] := by
    have := rowAt_some hi
    rw [List.getElem?_eq_getElem hi, Option.some.injEq] at this
    rw [List.getElem_map, this]
  rw [this, List.set_getElem_self]

/-- The loop that fills lists of lists. -/
def fillL (k : Nat) (xss : List (List Int)) (n s : Nat) : List AObj := vls (vrows (k + 1) (xss.take s) ++ List.replicate (n - s) (Value.slice none 0 0)) :: (xss.take s).map lst
theorem fillL_zero {k n : Nat} {xss : List (List Int)} : fillL k xss n 0 = [vls (List.replicate n (.slice none 0 0))] := by simp [fillL, vrows]
theorem fillL_full {k n s : Nat} {xss : List (List Int)} (hn : n = xss.length) (hs : s = n) : fillL k xss n s = lls k xss := by
  subst hs; subst hn
  simp [fillL, lls]
theorem fillL_len {k n s : Nat} {xss : List (List Int)} (hs : s ≤ xss.length) : (fillL k xss n s).length = s + 1 := by
  simp [fillL]; omega
theorem take_row {xss : List (List Int)} {s : Nat} (h : s < xss.length) : xss.take (s + 1) = xss.take s ++ [rowAt xss s] := by
  rw [List.take_succ_eq_append_getElem h]
  have := rowAt_some h
  rw [List.getElem?_eq_getElem h, Option.some.injEq] at this
  rw [this]
theorem fillL_step {h : AHeap} {k k' n s m : Nat} {xss : List (List Int)} (hk : k = h.length) (hk' : k' = h.length + (fillL k xss n s).length) (hs : s < xss.length) (hn : n = xss.length) (hm : m = (rowAt xss s).length) :
    (h ++ fillL k xss n s ++ [lst (rowAt xss s)]).set k (vls ((vrows (k + 1) (xss.take s) ++ List.replicate (n - s) (Value.slice none 0 0)).set s (sl k' m))) = h ++ fillL k xss n (s + 1) := by
  subst hm
  rw [fillL_len (by omega)] at hk'
  have e1 : (vrows (k + 1) (xss.take s) ++ List.replicate (n - s) (Value.slice none 0 0)).set s (sl k' (rowAt xss s).length) = vrows (k + 1) (xss.take (s + 1)) ++ List.replicate (n - (s + 1)) (Value.slice none 0 0) := by
    have hl : (vrows (k + 1) (xss.take s)).length = s := by rw [vrows_len]; simp; omega
    rw [List.set_append_right _ _ (by omega), hl, Nat.sub_self, show n - s = (n - (s + 1)) + 1 by omega, List.replicate_succ, List.set_cons_zero, take_row hs, vrows_app]
    have : (xss.take s).length = s := by simp; omega
    rw [this]
    simp only [vrows, List.append_assoc, List.cons_append, List.nil_append]
    rw [show k + 1 + s = k' by omega]
  rw [e1]
  subst hk
  rw [List.append_assoc, List.set_append_right _ _ (Nat.le_refl _), Nat.sub_self]
  simp only [fillL, List.cons_append, List.set_cons_zero]
  rw [take_row hs, List.map_append]
  rfl

/-- The contract of a function that makes lists of lists. -/
def RetL (P : Program) (f : FuncId) (args : List Value) (h : AHeap) (xss : List (List Int)) : Prop := Ret P f args h (sl h.length xss.length) (h ++ lls h.length xss)

section
variable {P : Program} {K : Value → AHeap → Prop} {env : Env} {h : AHeap} {dst : Option Tmp} {ty : TypeId} {pos : String} {after : Array Edge} {guard : Option (Nat × Bool)}

theorem RetL.toL {f : FuncId} {vs : List Value} {xss : List (List Int)} {n : Nat} (r : RetL P f vs h xss) (hn : xss.length = n) (hK : ∀ k, k = h.length → Lists (h ++ lls k xss) (sl k n) xss → K (sl k n) (h ++ lls k xss)) : Tri P f vs h K := by
  subst hn
  exact Ret.to r (hK _ rfl (lls_lists rfl rfl))

theorem o_makeL {t e : TypeId} {x y : Operand} {b : Nat} {l : Int} {k1 k2 : IntKind} (hu : P.underlying t = some (.slice e)) (hi : InfoIs P e (.slice none 0 0) 1 b)
    (hx : aeval env x = .int k1 l) (hy : aeval env y = .int k2 l) (hb : 0 ≤ l ∧ b * l ≤ 281474976710656) (h63 : l ≤ 9223372036854775807)
    (hK : ∀ k, k = h.length → K (sl k l.toNat) (h ++ [vls (List.replicate l.toNat (.slice none 0 0))])) : AOp P ⟨dst, .makeSlice t x y, ty, pos, after, guard⟩ K env h :=
  o_make hu hi rfl rfl hx hy hb.1 (Int.le_refl _) hb.2 h63 (hK _ rfl)

/-- A place in a block of one's own. -/
theorem o_indexV {t e : TypeId} {x y : Operand} {z : Value} {b k n : Nat} {us : List Value} {kd : IntKind} {i : Int} (hu : P.underlying t = some (.slice e)) (hi : InfoIs P e z 1 b)
    (hx : aeval env x = sl k n) (ho : h[k]? = some (vls us)) (hn : us.length = n) (hy : aeval env y = .int kd i) (h0 : 0 ≤ i) (hlt : i < n) (hK : ∀ p, IsElem (sl k n) i.toNat p → K p h) : AOp P ⟨dst, .indexAddr t x y, ty, pos, after, guard⟩ K env h := by
  obtain ⟨inf, g1, _, g3, _⟩ := hi.get
  refine aop_indexAddr hu g1 (by rw [g3]; rfl) hx ho (by simpa [vls] using hn) hy h0 hlt (by show 0 < 1; omega) ?_
  show K (.pointer (some ⟨k, 0 + i.toNat * 1, some n⟩)) h
  rw [Nat.mul_one]
  exact hK _ rfl

theorem o_storeW {t : TypeId} {x y : Operand} {b k n i : Nat} {z p w : Value} {us : List Value} {h' : AHeap} (hi : InfoIs P t z 1 b) (hx : aeval env x = p) (hp : IsElem (sl k n) i p)
    (ho : h[k]? = some (vls us)) (hn : us.length = n) (hlt : i < n) (hy : aeval env y = w) (h1 : oneCellA w = true) (hs : h.set k (vls (us.set i w)) = h') (hK : K undef h') : AOp P ⟨dst, .store t x y, ty, pos, after, guard⟩ K env h := by
  subst hn
  refine o_store hi (hx.trans hp) ho (by simp [vls]) rfl hy (by simpa using hlt) h1 ?_
  subst hs
  simpa [vls] using hK

theorem o_loadR {t : TypeId} {x : Operand} {dd : TypeDesc} {k n i k1 : Nat} {p : Value} {xss : List (List Int)} (hu : P.underlying t = some dd) (hd : aggD dd = false) (hx : aeval env x = p) (hp : IsElem (sl k n) i p)
    (ho : h[k]? = some (vls (vrows k1 xss))) (hn : xss.length = n) (hlt : i < n) (hK : K (sl (k1 + i) (rowAt xss i).length) h) : AOp P ⟨dst, .load t x, ty, pos, after, guard⟩ K env h := by
  subst hn
  refine aop_load hu hd (hx.trans hp) ho (by simp [vls, vrows_len]) (v := sl (k1 + i) (rowAt xss i).length) ?_ hK
  rw [Nat.zero_add]
  exact vrows_get hlt
end

/-- Marks of all rows. -/
def markL : Int → List (List Int) → List (List Int)
  | _, [] => []
  | c, x :: xs => upto c x.length :: markL (c + x.length) xs
def total : List (List Int) → Nat
  | [] => 0
  | x :: xs => x.length + total xs
@[simp] theorem markL_len : ∀ {c : Int} {xss : List (List Int)}, (markL c xss).length = xss.length
  | _, [] => rfl
  | c, x :: xs => by simp [markL, markL_len (c := c + x.length) (xss := xs)]
theorem total_app : ∀ {a b : List (List Int)}, total (a ++ b) = total a + total b
  | [], b => by simp [total]
  | x :: a, b => by simp [total, total_app (a := a) (b := b), Nat.add_assoc]
theorem markL_app : ∀ {c : Int} {a b : List (List Int)}, markL c (a ++ b) = markL c a ++ markL (c + total a) b
  | c, [], b => by simp [markL, total]
  | c, x :: a, b => by simp [markL, total, markL_app (c := c + x.length) (a := a) (b := b), Int.add_assoc]
theorem total_take {xss : List (List Int)} {s : Nat} (h : s < xss.length) : total (xss.take (s + 1)) = total (xss.take s) + (rowAt xss s).length := by
  rw [take_row h, total_app]; simp [total]
theorem total_le {xss : List (List Int)} {s : Nat} : total (xss.take s) ≤ total xss := by
  have : total xss = total (xss.take s) + total (xss.drop s) := by rw [← total_app, List.take_append_drop]
  omega
theorem total_row {xss : List (List Int)} {s : Nat} (h : s < xss.length) : total (xss.take s) + (rowAt xss s).length ≤ total xss := by
  rw [← total_take h]; exact total_le
/-- Marks so far. -/
def markT (c : Int) (xss : List (List Int)) (s : Nat) : List (List Int) := markL c (xss.take s) ++ xss.drop s
theorem markT_zero {c : Int} {xss : List (List Int)} : markT c xss 0 = xss := by simp [markT, markL]
theorem markT_full {c : Int} {xss : List (List Int)} {s : Nat} (h : s = xss.length) : markT c xss s = markL c xss := by subst h; simp [markT]
theorem markT_len {c : Int} {xss : List (List Int)} {s : Nat} (h : s ≤ xss.length) : (markT c xss s).length = xss.length := by simp [markT, markL_len]; omega
theorem markT_row {c : Int} {xss : List (List Int)} {s : Nat} (h : s < xss.length) : rowAt (markT c xss s) s = rowAt xss s := by
  have h1 : (markL c (xss.take s)).length = s := by rw [markL_len]; simp; omega
  rw [rowAt, markT, List.getD_eq_getElem?_getD, List.getElem?_append_right (by omega), h1, Nat.sub_self, List.getElem?_drop, Nat.add_zero, rowAt_some h]; rfl
theorem markT_step {c : Int} {xss : List (List Int)} {s : Nat} (h : s < xss.length) : (markT c xss s).set s (upto (c + total (xss.take s)) (rowAt xss s).length) = markT c xss (s + 1) := by
  have h1 : (markL c (xss.take s)).length = s := by rw [markL_len]; simp; omega
  rw [markT, List.set_append_right _ _ (by omega), h1, Nat.sub_self, markT, take_row h, markL_app]
  have h2 : xss.drop s = rowAt xss s :: xss.drop (s + 1) := by
    rw [List.drop_eq_getElem_cons h]
    have := rowAt_some h
    rw [List.getElem?_eq_getElem h, Option.some.injEq] at this
    rw [this]
  rw [h2, List.set_cons_zero]
  simp only [markL, List.append_assoc, List.cons_append, List.nil_append]

section
variable {P : Program} {K : Value → AHeap → Prop} {env : Env} {h : AHeap} {dst : Option Tmp} {ty : TypeId} {pos : String} {after : Array Edge} {guard : Option (Nat × Bool)}
theorem o_indexLN {t e : TypeId} {x y : Operand} {v z : Value} {b : Nat} {xss : List (List Int)} {kd : IntKind} {i : Nat} (hu : P.underlying t = some (.slice e)) (hi : InfoIs P e z 1 b)
    (hx : aeval env x = v) (hv : Lists h v xss) (hy : aeval env y = .int kd (i : Int)) (hlt : i < xss.length) (hK : ∀ p, IsElem v i p → K p h) : AOp P ⟨dst, .indexAddr t x y, ty, pos, after, guard⟩ K env h :=
  o_indexL hu hi hx hv hy (by omega) (by omega) hK
end
section
variable {P : Program} {ops : Array Oper} {KE : Env → AHeap → Prop} {os : List Oper} {env : Env} {h : AHeap} {d : Option Tmp} {ty : TypeId} {pos : String} {af : Array Edge} {g : Option (Nat × Bool)}
theorem d_indexLN {t e : TypeId} {x y : Operand} {v z : Value} {b : Nat} {xss : List (List Int)} {kd : IntKind} {i : Nat} (hw : wantedA ops env ⟨d, .indexAddr t x y, ty, pos, af, g⟩ = some true) (hu : P.underlying t = some (.slice e)) (hi : InfoIs P e z 1 b)
    (hx : aeval env x = v) (hv : Lists h v xss) (hy : aeval env y = .int kd (i : Int)) (hlt : i < xss.length) (hK : ∀ p, IsElem v i p → DRun P ops KE os (env.put d p) h) : DRun P ops KE (⟨d, .indexAddr t x y, ty, pos, af, g⟩ :: os) env h :=
  d_indexL hw hu hi hx hv hy (by omega) (by omega) hK
end

/-! ## New blocks that lie one behind the other -/
def shf (t d j : Nat) : Nat := if j < t then j else j + d
def ShG (gs : Nat → List AObj) : Prop := ∀ t n d, t ≤ n → (gs (n + d)).length = (gs n).length ∧ ∀ (i : Nat) (o : AObj), (gs n)[i]? = some o →
  ∃ o1, (gs (n + d))[i]? = some o1 ∧ o.cells.length = o1.cells.length ∧ o.mine = o1.mine ∧ o.esz = o1.esz ∧
    ∀ (j : Nat) (v : Value), o.cells[j]? = some v → Within (n + (gs n).length) v ∧ ∃ v1, o1.cells[j]? = some v1 ∧ VRen (shf t d) v v1
theorem ShG.one {o : AObj} (ho : ∀ v ∈ o.cells, isPrim v = true) : ShG (fun _ => [o]) := fun t n d _ => ⟨rfl, fun i x hx => ⟨x, hx, rfl, rfl, rfl, fun j v hv => by
  have : x = o := by cases i <;> simp at hx; exact hx.symm
  subst this
  have := ho v (List.mem_of_getElem? hv)
  exact ⟨.prim this, v, hv, .prim this⟩⟩⟩
theorem ShG.app {gs1 gs2 : Nat → List AObj} {l : Nat} (h1 : ShG gs1) (h2 : ShG gs2) (hl : ∀ n, (gs1 n).length = l) : ShG (fun k => gs1 k ++ gs2 (k + l)) := fun t n d ht => by
  obtain ⟨a1, a2⟩ := h1 t n d ht
  obtain ⟨b1, b2⟩ := h2 t (n + l) d (by omega)
  have e : n + d + l = n + l + d := by omega
  refine ⟨by simp only [List.length_append, e, a1, b1], fun i o hi => ?_⟩
  by_cases c : i < l
  · rw [List.getElem?_append_left (by rw [hl]; exact c)] at hi
    obtain ⟨o1, q1, q2, q3, q4, q5⟩ := a2 i o hi
    refine ⟨o1, by rw [List.getElem?_append_left (by rw [hl]; exact c)]; exact q1, q2, q3, q4, fun j v hv => ?_⟩
    obtain ⟨r1, r2⟩ := q5 j v hv
    exact ⟨r1.mono (by simp only [List.length_append]; omega), r2⟩
  · rw [List.getElem?_append_right (by rw [hl]; omega), hl] at hi
    obtain ⟨o1, q1, q2, q3, q4, q5⟩ := b2 _ o hi
    refine ⟨o1, by rw [List.getElem?_append_right (by rw [hl]; omega), hl, e]; exact q1, q2, q3, q4, fun j v hv => ?_⟩
    obtain ⟨r1, r2⟩ := q5 j v hv
    exact ⟨r1.mono (by simp only [List.length_append, hl]; omega), r2⟩
theorem ShG.lls {xss : List (List Int)} : ShG (fun k => lls k xss) := fun t n d ht => by
  refine ⟨by rw [lls_len, lls_len], fun i o hi => ?_⟩
  cases i with
  | zero =>
    have : o = vls (vrows (n + 1) xss) := by simp [Am.lls] at hi; exact hi.symm
    subst this
    refine ⟨vls (vrows (n + d + 1) xss), rfl, by simp [vls, vrows_len], rfl, rfl, fun j v hv => ?_⟩
    have hv' : (vrows (n + 1) xss)[j]? = some v := hv
    have hlt := (List.getElem?_eq_some_iff.1 hv').1
    rw [vrows_len] at hlt
    rw [vrows_get hlt, Option.some.injEq] at hv'
    subst hv'
    refine ⟨.slice (by rw [lls_len]; omega), _, vrows_get hlt, ?_⟩
    have := VRen.slice (s := shf t d) (k := n + 1 + j) (off := 0) (ver := (rowAt xss j).length) (len := (rowAt xss j).length) (cap := (rowAt xss j).length)
    rwa [show shf t d (n + 1 + j) = n + d + 1 + j by rw [shf, if_neg (by omega)]; omega] at this
  | succ i =>
    have hi' : (xss.map lst)[i]? = some o := by simpa [Am.lls] using hi
    refine ⟨o, by simpa [Am.lls] using hi', rfl, rfl, rfl, fun j v hv => ?_⟩
    simp only [List.getElem?_map, Option.map_eq_some_iff] at hi'
    obtain ⟨xs, _, rfl⟩ := hi'
    have := lst_prim v (List.mem_of_getElem? hv)
    exact ⟨.prim this, v, hv, .prim this⟩

/-- The contract of a function that makes new blocks that lie one behind the other. -/
def RetG (P : Program) (f : FuncId) (args : List Value) (h : AHeap) (V : Nat → Value) (gs : Nat → List AObj) : Prop := Ret P f args h (V h.length) (h ++ gs h.length)
theorem RetG.toG {P : Program} {K : Value → AHeap → Prop} {h : AHeap} {f : FuncId} {vs : List Value} {V : Nat → Value} {gs : Nat → List AObj} (r : RetG P f vs h V gs) (hK : ∀ k, k = h.length → K (V k) (h ++ gs k)) : Tri P f vs h K := Ret.to r (hK _ rfl)
theorem shf_sl {t d n k : Nat} (h : t ≤ k) : VRen (shf t d) (sl k n) (sl (k + d) n) := by
  have := VRen.slice (s := shf t d) (k := k) (off := 0) (ver := n) (len := n) (cap := n)
  rwa [show shf t d k = k + d by rw [shf, if_neg (by omega)]] at this

theorem retg_of {P : Program} {f : FuncId} {args : List Value} {h : AHeap} {V : Nat → Value} {gs : Nat → List AObj} (sg : ShG gs) (hV : Within (h.length + (gs h.length).length) (V h.length)) (hR : ∀ d, VRen (shf h.length d) (V h.length) (V (h.length + d)))
    (t : Tri P f args h fun v h' => ∃ g0 g1 k, h' = h ++ g0 ++ gs k ++ g1 ∧ k = h.length + g0.length ∧ v = V k) : RetG P f args h V gs :=
  t.keeps fun hcl v1 h1 ⟨g0, g1, k, e1, e2, e3⟩ => by
    subst e2 e3 e1
    obtain ⟨s1, s2⟩ := sg h.length h.length g0.length (Nat.le_refl _)
    refine ⟨shf h.length g0.length, h ++ gs h.length, V h.length, ⟨fun j hj => by simp [shf, hj], by simp, fun i j _ _ he => ?_, fun j x hj => ?_⟩, by simpa using hV, hR _, rfl, rfl⟩
    · simp only [shf] at he
      split at he <;> split at he <;> omega
    · by_cases c : j < h.length
      · rw [List.getElem?_append_left c] at hj
        refine ⟨x, ?_, rfl, rfl, rfl, fun i v hv => ?_⟩
        · simp only [shf, c, if_true]
          rw [List.append_assoc, List.append_assoc, List.getElem?_append_left c]; exact hj
        · have := hcl j x hj v (List.mem_of_getElem? hv)
          exact ⟨this.mono (by simp), v, hv, .id this (fun q hq => by simp [shf, hq])⟩
      · rw [List.getElem?_append_right (by omega)] at hj
        obtain ⟨o1, q1, q2, q3, q4, q5⟩ := s2 _ x hj
        have hlt := (List.getElem?_eq_some_iff.1 q1).1
        refine ⟨o1, ?_, q2, q3, q4, fun i v hv => ?_⟩
        · simp only [shf, c, if_false]
          rw [List.getElem?_append_left (by simp only [List.length_append]; omega), List.getElem?_append_right (by simp only [List.length_append]; omega)]
          rw [← q1]; congr 1; simp only [List.length_append]; omega
        · obtain ⟨r1, r2⟩ := q5 i v hv
          exact ⟨by simpa using r1, r2⟩

/-- Two lists of lists, one behind the other. -/
def lls2 (k : Nat) (xss yss : List (List Int)) : List AObj := lls k xss ++ lls (k + (xss.length + 1)) yss
@[simp] theorem lls2_len {k : Nat} {xss yss : List (List Int)} : (lls2 k xss yss).length = xss.length + yss.length + 2 := by simp [lls2, lls_len]; omega
theorem lls2_left {h : AHeap} {k n : Nat} {xss yss : List (List Int)} (hk : k = h.length) (hn : xss.length = n) : Lists (h ++ lls2 k xss yss) (sl k n) xss := by
  rw [lls2, ← List.append_assoc]; exact (lls_lists hk hn).app _
theorem lls2_right {h : AHeap} {k n m : Nat} {xss yss : List (List Int)} (hk : k = h.length) (hn : xss.length = n) (hm : yss.length = m) : Lists (h ++ lls2 k xss yss) (sl (k + (n + 1)) m) yss := by
  rw [lls2, ← List.append_assoc, hn]; exact lls_lists (by simp only [List.length_append, lls_len, hn, hk]) hm
/-! ## Sizes and bounds -/
def szLL (left : Int) (xss : List (List Int)) : Int := if left - xss.length - total xss < 0 then -1 else left - xss.length - total xss
def LB (xss : List (List Int)) : Prop := xss.length ≤ 1048576 ∧ total xss ≤ 1048576
theorem szLL_spec {left : Int} {xss : List (List Int)} (hl : left ≤ 1048576) (c : ¬ szLL left xss < 0) : LB xss ∧ 0 ≤ szLL left xss ∧ szLL left xss ≤ left := by
  unfold szLL at *
  split at c
  · omega
  · rename_i h
    rw [if_neg h]
    exact ⟨⟨by omega, by omega⟩, by omega, by omega⟩
theorem LB.row {xss : List (List Int)} (h : LB xss) (i : Nat) : (rowAt xss i).length ≤ 1048576 := by
  by_cases c : i < xss.length
  · have := total_row c
    have := h.2
    omega
  · have : rowAt xss i = [] := by rw [rowAt, List.getD_eq_getElem?_getD, List.getElem?_eq_none (by omega)]; rfl
    rw [this]; simp
theorem LB.len {xss : List (List Int)} (h : LB xss) : xss.length ≤ 1048576 := h.1
theorem szLL_no0 {left : Int} {xss : List (List Int)} (h : left - xss.length < 0) : (-1 : Int) = szLL left xss := by rw [szLL, if_pos (by omega)]
theorem szLL_noS {left : Int} {xss : List (List Int)} {s : Nat} (hs : s < xss.length) (h : szL (left - xss.length - total (xss.take s)) (rowAt xss s).length < 0) : (-1 : Int) = szLL left xss := by
  have h1 := total_row hs
  rw [szLL, if_pos]
  unfold szL at h
  split at h <;> omega
theorem szL_step {left : Int} {xss : List (List Int)} {s : Nat} (hs : s < xss.length) (h : ¬ szL (left - xss.length - total (xss.take s)) (rowAt xss s).length < 0) :
    szL (left - xss.length - total (xss.take s)) (rowAt xss s).length = left - xss.length - total (xss.take (s + 1)) ∧ 0 ≤ left - xss.length - total (xss.take (s + 1)) := by
  rw [total_take hs]
  unfold szL at *
  split at h
  · omega
  · rename_i c
    rw [if_neg c]; omega
theorem szLL_yes {left : Int} {xss : List (List Int)} {s : Nat} (hs : s = xss.length) (h : 0 ≤ left - xss.length - total (xss.take s)) : left - xss.length - total (xss.take s) = szLL left xss := by
  subst hs
  rw [List.take_length] at *
  rw [szLL, if_neg (by omega)]
theorem eqL_take_step {xss yss : List (List Int)} {k : Nat} (h1 : k < xss.length) (h2 : k < yss.length) (h : xss.take k = yss.take k) (e : rowAt xss k = rowAt yss k) : xss.take (k + 1) = yss.take (k + 1) := by
  rw [take_row h1, take_row h2, h, e]
theorem eqL_take_full {xss yss : List (List Int)} {k : Nat} (hl : xss.length = yss.length) (hk : ¬ k < xss.length) (h : xss.take k = yss.take k) : xss = yss := by
  rwa [List.take_of_length_le (by omega), List.take_of_length_le (by omega)] at h
theorem neL_row {xss yss : List (List Int)} {k : Nat} (h : ¬ rowAt xss k = rowAt yss k) : xss ≠ yss := fun e => h (by rw [e])
theorem neL_len {xss yss : List (List Int)} (h : ¬ (xss.length : Int) = yss.length) : xss ≠ yss := fun e => h (by rw [e])
section
variable {P : Program} {ops : Array Oper} {KE : Env → AHeap → Prop} {os : List Oper} {env : Env} {h : AHeap} {d : Option Tmp} {ty : TypeId} {pos : String} {af : Array Edge} {g : Option (Nat × Bool)}
end
theorem ws_lls {h : AHeap} {xss : List (List Int)} : Within (h.length + (lls h.length xss).length) (sl h.length xss.length) := .slice (by rw [lls_len]; omega)
theorem RetG.toL {P : Program} {K : Value → AHeap → Prop} {h : AHeap} {f : FuncId} {vs : List Value} {xss : List (List Int)} (r : RetG P f vs h (sl · xss.length) (lls · xss))
    (hK : ∀ k, k = h.length → Lists (h ++ lls k xss) (sl k xss.length) xss → K (sl k xss.length) (h ++ lls k xss)) : Tri P f vs h K := r.toG fun k hk => hK k hk (lls_lists hk rfl)
section
variable {P : Program} {ops : Array Oper} {KE : Env → AHeap → Prop} {os : List Oper} {env : Env} {h : AHeap} {d : Option Tmp} {ty : TypeId} {pos : String} {af : Array Edge} {g : Option (Nat × Bool)}
end
end Go.Am
