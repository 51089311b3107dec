/-
  The abstract heap: what this claim needs of it. General: no program is named.
-/
import Derived.Test.YtnbpakikglpkcaaAmG2
import Derived.Laws.Entries
import Derived.Laws.FloatArith
import Derived.KernelRfl
namespace Go.Am
set_option linter.unusedSimpArgs false
set_option linter.unusedVariables false

/-- A slice value that reads as lists of integers. -/
def Lists (h : AHeap) (v : Value) (xss : List (List Int)) : Prop :=
  (v = .slice none 0 0 ∧ xss = []) ∨
  ∃ k off ver cap o, v = .slice (some ⟨k, off, some ver⟩) xss.length cap ∧ h[k]? = some o ∧ o.cells.length = ver ∧ o.esz = 1 ∧ xss.length ≤ cap ∧ off + cap = ver ∧
    ∀ (i : Nat) (xs : List Int), xss[i]? = some xs → ∃ u, o.cells[off + i]? = some u ∧ Ints h u xs

theorem lists_nil {h : AHeap} : Lists h (.slice none 0 0) [] := .inl ⟨rfl, rfl⟩

theorem Lists.app {h : AHeap} {v : Value} {xss : List (List Int)} (hv : Lists h v xss) (g : List AObj) : Lists (h ++ g) v xss := by
  rcases hv with hv | ⟨k, off, ver, cap, o, h1, h2, h3, h4, h5, h6, h7⟩
  · exact .inl hv
  · exact .inr ⟨k, off, ver, cap, o, h1, lk_prev h2, h3, h4, h5, h6, fun i xs hi => by
      obtain ⟨u, g1, g2⟩ := h7 i xs hi
      exact ⟨u, g1, g2.app g⟩⟩

theorem Lists.within {h : AHeap} {v : Value} {xss : List (List Int)} (hv : Lists h v xss) : Within h.length v := by
  rcases hv with ⟨rfl, _⟩ | ⟨k, off, ver, cap, o, rfl, h2, _⟩
  · exact .prim rfl
  · exact .slice (List.getElem?_eq_some_iff.1 h2).1

def rowAt (xss : List (List Int)) (i : Nat) : List Int := xss.getD i []
theorem rowAt_some {xss : List (List Int)} {i : Nat} (h : i < xss.length) : xss[i]? = some (rowAt xss i) := by
  simp [rowAt, List.getD_eq_getElem?_getD, List.getElem?_eq_getElem h]
theorem rowAt_mem {xss : List (List Int)} {i : Nat} (h : i < xss.length) : rowAt xss i ∈ xss := List.mem_of_getElem? (rowAt_some h)

section
variable {P : Program} {K : Value → AHeap → Prop} {env : Env} {h : AHeap} {dst : Option Tmp} {ty : TypeId} {pos : String} {after : Array Edge} {guard : Option (Nat × Bool)}

theorem o_lenL {t e : TypeId} {x : Operand} {v : Value} {xss : List (List Int)} (hu : P.underlying t = some (.slice e)) (hx : aeval env x = v) (hv : Lists h v xss) (hK : K (i64 xss.length) h) :
    AOp P ⟨dst, .call { callee := .builtin .len, args := #[x], argTypes := #[t] }, ty, pos, after, guard⟩ K env h := by
  rcases hv with ⟨rfl, rfl⟩ | ⟨k, off, ver, cap, o, rfl, h2, h3, h4, h5, h6, h7⟩
  · exact aop_len hu hx (fun ad ha => by cases ha) hK
  · exact aop_len hu hx (fun ad ha => by cases ha; exact ⟨k, off, ver, o, rfl, h2, h3⟩) hK

theorem o_indexL {t e : TypeId} {x y : Operand} {v z : Value} {b : Nat} {xss : List (List Int)} {kd : IntKind} {i : Int} (hu : P.underlying t = some (.slice e)) (hi : InfoIs P e z 1 b)
    (hx : aeval env x = v) (hv : Lists h v xss) (hy : aeval env y = .int kd i) (h0 : 0 ≤ i) (hlt : i < xss.length) (hK : ∀ p, IsElem v i.toNat p → K p h) : AOp P ⟨dst, .indexAddr t x y, ty, pos, after, guard⟩ K env h := by
  obtain ⟨inf, g1, _, g3, _⟩ := hi.get
  rcases hv with ⟨rfl, rfl⟩ | ⟨k, off, ver, cap, o, rfl, h2, h3, h4, h5, h6, h7⟩
  · simp at hlt; omega
  · refine aop_indexAddr hu g1 (by rw [g3, h4]) hx h2 h3 hy h0 hlt (by omega) ?_
    rw [h4, Nat.mul_one]
    exact hK _ rfl

end

theorem IsElem.withinL {h : AHeap} {v p : Value} {xss : List (List Int)} {i : Nat} (hv : Lists h v xss) (hp : IsElem v i p) : Within h.length p := by
  rcases hv with ⟨rfl, _⟩ | ⟨k, off, ver, cap, o, rfl, h2, _⟩
  · exact hp.elim
  · have : p = .pointer (some ⟨k, off + i, some ver⟩) := hp
    rw [this]
    exact .ptr (List.getElem?_eq_some_iff.1 h2).1

section
variable {P : Program} {ops : Array Oper} {KE : Env → AHeap → Prop} {os : List Oper} {env : Env} {h : AHeap} {d : Option Tmp} {ty : TypeId} {pos : String} {af : Array Edge} {g : Option (Nat × Bool)}
theorem d_indexL {t e : TypeId} {x y : Operand} {v z : Value} {b : Nat} {xss : List (List Int)} {kd : IntKind} {i : Int} (hw : wantedA ops env ⟨d, .indexAddr t x y, ty, pos, af, g⟩ = some true) (hu : P.underlying t = some (.slice e)) (hi : InfoIs P e z 1 b)
    (hx : aeval env x = v) (hv : Lists h v xss) (hy : aeval env y = .int kd i) (h0 : 0 ≤ i) (hlt : i < xss.length) (hK : ∀ p, IsElem v i.toNat p → DRun P ops KE os (env.put d p) h) : DRun P ops KE (⟨d, .indexAddr t x y, ty, pos, af, g⟩ :: os) env h := by
  have ⟨p, hp⟩ : ∃ p, IsElem v i.toNat p := by
    rcases hv with ⟨rfl, rfl⟩ | ⟨k, off, ver, cap, o, rfl, _⟩
    · simp at hlt; omega
    · exact ⟨_, rfl⟩
  refine d_do hw (o_indexL hu hi hx hv hy h0 hlt fun p' hp' => ⟨?_, rfl⟩) (hp.withinL hv) (hK p hp)
  rcases hv with ⟨rfl, rfl⟩ | ⟨k, off, ver, cap, o, rfl, _⟩
  · simp at hlt; omega
  · exact hp'.trans hp.symm
end

/-! ## Own lists of lists -/

/-- A block of one's own with any values. -/
def vls (us : List Value) : AObj := ⟨us, true, 1⟩

/-- Slices over rows that lie one behind the other. -/
def vrows : Nat → List (List Int) → List Value
  | _, [] => []
  | k, x :: xs => sl k x.length :: vrows (k + 1) xs
theorem vrows_len : ∀ {k : Nat} {xss : List (List Int)}, (vrows k xss).length = xss.length
  | _, [] => rfl
  | k, x :: xs => by simp [vrows, vrows_len (k := k + 1) (xss := xs)]
theorem vrows_app : ∀ {k : Nat} {a b : List (List Int)}, vrows k (a ++ b) = vrows k a ++ vrows (k + a.length) b
  | k, [], b => by simp [vrows]
  | k, x :: a, b => by simp [vrows, vrows_app (k := k + 1) (a := a) (b := b), Nat.add_assoc, Nat.add_comm 1]
theorem vrows_get : ∀ {k i : Nat} {xss : List (List Int)}, i < xss.length → (vrows k xss)[i]? = some (sl (k + i) (rowAt xss i).length)
  | k, 0, x :: xs, _ => rfl
  | k, i + 1, x :: xs, h => by
    have := vrows_get (k := k + 1) (i := i) (xss := xs) (by simpa using h)
    rw [vrows, List.getElem?_cons_succ, this]
    simp [rowAt, Nat.add_assoc, Nat.add_comm 1]
theorem vrows_congr : ∀ {k : Nat} {a b : List (List Int)}, a.map List.length = b.map List.length → vrows k a = vrows k b
  | k, [], [], _ => rfl
  | k, [], _ :: _, h => by simp at h
  | k, _ :: _, [], h => by simp at h
  | k, x :: a, y :: b, h => by
    simp only [List.map_cons, List.cons.injEq] at h
    rw [vrows, vrows, h.1, vrows_congr h.2]

/-- Lists in new memory: the outer block at k, the rows behind it. -/
def lls (k : Nat) (xss : List (List Int)) : List AObj := vls (vrows (k + 1) xss) :: xss.map lst
@[simp] theorem lls_len {k : Nat} {xss : List (List Int)} : (lls k xss).length = xss.length + 1 := by simp [lls]

theorem lls_outer {h : AHeap} {k : Nat} {xss : List (List Int)} (hk : k = h.length) : (h ++ lls k xss)[k]? = some (vls (vrows (k + 1) xss)) := by subst hk; simp [lls]
theorem lls_row {h : AHeap} {k i : Nat} {xss : List (List Int)} (hk : k = h.length) (hi : i < xss.length) : (h ++ lls k xss)[k + 1 + i]? = some (lst (rowAt xss i)) := by
  subst hk
  rw [List.getElem?_append_right (by omega), lls, show h.length + 1 + i - h.length = i + 1 by omega, List.getElem?_cons_succ, List.getElem?_map, rowAt_some hi]
  rfl
theorem lls_lists {h : AHeap} {k n : Nat} {xss : List (List Int)} (hk : k = h.length) (hn : xss.length = n) : Lists (h ++ lls k xss) (sl k n) xss := by
  subst hn
  refine .inr ⟨k, 0, _, _, _, rfl, lls_outer hk, by simp [vls, vrows_len], rfl, Nat.le_refl _, by simp, fun i xs hi => ?_⟩
  have hlt := (List.getElem?_eq_some_iff.1 hi).1
  rw [Nat.zero_add]
  refine ⟨_, vrows_get hlt, ?_⟩
  have : xs = rowAt xss i := by rw [rowAt_some hlt] at hi; exact (Option.some.inj hi).symm
  subst this
  exact Ints.own (lls_row hk hlt) rfl

theorem lls_set {h : AHeap} {k i : Nat} {xss : List (List Int)} {ys : List Int} (hk : k = h.length) (hi : i < xss.length) (hy : ys.length = (rowAt xss i).length) :
    (h ++ lls k xss).set (k + 1 + i) (lst ys) = h ++ lls k (xss.set i ys) := by
  subst hk
  rw [List.set_append_right _ _ (by omega), show h.length + 1 + i - h.length = i + 1 by omega, lls, List.set_cons_succ, lls, List.map_set]
  congr 3
  refine vrows_congr ?_
  rw [List.map_set, hy]
  have hi' : i < (xss.map List.length).length := by simpa using hi
  have : (rowAt xss i).length = (xss.map List.length)[i] := by
    have := rowAt_some hi
    rw [List.getElem?_eq_getElem hi, Option.some.injEq] at this
    rw [List.getElem_map, this]
  rw [this, List.set_getElem_self]

/-- The loop that fills lists of lists. -/
def fillL (k : Nat) (xss : List (List Int)) (n s : Nat) : List AObj := vls (vrows (k + 1) (xss.take s) ++ List.replicate (n - s) (Value.slice none 0 0)) :: (xss.take s).map lst
theorem fillL_zero {k n : Nat} {xss : List (List Int)} : fillL k xss n 0 = [vls (List.replicate n (.slice none 0 0))] := by simp [fillL, vrows]
theorem fillL_full {k n s : Nat} {xss : List (List Int)} (hn : n = xss.length) (hs : s = n) : fillL k xss n s = lls k xss := by
  subst hs; subst hn
  simp [fillL, lls]
theorem fillL_len {k n s : Nat} {xss : List (List Int)} (hs : s ≤ xss.length) : (fillL k xss n s).length = s + 1 := by
  simp [fillL]; omega
theorem take_row {xss : List (List Int)} {s : Nat} (h : s < xss.length) : xss.take (s + 1) = xss.take s ++ [rowAt xss s] := by
  rw [List.take_succ_eq_append_getElem h]
  have := rowAt_some h
  rw [List.getElem?_eq_getElem h, Option.some.injEq] at this
  rw [this]
theorem fillL_step {h : AHeap} {k k' n s m : Nat} {xss : List (List Int)} (hk : k = h.length) (hk' : k' = h.length + (fillL k xss n s).length) (hs : s < xss.length) (hn : n = xss.length) (hm : m = (rowAt xss s).length) :
    (h ++ fillL k xss n s ++ [lst (rowAt xss s)]).set k (vls ((vrows (k + 1) (xss.take s) ++ List.replicate (n - s) (Value.slice none 0 0)).set s (sl k' m))) = h ++ fillL k xss n (s + 1) := by
  subst hm
  rw [fillL_len (by omega)] at hk'
  have e1 : (vrows (k + 1) (xss.take s) ++ List.replicate (n - s) (Value.slice none 0 0)).set s (sl k' (rowAt xss s).length) = vrows (k + 1) (xss.take (s + 1)) ++ List.replicate (n - (s + 1)) (Value.slice none 0 0) := by
    have hl : (vrows (k + 1) (xss.take s)).length = s := by rw [vrows_len]; simp; omega
    rw [List.set_append_right _ _ (by omega), hl, Nat.sub_self, show n - s = (n - (s + 1)) + 1 by omega, List.replicate_succ, List.set_cons_zero, take_row hs, vrows_app]
    have : (xss.take s).length = s := by simp; omega
    rw [this]
    simp only [vrows, List.append_assoc, List.cons_append, List.nil_append]
    rw [show k + 1 + s = k' by omega]
  rw [e1]
  subst hk
  rw [List.append_assoc, List.set_append_right _ _ (Nat.le_refl _), Nat.sub_self]
  simp only [fillL, List.cons_append, List.set_cons_zero]
  rw [take_row hs, List.map_append]
  rfl

/-- The contract of a function that makes lists of lists. -/
def RetL (P : Program) (f : FuncId) (args : List Value) (h : AHeap) (xss : List (List Int)) : Prop := Ret P f args h (sl h.length xss.length) (h ++ lls h.length xss)

section
variable {P : Program} {K : Value → AHeap → Prop} {env : Env} {h : AHeap} {dst : Option Tmp} {ty : TypeId} {pos : String} {after : Array Edge} {guard : Option (Nat × Bool)}

theorem RetL.toL {f : FuncId} {vs : List Value} {xss : List (List Int)} {n : Nat} (r : RetL P f vs h xss) (hn : xss.length = n) (hK : ∀ k, k = h.length → Lists (h ++ lls k xss) (sl k n) xss → K (sl k n) (h ++ lls k xss)) : Tri P f vs h K := by
  subst hn
  exact Ret.to r (hK _ rfl (lls_lists rfl rfl))

theorem o_makeL {t e : TypeId} {x y : Operand} {b : Nat} {l : Int} {k1 k2 : IntKind} (hu : P.underlying t = some (.slice e)) (hi : InfoIs P e (.slice none 0 0) 1 b)
    (hx : aeval env x = .int k1 l) (hy : aeval env y = .int k2 l) (hb : 0 ≤ l ∧ b * l ≤ 281474976710656) (h63 : l ≤ 9223372036854775807)
    (hK : ∀ k, k = h.length → K (sl k l.toNat) (h ++ [vls (List.replicate l.toNat (.slice none 0 0))])) : AOp P ⟨dst, .makeSlice t x y, ty, pos, after, guard⟩ K env h :=
  o_make hu hi rfl rfl hx hy hb.1 (Int.le_refl _) hb.2 h63 (hK _ rfl)

/-- A place in a block of one's own. -/
theorem o_indexV {t e : TypeId} {x y : Operand} {z : Value} {b k n : Nat} {us : List Value} {kd : IntKind} {i : Int} (hu : P.underlying t = some (.slice e)) (hi : InfoIs P e z 1 b)
    (hx : aeval env x = sl k n) (ho : h[k]? = some (vls us)) (hn : us.length = n) (hy : aeval env y = .int kd i) (h0 : 0 ≤ i) (hlt : i < n) (hK : ∀ p, IsElem (sl k n) i.toNat p → K p h) : AOp P ⟨dst, .indexAddr t x y, ty, pos, after, guard⟩ K env h := by
  obtain ⟨inf, g1, _, g3, _⟩ := hi.get
  refine aop_indexAddr hu g1 (by rw [g3]; rfl) hx ho (by simpa [vls] using hn) hy h0 hlt (by show 0 < 1; omega) ?_
  show K (.pointer (some ⟨k, 0 + i.toNat * 1, some n⟩)) h
  rw [Nat.mul_one]
  exact hK _ rfl

theorem o_storeW {t : TypeId} {x y : Operand} {b k n i : Nat} {z p w : Value} {us : List Value} {h' : AHeap} (hi : InfoIs P t z 1 b) (hx : aeval env x = p) (hp : IsElem (sl k n) i p)
    (ho : h[k]? = some (vls us)) (hn : us.length = n) (hlt : i < n) (hy : aeval env y = w) (h1 : oneCellA w = true) (hs : h.set k (vls (us.set i w)) = h') (hK : K undef h') : AOp P ⟨dst, .store t x y, ty, pos, after, guard⟩ K env h := by
  subst hn
  refine o_store hi (hx.trans hp) ho (by simp [vls]) rfl hy (by simpa using hlt) h1 ?_
  subst hs
  simpa [vls] using hK

theorem o_loadR {t : TypeId} {x : Operand} {dd : TypeDesc} {k n i k1 : Nat} {p : Value} {xss : List (List Int)} (hu : P.underlying t = some dd) (hd : aggD dd = false) (hx : aeval env x = p) (hp : IsElem (sl k n) i p)
    (ho : h[k]? = some (vls (vrows k1 xss))) (hn : xss.length = n) (hlt : i < n) (hK : K (sl (k1 + i) (rowAt xss i).length) h) : AOp P ⟨dst, .load t x, ty, pos, after, guard⟩ K env h := by
  subst hn
  refine aop_load hu hd (hx.trans hp) ho (by simp [vls, vrows_len]) (v := sl (k1 + i) (rowAt xss i).length) ?_ hK
  rw [Nat.zero_add]
  exact vrows_get hlt
end

/-- Marks of all rows. -/
def markL : Int → List (List Int) → List (List Int)
  | _, [] => []
  | c, x :: xs => upto c x.length :: markL (c + x.length) xs
def total : List (List Int) → Nat
  | [] => 0
  | x :: xs => x.length + total xs
@[simp] theorem markL_len : ∀ {c : Int} {xss : List (List Int)}, (markL c xss).length = xss.length
  | _, [] => rfl
  | c, x :: xs => by simp [markL, markL_len (c := c + x.length) (xss := xs)]
theorem total_app : ∀ {a b : List (List Int)}, total (a ++ b) = total a + total b
  | [], b => by simp [total]
  | x :: a, b => by simp [total, total_app (a := a) (b := b), Nat.add_assoc]
theorem markL_app : ∀ {c : Int} {a b : List (List Int)}, markL c (a ++ b) = markL c a ++ markL (c + total a) b
  | c, [], b => by simp [markL, total]
  | c, x :: a, b => by simp [markL, total, markL_app (c := c + x.length) (a := a) (b := b), Int.add_assoc]
theorem total_take {xss : List (List Int)} {s : Nat} (h : s < xss.length) : total (xss.take (s + 1)) = total (xss.take s) + (rowAt xss s).length := by
  rw [take_row h, total_app]; simp [total]
theorem total_le {xss : List (List Int)} {s : Nat} : total (xss.take s) ≤ total xss := by
  have : total xss = total (xss.take s) + total (xss.drop s) := by rw [← total_app, List.take_append_drop]
  omega
theorem total_row {xss : List (List Int)} {s : Nat} (h : s < xss.length) : total (xss.take s) + (rowAt xss s).length ≤ total xss := by
  rw [← total_take h]; exact total_le
/-- Marks so far. -/
def markT (c : Int) (xss : List (List Int)) (s : Nat) : List (List Int) := markL c (xss.take s) ++ xss.drop s
theorem markT_zero {c : Int} {xss : List (List Int)} : markT c xss 0 = xss := by simp [markT, markL]
theorem markT_full {c : Int} {xss : List (List Int)} {s : Nat} (h : s = xss.length) : markT c xss s = markL c xss := by subst h; simp [markT]
theorem markT_len {c : Int} {xss : List (List Int)} {s : Nat} (h : s ≤ xss.length) : (markT c xss s).length = xss.length := by simp [markT, markL_len]; omega
theorem markT_row {c : Int} {xss : List (List Int)} {s : Nat} (h : s < xss.length) : rowAt (markT c xss s) s = rowAt xss s := by
  have h1 : (markL c (xss.take s)).length = s := by rw [markL_len]; simp; omega
  rw [rowAt, markT, List.getD_eq_getElem?_getD, List.getElem?_append_right (by omega), h1, Nat.sub_self, List.getElem?_drop, Nat.add_zero, rowAt_some h]; rfl
theorem markT_step {c : Int} {xss : List (List Int)} {s : Nat} (h : s < xss.length) : (markT c xss s).set s (upto (c + total (xss.take s)) (rowAt xss s).length) = markT c xss (s + 1) := by
  have h1 : (markL c (xss.take s)).length = s := by rw [markL_len]; simp; omega
  rw [markT, List.set_append_right _ _ (by omega), h1, Nat.sub_self, markT, take_row h, markL_app]
  have h2 : xss.drop s = rowAt xss s :: xss.drop (s + 1) := by
    rw [List.drop_eq_getElem_cons h]
    have := rowAt_some h
    rw [List.getElem?_eq_getElem h, Option.some.injEq] at this
    rw [this]
  rw [h2, List.set_cons_zero]
  simp only [markL, List.append_assoc, List.cons_append, List.nil_append]

section
variable {P : Program} {K : Value → AHeap → Prop} {env : Env} {h : AHeap} {dst : Option Tmp} {ty : TypeId} {pos : String} {after : Array Edge} {guard : Option (Nat × Bool)}
theorem o_indexLN {t e : TypeId} {x y : Operand} {v z : Value} {b : Nat} {xss : List (List Int)} {kd : IntKind} {i : Nat} (hu : P.underlying t = some (.slice e)) (hi : InfoIs P e z 1 b)
    (hx : aeval env x = v) (hv : Lists h v xss) (hy : aeval env y = .int kd (i : Int)) (hlt : i < xss.length) (hK : ∀ p, IsElem v i p → K p h) : AOp P ⟨dst, .indexAddr t x y, ty, pos, after, guard⟩ K env h :=
  o_indexL hu hi hx hv hy (by omega) (by omega) hK
end
section
variable {P : Program} {ops : Array Oper} {KE : Env → AHeap → Prop} {os : List Oper} {env : Env} {h : AHeap} {d : Option Tmp} {ty : TypeId} {pos : String} {af : Array Edge} {g : Option (Nat × Bool)}
theorem d_indexLN {t e : TypeId} {x y : Operand} {v z : Value} {b : Nat} {xss : List (List Int)} {kd : IntKind} {i : Nat} (hw : wantedA ops env ⟨d, .indexAddr t x y, ty, pos, af, g⟩ = some true) (hu : P.underlying t = some (.slice e)) (hi : InfoIs P e z 1 b)
    (hx : aeval env x = v) (hv : Lists h v xss) (hy : aeval env y = .int kd (i : Int)) (hlt : i < xss.length) (hK : ∀ p, IsElem v i p → DRun P ops KE os (env.put d p) h) : DRun P ops KE (⟨d, .indexAddr t x y, ty, pos, af, g⟩ :: os) env h :=
  d_indexL hw hu hi hx hv hy (by omega) (by omega) hK
end

/-! ## New blocks that lie one behind the other -/
def shf (t d j : Nat) : Nat := if j < t then j else j + d
def ShG (gs : Nat → List AObj) : Prop := ∀ t n d, t ≤ n → (gs (n + d)).length = (gs n).length ∧ ∀ (i : Nat) (o : AObj), (gs n)[i]? = some o →
  ∃ o1, (gs (n + d))[i]? = some o1 ∧ o.cells.length = o1.cells.length ∧ o.mine = o1.mine ∧ o.esz = o1.esz ∧
    ∀ (j : Nat) (v : Value), o.cells[j]? = some v → Within (n + (gs n).length) v ∧ ∃ v1, o1.cells[j]? = some v1 ∧ VRen (shf t d) v v1
theorem ShG.one {o : AObj} (ho : ∀ v ∈ o.cells, isPrim v = true) : ShG (fun _ => [o]) := fun t n d _ => ⟨rfl, fun i x hx => ⟨x, hx, rfl, rfl, rfl, fun j v hv => by
  have : x = o := by cases i <;> simp at hx; exact hx.symm
  subst this
  have := ho v (List.mem_of_getElem? hv)
  exact ⟨.prim this, v, hv, .prim this⟩⟩⟩
theorem ShG.app {gs1 gs2 : Nat → List AObj} {l : Nat} (h1 : ShG gs1) (h2 : ShG gs2) (hl : ∀ n, (gs1 n).length = l) : ShG (fun k => gs1 k ++ gs2 (k + l)) := fun t n d ht => by
  obtain ⟨a1, a2⟩ := h1 t n d ht
  obtain ⟨b1, b2⟩ := h2 t (n + l) d (by omega)
  have e : n + d + l = n + l + d := by omega
  refine ⟨by simp only [List.length_append, e, a1, b1], fun i o hi => ?_⟩
  by_cases c : i < l
  · rw [List.getElem?_append_left (by rw [hl]; exact c)] at hi
    obtain ⟨o1, q1, q2, q3, q4, q5⟩ := a2 i o hi
    refine ⟨o1, by rw [List.getElem?_append_left (by rw [hl]; exact c)]; exact q1, q2, q3, q4, fun j v hv => ?_⟩
    obtain ⟨r1, r2⟩ := q5 j v hv
    exact ⟨r1.mono (by simp only [List.length_append]; omega), r2⟩
  · rw [List.getElem?_append_right (by rw [hl]; omega), hl] at hi
    obtain ⟨o1, q1, q2, q3, q4, q5⟩ := b2 _ o hi
    refine ⟨o1, by rw [List.getElem?_append_right (by rw [hl]; omega), hl, e]; exact q1, q2, q3, q4, fun j v hv => ?_⟩
    obtain ⟨r1, r2⟩ := q5 j v hv
    exact ⟨r1.mono (by simp only [List.length_append, hl]; omega), r2⟩
theorem ShG.lls {xss : List (List Int)} : ShG (fun k => lls k xss) := fun t n d ht => by
  refine ⟨by rw [lls_len, lls_len], fun i o hi => ?_⟩
  cases i with
  | zero =>
    have : o = vls (vrows (n + 1) xss) := by simp [Am.lls] at hi; exact hi.symm
    subst this
    refine ⟨vls (vrows (n + d + 1) xss), rfl, by simp [vls, vrows_len], rfl, rfl, fun j v hv => ?_⟩
    have hv' : (vrows (n + 1) xss)[j]? = some v := hv
    have hlt := (List.getElem?_eq_some_iff.1 hv').1
    rw [vrows_len] at hlt
    rw [vrows_get hlt, Option.some.injEq] at hv'
    subst hv'
    refine ⟨.slice (by rw [lls_len]; omega), _, vrows_get hlt, ?_⟩
    have := VRen.slice (s := shf t d) (k := n + 1 + j) (off := 0) (ver := (rowAt xss j).length) (len := (rowAt xss j).length) (cap := (rowAt xss j).length)
    rwa [show shf t d (n + 1 + j) = n + d + 1 + j by rw [shf, if_neg (by omega)]; omega] at this
  | succ i =>
    have hi' : (xss.map lst)[i]? = some o := by simpa [Am.lls] using hi
    refine ⟨o, by simpa [Am.lls] using hi', rfl, rfl, rfl, fun j v hv => ?_⟩
    simp only [List.getElem?_map, Option.map_eq_some_iff] at hi'
    obtain ⟨xs, _, rfl⟩ := hi'
    have := lst_prim v (List.mem_of_getElem? hv)
    exact ⟨.prim this, v, hv, .prim this⟩

/-- The contract of a function that makes new blocks that lie one behind the other. -/
def RetG (P : Program) (f : FuncId) (args : List Value) (h : AHeap) (V : Nat → Value) (gs : Nat → List AObj) : Prop := Ret P f args h (V h.length) (h ++ gs h.length)
theorem RetG.toG {P : Program} {K : Value → AHeap → Prop} {h : AHeap} {f : FuncId} {vs : List Value} {V : Nat → Value} {gs : Nat → List AObj} (r : RetG P f vs h V gs) (hK : ∀ k, k = h.length → K (V k) (h ++ gs k)) : Tri P f vs h K := Ret.to r (hK _ rfl)
theorem shf_sl {t d n k : Nat} (h : t ≤ k) : VRen (shf t d) (sl k n) (sl (k + d) n) := by
  have := VRen.slice (s := shf t d) (k := k) (off := 0) (ver := n) (len := n) (cap := n)
  rwa [show shf t d k = k + d by rw [shf, if_neg (by omega)]] at this

theorem retg_of {P : Program} {f : FuncId} {args : List Value} {h : AHeap} {V : Nat → Value} {gs : Nat → List AObj} (sg : ShG gs) (hV : Within (h.length + (gs h.length).length) (V h.length)) (hR : ∀ d, VRen (shf h.length d) (V h.length) (V (h.length + d)))
    (t : Tri P f args h fun v h' => ∃ g0 g1 k, h' = h ++ g0 ++ gs k ++ g1 ∧ k = h.length + g0.length ∧ v = V k) : RetG P f args h V gs :=
  t.keeps fun hcl v1 h1 ⟨g0, g1, k, e1, e2, e3⟩ => by
    subst e2 e3 e1
    obtain ⟨s1, s2⟩ := sg h.length h.length g0.length (Nat.le_refl _)
    refine ⟨shf h.length g0.length, h ++ gs h.length, V h.length, ⟨fun j hj => by simp [shf, hj], by simp, fun i j _ _ he => ?_, fun j x hj => ?_⟩, by simpa using hV, hR _, rfl, rfl⟩
    · simp only [shf] at he
      split at he <;> split at he <;> omega
    · by_cases c : j < h.length
      · rw [List.getElem?_append_left c] at hj
        refine ⟨x, ?_, rfl, rfl, rfl, fun i v hv => ?_⟩
        · simp only [shf, c, if_true]
          rw [List.append_assoc, List.append_assoc, List.getElem?_append_left c]; exact hj
        · have := hcl j x hj v (List.mem_of_getElem? hv)
          exact ⟨this.mono (by simp), v, hv, .id this (fun q hq => by simp [shf, hq])⟩
      · rw [List.getElem?_append_right (by omega)] at hj
        obtain ⟨o1, q1, q2, q3, q4, q5⟩ := s2 _ x hj
        have hlt := (List.getElem?_eq_some_iff.1 q1).1
        refine ⟨o1, ?_, q2, q3, q4, fun i v hv => ?_⟩
        · simp only [shf, c, if_false]
          rw [List.getElem?_append_left (by simp only [List.length_append]; omega), List.getElem?_append_right (by simp only [List.length_append]; omega)]
          rw [← q1]; congr 1; simp only [List.length_append]; omega
        · obtain ⟨r1, r2⟩ := q5 i v hv
          exact ⟨by simpa using r1, r2⟩

/-- Two lists of lists, one behind the other. -/
def lls2 (k : Nat) (xss yss : List (List Int)) : List AObj := lls k xss ++ lls (k + (xss.length + 1)) yss
@[simp] theorem lls2_len {k : Nat} {xss yss : List (List Int)} : (lls2 k xss yss).length = xss.length + yss.length + 2 := by simp [lls2, lls_len]; omega
theorem lls2_left {h : AHeap} {k n : Nat} {xss yss : List (List Int)} (hk : k = h.length) (hn : xss.length = n) : Lists (h ++ lls2 k xss yss) (sl k n) xss := by
  rw [lls2, ← List.append_assoc]; exact (lls_lists hk hn).app _
theorem lls2_right {h : AHeap} {k n m : Nat} {xss yss : List (List Int)} (hk : k = h.length) (hn : xss.length = n) (hm : yss.length = m) : Lists (h ++ lls2 k xss yss) (sl (k + (n + 1)) m) yss := by
  rw [lls2, ← List.append_assoc, hn]; exact lls_lists (by simp only [List.length_append, lls_len, hn, hk]) hm
/-! ## Sizes and bounds -/
def szLL (left : Int) (xss : List (List Int)) : Int := if left - xss.length - total xss < 0 then -1 else left - xss.length - total xss
def LB (xss : List (List Int)) : Prop := xss.length ≤ 1048576 ∧ total xss ≤ 1048576
theorem szLL_spec {left : Int} {xss : List (List Int)} (hl : left ≤ 1048576) (c : ¬ szLL left xss < 0) : LB xss ∧ 0 ≤ szLL left xss ∧ szLL left xss ≤ left := by
  unfold szLL at *
  split at c
  · omega
  · rename_i h
    rw [if_neg h]
    exact ⟨⟨by omega, by omega⟩, by omega, by omega⟩
theorem LB.row {xss : List (List Int)} (h : LB xss) (i : Nat) : (rowAt xss i).length ≤ 1048576 := by
  by_cases c : i < xss.length
  · have := total_row c
    have := h.2
    omega
  · have : rowAt xss i = [] := by rw [rowAt, List.getD_eq_getElem?_getD, List.getElem?_eq_none (by omega)]; rfl
    rw [this]; simp
theorem LB.len {xss : List (List Int)} (h : LB xss) : xss.length ≤ 1048576 := h.1
theorem szLL_no0 {left : Int} {xss : List (List Int)} (h : left - xss.length < 0) : (-1 : Int) = szLL left xss := by rw [szLL, if_pos (by omega)]
theorem szLL_noS {left : Int} {xss : List (List Int)} {s : Nat} (hs : s < xss.length) (h : szL (left - xss.length - total (xss.take s)) (rowAt xss s).length < 0) : (-1 : Int) = szLL left xss := by
  have h1 := total_row hs
  rw [szLL, if_pos]
  unfold szL at h
  split at h <;> omega
theorem szL_step {left : Int} {xss : List (List Int)} {s : Nat} (hs : s < xss.length) (h : ¬ szL (left - xss.length - total (xss.take s)) (rowAt xss s).length < 0) :
    szL (left - xss.length - total (xss.take s)) (rowAt xss s).length = left - xss.length - total (xss.take (s + 1)) ∧ 0 ≤ left - xss.length - total (xss.take (s + 1)) := by
  rw [total_take hs]
  unfold szL at *
  split at h
  · omega
  · rename_i c
    rw [if_neg c]; omega
theorem szLL_yes {left : Int} {xss : List (List Int)} {s : Nat} (hs : s = xss.length) (h : 0 ≤ left - xss.length - total (xss.take s)) : left - xss.length - total (xss.take s) = szLL left xss := by
  subst hs
  rw [List.take_length] at *
  rw [szLL, if_neg (by omega)]
theorem eqL_take_step {xss yss : List (List Int)} {k : Nat} (h1 : k < xss.length) (h2 : k < yss.length) (h : xss.take k = yss.take k) (e : rowAt xss k = rowAt yss k) : xss.take (k + 1) = yss.take (k + 1) := by
  rw [take_row h1, take_row h2, h, e]
theorem eqL_take_full {xss yss : List (List Int)} {k : Nat} (hl : xss.length = yss.length) (hk : ¬ k < xss.length) (h : xss.take k = yss.take k) : xss = yss := by
  rwa [List.take_of_length_le (by omega), List.take_of_length_le (by omega)] at h
theorem neL_row {xss yss : List (List Int)} {k : Nat} (h : ¬ rowAt xss k = rowAt yss k) : xss ≠ yss := fun e => h (by rw [e])
theorem neL_len {xss yss : List (List Int)} (h : ¬ (xss.length : Int) = yss.length) : xss ≠ yss := fun e => h (by rw [e])
section
variable {P : Program} {ops : Array Oper} {KE : Env → AHeap → Prop} {os : List Oper} {env : Env} {h : AHeap} {d : Option Tmp} {ty : TypeId} {pos : String} {af : Array Edge} {g : Option (Nat × Bool)}
end
theorem ws_lls {h : AHeap} {xss : List (List Int)} : Within (h.length + (lls h.length xss).length) (sl h.length xss.length) := .slice (by rw [lls_len]; omega)
theorem RetG.toL {P : Program} {K : Value → AHeap → Prop} {h : AHeap} {f : FuncId} {vs : List Value} {xss : List (List Int)} (r : RetG P f vs h (sl · xss.length) (lls · xss))
    (hK : ∀ k, k = h.length → Lists (h ++ lls k xss) (sl k xss.length) xss → K (sl k xss.length) (h ++ lls k xss)) : Tri P f vs h K := r.toG fun k hk => hK k hk (lls_lists hk rfl)
section
variable {P : Program} {ops : Array Oper} {KE : Env → AHeap → Prop} {os : List Oper} {env : Env} {h : AHeap} {d : Option Tmp} {ty : TypeId} {pos : String} {af : Array Edge} {g : Option (Nat × Bool)}
end
end Go.Am

namespace Go.Am
set_option linter.unusedSimpArgs false
set_option linter.unusedVariables false
/-! ## Places in a list -/
def idxI (xs : List Int) (x : Int) : Int := idxTo (fun y => decide (x = y)) xs xs.length
theorem idx_has {xs : List Int} {x : Int} : decide (0 ≤ idxI xs x) = xs.contains x := by
  obtain ⟨h1, h2⟩ := idxTo_lt (g := fun y => decide (x = y)) (ys := xs) xs.length
  by_cases h : 0 ≤ idxI xs x
  · obtain ⟨k, hk, hg, _⟩ := h1 h
    rw [decide_eq_true h, has_yes hk (by have := of_decide_eq_true hg; exact this.symm)]
  · rw [decide_eq_false h]
    have h3 := h2 (by have : ¬ 0 ≤ idxTo (fun y => decide (x = y)) xs xs.length := h; omega)
    symm
    rw [← Bool.not_eq_true, List.contains_iff_mem]
    intro hm
    obtain ⟨k, hk, e⟩ := List.getElem_of_mem hm
    have := h3 k hk
    rw [getD_at hk, e] at this
    simp at this
theorem idxI_bnd {xs : List Int} {x : Int} : -1 ≤ idxI xs x ∧ idxI xs x < xs.length := by
  have : ∀ n, -1 ≤ idxTo (fun y => decide (x = y)) xs n ∧ idxTo (fun y => decide (x = y)) xs n < n := fun n => by
    induction n with
    | zero => simp [idxTo]
    | succ n ih => rw [idxTo]; split <;> (try split) <;> omega
  exact this _

/-! ## Numbers that are there twice -/
def hasAt (xs : List Int) (s : Nat) : Bool := (part xs 0 s).contains (xs.getD s 0)
def twiceT (xs : List Int) : Nat → Bool
  | 0 => false
  | s + 1 => twiceT xs s || hasAt xs s
theorem twice_step {xs : List Int} {s : Nat} (h : twiceT xs s = false) (c : hasAt xs s = false) : twiceT xs (s + 1) = false := by rw [twiceT, h, c]; rfl
def inR (n : Int) (x : Int) : Bool := decide (0 ≤ x ∧ x ≤ n - 1)
def rowT (n : Int) (xs : List Int) : Nat → Bool
  | 0 => true
  | t + 1 => rowT n xs t && (inR n (xs.getD t 0) && !hasAt xs t)
def wishL (n : Int) (xs : List Int) : Bool := rowT n xs xs.length
theorem rowT_eq {n : Int} {xs : List Int} : ∀ t, t ≤ xs.length → rowT n xs t = ((xs.take t).all (inR n) && !twiceT xs t)
  | 0, _ => by simp [rowT, twiceT]
  | t + 1, h => by
    rw [rowT, rowT_eq t (by omega), List.take_succ_eq_append_getElem (show t < xs.length by omega), List.all_append, twiceT, getD_at (show t < xs.length by omega)]
    simp only [List.all_cons, List.all_nil, Bool.and_true]
    cases (xs.take t).all (inR n) <;> cases twiceT xs t <;> cases inR n xs[t] <;> cases hasAt xs t <;> rfl
theorem wishL_eq {n : Int} {xs : List Int} : wishL n xs = (xs.all (fun x => decide (0 ≤ x ∧ x ≤ n - 1)) && !twiceT xs xs.length) := by
  rw [wishL, rowT_eq _ (Nat.le_refl _), List.take_length]; rfl
theorem rowT_step {n : Int} {xs : List Int} {t : Nat} (h : rowT n xs t = true) (h1 : decide (0 ≤ xs.getD t 0 ∧ xs.getD t 0 ≤ n - 1) = true) (h2 : hasAt xs t = false) : rowT n xs (t + 1) = true := by
  rw [rowT, h, h2, show inR n (xs.getD t 0) = true from h1]; rfl
theorem rowT_mono {n : Int} {xs : List Int} {t : Nat} (h : rowT n xs t = false) : ∀ m, t ≤ m → rowT n xs m = false
  | 0, hm => by have : t = 0 := by omega
                subst this; exact h
  | m + 1, hm => by
    by_cases e : t = m + 1
    · subst e; exact h
    · rw [rowT, rowT_mono h m (by omega)]; rfl
theorem wish_noR {n : Int} {xs : List Int} {t : Nat} (ht : t < xs.length) (h1 : decide (0 ≤ xs.getD t 0 ∧ xs.getD t 0 ≤ n - 1) = false) : wishL n xs = false :=
  rowT_mono (t := t + 1) (by rw [rowT, show inR n (xs.getD t 0) = false from h1]; simp) _ ht
theorem wish_noH {n : Int} {xs : List Int} {t : Nat} (ht : t < xs.length) (h2 : hasAt xs t = true) : wishL n xs = false :=
  rowT_mono (t := t + 1) (by rw [rowT, h2]; simp) _ ht

theorem allL_take_step {p : List Int → Bool} {xss : List (List Int)} {k : Nat} (hk : k < xss.length) (h : (xss.take k).all p = true) (hp : p (rowAt xss k) = true) : (xss.take (k + 1)).all p = true := by
  rw [take_row hk, List.all_append, h]; simp [hp]
theorem allL_take_full {p : List Int → Bool} {xss : List (List Int)} {k : Nat} (hk : ¬ k < xss.length) (h : (xss.take k).all p = true) : xss.all p = true := by
  rwa [List.take_of_length_le (by omega)] at h
theorem allL_false {p : List Int → Bool} {xss : List (List Int)} {k : Nat} (hk : k < xss.length) (hp : p (rowAt xss k) = false) : xss.all p = false := by
  rw [List.all_eq_false]
  exact ⟨_, rowAt_mem hk, by simp [hp]⟩
end Go.Am

namespace Go.Am
set_option linter.unusedSimpArgs false
set_option linter.unusedVariables false
section
variable {P : Program} {K : Value → AHeap → Prop} {env : Env} {h : AHeap} {dst : Option Tmp} {ty : TypeId} {pos : String} {after : Array Edge} {guard : Option (Nat × Bool)}
theorem o_nilSlice {t e yt : TypeId} {x y : Operand} (hu : P.underlying t = some (.slice e)) (hx : aeval env x = .slice none 0 0) (hy : aeval env y = .slice none 0 0)
    (hK : K (.bool true) h) : AOp P ⟨dst, .binOp .eql t x y yt, ty, pos, after, guard⟩ K env h :=
  .of_pure (.bool true) (fun m w a _ ho => by
    have h1 := ho x (by simp [Op.operands])
    have h2 := ho y (by simp [Op.operands])
    rw [hx] at h1; rw [hy] at h2
    have e1 := h1.nil_inv
    have e2 := h2.nil_inv
    refine ⟨.bool true, ?_, .prim rfl⟩
    have hr : ∀ d : Nat, (Op.equalIn (d + 1) t (.slice none 0 0) (.slice none 0 0)).run P w = .ok true w := fun d => by
      simp [Op.equalIn, run_underlying hu]
    simp only [execOp, e1, e2, eqGuard_at_slice, Sem.run_bind, Sem.run_pure, Result.andThen_ok, binOp, Op.equal, Op.maxDepth, hr 9999]) hK
end
/-! ## The best so far -/
section
variable (p q : Int) (xs : List Int) (F : List Int → Int)
end
section
variable {p q : Int} {xs : List Int} {F : List Int → Int}
end

/-! ## Parts have a bound -/
theorem within_func0 {n : Nat} {f : Fn} : Within n (.func f #[] #[]) := .func (fun i h => by simp at h) fun i h => by simp at h
/-! ## The heap while the best is sought -/
section
variable (h : AHeap) (BX FB : AObj) (p q : Int) (xs : List Int) (F : List Int → Int)
end
section
variable {h : AHeap} {BX FB : AObj} {p q : Int} {xs : List Int} {F : List Int → Int}
/-! ## The best by the reference -/
end
end Go.Am

namespace Go.Am
set_option linter.unusedSimpArgs false
set_option linter.unusedVariables false
section
variable {p q : Int} {xs : List Int} {F : List Int → Int}
end
end Go.Am

namespace Go.Am
set_option linter.unusedSimpArgs false
set_option linter.unusedVariables false
/-! ## Places -/
def plc (xs : List Int) (x : Int) : Int := if 0 ≤ idxI xs x then idxI xs x else xs.length
theorem plc_at {xs : List Int} {x : Int} {s : Nat} (h : idxTo (fun y => decide (x = y)) xs xs.length = (s : Int)) : (s : Int) = plc xs x := by
  have h' : idxI xs x = (s : Int) := h
  rw [plc, h', if_pos (by omega)]
theorem plc_none {xs : List Int} {x : Int} (h : idxTo (fun y => decide (x = y)) xs xs.length = -1) : (xs.length : Int) = plc xs x := by
  have h' : idxI xs x = -1 := h
  rw [plc, h', if_neg (by omega)]
/-! ## Orders -/
/-! ## Lists without repetition -/
/-! ## Friends -/
/-! ## Rooms -/
end Go.Am

namespace Go.Am
set_option linter.unusedSimpArgs false
set_option linter.unusedVariables false
section
variable {P : Program} {K : Value → AHeap → Prop} {env : Env} {h : AHeap} {dst : Option Tmp} {ty : TypeId} {pos : String} {after : Array Edge} {guard : Option (Nat × Bool)}
theorem o_lenV {t e : TypeId} {x : Operand} {k n : Nat} {us : List Value} (hu : P.underlying t = some (.slice e)) (hx : aeval env x = sl k n) (ho : h[k]? = some (vls us)) (hn : us.length = n) (hK : K (i64 n) h) :
    AOp P ⟨dst, .call { callee := .builtin .len, args := #[x], argTypes := #[t] }, ty, pos, after, guard⟩ K env h :=
  aop_len hu hx (fun ad ha => by cases ha; exact ⟨k, 0, n, vls us, rfl, ho, hn⟩) hK
end
end Go.Am

namespace Go.Am
set_option linter.unusedSimpArgs false
set_option linter.unusedVariables false
def hrow (n : Int) (xss : List (List Int)) (s : Nat) : Bool := wishL n (rowAt xss s) && decide (((rowAt xss s).length : Int) = n)
def okH (xss : List (List Int)) : Bool := decide (1 ≤ (xss.length : Int) ∧ (xss.length : Int) ≤ 8) && (List.range xss.length).all (hrow xss.length xss)
/-! ## Turns -/
def freeB (L : List Bool) : Nat := L.countP id
/-! ## Lists of lists somewhere in a heap -/
def Spl (h : AHeap) (k : Nat) (xss yss : List (List Int)) (X X' : AHeap) : Prop := ∃ g, X = h ++ lls k xss ++ g ∧ X' = h ++ lls k yss ++ g
theorem spl_here {h : AHeap} {k : Nat} {xss yss : List (List Int)} : Spl h k xss yss (h ++ lls k xss) (h ++ lls k yss) := ⟨[], by simp, by simp⟩
theorem spl_more {h : AHeap} {k : Nat} {xss yss : List (List Int)} {X X' t : AHeap} (s : Spl h k xss yss X X') : Spl h k xss yss (X ++ t) (X' ++ t) := by
  obtain ⟨g, rfl, rfl⟩ := s
  exact ⟨g ++ t, by simp only [List.append_assoc], by simp only [List.append_assoc]⟩
theorem mark_spl {P : Program} {f : FuncId} {a : List Value} {v : Value} {h X X' : AHeap} {k : Nat} {xss yss : List (List Int)} (s : Spl h k xss yss X X') (r : ∀ g, Ret P f a (h ++ lls k xss ++ g) v (h ++ lls k yss ++ g)) : Ret P f a X v X' := by
  obtain ⟨g, rfl, rfl⟩ := s
  exact r g

section
variable {P : Program} {K : Value → AHeap → Prop} {env : Env} {h : AHeap} {dst : Option Tmp} {ty : TypeId} {pos : String} {after : Array Edge} {guard : Option (Nat × Bool)}
theorem o_loadLG {t : TypeId} {x : Operand} {v p : Value} {dd : TypeDesc} {xss : List (List Int)} {i : Nat} {h0 : AHeap} (hu : P.underlying t = some dd) (hd : aggD dd = false) (hx : aeval env x = p) (hp : IsElem v i p) (hv : Lists h0 v xss) (hg : Grown h0 h) (hlt : i < xss.length)
    (hK : ∀ u, Ints h0 u (rowAt xss i) → K u h) : AOp P ⟨dst, .load t x, ty, pos, after, guard⟩ K env h := by
  obtain ⟨g, rfl⟩ := hg
  rcases hv with ⟨rfl, rfl⟩ | ⟨k, off, ver, cap, o, rfl, h2, h3, h4, h5, h6, h7⟩
  · simp at hlt
  · obtain ⟨u, g1, g2⟩ := h7 i _ (rowAt_some hlt)
    exact aop_load hu hd (hx.trans hp) (lk_prev h2) h3 g1 (hK u g2)
end
section
variable {P : Program} {ops : Array Oper} {KE : Env → AHeap → Prop} {os : List Oper} {env : Env} {h : AHeap} {d : Option Tmp} {ty : TypeId} {pos : String} {af : Array Edge} {g : Option (Nat × Bool)}
theorem d_loadLG {t : TypeId} {x : Operand} {v p : Value} {dd : TypeDesc} {xss : List (List Int)} {i : Nat} {h0 : AHeap} (hw : wantedA ops env ⟨d, .load t x, ty, pos, af, g⟩ = some true) (hu : P.underlying t = some dd) (hd : aggD dd = false) (hx : aeval env x = p) (hp : IsElem v i p) (hv : Lists h0 v xss) (hg : Grown h0 h) (hlt : i < xss.length)
    (hK : ∀ u, Ints h0 u (rowAt xss i) → DRun P ops KE os (env.put d u) h) : DRun P ops KE (⟨d, .load t x, ty, pos, af, g⟩ :: os) env h := by
  obtain ⟨g, rfl⟩ := hg
  rcases hv with ⟨rfl, rfl⟩ | ⟨k, off, ver, cap, o, rfl, h2, h3, h4, h5, h6, h7⟩
  · simp at hlt
  · obtain ⟨u, g1, g2⟩ := h7 i _ (rowAt_some hlt)
    exact d_do hw (aop_load hu hd (hx.trans hp) (lk_prev h2) h3 g1 ⟨rfl, rfl⟩) (by rw [List.length_append]; exact g2.within.mono (by omega)) (hK u g2)
end
end Go.Am

namespace Go.Am
set_option linter.unusedSimpArgs false
set_option linter.unusedVariables false

/-- A nil slice that is returned stands for an empty block of one's own, too. -/
theorem Tri.ghost {P : Program} {f : FuncId} {args : List Value} {h : AHeap} {R R' : Value → AHeap → Prop} (t : Tri P f args h R)
    (hR : ∀ v h', R v h' → R' v h' ∨ (v = .slice none 0 0 ∧ R' (sl h'.length 0) (h' ++ [lst []]))) : Tri P f args h R' :=
  ⟨t.1, fun m w rs hr hvs => (t.2 m w rs hr hvs).mono fun e w' ⟨v, r, m', h', he, p1, p2, p3, p4⟩ => by
    rcases hR v h' p4 with h1 | ⟨rfl, h1⟩
    · exact ⟨v, r, m', h', he, p1, p2, p3, h1⟩
    · have hr0 : r = .slice none 0 0 := p3.nil_inv
      subst hr0
      have mold : ∀ {k}, k < h'.length → m'.push h'.length ⟨0, 0, 0⟩ k = m' k := fun {k} hk => by simp [Map.push, Nat.ne_of_lt hk]
      have ex : Ext m' h' (m'.push h'.length ⟨0, 0, 0⟩) (h' ++ [lst []]) := fun k x hk => by
        have hlt := (List.getElem?_eq_some_iff.1 hk).1
        exact ⟨x, by rw [List.getElem?_append_left hlt]; exact hk, Nat.le_refl _, rfl, rfl, fun l1 hl => ⟨l1, by rw [mold hlt]; exact hl, fun _ => rfl⟩⟩
      have rel : Rel (m'.push h'.length ⟨0, 0, 0⟩) (h' ++ [lst []]) w' := by
        refine ⟨fun k o l1 hk hl hp => ?_, fun k1 k2 o1 o2 l1 l2 g1 g2 e1 e2 hne hm hp1 hp2 => ?_, fun k o hk v hv => ?_⟩
        · rcases lookup_push hk with ⟨h1, h2⟩ | ⟨rfl, rfl⟩
          · rw [mold h1] at hl
            obtain ⟨c, ty, fz, hb, hc, hm⟩ := p1.holds k o l1 h2 hl hp
            exact ⟨c, ty, fz, hb, fun i hi => by obtain ⟨r, r1, r2⟩ := hc i hi; exact ⟨r, r1, r2.mono ex⟩, hm⟩
          · simp [lst] at hp
        · rcases lookup_push g1 with ⟨a1, a2⟩ | ⟨rfl, rfl⟩
          · rcases lookup_push g2 with ⟨b1, b2⟩ | ⟨rfl, rfl⟩
            · rw [mold a1] at e1; rw [mold b1] at e2
              exact p1.sep k1 k2 o1 o2 l1 l2 a2 b2 e1 e2 hne hm hp1 hp2
            · simp [lst] at hp2
          · simp [lst] at hp1
        · rcases lookup_push hk with ⟨h1, h2⟩ | ⟨rfl, rfl⟩
          · exact (p1.closed k o h2 v hv).mono (by simp)
          · simp [lst] at hv
      have st : Step m h w (m'.push h'.length ⟨0, 0, 0⟩) (h' ++ [lst []]) w' := by
        refine p2.trans ⟨fun k o ho => ?_, Nat.le_refl _, rfl, rfl, rfl, fun _ _ _ => rfl, fun k o l hk hl hp => ?_⟩
        · have hlt := (List.getElem?_eq_some_iff.1 ho).1
          exact ⟨o, by rw [List.getElem?_append_left hlt]; exact ho, Nat.le_refl _, rfl, rfl, fun l hl => ⟨l, by rw [mold hlt]; exact hl, fun _ => rfl⟩, fun hn => by rw [mold hlt]; exact hn⟩
        · rcases lookup_push hk with ⟨a1, a2⟩ | ⟨rfl, rfl⟩
          · rw [mold a1] at hl
            exact .inr ⟨k, o, l, a2, hl, hp, rfl, id⟩
          · simp [lst] at hp
      exact ⟨sl h'.length 0, .slice none 0 0, _, _, he, rel, st, vrel_ghost (by simp) (by simp [Map.push]; rfl), h1⟩⟩

section
variable {P : Program} {K : Value → AHeap → Prop} {env : Env} {h : AHeap} {dst : Option Tmp} {ty : TypeId} {pos : String} {after : Array Edge} {guard : Option (Nat × Bool)}
/-- Whether an empty slice is nil is not known. -/
theorem o_anySlice {t e yt : TypeId} {x y : Operand} {v : Value} (hu : P.underlying t = some (.slice e)) (hx : aeval env x = v) (hv : Ints h v []) (hy : aeval env y = .slice none 0 0)
    (hT : K (.bool true) h) (hF : K (.bool false) h) : AOp P ⟨dst, .binOp .eql t x y yt, ty, pos, after, guard⟩ K env h := by
  rcases hv with ⟨rfl, _⟩ | ⟨k, off, ver, cap, o, rfl, g2, g3, g4, g5, g6, g7⟩
  · exact o_nilSlice hu hx hy hT
  · refine .of_run fun m w a hr ho => ?_
    have h1 := ho x (by simp [Op.operands])
    have h2 := ho y (by simp [Op.operands])
    rw [hx] at h1; rw [hy] at h2
    obtain ⟨l, hl, ad, cap', he, _⟩ := h1.slice_inv g2 g3
    have hr' : ∀ d : Nat, (Op.equalIn (d + 1) t (.slice ad ([] : List Int).length cap') (.slice none 0 0)).run P w = .ok (decide (ad = none ∧ cap' = 0)) w ∨ (Op.equalIn (d + 1) t (.slice ad ([] : List Int).length cap') (.slice none 0 0)).run P w = .ok true w ∨ (Op.equalIn (d + 1) t (.slice ad ([] : List Int).length cap') (.slice none 0 0)).run P w = .ok false w := fun d => by
      cases ad with
      | none => right; left; simp [Op.equalIn, run_underlying hu]
      | some a0 => right; right; simp [Op.equalIn, run_underlying hu]
    have : ∃ b : Bool, (Op.equalIn (9999 + 1) t (.slice ad ([] : List Int).length cap') (.slice none 0 0)).run P w = .ok b w := by
      rcases hr' 9999 with h | h | h <;> exact ⟨_, h⟩
    obtain ⟨b, hb⟩ := this
    refine ⟨.bool b, .bool b, m, h, w, ?_, hr, Step.refl, .prim rfl, by cases b; exact hF; exact hT⟩
    simp only [execOp, he, h2.nil_inv, eqGuard_at_slice, Sem.run_bind, Sem.run_pure, Result.andThen_ok, binOp, Op.equal, Op.maxDepth, hb]

theorem fillV1 (k n : Nat) : Instr.fill (fun k => some (k * 1, 1)) (Array.map (fun x => (Value.slice none 0 0).cells[x % (Value.slice none 0 0).cells.size]!) (Array.range (1 * 1))) [(0, sl k n)] = some #[sl k n] := by
  have e : Array.range (1 * 1) = #[0] := by decide
  rw [e]
  simp [Instr.fill, Value.cells]
theorem o_buildV0 {t e : TypeId} {b : Nat} (hu : P.underlying t = some (.slice e)) (hi : InfoIs P e (.slice none 0 0) 1 b) (hK : ∀ k, k = h.length → K (sl k 0) (h ++ [vls []])) :
    AOp P ⟨dst, .buildSlice t 0 #[], ty, pos, after, guard⟩ K env h := by
  obtain ⟨inf, g1, g2, g3, g4⟩ := hi.get
  refine aop_buildSlice (out := #[]) hu g1 g2 rfl (by rw [g3]; rfl) (by omega) (by omega) (by simp [Instr.fill]) (by simp) ?_
  have := hK h.length rfl
  rw [g3]; exact this
theorem o_buildV1 {t e : TypeId} {b k0 n : Nat} {x : Operand} (hu : P.underlying t = some (.slice e)) (hi : InfoIs P e (.slice none 0 0) 1 b) (hx : aeval env x = sl k0 n) (hK : ∀ k, k = h.length → K (sl k 1) (h ++ [vls [sl k0 n]])) :
    AOp P ⟨dst, .buildSlice t 1 #[(0, x)], ty, pos, after, guard⟩ K env h := by
  obtain ⟨inf, g1, g2, g3, g4⟩ := hi.get
  refine aop_buildSlice (out := #[sl k0 n]) hu g1 g2 rfl (by rw [g3]; rfl) (by omega) (by omega) (by rw [g3]; simp only [List.map_cons, List.map_nil, hx]; exact fillV1 k0 n) (by simp [g3]) ?_
  have := hK h.length rfl
  rw [g3]; exact this
theorem o_appendV1 {t e : TypeId} {s x : Operand} {k n k2 b : Nat} {us : List Value} {w : Value} {h' : AHeap} (hu : P.underlying t = some (.slice e)) (hi : InfoIs P e (.slice none 0 0) 1 b) (hb : b ≤ 100)
    (hx : aeval env s = sl k n) (ho : h[k]? = some (vls us)) (hn : us.length = n) (hy : aeval env x = sl k2 1) (ho2 : h[k2]? = some (vls [w])) (h1 : oneCellA w = true) (hle : n ≤ 10000000)
    (hs : h.set k (vls (us ++ [w])) = h') (hK : K (sl k (n + 1)) h') :
    AOp P ⟨dst, .call { callee := .builtin .append, args := #[s, x], argTypes := #[t, t] }, ty, pos, after, guard⟩ K env h := by
  obtain ⟨inf, g1, g2, g3, g4⟩ := hi.get
  have hnews : news (vls [w]) 0 (1 * (vls us).esz) = [w] := rfl
  refine aop_append (o := vls us) (o2 := vls [w]) hu g1 g2 (by rw [g3]; rfl) (by rw [g3]; rfl) (by show 0 < 1; omega) rfl hx ho hn (by show n * 1 = n; omega) rfl hy ho2 rfl (by rw [hnews]; simp [h1]) (by omega) ?_ (by omega) ?_
  · rw [g4]
    have := Nat.mul_le_mul (show n + 1 ≤ 10000001 by omega) hb
    omega
  · rw [hnews]
    subst hs
    exact hK
end

/-! ## Lists of lists whose rows lie anywhere -/
def rvals (r : Nat → Nat) (xss : List (List Int)) (s : Nat) : List Value := (List.range s).map fun i => sl (r i) (rowAt xss i).length
theorem rvals_len {r : Nat → Nat} {xss : List (List Int)} {s : Nat} : (rvals r xss s).length = s := by simp [rvals]
theorem rvals_succ {r : Nat → Nat} {xss : List (List Int)} {s : Nat} : rvals r xss (s + 1) = rvals r xss s ++ [sl (r s) (rowAt xss s).length] := by simp [rvals, List.range_succ]
theorem rvals_congr {r r' : Nat → Nat} {xss : List (List Int)} {s : Nat} (h : ∀ i, i < s → r i = r' i) : rvals r xss s = rvals r' xss s := by
  unfold rvals
  apply List.map_congr_left
  intro i hi
  rw [h i (List.mem_range.1 hi)]
theorem rvals_get {r : Nat → Nat} {xss : List (List Int)} {s i : Nat} (h : i < s) : (rvals r xss s)[i]? = some (sl (r i) (rowAt xss i).length) := by simp [rvals, List.getElem?_range h]
structure OwnS (b : Nat) (H : AHeap) (kO : Nat) (xss : List (List Int)) (s : Nat) (r : Nat → Nat) : Prop where
  out : H[kO]? = some (vls (rvals r xss s))
  low : b ≤ kO
  row : ∀ i, i < s → b ≤ r i ∧ r i ≠ kO ∧ H[r i]? = some (lst (rowAt xss i))
  inj : ∀ i j, i < s → j < s → r i = r j → i = j
theorem owns_zero {b : Nat} {H : AHeap} {kO : Nat} {xss : List (List Int)} (h : H[kO]? = some (vls [])) (hb : b ≤ kO) : OwnS b H kO xss 0 fun _ => 0 :=
  ⟨h, hb, fun i hi => by omega, fun i j hi => by omega⟩
theorem owns_step {b kO s kR : Nat} {H : AHeap} {xss : List (List Int)} {r : Nat → Nat} (o : OwnS b H kO xss s r) (hb : b ≤ H.length) (hk : kR = H.length) {t : AObj} :
    OwnS b ((H ++ [lst (rowAt xss s)] ++ [t]).set kO (vls (rvals r xss s ++ [sl kR (rowAt xss s).length]))) kO xss (s + 1) (fun i => if i = s then kR else r i) := by
  subst hk
  have hlt := (List.getElem?_eq_some_iff.1 o.out).1
  have hold : ∀ k, k < H.length → k ≠ kO → ((H ++ [lst (rowAt xss s)] ++ [t]).set kO (vls (rvals r xss s ++ [sl H.length (rowAt xss s).length])))[k]? = H[k]? := fun k hk hne => by
    rw [List.getElem?_set_ne (Ne.symm hne), List.append_assoc, List.getElem?_append_left hk]
  have hnew : ((H ++ [lst (rowAt xss s)] ++ [t]).set kO (vls (rvals r xss s ++ [sl H.length (rowAt xss s).length])))[H.length]? = some (lst (rowAt xss s)) := by
    rw [List.getElem?_set_ne (by omega), List.append_assoc, List.getElem?_append_right (Nat.le_refl _)]; simp
  refine ⟨?_, o.low, fun i hi => ?_, fun i j hi hj => ?_⟩
  · rw [List.getElem?_set_self (by simp; omega), rvals_succ]
    simp only [if_true]
    rw [rvals_congr (r := fun i => if i = s then H.length else r i) (r' := r) (fun i hi => by rw [if_neg (by omega)])]
  · by_cases e : i = s
    · subst e
      simp only [if_true]
      exact ⟨hb, by omega, hnew⟩
    · obtain ⟨h1, h2, h3⟩ := o.row i (by omega)
      simp only [if_neg e]
      exact ⟨h1, h2, by rw [hold _ (List.getElem?_eq_some_iff.1 h3).1 h2]; exact h3⟩
  · have hri : ∀ i, i < s → r i < H.length := fun i hi => (List.getElem?_eq_some_iff.1 (o.row i hi).2.2).1
    intro he
    by_cases e1 : i = s <;> by_cases e2 : j = s
    · omega
    · simp only [e1, if_true, if_neg e2] at he
      have := hri j (by omega); omega
    · simp only [e2, if_true, if_neg e1] at he
      have := hri i (by omega); omega
    · simp only [if_neg e1, if_neg e2] at he
      exact o.inj i j (by omega) (by omega) he
theorem owns_push {b kO s : Nat} {H g : AHeap} {xss : List (List Int)} {r : Nat → Nat} (o : OwnS b H kO xss s r) : OwnS b (H ++ g) kO xss s r :=
  ⟨lk_prev o.out, o.low, fun i hi => ⟨(o.row i hi).1, (o.row i hi).2.1, lk_prev (o.row i hi).2.2⟩, o.inj⟩
theorem grown_set {h H : AHeap} {k : Nat} {o : AObj} (g : Grown h H) (hk : h.length ≤ k) : Grown h (H.set k o) := by
  obtain ⟨g0, rfl⟩ := g
  rw [List.set_append_right _ _ hk]
  exact ⟨_, rfl⟩

theorem retl_of2 {P : Program} {f : FuncId} {args : List Value} {h : AHeap} {xss : List (List Int)}
    (t : Tri P f args h fun v h' => ∃ kO r, v = sl kO xss.length ∧ Grown h h' ∧ OwnS h.length h' kO xss xss.length r) : RetG P f args h (sl · xss.length) (lls · xss) :=
  t.keeps fun hcl v1 h1 ⟨kO, r, e1, ⟨g, e2⟩, o⟩ => by
    subst e1
    let s : Nat → Nat := fun j => if j < h.length then j else if j = h.length then kO else r (j - h.length - 1)
    have s1 : ∀ j, j < h.length → s j = j := fun j hj => by simp [s, hj]
    have s2 : s h.length = kO := by simp [s]
    have s3 : ∀ i, s (h.length + 1 + i) = r i := fun i => by
      simp only [s]
      rw [if_neg (by omega), if_neg (by omega)]
      congr 1; omega
    have hlen : (h ++ lls h.length xss).length = h.length + xss.length + 1 := by rw [List.length_append, lls_len]; omega
    have hlow := o.low
    refine ⟨s, h ++ lls h.length xss, sl h.length xss.length, ⟨s1, by rw [hlen]; omega, fun i j hi hj he => ?_, fun k o2 hk => ?_⟩, .slice (by rw [hlen]; omega), ?_, rfl, rfl⟩
    · rw [hlen] at hi hj
      have cls : ∀ i, i < h.length + xss.length + 1 → (i < h.length ∧ s i = i) ∨ (i = h.length ∧ s i = kO) ∨ (∃ a, a < xss.length ∧ i = h.length + 1 + a ∧ s i = r a) := fun i hi => by
        by_cases c1 : i < h.length
        · exact .inl ⟨c1, s1 i c1⟩
        · by_cases c2 : i = h.length
          · exact .inr (.inl ⟨c2, by rw [c2, s2]⟩)
          · refine .inr (.inr ⟨i - h.length - 1, by omega, by omega, ?_⟩)
            rw [← s3 (i - h.length - 1)]; congr 1; omega
      rcases cls i hi with ⟨a1, a2⟩ | ⟨a1, a2⟩ | ⟨a, a1, a3, a2⟩ <;> rcases cls j hj with ⟨b1, b2⟩ | ⟨b1, b2⟩ | ⟨c, b1, b3, b2⟩ <;> rw [a2, b2] at he
      · exact he
      · omega
      · have := (o.row c b1).1; omega
      · omega
      · omega
      · exact absurd he.symm (o.row c b1).2.1
      · have := (o.row a a1).1; omega
      · exact absurd he (o.row a a1).2.1
      · have := o.inj a c a1 b1 he; omega
    · by_cases c1 : k < h.length
      · rw [List.getElem?_append_left c1] at hk
        refine ⟨o2, by rw [s1 k c1, e2, List.getElem?_append_left c1]; exact hk, rfl, rfl, rfl, fun i v hv => ?_⟩
        have := hcl k o2 hk v (List.mem_of_getElem? hv)
        exact ⟨this.mono (by rw [hlen]; omega), v, hv, .id this s1⟩
      · by_cases c2 : k = h.length
        · subst c2
          rw [lls_outer rfl, Option.some.injEq] at hk
          subst hk
          refine ⟨vls (rvals r xss xss.length), by rw [s2]; exact o.out, by simp [vls, vrows_len, rvals_len], rfl, rfl, fun i v hv => ?_⟩
          have hv' : (vrows (h.length + 1) xss)[i]? = some v := hv
          have hi := (List.getElem?_eq_some_iff.1 hv').1
          rw [vrows_len] at hi
          rw [vrows_get hi, Option.some.injEq] at hv'
          subst hv'
          refine ⟨.slice (by rw [hlen]; omega), _, rvals_get hi, ?_⟩
          have := VRen.slice (s := s) (k := h.length + 1 + i) (off := 0) (ver := (rowAt xss i).length) (len := (rowAt xss i).length) (cap := (rowAt xss i).length)
          rwa [s3] at this
        · have hkl := (List.getElem?_eq_some_iff.1 hk).1
          rw [hlen] at hkl
          obtain ⟨a, ha, rfl⟩ : ∃ a, a < xss.length ∧ k = h.length + 1 + a := ⟨k - h.length - 1, by omega, by omega⟩
          rw [lls_row rfl ha, Option.some.injEq] at hk
          subst hk
          refine ⟨_, by rw [s3]; exact (o.row a ha).2.2, rfl, rfl, rfl, fun i v hv => ?_⟩
          have := lst_prim v (List.mem_of_getElem? hv)
          exact ⟨.prim this, v, hv, .prim this⟩
    · have := VRen.slice (s := s) (k := h.length) (off := 0) (ver := xss.length) (len := xss.length) (cap := xss.length)
      rwa [s2] at this

theorem ghost_fin {h : AHeap} : ∀ (v : Value) (h' : AHeap), ((v = .slice none 0 0 ∧ Grown h h') ∨ (∃ k, v = sl k 0 ∧ Grown h h' ∧ h'[k]? = some (lst []) ∧ h.length ≤ k)) →
    (∃ k, v = (fun k => sl k 0) k ∧ Grown h h' ∧ h'[k]? = some (lst []) ∧ h.length ≤ k) ∨ (v = .slice none 0 0 ∧ ∃ k, sl h'.length 0 = (fun k => sl k 0) k ∧ Grown h (h' ++ [lst []]) ∧ (h' ++ [lst []])[k]? = some (lst []) ∧ h.length ≤ k) := fun v h' hq => by
  rcases hq with ⟨e, g⟩ | hq
  · exact .inr ⟨e, h'.length, rfl, g.push _, lk_last rfl, g.len⟩
  · exact .inl hq

section
variable {P : Program} {K : Value → AHeap → Prop} {env : Env} {h : AHeap} {dst : Option Tmp} {ty : TypeId} {pos : String} {after : Array Edge} {guard : Option (Nat × Bool)}
end

/-! ## Results with lists of lists, or none -/
def RetOG (P : Program) (f : FuncId) (args : List Value) (h : AHeap) (ok : Bool) (V : Nat → Value) (gs : Nat → List AObj) (N : Value) : Prop :=
  (ok = true → RetG P f args h V gs) ∧ (ok = false → Ret P f args h N h)
/-! ## Marks of two lists of lists -/
theorem markL_row : ∀ {c : Int} {xss : List (List Int)} {s : Nat}, s < xss.length → rowAt (markL c xss) s = upto (c + total (xss.take s)) (rowAt xss s).length
  | c, x :: xs, 0, _ => by simp [markL, rowAt, total]
  | c, x :: xs, s + 1, h => by
    have := markL_row (c := c + x.length) (xss := xs) (s := s) (by simpa using h)
    have e1 : rowAt (markL c (x :: xs)) (s + 1) = rowAt (markL (c + x.length) xs) s := by simp [markL, rowAt]
    have e2 : rowAt (x :: xs) (s + 1) = rowAt xs s := by simp [rowAt]
    rw [e1, this, e2]
    simp only [List.take_succ_cons, total, Int.natCast_add, Int.add_assoc]
end Go.Am

namespace Go.Am
set_option linter.unusedSimpArgs false
set_option linter.unusedVariables false
section
variable {P : Program} {K : Value → AHeap → Prop} {env : Env} {h : AHeap} {dst : Option Tmp} {ty : TypeId} {pos : String} {after : Array Edge} {guard : Option (Nat × Bool)}
end

/-! ## All numbers but one -/
abbrev slP (k m n : Nat) : Value := .slice (some ⟨k, 0, some n⟩) m n
theorem Ints.pre {h : AHeap} {k m n : Nat} {xs ys : List Int} (ho : h[k]? = some (lst (xs ++ ys))) (hm : xs.length = m) (hn : (xs ++ ys).length = n) : Ints h (slP k m n) xs := by
  subst hm hn
  exact .inr ⟨k, 0, _, _, lst (xs ++ ys), rfl, ho, by simp [lst], rfl, by simp, by simp, fun i z hz => by
    have hi := (List.getElem?_eq_some_iff.1 hz).1
    simp only [lst, List.map_append, Nat.zero_add]
    rw [List.getElem?_append_left (by simpa using hi)]
    simp [hz]⟩

/-! ## Games -/
abbrev gv (p q : Int) (n m k : Nat) : Value := .agg #[i64 p, i64 q, sl k n, sl (k + 1) m]
theorem Within.agg4 {n : Nat} {a b c d : Value} (h1 : Within n a) (h2 : Within n b) (h3 : Within n c) (h4 : Within n d) : Within n (.agg #[a, b, c, d]) :=
  .agg fun i q1 => by
    match i, q1 with
    | 0, _ => exact h1
    | 1, _ => exact h2
    | 2, _ => exact h3
    | 3, _ => exact h4
theorem VRen.agg4 {s : Nat → Nat} {a b c d a' b' c' d' : Value} (h1 : VRen s a a') (h2 : VRen s b b') (h3 : VRen s c c') (h4 : VRen s d d') : VRen s (.agg #[a, b, c, d]) (.agg #[a', b', c', d']) :=
  .agg rfl fun i q1 q2 => by
    match i, q1 with
    | 0, _ => exact h1
    | 1, _ => exact h2
    | 2, _ => exact h3
    | 3, _ => exact h4
abbrev gt (p q : Int) (n m k : Nat) : Value := .tuple #[gv p q n m k, .bool true]
section
variable {P : Program} {ops : Array Oper} {KE : Env → AHeap → Prop} {os : List Oper} {env : Env} {h : AHeap} {d : Option Tmp} {ty : TypeId} {pos : String} {af : Array Edge} {g : Option (Nat × Bool)}
end

/-! ## The grid of a part of a game -/
section
variable {P : Program} {K : Value → AHeap → Prop} {env : Env} {h : AHeap} {dst : Option Tmp} {ty : TypeId} {pos : String} {after : Array Edge} {guard : Option (Nat × Bool)}
end

/-! ## A game less a row or a column -/
end Go.Am

namespace Go.Am
set_option linter.unusedSimpArgs false
set_option linter.unusedVariables false

/-! ## Rounds of a map -/
/-! ## Parts, without bounds -/
/-! ## Who envies, who is free of it -/
/-! ## Turns until somebody is free -/
end Go.Am

namespace Go.Am
set_option linter.unusedSimpArgs false
set_option linter.unusedVariables false

/-! ## The ring in the walks -/
end Go.Am

namespace Go.Am
set_option linter.unusedSimpArgs false
set_option linter.unusedVariables false

/-! ## Who still has a house -/
def lftH (os : List Int) : List Bool := os.map fun x => decide (x < 0)
/-! ## One round -/
/-! ## How many are left -/
theorem getB_set {L : List Bool} {j k : Nat} (h : j ≠ k) : (L.set j false).getD k false = L.getD k false := by
  rw [List.getD_eq_getElem?_getD, List.getElem?_set, if_neg h, ← List.getD_eq_getElem?_getD]
/-! ## A ring is there -/
structure OkR (xss : List (List Int)) (os : List Int) : Prop where
  hH : okH xss = true
  hl : os.length = xss.length
  hr : 0 < freeB (lftH os)
/-! ## All rounds -/
/-! ## Rounds of envy, padded -/
end Go.Am

namespace Go.Am
set_option linter.unusedSimpArgs false
set_option linter.unusedVariables false
theorem lists_cells {h : AHeap} {v : Value} {xss : List (List Int)} (hv : Lists h v xss) : v.cells.toList = [v] := by
  rcases hv with ⟨rfl, _⟩ | ⟨k, off, ver, cap, o, rfl, _⟩ <;> rfl
end Go.Am

namespace Go.Am
set_option linter.unusedSimpArgs false
set_option linter.unusedVariables false

section
variable {P : Program} {K : Value → AHeap → Prop} {env : Env} {h : AHeap} {dst : Option Tmp} {ty : TypeId} {pos : String} {after : Array Edge} {guard : Option (Nat × Bool)}
end
section
variable {P : Program} {ops : Array Oper} {KE : Env → AHeap → Prop} {os : List Oper} {env : Env} {h : AHeap} {d : Option Tmp} {ty : TypeId} {pos : String} {af : Array Edge} {g : Option (Nat × Bool)}
end

/-! ## Sets -/
/-! ## Places in whole lists -/
/-! ## Who could do better -/
structure Blk where
  xss : List (List Int)
  ms : List Int
  ls : List Int
def Blk.who (B : Blk) (m : Nat) : Int := B.ls.getD (B.ls.length - (m + 1)) 0
def Blk.row (B : Blk) (m : Nat) : List Int := rowAt B.xss (B.who m).toNat
def Blk.has (B : Blk) (m : Nat) : Int := B.ms.getD (B.who m).toNat 0
def Blk.own (B : Blk) (m : Nat) : Nat := (plc (B.row m) (B.has m)).toNat
def takeT (T : Nat) (h : Int) : Nat := T ||| 2 ^ h.toNat
structure OkB (B : Blk) (n : Nat) : Prop where
  hF : okH B.xss = true
  hn : B.xss.length = n
  hm : wishL n B.ms = true
  hml : B.ms.length = n
  hls : ∀ x ∈ B.ls, 0 ≤ x ∧ x < (n : Int)
def RelB (n : Nat) (ls : List Int) (T : Nat) (F : List Bool) : Prop := F.length = n ∧ ∀ x : Int, 0 ≤ x → x < (n : Int) → F.getD x.toNat false = (decide (x ∈ ls) && !T.testBit x.toNat)
theorem take_bit {T j : Nat} {h : Int} : (takeT T h).testBit j = (T.testBit j || decide (h.toNat = j)) := by
  rw [takeT, Nat.testBit_or, Nat.testBit_two_pow]
theorem RelB.take {n : Nat} {ls : List Int} {T : Nat} {F : List Bool} {h : Int} (r : RelB n ls T F) (hh : 0 ≤ h ∧ h < (n : Int)) : RelB n ls (takeT T h) (F.set h.toNat false) := by
  refine ⟨by rw [List.length_set]; exact r.1, fun x h0 h1 => ?_⟩
  rw [take_bit]
  by_cases e : h.toNat = x.toNat
  · rw [e, decide_eq_true rfl, List.getD_eq_getElem?_getD, List.getElem?_set_self (by rw [r.1]; omega)]
    simp
  · rw [getB_set e, r.2 x h0 h1, decide_eq_false e, Bool.or_false]
/-! ## The walks -/
/-! ## The first set -/
section
variable {P : Program} {K : Value → AHeap → Prop} {env : Env} {h : AHeap} {dst : Option Tmp} {ty : TypeId} {pos : String} {after : Array Edge} {guard : Option (Nat × Bool)}
end
section
variable {P : Program} {ops : Array Oper} {KE : Env → AHeap → Prop} {os : List Oper} {env : Env} {h : AHeap} {d : Option Tmp} {ty : TypeId} {pos : String} {af : Array Edge} {g : Option (Nat × Bool)}
end
end Go.Am

namespace Go.Am
set_option linter.unusedSimpArgs false
set_option linter.unusedVariables false
open Ieee

/-! ## Operations -/
abbrev fl (x : Nat) : Value := .float .f32 x
theorem VRel.float {m : Map} {h : AHeap} {k : FloatKind} {x : Nat} {r : Value} (v : VRel m h (.float k x) r) : r = .float k x := by cases v; rfl

section
variable {P : Program} {K : Value → AHeap → Prop} {env : Env} {h : AHeap} {dst : Option Tmp} {ty : TypeId} {pos : String} {after : Array Edge} {guard : Option (Nat × Bool)}
end
section
variable {P : Program} {ops : Array Oper} {KE : Env → AHeap → Prop} {os : List Oper} {env : Env} {h : AHeap} {d : Option Tmp} {ty : TypeId} {pos : String} {af : Array Edge} {g : Option (Nat × Bool)}
end
end Go.Am

namespace Go.Am
set_option linter.unusedSimpArgs false
set_option linter.unusedVariables false
open Ieee

theorem s_read (x : Nat) : single.read x = (if x % 2147483648 < 8388608 then .number (x / 2147483648 % 2 == 1) (x % 2147483648) (-149)
    else if x % 2147483648 < 2139095040 then .number (x / 2147483648 % 2 == 1) (8388608 + x % 2147483648 % 8388608) (-149 + (x % 2147483648 / 8388608 - 1 : Nat))
    else if x % 2147483648 = 2139095040 then .infinity (x / 2147483648 % 2 == 1) else .nan (x / 2147483648 % 2 == 1) (x % 2147483648 - 2139095040)) := rfl
/-! ## What is written -/
theorem lt_log2 {n : Nat} : n < 2 ^ (n.log2 + 1) := Nat.lt_log2_self
theorem log2_le {n k : Nat} (hn : n ≠ 0) (h : n < 2 ^ (k + 1)) : n.log2 ≤ k := by
  have := (Nat.log2_lt hn).2 h
  omega
theorem cut_le {neg : Bool} {n b f : Nat} (h : n.log2 ≤ f + b) : Toward.even.cut neg n b ≤ 2 ^ (f + 1) := by
  have hg : n / (1 <<< min b (n.log2 + 2)) < 2 ^ (f + 1) := by
    rw [Nat.one_shiftLeft, Nat.div_lt_iff_lt_mul (Nat.two_pow_pos _), ← Nat.pow_add]
    exact Nat.lt_of_lt_of_le lt_log2 (Nat.pow_le_pow_right (by decide) (by omega))
  have : Toward.even.cut neg n b ≤ n / (1 <<< min b (n.log2 + 2)) + 1 := by
    unfold Toward.cut
    simp only
    generalize (decide (1 <<< min b (n.log2 + 2) < 2 * (n % 1 <<< min b (n.log2 + 2))) || _) = c
    cases c <;> simp
  omega
theorem log2_shl {m a : Nat} (hm : m ≠ 0) : (m <<< a).log2 ≤ m.log2 + a := by
  rw [Nat.shiftLeft_eq]
  refine log2_le (Nat.mul_ne_zero hm (Nat.pos_iff_ne_zero.1 (Nat.two_pow_pos _))) ?_
  rw [show m.log2 + a + 1 = (m.log2 + 1) + a by omega, Nat.pow_add]
  exact Nat.mul_lt_mul_of_pos_right lt_log2 (Nat.two_pow_pos _)
theorem pow23 : 8388608 = 2 ^ (22 + 1) := by decide
theorem near_rung (f : Format) (neg : Bool) (mag : Nat) (place : Int) : ∃ r, f.nearest neg mag place = f.word neg r ∧ r ≤ f.infRung ∧
    ∀ E : Nat, (mag = 0 ∨ place + (mag.log2 : Int) - f.fractionBits - f.leastPlace ≤ E) → r ≤ E * f.binade + 2 * f.binade := by
  unfold Format.nearest
  by_cases h0 : mag = 0
  · exact ⟨0, by rw [if_pos h0], Nat.zero_le _, fun _ _ => Nat.zero_le _⟩
  · rw [if_neg h0]
    refine ⟨_, rfl, Nat.min_le_right _ _, fun E hE => ?_⟩
    have hE := hE.resolve_left h0
    generalize hl : max (place + (mag.log2 : Int) - (f.fractionBits : Int)) f.leastPlace = last
    have hk : Toward.even.cut neg (mag <<< (place - last).toNat) (last - place).toNat ≤ 2 * f.binade := by
      have h1 := log2_shl (a := (place - last).toNat) h0
      have := cut_le (neg := neg) (n := mag <<< (place - last).toNat) (b := (last - place).toNat) (f := f.fractionBits) (by omega)
      rw [Nat.pow_succ, Nat.mul_comm] at this
      exact this
    refine Nat.le_trans (Nat.min_le_left _ _) (Nat.add_le_add (Nat.mul_le_mul_right _ ?_) hk)
    omega
theorem s_parts (neg : Bool) (r : Nat) (hr : r < 2147483648) : single.word neg r % 2147483648 = r ∧ (single.word neg r / 2147483648 % 2 == 1) = neg := by
  have e : single.word neg r = if neg then 2147483648 + r else r := rfl
  rw [e]
  cases neg
  · simp only [Bool.false_eq_true, if_false]
    exact ⟨by omega, by rw [show r / 2147483648 % 2 = 0 by omega]; rfl⟩
  · simp only [if_true]
    exact ⟨by omega, by rw [show (2147483648 + r) / 2147483648 % 2 = 1 by omega]; rfl⟩
theorem s_word (neg : Bool) (r : Nat) (hr : r < 2139095040) : ∃ m i, single.read (single.word neg r) = .number neg m i ∧ (m = 0 ∨ i + (m.log2 : Int) ≤ (r / 8388608 : Nat) - 127) := by
  have hw := s_parts neg r (by omega)
  rw [s_read, hw.1, hw.2]
  by_cases c : r < 8388608
  · rw [if_pos c]
    refine ⟨r, -149, rfl, ?_⟩
    by_cases h0 : r = 0
    · exact .inl h0
    · right
      have : r.log2 ≤ 22 := log2_le h0 (pow23 ▸ c)
      omega
  · rw [if_neg c, if_pos hr]
    refine ⟨_, _, rfl, .inr ?_⟩
    have : (8388608 + r % 8388608).log2 ≤ 23 := log2_le (by omega) (by omega)
    omega
theorem s_inf (neg : Bool) : single.read (single.word neg 2139095040) = .infinity neg := by
  have hw := s_parts neg 2139095040 (by omega)
  rw [s_read, hw.1, hw.2, if_neg (by omega), if_neg (by omega), if_pos rfl]
/-- A number between -2^(E+1) and 2^(E+1). -/
def Sm (E : Int) (x : Nat) : Prop := ∃ s m i, single.read x = .number s m i ∧ (m = 0 ∨ i + (m.log2 : Int) ≤ E)
def NN (x : Nat) : Prop := (single.read x).isNaN = false
def Ps (x : Nat) : Prop := (∃ m i, single.read x = .number false m i) ∨ single.read x = .infinity false
theorem Sm.mono {E E' : Int} {x : Nat} (h : Sm E x) (he : E ≤ E') : Sm E' x := by
  obtain ⟨s, m, i, h1, h2⟩ := h
  exact ⟨s, m, i, h1, by omega⟩
theorem Sm.nn {E : Int} {x : Nat} (h : Sm E x) : NN x := by obtain ⟨s, m, i, h1, _⟩ := h; rw [NN, h1]; rfl
theorem Ps.nn {x : Nat} (h : Ps x) : NN x := by
  rcases h with ⟨m, i, h⟩ | h <;> rw [NN, h] <;> rfl
theorem write_any (neg : Bool) (mag : Nat) (place : Int) : (∃ m i, single.read (single.nearest neg mag place) = .number neg m i) ∨ single.read (single.nearest neg mag place) = .infinity neg := by
  obtain ⟨r, e, hr, _⟩ := near_rung single neg mag place
  have hr : r ≤ 2139095040 := hr
  rw [e]
  by_cases c : r = 2139095040
  · rw [c]; exact .inr (s_inf neg)
  · obtain ⟨m, i, h3, _⟩ := s_word neg r (by omega)
    exact .inl ⟨m, i, h3⟩
/-! ## The operations -/
def fAdd (x y : Nat) : Nat := (single.add x y).getD 0
def fSub (x y : Nat) : Nat := (single.sub x y).getD 0
def fMul (x y : Nat) : Nat := (single.mul x y).getD 0
def fDiv (x y : Nat) : Nat := (single.div x y).getD 0
theorem mul_pos {x y m n : Nat} {i j : Int} (hx : single.read x = .number false m i) (hy : single.read y = .number false n j) : single.mul x y = some (fMul x y) ∧ Ps (fMul x y) := by
  have e : single.mul x y = some (single.nearest false (m * n) (i + j)) := by rw [Format.mul, hx, hy]; rfl
  refine ⟨by rw [fMul, e]; rfl, ?_⟩
  rw [fMul, e]
  exact write_any false (m * n) (i + j)
end Go.Am

namespace Go.Am
set_option linter.unusedSimpArgs false
set_option linter.unusedVariables false
open Ieee

/-! ## Small whole numbers -/
def fI (n : Int) : Nat := FloatKind.f32.nearest n
/-! ## Orders -/
abbrev ord (x y : Nat) : Option Ordering := single.order x y
def geB (x y : Nat) : Bool := ord x y == some .gt || ord x y == some .eq
def leB (x y : Nat) : Bool := ord x y == some .lt || ord x y == some .eq
def gtB (x y : Nat) : Bool := ord x y == some .gt
def ltB (x y : Nat) : Bool := ord x y == some .lt
/-- A place of a cake. -/
def plF (p : Int) (x : Nat) : Bool := geB x 0 && leB x (fI p)
def PlD (x : Nat) : Prop := ∃ s m i, single.read x = .number s m i ∧ (s = true → m = 0) ∧ (m = 0 ∨ i + (m.log2 : Int) ≤ 10)
theorem PlD.sm {x : Nat} (h : PlD x) : Sm 10 x := by obtain ⟨s, m, i, e, _, h⟩ := h; exact ⟨s, m, i, e, h⟩
theorem PlD.nn {x : Nat} (h : PlD x) : NN x := h.sm.nn
/-! ## A part of a piece -/
def cA (x : Nat) (k : Nat) : Nat := if gtB x (fI k) then x else fI k
def cB (y : Nat) (k : Nat) : Nat := if ltB y (fI ((k : Int) + 1)) then y else fI ((k : Int) + 1)
def cD (x y k : Nat) : Nat := fSub (cB y k) (cA x k)
def cSum (x y : Nat) (ws : List Int) : Nat → Nat
  | 0 => 0
  | k + 1 => if gtB (cD x y k) 0 then fAdd (cSum x y ws k) (fMul (fI (ws.getD k 0)) (cD x y k)) else cSum x y ws k
/-! ## In double precision -/
end Go.Am

namespace Go.Am
set_option linter.unusedSimpArgs false
set_option linter.unusedVariables false
open Ieee
section
variable {P : Program} {K : Value → AHeap → Prop} {env : Env} {h : AHeap} {dst : Option Tmp} {ty : TypeId} {pos : String} {after : Array Edge} {guard : Option (Nat × Bool)}
end
abbrev rowC (q i : Int) (xs : List Int) : List Int := part xs (i * q).toNat ((i + 1) * q).toNat
def cwK (p q i : Int) (xs : List Int) (x y : Nat) : Bool := (validC p q xs && decide (0 ≤ i ∧ i ≤ p - 1)) && (plF q x && (plF q y && !gtB x y))
variable {p q i : Int} {xs : List Int} {x y : Nat}
theorem cwK_yes (h1 : (validC p q xs && decide (0 ≤ i ∧ i ≤ p - 1)) = true) (h2 : plF q x = true) (h3 : plF q y = true) (h4 : gtB x y = false) : cwK p q i xs x y = true := by rw [cwK, h1, h2, h3, h4]; rfl
end Go.Am

namespace Go.Am
set_option linter.unusedSimpArgs false
set_option linter.unusedVariables false
open Ieee

/-! ## A number less itself -/
def finB (x : Nat) : Bool := match single.read x with | .number .. => true | _ => false
section
variable {P : Program} {K : Value → AHeap → Prop} {env : Env} {h : AHeap} {dst : Option Tmp} {ty : TypeId} {pos : String} {after : Array Edge} {guard : Option (Nat × Bool)}
end

/-! ## Marks -/
def mP (x : Nat) (ws : List Int) (k : Nat) : Nat := fMul (fI (ws.getD k 0)) (fSub (fI ((k : Int) + 1)) (cA x k))
def mLeft (x w : Nat) (ws : List Int) : Nat → Nat
  | 0 => w
  | k + 1 => if gtB (fI ((k : Int) + 1)) x then fSub (mLeft x w ws k) (mP x ws k) else mLeft x w ws k
def mHit (x w : Nat) (ws : List Int) (k : Nat) : Bool := gtB (fI ((k : Int) + 1)) x && (geB (mP x ws k) (mLeft x w ws k) && decide (0 < ws.getD k 0))
def mRes (x w : Nat) (ws : List Int) (k : Nat) : Nat := fAdd (cA x k) (fDiv (mLeft x w ws k) (fI (ws.getD k 0)))
def mHitI (x w : Nat) (ws : List Int) (z : Int) : Bool := mHit x w ws z.toNat
def mFir (x w : Nat) (ws : List Int) (n : Nat) : Int := idxTo (mHitI x w ws) (cntL n) n
def mAll (q : Int) (x w : Nat) (ws : List Int) : Nat := if 0 ≤ mFir x w ws q.toNat then mRes x w ws (mFir x w ws q.toNat).toNat else fI q
def cmK (p q i : Int) (xs : List Int) (x w : Nat) : Bool := (validC p q xs && decide (0 ≤ i ∧ i ≤ p - 1)) && (plF q x && (geB w 0 && finB w))
variable {p q i : Int} {xs : List Int} {x w : Nat}
theorem cmK_yes (h1 : (validC p q xs && decide (0 ≤ i ∧ i ≤ p - 1)) = true) (h2 : plF q x = true) (h3 : geB w 0 = true) (h4 : finB w = true) : cmK p q i xs x w = true := by rw [cmK, h1, h2, h3, h4]; rfl
end Go.Am

namespace Go.Am
set_option linter.unusedSimpArgs false
set_option linter.unusedVariables false
open Ieee

/-! ## Halves -/
/-! ## Rounded to at most -/
end Go.Am

namespace Go.Am
set_option linter.unusedSimpArgs false
set_option linter.unusedVariables false
open Ieee

/-! ## Numbers not below zero, and not too great -/
def NF (E : Int) (x : Nat) : Prop := ∃ m i, single.read x = .number false m i ∧ (m = 0 ∨ i + (m.log2 : Int) ≤ E)
theorem NF.sm {E : Int} {x : Nat} (h : NF E x) : Sm E x := by obtain ⟨m, i, e, b⟩ := h; exact ⟨false, m, i, e, b⟩
theorem NF.mono {E E' : Int} {x : Nat} (h : NF E x) (he : E ≤ E') : NF E' x := by obtain ⟨m, i, e, b⟩ := h; exact ⟨m, i, e, by omega⟩
theorem NF.fin {E : Int} {x : Nat} (h : NF E x) : finB x = true := by obtain ⟨m, i, e, b⟩ := h; rw [finB, e]
def hf (x : Nat) : Nat := fDiv x 1073741824
/-! ## Whole numbers -/
end Go.Am

namespace Go.Am
set_option linter.unusedSimpArgs false
set_option linter.unusedVariables false
open Ieee
abbrev ccW (q : Int) (xs : List Int) : Nat := cSum 0 (fI q) (rowC q 0 xs) q.toNat
abbrev ccA (q : Int) (xs : List Int) : Nat := mAll q 0 (hf (ccW q xs)) (rowC q 0 xs)
structure CC (p q : Int) (xs : List Int) : Prop where
  w0 : (validC p q xs && decide ((0 : Int) ≤ 0 ∧ (0 : Int) ≤ p - 1)) = true
  w1 : (validC p q xs && decide ((0 : Int) ≤ 1 ∧ (1 : Int) ≤ p - 1)) = true
  h0 : plF q 0 = true
  h1 : plF q (fI q) = true
  h2 : plF q (ccA q xs) = true
  g1 : gtB 0 (fI q) = false
  g2 : gtB 0 (ccA q xs) = false
  g3 : gtB (ccA q xs) (fI q) = false
  f5 : floatBits .quo .f32 (ccW q xs) 1073741824 = some (hf (ccW q xs))
  f6 : floatBits .mul .f32 1056964608 (ccW q xs) = some (hf (ccW q xs))
  m1 : geB (hf (ccW q xs)) 0 = true
  m2 : finB (hf (ccW q xs)) = true
  nn : NN (ccA q xs)
section
variable {p q : Int} {xs : List Int}
theorem CC.k1 (c : CC p q xs) : cwK p q 0 xs 0 (fI q) = true := cwK_yes c.w0 c.h0 c.h1 c.g1
theorem CC.k2 (c : CC p q xs) : cmK p q 0 xs 0 (hf (ccW q xs)) = true := cmK_yes c.w0 c.h0 c.m1 c.m2
theorem CC.k3 (c : CC p q xs) : cwK p q 1 xs 0 (ccA q xs) = true := cwK_yes c.w1 c.h0 c.h2 c.g2
theorem CC.k4 (c : CC p q xs) : cwK p q 1 xs (ccA q xs) (fI q) = true := cwK_yes c.w1 c.h2 c.h1 c.g3
end
end Go.Am

namespace Go.Am
set_option linter.unusedSimpArgs false
set_option linter.unusedVariables false
def lstF (xs : List Nat) : AObj := ⟨xs.map fl, true, 1⟩
def Flts (h : AHeap) (v : Value) (xs : List Nat) : Prop :=
  (v = .slice none 0 0 ∧ xs = []) ∨
  ∃ k off ver cap o, v = .slice (some ⟨k, off, some ver⟩) xs.length cap ∧ h[k]? = some o ∧ o.cells.length = ver ∧ o.esz = 1 ∧ xs.length ≤ cap ∧ off + cap = ver ∧
    ∀ (i : Nat) (z : Nat), xs[i]? = some z → o.cells[off + i]? = some (fl z)
theorem Flts.app {h : AHeap} {v : Value} {xs : List Nat} (hv : Flts h v xs) (g : List AObj) : Flts (h ++ g) v xs := by
  rcases hv with hv | ⟨k, off, ver, cap, o, h1, h2, h3, h4, h5, h6, h7⟩
  · exact .inl hv
  · exact .inr ⟨k, off, ver, cap, o, h1, by rw [List.getElem?_append_left (List.getElem?_eq_some_iff.1 h2).1]; exact h2, h3, h4, h5, h6, h7⟩
theorem Flts.within {h : AHeap} {v : Value} {xs : List Nat} (hv : Flts h v xs) : Within h.length v := by
  rcases hv with ⟨rfl, _⟩ | ⟨k, off, ver, cap, o, rfl, h2, _⟩
  · exact .prim rfl
  · exact .slice (List.getElem?_eq_some_iff.1 h2).1
theorem Flts.own {h : AHeap} {k n : Nat} {xs : List Nat} (ho : h[k]? = some (lstF xs)) (hn : xs.length = n) : Flts h (sl k n) xs := by
  subst hn
  exact .inr ⟨k, 0, _, _, lstF xs, rfl, ho, by simp [lstF], rfl, Nat.le_refl _, by simp, fun i z hz => by simp [lstF, hz]⟩
section
variable {P : Program} {K : Value → AHeap → Prop} {env : Env} {h : AHeap} {dst : Option Tmp} {ty : TypeId} {pos : String} {after : Array Edge} {guard : Option (Nat × Bool)}
end
section
variable {P : Program} {K : Value → AHeap → Prop} {env : Env} {h : AHeap} {dst : Option Tmp} {ty : TypeId} {pos : String} {after : Array Edge} {guard : Option (Nat × Bool)}
end
section
variable {P : Program} {K : Value → AHeap → Prop} {env : Env} {h : AHeap} {dst : Option Tmp} {ty : TypeId} {pos : String} {after : Array Edge} {guard : Option (Nat × Bool)}
end
section
variable {P : Program} {ops : Array Oper} {KE : Env → AHeap → Prop} {os : List Oper} {env : Env} {h : AHeap} {d : Option Tmp} {op : Op} {ty : TypeId} {pos : String} {af : Array Edge} {g : Option (Nat × Bool)}
end
section
variable {P : Program} {ops : Array Oper} {KE : Env → AHeap → Prop} {os : List Oper} {env : Env} {h : AHeap} {d : Option Tmp} {ty : TypeId} {pos : String} {af : Array Edge} {g : Option (Nat × Bool)}
end
end Go.Am

namespace Go.Am
set_option linter.unusedSimpArgs false
set_option linter.unusedVariables false
open Ieee

/-! ## Values over one base -/
def V (m : Nat) (i : Int) : Nat := m * 2 ^ (i + 300).toNat
/-! ## Rounding, told more finely -/
end Go.Am

namespace Go.Am
set_option linter.unusedSimpArgs false
set_option linter.unusedVariables false
open Ieee
end Go.Am

namespace Go.Am
set_option linter.unusedSimpArgs false
set_option linter.unusedVariables false
open Ieee
end Go.Am

namespace Go.Am
set_option linter.unusedSimpArgs false
set_option linter.unusedVariables false

section
variable {P : Program} {K : Value → AHeap → Prop} {env : Env} {h : AHeap} {dst : Option Tmp} {ty : TypeId} {pos : String} {after : Array Edge} {guard : Option (Nat × Bool)}
theorem aop_appendIn {t e : TypeId} {s x : Operand} {i : TypeInfo} {k ver n cp k2 off2 ver2 m c2 : Nat} {o o2 : AObj} (hu : P.underlying t = some (.slice e)) (hi : P.info? e = some i)
    (hs : i.size = o.esz) (hpos : 0 < o.esz) (hs2 : o2.esz = o.esz)
    (hx : aeval env s = .slice (some ⟨k, 0, some ver⟩) n cp) (ho : h[k]? = some o) (hver : o.cells.length = ver) (hfull : cp * o.esz = ver) (hm : o.mine = true)
    (hy : aeval env x = .slice (some ⟨k2, off2, some ver2⟩) m c2) (ho2 : h[k2]? = some o2) (hver2 : o2.cells.length = ver2) (h1 : (news o2 off2 (m * o.esz)).all oneCellA = true)
    (hm0 : 0 < m) (hfit : n + m ≤ cp)
    (hK : K (.slice (some ⟨k, 0, some ver⟩) (n + m) cp) (h.set k ⟨o.cells.take (n * o.esz) ++ news o2 off2 (m * o.esz) ++ o.cells.drop ((n + m) * o.esz), true, o.esz⟩)) :
    AOp P ⟨dst, .call { callee := .builtin .append, args := #[s, x], argTypes := #[t, t] }, ty, pos, after, guard⟩ K env h :=
  .of_run fun mp w a hr hop => by
    have hp := hop s (by simp [Op.operands, Call.operands])
    have hq := hop x (by simp [Op.operands, Call.operands])
    rw [hx] at hp; rw [hy] at hq
    have hk := (List.getElem?_eq_some_iff.1 ho).1
    obtain ⟨ad, cx, rs, hxe, hrl, hnl, hcells, hrel⟩ := hr.news hq ho2 hver2 hm0 (by rw [hs2]; exact hpos)
    rw [hs2] at hrl hnl hrel
    obtain ⟨l, hl, b, cap', hse, c1, c2', c3, c4, c5⟩ := hp.slice_inv ho hver
    have hone := news_oneCell (by rw [hrl, hnl]) h1 hrel
    have hmm : 0 < m * o.esz := Nat.mul_pos hm0 hpos
    have hmul : (n + m) * o.esz = n * o.esz + m * o.esz := Nat.add_mul _ _ _
    have hfv : (n + m) * o.esz ≤ ver := by rw [← hfull]; exact Nat.mul_le_mul_right _ hfit
    have hlen' : (o.cells.take (n * o.esz) ++ Am.news o2 off2 (m * o.esz) ++ o.cells.drop ((n + m) * o.esz)).length = ver := by
      rw [List.length_append, List.length_append, hnl, List.length_take, List.length_drop]; omega
    have hop0 : 0 < o.cells.length := by omega
    obtain ⟨cr, te, fz, hblk, hcr, hmine⟩ := hr.holds k o l ho hl hop0
    obtain ⟨hbase, rfl, hcap⟩ := hmine hm
    have hcap2 := (c5 hm).1 hop0
    have hb0 := c4 (by omega)
    rw [hbase] at hb0
    subst hb0
    have hroom : n + m ≤ cap' := by omega
    have hfit2 : 0 + n * i.size + rs.length ≤ cr.size := by
      rw [hrl, hcap, ← hcap2, hs, Nat.zero_add, Nat.zero_add, ← Nat.add_mul]
      exact Nat.mul_le_mul_right _ hroom
    have hrun := run_append_room' (P := P) w t ty e te i hu hi l.block 0 n cap' cr hblk ad m cx rs (by rw [hs]; exact hrl) hcells hone hroom hfit2
    simp only [Nat.zero_add] at hrun hfit2
    rw [hs] at hrun hfit2
    have hexec : (execOp a.eval ⟨dst, .call { callee := .builtin .append, args := #[s, x], argTypes := #[t, t] }, ty, pos, after, guard⟩).run P w = .ok (.value (.slice (some ⟨l.block, 0, none⟩) (n + m) cap')) (w.setRow l.block (cr.toList.take (n * o.esz) ++ rs ++ cr.toList.drop (n * o.esz + rs.length)).toArray) := by
      simp only [execOp, resolve, invoke, builtin, Sem.run_bind, Sem.run_pure, Result.andThen_ok, List.map_toArray, List.map_cons, List.map_nil]
      rw [hse, hxe, hrun]
      simp
    have hcs : n * o.esz + rs.length ≤ cr.size := hfit2
    have hreal : ∀ j (hj : j < (o.cells.take (n * o.esz) ++ Am.news o2 off2 (m * o.esz) ++ o.cells.drop ((n + m) * o.esz)).length), ∃ r, (cr.toList.take (n * o.esz) ++ rs ++ cr.toList.drop (n * o.esz + rs.length)).toArray[j]? = some r ∧ VRel mp h (o.cells.take (n * o.esz) ++ Am.news o2 off2 (m * o.esz) ++ o.cells.drop ((n + m) * o.esz))[j] r := fun j hj => by
      have hg : (o.cells.take (n * o.esz) ++ Am.news o2 off2 (m * o.esz) ++ o.cells.drop ((n + m) * o.esz))[j]? = some (o.cells.take (n * o.esz) ++ Am.news o2 off2 (m * o.esz) ++ o.cells.drop ((n + m) * o.esz))[j] := List.getElem?_eq_getElem hj
      generalize (o.cells.take (n * o.esz) ++ Am.news o2 off2 (m * o.esz) ++ o.cells.drop ((n + m) * o.esz))[j] = v at hg
      rw [hlen'] at hj
      have ht1 : (o.cells.take (n * o.esz)).length = n * o.esz := by rw [List.length_take]; omega
      have ht2 : (cr.toList.take (n * o.esz)).length = n * o.esz := by rw [List.length_take, Array.length_toList]; omega
      have hold : ∀ j, j < ver → ∀ v, o.cells[j]? = some v → ∃ r, cr.toList[j]? = some r ∧ VRel mp h v r := fun j hj v hv => by
        obtain ⟨r, g1, g2⟩ := hcr j (by omega)
        rw [hbase, Nat.zero_add] at g1
        refine ⟨r, by simpa using g1, ?_⟩
        rw [List.getElem?_eq_getElem (by omega), Option.some.injEq] at hv
        subst hv; exact g2
      simp only [List.getElem?_toArray]
      rw [List.append_assoc, List.getElem?_append] at hg ⊢
      rw [ht1] at hg
      rw [ht2]
      by_cases c1 : j < n * o.esz
      · rw [if_pos c1] at hg ⊢
        rw [List.getElem?_take, if_pos c1] at hg ⊢
        exact hold j hj v hg
      · rw [if_neg c1] at hg ⊢
        rw [List.getElem?_append] at hg ⊢
        rw [hnl] at hg
        by_cases c2 : j - n * o.esz < m * o.esz
        · rw [if_pos c2] at hg
          rw [if_pos (by omega)]
          have hjr : j - n * o.esz < rs.length := by omega
          rw [List.getElem?_eq_getElem hjr]
          exact ⟨_, rfl, hrel _ _ _ hg (List.getElem?_eq_getElem hjr)⟩
        · rw [if_neg c2] at hg
          rw [if_neg (by omega)]
          rw [List.getElem?_drop] at hg ⊢
          rw [show (n + m) * o.esz + (j - n * o.esz - m * o.esz) = j by omega] at hg
          rw [show n * o.esz + rs.length + (j - n * o.esz - rs.length) = j by omega]
          exact hold j hj v hg
    obtain ⟨r1, s1⟩ := hr.rewrite ho hm hl (l' := l) (cs := o.cells.take (n * o.esz) ++ Am.news o2 off2 (m * o.esz) ++ o.cells.drop ((n + m) * o.esz)) (c' := (cr.toList.take (n * o.esz) ++ rs ++ cr.toList.drop (n * o.esz + rs.length)).toArray) (ty := te) (by rw [hlen']; omega) (setRow_heap w l.block cr _ te (0, 0) hblk) hbase
      (by rw [← hcap]; simp only [List.size_toArray, List.length_append, List.length_take, List.length_drop, Array.length_toList]; omega) (.inl ⟨rfl, hop0⟩)
      (by simp [World.setRow]) rfl rfl rfl (fun b _ hne => setRow_other w l.block b _ hne) hreal
    refine ⟨_, _, _, _, _, hexec, r1, s1, ?_, hK⟩
    refine .slice (o := ⟨o.cells.take (n * o.esz) ++ Am.news o2 off2 (m * o.esz) ++ o.cells.drop ((n + m) * o.esz), true, o.esz⟩) (by simp [hk]) (by simp only []; omega) ⟨_, _, _, rfl⟩ fun _ => ⟨l, by simp [Map.push], _, cap', rfl, hfit, c2', by simp only []; omega, fun _ => by simp [hbase], fun _ => ⟨fun _ => by simpa using hcap2, fun hz0 => by simp only [] at hz0; omega⟩⟩

/-- append(s, x...) of integers to a cut list of one's own: in place. -/
theorem o_appendIn {t e : TypeId} {s x : Operand} {k n L : Nat} {xs ys : List Int} {v : Value} {h' : AHeap} (hu : P.underlying t = some (.slice e)) (hi : InfoIs P e (i64 0) 1 8)
    (hx : aeval env s = .slice (some ⟨k, 0, some L⟩) n L) (ho : h[k]? = some (lst xs)) (hn : xs.length = L) (hy : aeval env x = v) (hv : Ints h v ys) (h0 : 0 < ys.length)
    (hfit : n + ys.length ≤ L) (hs : h.set k (lst (xs.take n ++ ys ++ xs.drop (n + ys.length))) = h') (hK : K (.slice (some ⟨k, 0, some L⟩) (n + ys.length) L) h') :
    AOp P ⟨dst, .call { callee := .builtin .append, args := #[s, x], argTypes := #[t, t] }, ty, pos, after, guard⟩ K env h := by
  obtain ⟨inf, g1, g2, g3, g4⟩ := hi.get
  subst hs
  have hno : (lst xs).cells.length = L := by simp [lst, hn]
  rcases hv with ⟨_, rfl⟩ | ⟨k2, off, ver, cap, o, rfl, h2, h3, h4, h5, h6, h7⟩
  · simp at h0
  · have hnews := news_ints h7
    have e1 : (lst xs).esz = 1 := rfl
    refine aop_appendIn (o := lst xs) (o2 := o) (m := ys.length) (cp := L) hu g1 (by rw [g3]; rfl) (by show 0 < 1; decide) (by rw [h4]; rfl) hx ho hno (by rw [e1, Nat.mul_one]) rfl hy h2 h3
      (by rw [e1, hnews]; simp [List.all_map]; intro a _; rfl) h0 hfit ?_
    rw [e1, hnews]
    have e2 : (⟨(lst xs).cells.take (n * 1) ++ ys.map i64 ++ (lst xs).cells.drop ((n + ys.length) * 1), true, 1⟩ : AObj) = lst (xs.take n ++ ys ++ xs.drop (n + ys.length)) := by
      simp [lst, List.map_take, List.map_drop]
    rw [e2]
    exact hK
end
/-- A cut list, as it reads. -/
theorem Ints.cut {h : AHeap} {k n L : Nat} {xs : List Int} (ho : h[k]? = some (lst xs)) (hn : xs.length = L) (hl : n ≤ L) : Ints h (.slice (some ⟨k, 0, some L⟩) n L) (xs.take n) := by
  subst hn
  have hlen : (xs.take n).length = n := by rw [List.length_take]; omega
  refine .inr ⟨k, 0, _, _, lst xs, by rw [hlen], ho, by simp [lst], rfl, by omega, by omega, fun i z hz => ?_⟩
  rw [List.getElem?_take] at hz
  split at hz
  · simp [lst, hz]
  · cases hz
end Go.Am

namespace Go.Am
set_option linter.unusedSimpArgs false
set_option linter.unusedVariables false
open Go.RowKit
theorem awp_drawB {P : Program} {n id : Nat} {l l0 : List Oper} {A S : Oper} {Q : Exit → Env → AHeap → Prop} {env : Env} {h : AHeap} (hmix : P.follows .mixedOrders = true)
    (hd : depOk l.toArray = true) (hs : sinkAt l.toArray (l0.length + 1) = true) (hsA : sinkAt l.toArray l0.length = true) (hin : dstsIn n l = true) (hl : l = l0 ++ [A, S])
    (hgA : A.guard = none) (hgS : S.guard = none)
    (hr : DRun P l.toArray (fun env1 h1 => AOp P A (fun v h2 => AOp P S (fun u h3 => Q .normal ((env1.put A.dst v).put S.dst u) h3) (env1.put A.dst v) h2) env1 h1) l0 env h) : AWp P n (.region id l.toArray true) Q env h := by
  intro m w a hrel he
  obtain ⟨V0, H0, rfl, hA, hst0⟩ := drun_run l0 env h hr
  generalize henv1 : dval (fun j => (l0[j]?).bind (·.dst)) V0 env (fun _ => true) l0.length = env1 at hA
  let V : Nat → Value := fun j => if j < l0.length then V0 j else undef
  let H : Nat → AHeap := fun j => if j ≤ l0.length then H0 j else H0 l0.length
  have hlen : l.length = l0.length + 2 := by rw [hl]; simp
  have hsz : l.toArray.size = l0.length + 2 := by simp [hlen]
  have hH00 : H 0 = H0 0 := by simp [H]
  have hHj : ∀ j, l0.length ≤ j → H j = H0 l0.length := fun j hj => by
    by_cases e : j = l0.length
    · simp [H, e]
    · have : ¬ j ≤ l0.length := by omega
      simp [H, this]
  have oA : (l.toArray)[l0.length]? = some A := by rw [List.getElem?_toArray, hl]; simp
  have oS : (l.toArray)[l0.length + 1]? = some S := by rw [List.getElem?_toArray, hl, List.getElem?_append_right (by omega)]; simp
  have hdst : ∀ j, j < l0.length → ((l.toArray)[j]?).bind (·.dst) = (l0[j]?).bind (·.dst) := fun j hj => by
    simp only [List.getElem?_toArray]; rw [hl, List.getElem?_append_left hj]
  have hdv : ∀ i, i ≤ l0.length → dval (fun j => ((l.toArray)[j]?).bind (·.dst)) V env (fun _ => true) i = dval (fun j => (l0[j]?).bind (·.dst)) V0 env (fun _ => true) i := fun i hi =>
    dval_congr i fun j hj => ⟨hdst j (by omega), by simp [V]; omega⟩
  have hdv1 : dval (fun j => ((l.toArray)[j]?).bind (·.dst)) V env (fun _ => true) l0.length = env1 := (hdv _ (Nat.le_refl _)).trans henv1
  have hrun : ∀ (i : Nat) (x : Oper), i < l0.length → (l.toArray)[i]? = some x → RunAt P l.toArray (fun j => ((l.toArray)[j]?).bind (·.dst)) V env H i x := fun i x hi hx => by
    have hx0 : l0[i]? = some x := by
      rw [List.getElem?_toArray, hl, List.getElem?_append_left hi] at hx; exact hx
    have := hst0 i x hx0
    unfold RunAt at this ⊢
    rw [hdv i (by omega)]
    have e1 : H i = H0 i := by simp [H]; omega
    have e2 : H (i + 1) = H0 (i + 1) := by simp [H]; omega
    have e3 : V i = V0 i := by simp [V, hi]
    rw [e1, e2, e3]; exact this
  have hst' : ∀ (i : Nat) (x : Oper), (l.toArray)[i]? = some x → ∃ g, H (i + 1) = H i ++ g ∧ (∀ y ∈ g, ∀ u ∈ y.cells, Within (H (i + 1)).length u) ∧ Within (H (i + 1)).length (V i) := fun i x hx => by
    by_cases hi : i < l0.length
    · obtain ⟨g, q1, q2, q3, _⟩ := hrun i x hi hx
      exact ⟨g, q1, q2, q3⟩
    · have e3 : V i = undef := by
        simp only [V, hi, if_false]
      exact ⟨[], by rw [hHj _ (by omega), hHj _ (by omega), List.append_nil], by simp, by rw [e3]; exact .tuple fun i h1 => by simp at h1⟩
  have hHN : H l.toArray.size = H0 l0.length := hHj _ (by omega)
  rw [← hH00] at hrel he ⊢
  have hsteps : ∀ j, j < l.toArray.size → ∃ g, H (j + 1) = H j ++ g := fun j hj => by
    obtain ⟨g, hg, _⟩ := hst' j _ (Array.getElem?_eq_getElem hj)
    exact ⟨g, hg⟩
  obtain ⟨g0, hg0⟩ := run_prefix hsteps 0 l.toArray.size (by omega) (Nat.le_refl _)
  have hH : ∀ {k : Nat}, k < (H 0).length → (H l.toArray.size)[k]? = (H 0)[k]? := fun {k} hk => by rw [hg0, List.getElem?_append_left hk]
  let m1 : Map := fun k => if k < (H 0).length then m k else none
  have hm1 : ∀ {k}, k < (H 0).length → m1 k = m k := fun {k} hk => by simp [m1, hk]
  have hm1' : ∀ {k l}, m1 k = some l → k < (H 0).length ∧ m k = some l := fun {k l} hk => by
    simp only [m1] at hk
    split at hk
    · exact ⟨‹_›, hk⟩
    · cases hk
  have ex : Ext m (H 0) m1 (H l.toArray.size) := fun k o hk => by
    have h1 := (List.getElem?_eq_some_iff.1 hk).1
    exact ⟨o, by rw [hH h1]; exact hk, Nat.le_refl _, rfl, rfl, fun l hl => ⟨l, by rw [hm1 h1]; exact hl, fun _ => rfl⟩⟩
  have hback : ∀ {k o l1}, (H l.toArray.size)[k]? = some o → m1 k = some l1 → (H 0)[k]? = some o ∧ m k = some l1 := fun {k o l1} hk hl => by
    obtain ⟨h1, h2⟩ := hm1' hl
    exact ⟨by rw [← hH h1]; exact hk, h2⟩
  have hcl : ∀ p, p ≤ l.toArray.size → Closed (H p) := fun p => by
    induction p with
    | zero => exact fun _ => hrel.closed
    | succ p ih =>
      intro hp k o hk u hu
      obtain ⟨g, hg, hcl, _⟩ := hst' p _ (Array.getElem?_eq_getElem (by omega))
      rw [hg] at hk
      rw [List.getElem?_append] at hk
      split at hk
      · exact (ih (by omega) k o hk u hu).mono (by rw [hg]; simp)
      · exact hcl o (List.mem_of_getElem? hk) u hu
  have inv0 : DInv n l.toArray V H env m w (Array.replicate l.toArray.size false) m1 a { w with drawn := w.drawn + 1 } := by
    refine ⟨⟨fun k o l1 hk hl hp => ?_, fun k1 k2 o1 o2 l1 l2 g1 g2 e1 e2 hne hm p1 p2 => ?_, hcl _ (Nat.le_refl _)⟩, fun k hk => ⟨fun l1 hl => by rw [hm1 hk]; exact hl, fun hn => by rw [hm1 hk]; exact hn⟩, fun k l1 hk hl => ?_,
      Nat.le_refl _, rfl, rfl, rfl, fun _ _ _ => rfl, fun k o l1 hk hl hp => ?_, ⟨he.size, he.defers, fun t => ?_⟩, by simp, fun i o hi hlj => ?_⟩
    · obtain ⟨q1, q2⟩ := hback hk hl
      obtain ⟨c, ty, fz, hb, hc, hm⟩ := hrel.holds k o l1 q1 q2 hp
      refine ⟨c, ty, fz, hb, fun j hj => ?_, hm⟩
      obtain ⟨r, r1, r2⟩ := hc j hj
      exact ⟨r, r1, r2.mono ex⟩
    · obtain ⟨q1, q2⟩ := hback g1 e1
      obtain ⟨q3, q4⟩ := hback g2 e2
      exact hrel.sep k1 k2 o1 o2 l1 l2 q1 q3 q2 q4 hne hm p1 p2
    · have := (hm1' hl).1; omega
    · obtain ⟨q1, q2⟩ := hback hk hl
      exact .inr ⟨k, o, l1, q1, q2, hp, rfl, fun hh => hh⟩
    · have : dval (fun j => ((l.toArray)[j]?).bind (·.dst)) V env (fun j => (Array.replicate l.toArray.size false).getD j false) l.toArray.size t = env t := by
        have h0 : ∀ N, dval (fun j => ((l.toArray)[j]?).bind (·.dst)) V env (fun j => (Array.replicate l.toArray.size false).getD j false) N = env := fun N => by
          induction N with
          | zero => rfl
          | succ N ih => simp only [dval]; rw [if_neg (by rw [getD_replicate_false]; simp), ih]
        rw [h0]
      rw [this]
      exact (he.vals t).mono ex
    · rw [getD_replicate_false] at hlj; cases hlj
  -- what is wanted at the end
  let G : Exit → Act → World → Prop := fun e a' w' => ∃ m' env' h', Rel m' h' w' ∧ Step m (H 0) w m' h' w' ∧ EnvRel m' h' n env' a' ∧ Q e env' h'
  have hin' : dstsIn n l.toArray.toList = true := by simpa using hin
  -- only the store is left
  have phaseS : ∀ (fuel : Nat) (listed : Array Bool) (v : Value) (m' : Map) (h2 : AHeap) (a' : Act) (w' : World), listed.size = l.toArray.size → left l.toArray.size listed ≤ fuel → (∀ i, i < l0.length + 1 → listed.getD i false = true) → listed.getD (l0.length + 1) false = false →
      Rel m' h2 w' → Step m (H 0) w m' h2 w' → EnvRel m' h2 n (env1.put A.dst v) a' →
      AOp P S (fun u h3 => Q .normal ((env1.put A.dst v).put S.dst u) h3) (env1.put A.dst v) h2 → wpAny P .any l.toArray G fuel listed a' w' := by
    intro fuel listed v m' h2 a' w' hls hf hall hun irel hst ienv hop
    cases fuel with
    | zero => exact absurd (left_pos (N := l.toArray.size) (by omega) hun) (by omega)
    | succ fuel =>
      refine ⟨fun hnil => absurd hnil (ready_some hls hd _ (by omega) hun), fun i hi => ?_⟩
      obtain ⟨q1, oi, q2, q3⟩ := mem_ready.1 hi
      have hlt := (Array.getElem?_eq_some_iff.1 q2).1
      have hiS : i = l0.length + 1 := by
        refine Classical.byContradiction fun hx => ?_
        have := hall i (by omega)
        rw [getD_both q1] at this; cases this
      subst hiS
      refine wpOp_of oS hin' hgS irel hst ienv hop fun u h1 m3 a3 w3 r3 s3 e3 hq => wpAny_done (fun j hj => ?_) ⟨m3, _, h1, r3, s3, e3, hq⟩ fuel
      by_cases hjl : j = l0.length + 1
      · subst hjl
        have : l0.length + 1 < listed.size := by omega
        simp [Array.getD_eq_getD_getElem?, this]
      · rw [getD_set_ne false (fun e => hjl e.symm)]
        exact hall j (by omega)
  have phaseA : ∀ (fuel : Nat) (listed : Array Bool) (m' : Map) (a' : Act) (w' : World), left l.toArray.size listed ≤ fuel + 1 → (∀ e ∈ A.after, Region.binds .any e = true → listed.getD e.on false = true) → listed.getD l0.length false = false → listed.getD (l0.length + 1) false = false →
      DInv n l.toArray V H env m w listed m' a' w' → wpOp P l.toArray G l0.length (wpAny P .any l.toArray G fuel (listed.setIfInBounds l0.length true)) a' w' := by
    intro fuel listed m' a' w' hf hrd hunA hunS inv
    have hpre := fun i hi => sinkAt_all hsA inv.closed oA hrd l0.length i (by omega) hi
    have irel := inv.rel
    rw [hHN] at irel
    have hstep : Step m (H 0) w m' (H0 l0.length) w' := by
      rw [← hHN]
      exact ⟨fun k x hk => by
        have h1 := (List.getElem?_eq_some_iff.1 hk).1
        obtain ⟨e1, e2⟩ := inv.ext0 k h1
        exact ⟨x, by rw [hH h1]; exact hk, Nat.le_refl _, rfl, rfl, fun l1 hl => ⟨l1, e1 l1 hl, fun _ => rfl⟩, e2⟩, inv.size, inv.os, inv.tape, inv.output, inv.frame, inv.own⟩
    have e0 : dval (fun j => ((l.toArray)[j]?).bind (·.dst)) V env (fun j => listed.getD j false) l0.length = env1 := by
      rw [← hdv1]
      funext t
      exact dval_agree (q := fun _ => true) _ (fun j hj _ => hpre j hj)
    have e1 : dval (fun j => ((l.toArray)[j]?).bind (·.dst)) V env (fun j => listed.getD j false) (l0.length + 1) = env1 := by
      rw [dval, if_neg (by rw [hunA]; simp), e0]
    have ienv := inv.env
    rw [hHN, hsz, dval, if_neg (by rw [hunS]; simp), e1] at ienv
    have hleft := left_lt inv.lsize (i := l0.length) (by omega) hunA
    have hls : (listed.setIfInBounds l0.length true).size = l.toArray.size := by rw [Array.size_setIfInBounds]; exact inv.lsize
    have hset : (listed.setIfInBounds l0.length true).getD l0.length false = true := by
      have : l0.length < listed.size := by rw [inv.lsize]; omega
      simp [Array.getD_eq_getD_getElem?, this]
    refine wpOp_of oA hin' hgA irel hstep ienv hA fun v h1 m3 a3 w3 r3 s3 e3 hq => ?_
    refine phaseS fuel _ v m3 h1 a3 w3 hls (by omega) (fun i hi => ?_) ?_ r3 s3 e3 hq
    · by_cases h9 : i = l0.length
      · subst h9; exact hset
      · rw [getD_set_ne false (fun e => h9 e.symm)]; exact hpre i (by omega)
    · rw [getD_set_ne false (by omega)]; exact hunS
  have main : ∀ (fuel : Nat) (listed : Array Bool) (m' : Map) (a' : Act) (w' : World), left l.toArray.size listed ≤ fuel → listed.getD l0.length false = false → listed.getD (l0.length + 1) false = false → DInv n l.toArray V H env m w listed m' a' w' →
      wpAny P .any l.toArray G fuel listed a' w' := by
    intro fuel
    induction fuel with
    | zero =>
      intro listed m' a' w' hf hunA hunS inv
      exact absurd (left_pos (N := l.toArray.size) (by omega) hunS) (by omega)
    | succ fuel ih =>
      intro listed m' a' w' hf hunA hunS inv
      refine ⟨fun hnil => absurd hnil (ready_some inv.lsize hd _ (by omega) hunS), fun i hi => ?_⟩
      obtain ⟨q1, oi, q2, q3⟩ := mem_ready.1 hi
      have hlt := (Array.getElem?_eq_some_iff.1 q2).1
      by_cases hiS : i = l0.length + 1
      · subst hiS
        rw [oS] at q2; cases q2
        have := sinkAt_all hs inv.closed oS q3 (l0.length + 1) l0.length (by omega) (by omega)
        rw [hunA] at this; cases this
      · by_cases hiA : i = l0.length
        · subst hiA
          rw [oA] at q2; cases q2
          exact phaseA fuel listed m' a' w' hf q3 hunA hunS inv
        · refine inv.step hd hin' hst' hrel.closed (fun t => (he.vals t).within) q2 (hrun i oi (by omega) q2) (getD_both q1) q3 fun m2 a2 w2 inv2 => ih _ m2 a2 w2 ?_ (by rw [getD_set_ne false hiA]; exact hunA) (by rw [getD_set_ne false hiS]; exact hunS) inv2
          have := left_lt inv.lsize hlt (getD_both q1)
          omega
  refine wp_region_any hmix (main _ _ m1 a _ ?_ (getD_replicate_false _ _) (getD_replicate_false _ _) inv0)
  unfold left
  exact Nat.le_trans List.countP_le_length (by simp)


theorem awp_drawBt {P : Program} {n id : Nat} {l l0 : List Oper} {A S : Oper} {Q : Exit → Env → AHeap → Prop} {env : Env} {h : AHeap} (j : Nat) (ht : l.take j = l0) (hdr : l.drop j = [A, S]) (hmix : P.follows .mixedOrders = true)
    (hd : depOk l.toArray = true) (hs : sinkAt l.toArray (l0.length + 1) = true) (hsA : sinkAt l.toArray l0.length = true) (hin : dstsIn n l = true)
    (hgA : A.guard = none) (hgS : S.guard = none)
    (hr : DRun P l.toArray (fun env1 h1 => AOp P A (fun v h2 => AOp P S (fun u h3 => Q .normal ((env1.put A.dst v).put S.dst u) h3) (env1.put A.dst v) h2) env1 h1) l0 env h) : AWp P n (.region id l.toArray true) Q env h :=
  awp_drawB hmix hd hs hsA hin (by rw [← ht, ← hdr, List.take_append_drop]) hgA hgS hr

end Go.Am

namespace Go.Am
set_option linter.unusedSimpArgs false
set_option linter.unusedVariables false

end Go.Am

namespace Go.Am
set_option linter.unusedSimpArgs false
set_option linter.unusedVariables false
theorem rett_of2 {P : Program} {f : FuncId} {args : List Value} {h : AHeap} {xss : List (List Int)}
    (t : Tri P f args h fun v h' => ∃ kO r, v = .tuple #[sl kO xss.length, .bool true] ∧ Grown h h' ∧ OwnS h.length h' kO xss xss.length r) : RetG P f args h (VL xss.length) (lls · xss) :=
  t.keeps fun hcl v1 h1 ⟨kO, r, e1, ⟨g, e2⟩, o⟩ => by
    subst e1
    let s : Nat → Nat := fun j => if j < h.length then j else if j = h.length then kO else r (j - h.length - 1)
    have s1 : ∀ j, j < h.length → s j = j := fun j hj => by simp [s, hj]
    have s2 : s h.length = kO := by simp [s]
    have s3 : ∀ i, s (h.length + 1 + i) = r i := fun i => by
      simp only [s]
      rw [if_neg (by omega), if_neg (by omega)]
      congr 1; omega
    have hlen : (h ++ lls h.length xss).length = h.length + xss.length + 1 := by rw [List.length_append, lls_len]; omega
    have hlow := o.low
    refine ⟨s, h ++ lls h.length xss, .tuple #[sl h.length xss.length, .bool true], ⟨s1, by rw [hlen]; omega, fun i j hi hj he => ?_, fun k o2 hk => ?_⟩, .tup2 (.slice (by rw [hlen]; omega)) (.prim rfl), ?_, rfl, rfl⟩
    · rw [hlen] at hi hj
      have cls : ∀ i, i < h.length + xss.length + 1 → (i < h.length ∧ s i = i) ∨ (i = h.length ∧ s i = kO) ∨ (∃ a, a < xss.length ∧ i = h.length + 1 + a ∧ s i = r a) := fun i hi => by
        by_cases c1 : i < h.length
        · exact .inl ⟨c1, s1 i c1⟩
        · by_cases c2 : i = h.length
          · exact .inr (.inl ⟨c2, by rw [c2, s2]⟩)
          · refine .inr (.inr ⟨i - h.length - 1, by omega, by omega, ?_⟩)
            rw [← s3 (i - h.length - 1)]; congr 1; omega
      rcases cls i hi with ⟨a1, a2⟩ | ⟨a1, a2⟩ | ⟨a, a1, a3, a2⟩ <;> rcases cls j hj with ⟨b1, b2⟩ | ⟨b1, b2⟩ | ⟨c, b1, b3, b2⟩ <;> rw [a2, b2] at he
      · exact he
      · omega
      · have := (o.row c b1).1; omega
      · omega
      · omega
      · exact absurd he.symm (o.row c b1).2.1
      · have := (o.row a a1).1; omega
      · exact absurd he (o.row a a1).2.1
      · have := o.inj a c a1 b1 he; omega
    · by_cases c1 : k < h.length
      · rw [List.getElem?_append_left c1] at hk
        refine ⟨o2, by rw [s1 k c1, e2, List.getElem?_append_left c1]; exact hk, rfl, rfl, rfl, fun i v hv => ?_⟩
        have := hcl k o2 hk v (List.mem_of_getElem? hv)
        exact ⟨this.mono (by rw [hlen]; omega), v, hv, .id this s1⟩
      · by_cases c2 : k = h.length
        · subst c2
          rw [lls_outer rfl, Option.some.injEq] at hk
          subst hk
          refine ⟨vls (rvals r xss xss.length), by rw [s2]; exact o.out, by simp [vls, vrows_len, rvals_len], rfl, rfl, fun i v hv => ?_⟩
          have hv' : (vrows (h.length + 1) xss)[i]? = some v := hv
          have hi := (List.getElem?_eq_some_iff.1 hv').1
          rw [vrows_len] at hi
          rw [vrows_get hi, Option.some.injEq] at hv'
          subst hv'
          refine ⟨.slice (by rw [hlen]; omega), _, rvals_get hi, ?_⟩
          have := VRen.slice (s := s) (k := h.length + 1 + i) (off := 0) (ver := (rowAt xss i).length) (len := (rowAt xss i).length) (cap := (rowAt xss i).length)
          rwa [s3] at this
        · have hkl := (List.getElem?_eq_some_iff.1 hk).1
          rw [hlen] at hkl
          obtain ⟨a, ha, rfl⟩ : ∃ a, a < xss.length ∧ k = h.length + 1 + a := ⟨k - h.length - 1, by omega, by omega⟩
          rw [lls_row rfl ha, Option.some.injEq] at hk
          subst hk
          refine ⟨_, by rw [s3]; exact (o.row a ha).2.2, rfl, rfl, rfl, fun i v hv => ?_⟩
          have := lst_prim v (List.mem_of_getElem? hv)
          exact ⟨.prim this, v, hv, .prim this⟩
    · refine .tup2 ?_ (.prim rfl)
      have := VRen.slice (s := s) (k := h.length) (off := 0) (ver := xss.length) (len := xss.length) (cap := xss.length)
      rwa [s2] at this


/-- A result of lists, and whether. -/
theorem retot_of {P : Program} {f : FuncId} {args : List Value} {h : AHeap} {ok : Bool} {xss : List (List Int)}
    (t : Tri P f args h fun v h' => (ok = true ∧ ∃ kO r, v = .tuple #[sl kO xss.length, .bool true] ∧ Grown h h' ∧ OwnS h.length h' kO xss xss.length r) ∨ (ok = false ∧ v = NL ∧ Grown h h')) :
    RetOG P f args h ok (VL xss.length) (lls · xss) NL :=
  ⟨fun e => rett_of2 (t.mono fun v h' q => by
      rcases q with ⟨_, q⟩ | ⟨e2, _⟩
      · exact q
      · rw [e] at e2; cases e2),
   fun e => ret_of within_nilb (t.mono fun v h' q => by
      rcases q with ⟨e2, _⟩ | ⟨_, q⟩
      · rw [e] at e2; cases e2
      · exact q)⟩
theorem RetG.toTL {P : Program} {K : Value → AHeap → Prop} {h : AHeap} {f : FuncId} {vs : List Value} {xss : List (List Int)} (r : RetG P f vs h (VL xss.length) (lls · xss))
    (hK : ∀ k, k = h.length → Lists (h ++ lls k xss) (sl k xss.length) xss → K (VL xss.length k) (h ++ lls k xss)) : Tri P f vs h K := r.toG fun k hk => hK k hk (lls_lists hk rfl)
section
variable {P : Program} {ops : Array Oper} {KE : Env → AHeap → Prop} {os : List Oper} {env : Env} {h : AHeap} {d : Option Tmp} {ty : TypeId} {pos : String} {af : Array Edge} {g : Option (Nat × Bool)}
theorem d_buildV1 {t e : TypeId} {b k0 n : Nat} {x : Operand} {o : AObj} (hw : wantedA ops env ⟨d, .buildSlice t 1 #[(0, x)], ty, pos, af, g⟩ = some true) (hu : P.underlying t = some (.slice e)) (hi : InfoIs P e (.slice none 0 0) 1 b) (hx : aeval env x = sl k0 n) (ho : h[k0]? = some o)
    (hK : ∀ k, k = h.length → (h ++ [vls [sl k0 n]])[k]? = some (vls [sl k0 n]) → DRun P ops KE os (env.put d (sl k 1)) (h ++ [vls [sl k0 n]])) : DRun P ops KE (⟨d, .buildSlice t 1 #[(0, x)], ty, pos, af, g⟩ :: os) env h := by
  have hk := (List.getElem?_eq_some_iff.1 ho).1
  refine d_new hw (o_buildV1 hu hi hx fun k hk => by subst hk; exact ⟨rfl, rfl⟩) (.slice (by simp)) (fun x hx u hu => ?_) (hK _ rfl (by simp))
  rw [List.mem_singleton] at hx
  subst hx
  have : u = sl k0 n := by simpa [vls] using hu
  rw [this]
  exact .slice (by simp; omega)
end

/-! ## The state of the recursion -/
structure PlanS (h H : AHeap) (kO : Nat) (al : List (List Int)) (s : Nat) (r : Nat → Nat) (ss : List Int) (n : Nat) (m : Int) : Prop where
  own : OwnS h.length H kO al s r
  far : ∀ i, i < s → h.length + 7 ≤ r i
  len : ss.length = n
  bnd : ∀ x ∈ ss, 0 ≤ x ∧ x ≤ m
  sle : s ≤ al.length
theorem rvals_add {r : Nat → Nat} {al : List (List Int)} {s kR n : Nat} (h : (rowAt al s).length = n) : rvals r al s ++ [sl kR n] = rvals (fun i => if i = s then kR else r i) al (s + 1) := by
  rw [rvals_succ]
  simp only [if_true]
  rw [h, rvals_congr (r := fun i => if i = s then kR else r i) (r' := r) (fun i hi => by rw [if_neg (by omega)])]
theorem al_next {al : List (List Int)} {s : Nat} {x : List Int} {aft : List (List Int)} (h : al = al.take s ++ (x :: aft)) (hs : s ≤ al.length) : s < al.length ∧ rowAt al s = x ∧ al = al.take (s + 1) ++ aft := by
  have hl : (al.take s).length = s := by rw [List.length_take]; omega
  have hlt : s < al.length := by
    have := congrArg List.length h
    rw [List.length_append, hl, List.length_cons] at this; omega
  have hx : al[s]? = some x := by
    rw [h, List.getElem?_append_right (by omega), hl, Nat.sub_self]; rfl
  refine ⟨hlt, ?_, ?_⟩
  · have := rowAt_some hlt
    rw [hx, Option.some.injEq] at this; exact this.symm
  · have e : al.take (s + 1) = al.take s ++ [x] := by
      rw [List.take_add_one, hx]; rfl
    rw [e, List.append_assoc]
    exact h
end Go.Am

namespace Go.Am
set_option linter.unusedSimpArgs false
set_option linter.unusedVariables false
theorem take_le {a b : List Int} {i : Nat} (h : a.take (i + 1) = b.take (i + 1)) : a.take i = b.take i := by
  have := congrArg (List.take i) h
  rwa [List.take_take, List.take_take, Nat.min_eq_left (by omega)] at this
end Go.Am

namespace Go.Am
set_option linter.unusedSimpArgs false
set_option linter.unusedVariables false
structure PlanT (h H : AHeap) (kO : Nat) (al : List (List Int)) (s : Nat) (r : Nat → Nat) : Prop where
  own : OwnS h.length H kO al s r
  far : ∀ i, i < s → h.length + 3 ≤ r i
  sle : s ≤ al.length
theorem take_all {al : List (List Int)} {s : Nat} (h : al = al.take s ++ []) (hs : s ≤ al.length) : s = al.length := by
  have := congrArg List.length h
  rw [List.append_nil, List.length_take] at this
  omega
theorem flat_le {f : Nat → List (List Int)} {B : Nat} : ∀ (l : List Nat), (∀ k ∈ l, (f k).length ≤ B) → (l.flatMap f).length ≤ l.length * B
  | [], _ => by simp
  | k :: l, h => by
    have h1 := h k (by simp)
    have h2 := flat_le l fun j hj => h j (by simp [hj])
    rw [List.flatMap_cons, List.length_append, List.length_cons, Nat.add_mul, Nat.one_mul]
    omega
theorem total_bnd {n : Nat} : ∀ (l : List (List Int)), (∀ x ∈ l, x.length ≤ n) → total l ≤ l.length * n
  | [], _ => by simp [total]
  | x :: l, h => by
    have h1 := h x (by simp)
    have h2 := total_bnd l fun y hy => h y (by simp [hy])
    rw [total, List.length_cons, Nat.add_mul, Nat.one_mul]
    omega
end Go.Am
