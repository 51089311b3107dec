/-
  The abstract heap: what this claim needs of it. General: no program is named.
-/
import Derived.Test.YtcemfhppopmamaaAmG3
namespace Go.Am
set_option linter.unusedSimpArgs false
set_option linter.unusedVariables false

abbrev Rec := Int × List Int
def recAt (rs : List Rec) (i : Nat) : Rec := rs.getD i (0, [])
theorem recAt_some {rs : List Rec} {i : Nat} (h : i < rs.length) : rs[i]? = some (recAt rs i) := by
  simp [recAt, List.getD_eq_getElem?_getD, List.getElem?_eq_getElem h]
theorem recAt_mem {rs : List Rec} {i : Nat} (h : i < rs.length) : recAt rs i ∈ rs := List.mem_of_getElem? (recAt_some h)
/-- A slice value that reads as records. -/
def Recs (h : AHeap) (v : Value) (rs : List Rec) : Prop :=
  (v = .slice none 0 0 ∧ rs = []) ∨
  ∃ k off ver cap o, v = .slice (some ⟨k, off, some ver⟩) rs.length cap ∧ h[k]? = some o ∧ o.cells.length = ver ∧ o.esz = 2 ∧ rs.length ≤ cap ∧ off + cap * 2 = ver ∧
    ∀ (i : Nat) (r : Rec), rs[i]? = some r → ∃ u, o.cells[off + i * 2]? = some (i64 r.1) ∧ o.cells[off + i * 2 + 1]? = some u ∧ Ints h u r.2
/-- A pointer to a record. -/
def IsRec (h : AHeap) (p : Value) (r : Rec) : Prop :=
  ∃ k off ver o u, p = .pointer (some ⟨k, off, some ver⟩) ∧ h[k]? = some o ∧ o.cells.length = ver ∧ o.cells[off]? = some (i64 r.1) ∧ o.cells[off + 1]? = some u ∧ Ints h u r.2
theorem recs_nil {h : AHeap} : Recs h (.slice none 0 0) [] := .inl ⟨rfl, rfl⟩
theorem Recs.app {h : AHeap} {v : Value} {rs : List Rec} (hv : Recs h v rs) (g : List AObj) : Recs (h ++ g) v rs := by
  rcases hv with hv | ⟨k, off, ver, cap, o, h1, h2, h3, h4, h5, h6, h7⟩
  · exact .inl hv
  · exact .inr ⟨k, off, ver, cap, o, h1, lk_prev h2, h3, h4, h5, h6, fun i r hi => by
      obtain ⟨u, g0, g1, g2⟩ := h7 i r hi
      exact ⟨u, g0, g1, g2.app g⟩⟩
theorem IsRec.app {h : AHeap} {p : Value} {r : Rec} (hp : IsRec h p r) (g : List AObj) : IsRec (h ++ g) p r := by
  obtain ⟨k, off, ver, o, u, h1, h2, h3, h4, h5, h6⟩ := hp
  exact ⟨k, off, ver, o, u, h1, lk_prev h2, h3, h4, h5, h6.app g⟩
theorem Recs.within {h : AHeap} {v : Value} {rs : List Rec} (hv : Recs h v rs) : Within h.length v := by
  rcases hv with ⟨rfl, _⟩ | ⟨k, off, ver, cap, o, rfl, h2, _⟩
  · exact .prim rfl
  · exact .slice (List.getElem?_eq_some_iff.1 h2).1
theorem IsRec.within {h : AHeap} {p : Value} {r : Rec} (hp : IsRec h p r) : Within h.length p := by
  obtain ⟨k, off, ver, o, u, rfl, h2, _⟩ := hp
  exact .ptr (List.getElem?_eq_some_iff.1 h2).1
abbrev sl2 (k n : Nat) : Value := .slice (some ⟨k, 0, some (n * 2)⟩) n n
section
variable {P : Program} {K : Value → AHeap → Prop} {env : Env} {h : AHeap} {dst : Option Tmp} {ty : TypeId} {pos : String} {after : Array Edge} {guard : Option (Nat × Bool)}
theorem o_lenRec {t e : TypeId} {x : Operand} {v : Value} {rs : List Rec} (hu : P.underlying t = some (.slice e)) (hx : aeval env x = v) (hv : Recs h v rs) (hK : K (i64 rs.length) h) :
    AOp P ⟨dst, .call { callee := .builtin .len, args := #[x], argTypes := #[t] }, ty, pos, after, guard⟩ K env h := by
  rcases hv with ⟨rfl, rfl⟩ | ⟨k, off, ver, cap, o, rfl, h2, h3, h4, h5, h6, h7⟩
  · exact aop_len hu hx (fun ad ha => by cases ha) hK
  · exact aop_len hu hx (fun ad ha => by cases ha; exact ⟨k, off, ver, o, rfl, h2, h3⟩) hK
theorem o_indexRec {t e : TypeId} {x y : Operand} {v z : Value} {b : Nat} {rs : List Rec} {kd : IntKind} {i : Int} (hu : P.underlying t = some (.slice e)) (hi : InfoIs P e z 2 b)
    (hx : aeval env x = v) (hv : Recs h v rs) (hy : aeval env y = .int kd i) (h0 : 0 ≤ i) (hlt : i < rs.length) (hK : ∀ p, IsRec h p (recAt rs i.toNat) → K p h) : AOp P ⟨dst, .indexAddr t x y, ty, pos, after, guard⟩ K env h := by
  obtain ⟨inf, g1, _, g3, _⟩ := hi.get
  rcases hv with ⟨rfl, rfl⟩ | ⟨k, off, ver, cap, o, rfl, h2, h3, h4, h5, h6, h7⟩
  · simp at hlt; omega
  · refine aop_indexAddr hu g1 (by rw [g3, h4]) hx h2 h3 hy h0 hlt (by omega) ?_
    rw [h4]
    obtain ⟨u, c0, c1, hu⟩ := h7 i.toNat _ (recAt_some (by omega))
    exact hK _ ⟨k, _, ver, o, u, rfl, h2, h3, c0, c1, hu⟩
theorem o_loadRec {t : TypeId} {x : Operand} {p z : Value} {dd : TypeDesc} {r : Rec} {b : Nat} (hu : P.underlying t = some dd) (hd : aggD dd = true) (hi : InfoIs P t z 2 b) (hx : aeval env x = p) (hp : IsRec h p r)
    (hK : ∀ u, Ints h u r.2 → K (.agg #[i64 r.1, u]) h) : AOp P ⟨dst, .load t x, ty, pos, after, guard⟩ K env h := by
  obtain ⟨k, off, ver, o, u, rfl, h2, h3, c0, c1, hi2⟩ := hp
  refine o_loadAgg (vs := [i64 r.1, u]) hu hd hi hx h2 h3 ?_ rfl (hK u hi2)
  obtain ⟨l0, e0⟩ := List.getElem?_eq_some_iff.1 c0
  obtain ⟨l1, e1⟩ := List.getElem?_eq_some_iff.1 c1
  rw [List.drop_eq_getElem_cons l0, List.drop_eq_getElem_cons l1, e0, e1]
  rfl
end
section
variable {P : Program} {ops : Array Oper} {KE : Env → AHeap → Prop} {os : List Oper} {env : Env} {h : AHeap} {d : Option Tmp} {ty : TypeId} {pos : String} {af : Array Edge} {g : Option (Nat × Bool)}
theorem d_indexRec {t e : TypeId} {x y : Operand} {v z : Value} {b : Nat} {rs : List Rec} {kd : IntKind} {i : Int} (hw : wantedA ops env ⟨d, .indexAddr t x y, ty, pos, af, g⟩ = some true) (hu : P.underlying t = some (.slice e)) (hi : InfoIs P e z 2 b)
    (hx : aeval env x = v) (hv : Recs h v rs) (hy : aeval env y = .int kd i) (h0 : 0 ≤ i) (hlt : i < rs.length) (hK : ∀ p, IsRec h p (recAt rs i.toNat) → DRun P ops KE os (env.put d p) h) : DRun P ops KE (⟨d, .indexAddr t x y, ty, pos, af, g⟩ :: os) env h := by
  obtain ⟨inf, g1, _, g3, _⟩ := hi.get
  rcases hv with ⟨rfl, rfl⟩ | ⟨k, off, ver, cap, o, rfl, h2, h3, h4, h5, h6, h7⟩
  · simp at hlt; omega
  · obtain ⟨u, c0, c1, hu2⟩ := h7 i.toNat _ (recAt_some (by omega))
    have hp : IsRec h (.pointer (some ⟨k, off + i.toNat * 2, some ver⟩)) (recAt rs i.toNat) := ⟨k, _, ver, o, u, rfl, h2, h3, c0, c1, hu2⟩
    refine d_do hw (aop_indexAddr hu g1 (by rw [g3, h4]) hx h2 h3 hy h0 hlt (by omega) ?_) hp.within (hK _ hp)
    rw [h4]
    exact ⟨rfl, rfl⟩
theorem d_loadRec {t : TypeId} {x : Operand} {p z : Value} {dd : TypeDesc} {r : Rec} {b : Nat} (hw : wantedA ops env ⟨d, .load t x, ty, pos, af, g⟩ = some true) (hu : P.underlying t = some dd) (hd : aggD dd = true) (hi : InfoIs P t z 2 b) (hx : aeval env x = p) (hp : IsRec h p r)
    (hK : ∀ u, Ints h u r.2 → DRun P ops KE os (env.put d (.agg #[i64 r.1, u])) h) : DRun P ops KE (⟨d, .load t x, ty, pos, af, g⟩ :: os) env h := by
  obtain ⟨k, off, ver, o, u, rfl, h2, h3, c0, c1, hi2⟩ := hp
  refine d_do hw (o_loadAgg (vs := [i64 r.1, u]) hu hd hi hx h2 h3 ?_ rfl ⟨rfl, rfl⟩) (.agg2 (.prim rfl) hi2.within) (hK u hi2)
  obtain ⟨l0, e0⟩ := List.getElem?_eq_some_iff.1 c0
  obtain ⟨l1, e1⟩ := List.getElem?_eq_some_iff.1 c1
  rw [List.drop_eq_getElem_cons l0, List.drop_eq_getElem_cons l1, e0, e1]
  rfl
end

section
variable {P : Program} {K : Value → AHeap → Prop} {env : Env} {h : AHeap} {dst : Option Tmp} {ty : TypeId} {pos : String} {after : Array Edge} {guard : Option (Nat × Bool)}
theorem o_indexRecN {t e : TypeId} {x y : Operand} {v z : Value} {b : Nat} {rs : List Rec} {kd : IntKind} {i : Nat} (hu : P.underlying t = some (.slice e)) (hi : InfoIs P e z 2 b)
    (hx : aeval env x = v) (hv : Recs h v rs) (hy : aeval env y = .int kd (i : Int)) (hlt : i < rs.length) (hK : ∀ p, IsRec h p (recAt rs i) → K p h) : AOp P ⟨dst, .indexAddr t x y, ty, pos, after, guard⟩ K env h :=
  o_indexRec hu hi hx hv hy (Int.natCast_nonneg _) (by omega) (by rw [Int.toNat_natCast]; exact hK)
theorem o_storeRec {t : TypeId} {x y : Operand} {k n i b : Nat} {cs : List Value} {z w : Value} {a : Int} {h' : AHeap} (hi : InfoIs P t z 2 b) (hx : aeval env x = .pointer (some ⟨k, i * 2, some (n * 2)⟩)) (ho : h[k]? = some ⟨cs, true, 2⟩) (hn : cs.length = n * 2) (hlt : i < n)
    (hy : aeval env y = .agg #[i64 a, w]) (h1 : oneCellA w = true) (hs : h.set k ⟨splice cs (i * 2) [i64 a, w], true, 2⟩ = h') (hK : K undef h') : AOp P ⟨dst, .store t x y, ty, pos, after, guard⟩ K env h := by
  subst hs
  refine o_storeAgg hi hx ho hn rfl hy rfl (by omega) (by decide) ?_ hK
  show (oneCellA (i64 a) && (oneCellA w && true)) = true
  rw [h1]; rfl
/-- A place in a block of records of one's own. -/
theorem o_indexRV {t e : TypeId} {x y : Operand} {z : Value} {b k n i : Nat} {o : AObj} {kd : IntKind} (hu : P.underlying t = some (.slice e)) (hi : InfoIs P e z 2 b)
    (hx : aeval env x = sl2 k n) (ho : h[k]? = some o) (hn : o.cells.length = n * 2) (he : o.esz = 2) (hy : aeval env y = .int kd (i : Int)) (hlt : i < n) (hK : K (.pointer (some ⟨k, i * 2, some (n * 2)⟩)) h) : AOp P ⟨dst, .indexAddr t x y, ty, pos, after, guard⟩ K env h := by
  obtain ⟨inf, g1, _, g3, _⟩ := hi.get
  refine aop_indexAddr hu g1 (by rw [g3, he]) hx ho hn hy (Int.natCast_nonneg _) (by omega) (by omega) ?_
  rw [he, Int.toNat_natCast, Nat.zero_add]
  exact hK
end
section
variable {P : Program} {ops : Array Oper} {KE : Env → AHeap → Prop} {os : List Oper} {env : Env} {h : AHeap} {d : Option Tmp} {ty : TypeId} {pos : String} {af : Array Edge} {g : Option (Nat × Bool)}
theorem d_indexRecN {t e : TypeId} {x y : Operand} {v z : Value} {b : Nat} {rs : List Rec} {kd : IntKind} {i : Nat} (hw : wantedA ops env ⟨d, .indexAddr t x y, ty, pos, af, g⟩ = some true) (hu : P.underlying t = some (.slice e)) (hi : InfoIs P e z 2 b)
    (hx : aeval env x = v) (hv : Recs h v rs) (hy : aeval env y = .int kd (i : Int)) (hlt : i < rs.length) (hK : ∀ p, IsRec h p (recAt rs i) → DRun P ops KE os (env.put d p) h) : DRun P ops KE (⟨d, .indexAddr t x y, ty, pos, af, g⟩ :: os) env h :=
  d_indexRec hw hu hi hx hv hy (Int.natCast_nonneg _) (by omega) (by rw [Int.toNat_natCast]; exact hK)
end

/-! ## Own records -/
def vrec : Nat → List Rec → List Value
  | _, [] => []
  | k, r :: rs => i64 r.1 :: sl k r.2.length :: vrec (k + 1) rs
def zrec : Nat → List Value
  | 0 => []
  | m + 1 => i64 0 :: .slice none 0 0 :: zrec m
theorem vrec_len : ∀ {k : Nat} {rs : List Rec}, (vrec k rs).length = rs.length * 2
  | _, [] => rfl
  | k, r :: rs => by simp [vrec, vrec_len (k := k + 1) (rs := rs)]; omega
theorem zrec_len : ∀ {m : Nat}, (zrec m).length = m * 2
  | 0 => rfl
  | m + 1 => by simp [zrec, zrec_len (m := m)]; omega
theorem vrec_app : ∀ {k : Nat} {a b : List Rec}, vrec k (a ++ b) = vrec k a ++ vrec (k + a.length) b
  | k, [], b => by simp [vrec]
  | k, r :: a, b => by simp [vrec, vrec_app (k := k + 1) (a := a) (b := b), Nat.add_assoc, Nat.add_comm 1]
theorem vrec_get : ∀ {k i : Nat} {rs : List Rec}, i < rs.length → (vrec k rs)[i * 2]? = some (i64 (recAt rs i).1) ∧ (vrec k rs)[i * 2 + 1]? = some (sl (k + i) (recAt rs i).2.length)
  | k, 0, r :: rs, _ => ⟨rfl, rfl⟩
  | k, i + 1, r :: rs, h => by
    have := vrec_get (k := k + 1) (i := i) (rs := rs) (by simpa using h)
    rw [vrec, show (i + 1) * 2 = i * 2 + 1 + 1 by omega, List.getElem?_cons_succ, List.getElem?_cons_succ, List.getElem?_cons_succ, List.getElem?_cons_succ, this.1, this.2]
    simp [recAt, Nat.add_assoc, Nat.add_comm 1]
theorem zrec_get : ∀ {m j : Nat}, j < m * 2 → (zrec m)[j]? = some (if j % 2 = 0 then i64 0 else .slice none 0 0)
  | 0, j, h => by omega
  | m + 1, 0, _ => rfl
  | m + 1, 1, _ => rfl
  | m + 1, j + 2, h => by
    rw [zrec, List.getElem?_cons_succ, List.getElem?_cons_succ, zrec_get (by omega), show (j + 2) % 2 = j % 2 by omega]
/-- Records in new memory: the outer block at k, the lists behind it. -/
def rls (k : Nat) (rs : List Rec) : List AObj := ⟨vrec (k + 1) rs, true, 2⟩ :: rs.map fun r => lst r.2
@[simp] theorem rls_len {k : Nat} {rs : List Rec} : (rls k rs).length = rs.length + 1 := by simp [rls]
theorem rls_outer {h : AHeap} {k : Nat} {rs : List Rec} (hk : k = h.length) : (h ++ rls k rs)[k]? = some ⟨vrec (k + 1) rs, true, 2⟩ := by subst hk; simp [rls]
theorem rls_row {h : AHeap} {k i : Nat} {rs : List Rec} (hk : k = h.length) (hi : i < rs.length) : (h ++ rls k rs)[k + 1 + i]? = some (lst (recAt rs i).2) := by
  subst hk
  rw [List.getElem?_append_right (by omega), rls, show h.length + 1 + i - h.length = i + 1 by omega, List.getElem?_cons_succ, List.getElem?_map, recAt_some hi]
  rfl
theorem rls_recs {h : AHeap} {k n : Nat} {rs : List Rec} (hk : k = h.length) (hn : rs.length = n) : Recs (h ++ rls k rs) (sl2 k n) rs := by
  subst hn
  refine .inr ⟨k, 0, _, _, _, rfl, rls_outer hk, by simp [vrec_len], rfl, Nat.le_refl _, by simp, fun i r hi => ?_⟩
  have hlt := (List.getElem?_eq_some_iff.1 hi).1
  have : r = recAt rs i := by rw [recAt_some hlt] at hi; exact (Option.some.inj hi).symm
  subst this
  rw [Nat.zero_add]
  obtain ⟨c0, c1⟩ := vrec_get (k := k + 1) hlt
  exact ⟨_, c0, c1, Ints.own (rls_row hk hlt) rfl⟩
theorem ShG.rls {rs : List Rec} : ShG (fun k => rls k rs) := fun t n d ht => by
  refine ⟨by rw [rls_len, rls_len], fun i o hi => ?_⟩
  cases i with
  | zero =>
    have : o = ⟨vrec (n + 1) rs, true, 2⟩ := by simp [Am.rls] at hi; exact hi.symm
    subst this
    refine ⟨⟨vrec (n + d + 1) rs, true, 2⟩, rfl, by simp [vrec_len], rfl, rfl, fun j v hv => ?_⟩
    have hv' : (vrec (n + 1) rs)[j]? = some v := hv
    have hlt := (List.getElem?_eq_some_iff.1 hv').1
    rw [vrec_len] at hlt
    obtain ⟨c0, c1⟩ := vrec_get (k := n + 1) (i := j / 2) (rs := rs) (by omega)
    obtain ⟨d0, d1⟩ := vrec_get (k := n + d + 1) (i := j / 2) (rs := rs) (by omega)
    by_cases e : j % 2 = 0
    · rw [show j / 2 * 2 = j by omega] at c0 d0
      rw [hv', Option.some.injEq] at c0
      subst c0
      exact ⟨.prim rfl, _, d0, .prim rfl⟩
    · rw [show j / 2 * 2 + 1 = j by omega] at c1 d1
      rw [hv', Option.some.injEq] at c1
      subst c1
      refine ⟨.slice (by rw [rls_len]; omega), _, d1, ?_⟩
      have := VRen.slice (s := shf t d) (k := n + 1 + j / 2) (off := 0) (ver := (recAt rs (j / 2)).2.length) (len := (recAt rs (j / 2)).2.length) (cap := (recAt rs (j / 2)).2.length)
      rwa [show shf t d (n + 1 + j / 2) = n + d + 1 + j / 2 by rw [shf, if_neg (by omega)]; omega] at this
  | succ i =>
    have hi' : (rs.map fun r => lst r.2)[i]? = some o := by simpa [Am.rls] using hi
    refine ⟨o, by simpa [Am.rls] using hi', rfl, rfl, rfl, fun j v hv => ?_⟩
    simp only [List.getElem?_map, Option.map_eq_some_iff] at hi'
    obtain ⟨r, _, rfl⟩ := hi'
    have := lst_prim v (List.mem_of_getElem? hv)
    exact ⟨.prim this, v, hv, .prim this⟩
theorem shf_sl2 {t d n k : Nat} (h : t ≤ k) : VRen (shf t d) (sl2 k n) (sl2 (k + d) n) := by
  have := VRen.slice (s := shf t d) (k := k) (off := 0) (ver := n * 2) (len := n) (cap := n)
  rwa [show shf t d k = k + d by rw [shf, if_neg (by omega)]] at this

/-! ## Made, and filled -/
section
variable {P : Program} {K : Value → AHeap → Prop} {env : Env} {h : AHeap} {dst : Option Tmp} {ty : TypeId} {pos : String} {after : Array Edge} {guard : Option (Nat × Bool)}
theorem o_makeRec {t e : TypeId} {x y : Operand} {b : Nat} {k1 k2 : IntKind} {l : Int} (hu : P.underlying t = some (.slice e)) (hi : InfoIs P e (.agg #[i64 0, .slice none 0 0]) 2 b)
    (hx : aeval env x = .int k1 l) (hy : aeval env y = .int k2 l) (hb : 0 ≤ l ∧ b * l ≤ 281474976710656) (h63 : l ≤ 9223372036854775807)
    (hK : ∀ k, k = h.length → K (sl2 k l.toNat) (h ++ [⟨zrec l.toNat, true, 2⟩])) : AOp P ⟨dst, .makeSlice t x y, ty, pos, after, guard⟩ K env h := by
  obtain ⟨i, hi1, hz, hsz, hbt⟩ := hi.get
  exact .of_run fun m w a hr hop => by
    have hp1 := hop x (by simp [Op.operands])
    have hp2 := hop y (by simp [Op.operands])
    rw [hx] at hp1; rw [hy] at hp2
    have hrun := run_make (P := P) w t e i _ hu hi1 hz k1 k2 l l hb.1 (Int.le_refl _) (by rw [hbt]; exact hb.2) h63
    have hzl := zrec_len (m := l.toNat)
    obtain ⟨r1, s1⟩ := hr.push (c := madeCells (Value.agg #[i64 0, .slice none 0 0]).cells (l.toNat * i.size)) (ty := e) (o := ⟨zrec l.toNat, true, 2⟩) (by simp [size_madeCells, hsz, hzl]) (fun j hj => by
      have hj' : j < l.toNat * 2 := by rw [← hzl]; exact hj
      have hg := zrec_get hj'
      have hzj : (zrec l.toNat)[j] = if j % 2 = 0 then i64 0 else .slice none 0 0 := by
        rw [List.getElem?_eq_getElem hj, Option.some.injEq] at hg; exact hg
      refine ⟨(zrec l.toNat)[j], ?_, ?_⟩
      · rw [hzj]
        have h2 : j % 2 = 0 ∨ j % 2 = 1 := by omega
        rcases h2 with h2 | h2 <;> simp [madeCells, hsz, hj', h2, Value.cells]
      · show VRel _ _ ((zrec l.toNat)[j]) _
        rw [hzj]
        split
        · exact .prim rfl
        · exact .prim rfl)
    refine ⟨_, .slice (some ⟨w.heap.size, 0, none⟩) l.toNat l.toNat, _, _, _, ?_, r1, s1, ?_, hK _ rfl⟩
    · simp [execOp, hp1.int, hp2.int, hrun]
    · refine .slice (o := ⟨zrec l.toNat, true, 2⟩) (by simp) (by simp [hzl]) ⟨_, _, _, rfl⟩ fun _ => ⟨⟨w.heap.size, 0, _⟩, by simp [Map.push]; rfl, _, _, rfl, Nat.le_refl _, Nat.le_refl _, by simp [hzl], fun _ => rfl, fun _ => ⟨fun _ => by simp [size_madeCells, hsz], fun hh => by (have h9 : l.toNat * 2 = 0 := (by rw [← hzl]; exact hh)); omega⟩⟩
end

def fillR (k : Nat) (rs : List Rec) (n s : Nat) : List AObj := ⟨vrec (k + 1) (rs.take s) ++ zrec (n - s), true, 2⟩ :: (rs.take s).map fun r => lst r.2
theorem fillR_zero {k n : Nat} {rs : List Rec} : fillR k rs n 0 = [⟨zrec n, true, 2⟩] := by simp [fillR, vrec]
theorem fillR_full {k n s : Nat} {rs : List Rec} (hn : n = rs.length) (hs : s = n) : fillR k rs n s = rls k rs := by
  subst hs; subst hn
  simp [fillR, rls, zrec]
theorem fillR_len {k n s : Nat} {rs : List Rec} (hs : s ≤ rs.length) : (fillR k rs n s).length = s + 1 := by
  simp [fillR]; omega
theorem take_rec {rs : List Rec} {s : Nat} (h : s < rs.length) : rs.take (s + 1) = rs.take s ++ [recAt rs s] := by
  rw [List.take_succ_eq_append_getElem h]
  have := recAt_some h
  rw [List.getElem?_eq_getElem h, Option.some.injEq] at this
  rw [this]
theorem fillR_cells {k n s : Nat} {rs : List Rec} (hs : s ≤ rs.length) (hn : n = rs.length) : (vrec (k + 1) (rs.take s) ++ zrec (n - s)).length = n * 2 := by
  rw [List.length_append, vrec_len, zrec_len, List.length_take]; omega
theorem fillR_step {h : AHeap} {k k' n s m : Nat} {rs : List Rec} {r : Rec} (hk : k = h.length) (hk' : k' = h.length + (fillR k rs n s).length) (hs : s < rs.length) (hn : n = rs.length) (hr : r = recAt rs s) (hm : m = r.2.length) :
    (h ++ fillR k rs n s ++ [lst r.2]).set k ⟨splice (vrec (k + 1) (rs.take s) ++ zrec (n - s)) (s * 2) [i64 r.1, sl k' m], true, 2⟩ = h ++ fillR k rs n (s + 1) := by
  subst hm hr
  rw [fillR_len (by omega)] at hk'
  have hl : (vrec (k + 1) (rs.take s)).length = s * 2 := by rw [vrec_len, List.length_take]; omega
  have e1 : splice (vrec (k + 1) (rs.take s) ++ zrec (n - s)) (s * 2) [i64 (recAt rs s).1, sl k' (recAt rs s).2.length] = vrec (k + 1) (rs.take (s + 1)) ++ zrec (n - (s + 1)) := by
    rw [splice, List.take_append_of_le_length (by omega), List.take_of_length_le (by omega), List.drop_append, List.drop_eq_nil_of_le (by simp; omega), hl]
    rw [show n - s = (n - (s + 1)) + 1 by omega, zrec, take_rec hs, vrec_app, List.length_take, Nat.min_eq_left (by omega)]
    simp only [vrec, List.length_cons, List.length_nil, List.nil_append, List.append_assoc, List.cons_append]
    rw [show s * 2 + (0 + 1 + 1) - s * 2 = 2 by omega, show k + 1 + s = k' by omega]
    rfl
  rw [e1]
  subst hk
  rw [List.append_assoc, List.set_append_right _ _ (Nat.le_refl _), Nat.sub_self]
  simp only [fillR, List.cons_append, List.set_cons_zero]
  rw [take_rec hs, List.map_append]
  rfl

/-! ## Marks -/
theorem vrec_congr : ∀ {k : Nat} {a b : List Rec}, a.map (fun r => (r.1, r.2.length)) = b.map (fun r => (r.1, r.2.length)) → vrec k a = vrec k b
  | k, [], [], _ => rfl
  | k, [], _ :: _, h => by simp at h
  | k, _ :: _, [], h => by simp at h
  | k, x :: a, y :: b, h => by
    simp only [List.map_cons, List.cons.injEq, Prod.mk.injEq] at h
    rw [vrec, vrec, h.1.1, h.1.2, vrec_congr h.2]
theorem vrec_set : ∀ {k i : Nat} {rs : List Rec} {c : Int}, i < rs.length → (vrec k rs).set (i * 2) (i64 c) = vrec k (rs.set i (c, (recAt rs i).2))
  | k, 0, r :: rs, c, _ => rfl
  | k, i + 1, r :: rs, c, h => by
    have := vrec_set (k := k + 1) (i := i) (rs := rs) (c := c) (by simpa using h)
    rw [vrec, show (i + 1) * 2 = i * 2 + 1 + 1 by omega, List.set_cons_succ, List.set_cons_succ, this, List.set_cons_succ, vrec]
    rfl
theorem rls_set1 {h : AHeap} {k i : Nat} {rs : List Rec} {c : Int} (hk : k = h.length) (hi : i < rs.length) : (h ++ rls k rs).set k ⟨(vrec (k + 1) rs).set (i * 2) (i64 c), true, 2⟩ = h ++ rls k (rs.set i (c, (recAt rs i).2)) := by
  subst hk
  rw [List.set_append_right _ _ (Nat.le_refl _), Nat.sub_self, rls, List.set_cons_zero, rls, vrec_set hi, List.map_set]
  congr 2
  have := recAt_some hi
  refine (List.ext_getElem? fun j => ?_).symm
  rw [List.getElem?_set]
  split
  · rename_i e
    subst e
    rw [List.getElem?_map, this]
    simp [hi]
  · rfl
theorem rls_set2 {h : AHeap} {k i : Nat} {rs : List Rec} {ys : List Int} (hk : k = h.length) (hi : i < rs.length) (hy : ys.length = (recAt rs i).2.length) : (h ++ rls k rs).set (k + 1 + i) (lst ys) = h ++ rls k (rs.set i ((recAt rs i).1, ys)) := by
  subst hk
  rw [List.set_append_right _ _ (by omega), show h.length + 1 + i - h.length = i + 1 by omega, rls, List.set_cons_succ, rls, List.map_set]
  congr 3
  refine vrec_congr ?_
  rw [List.map_set, hy]
  have := recAt_some hi
  refine List.ext_getElem? fun j => ?_
  rw [List.getElem?_set]
  split
  · rename_i e
    subst e
    rw [List.getElem?_map, this]
    simp [hi]
  · rfl
def markR : Int → List Rec → List Rec
  | _, [] => []
  | c, r :: rs => (c, upto (c + 1) r.2.length) :: markR (c + 1 + r.2.length) rs
def totR : List Rec → Nat
  | [] => 0
  | r :: rs => 1 + r.2.length + totR rs
theorem markR_len : ∀ {c : Int} {rs : List Rec}, (markR c rs).length = rs.length
  | _, [] => rfl
  | c, r :: rs => by simp [markR, markR_len]
theorem totR_app : ∀ {a b : List Rec}, totR (a ++ b) = totR a + totR b
  | [], b => by simp [totR]
  | r :: a, b => by simp [totR, totR_app (a := a) (b := b), Nat.add_assoc]
theorem markR_app : ∀ {c : Int} {a b : List Rec}, markR c (a ++ b) = markR c a ++ markR (c + totR a) b
  | c, [], b => by simp [markR, totR]
  | c, r :: a, b => by
    have e : c + 1 + (r.2.length : Int) + (totR a : Int) = c + ((1 + r.2.length + totR a : Nat) : Int) := by omega
    simp only [List.cons_append, markR, totR, markR_app (a := a) (b := b), e]
theorem totR_take {rs : List Rec} {s : Nat} (h : s < rs.length) : totR (rs.take (s + 1)) = totR (rs.take s) + (1 + (recAt rs s).2.length) := by
  rw [take_rec h, totR_app]; simp [totR]
theorem totR_le {rs : List Rec} {s : Nat} : totR (rs.take s) ≤ totR rs := by
  have := totR_app (a := rs.take s) (b := rs.drop s)
  rw [List.take_append_drop] at this
  omega
def markRT (c : Int) (rs : List Rec) (s : Nat) : List Rec := markR c (rs.take s) ++ rs.drop s
theorem markRT_zero {c : Int} {rs : List Rec} : markRT c rs 0 = rs := by simp [markRT, markR]
theorem markRT_full {c : Int} {rs : List Rec} {s : Nat} (h : s = rs.length) : markRT c rs s = markR c rs := by subst h; simp [markRT]
theorem markRT_len {c : Int} {rs : List Rec} {s : Nat} (h : s ≤ rs.length) : (markRT c rs s).length = rs.length := by simp [markRT, markR_len]; omega
theorem markRT_row {c : Int} {rs : List Rec} {s : Nat} (h : s < rs.length) : recAt (markRT c rs s) s = recAt rs s := by
  have hl : (markR c (rs.take s)).length = s := by rw [markR_len]; simp; omega
  rw [recAt, markRT, List.getD_eq_getElem?_getD, List.getElem?_append_right (by omega), hl, Nat.sub_self, List.getElem?_drop, Nat.add_zero, recAt, List.getD_eq_getElem?_getD]
theorem markRT_step {c : Int} {rs : List Rec} {s : Nat} (h : s < rs.length) : (markRT c rs s).set s (c + totR (rs.take s), upto (c + totR (rs.take s) + 1) (recAt rs s).2.length) = markRT c rs (s + 1) := by
  have hl : (markR c (rs.take s)).length = s := by rw [markR_len]; simp; omega
  rw [markRT, List.set_append_right _ _ (by omega), hl, Nat.sub_self, markRT, take_rec h, markR_app, List.append_assoc]
  congr 1
  rw [List.drop_eq_getElem_cons h, List.set_cons_zero]
  simp only [markR, List.cons_append, List.nil_append]
theorem eqR_take_step {rs ss : List Rec} {k : Nat} (h1 : k < rs.length) (h2 : k < ss.length) (h : rs.take k = ss.take k) (e : recAt rs k = recAt ss k) : rs.take (k + 1) = ss.take (k + 1) := by rw [take_rec h1, take_rec h2, h, e]
theorem eqR_take_full {rs ss : List Rec} {k : Nat} (hl : rs.length = ss.length) (hk : ¬ k < rs.length) (h : rs.take k = ss.take k) : rs = ss := by
  rwa [List.take_of_length_le (by omega), List.take_of_length_le (by omega)] at h
theorem neR_row {rs ss : List Rec} {k : Nat} (h : ¬ recAt rs k = recAt ss k) : rs ≠ ss := fun e => h (by rw [e])
theorem neR_len {rs ss : List Rec} (h : ¬ (rs.length : Int) = ss.length) : rs ≠ ss := fun e => h (by rw [e])
def rws (rs : List Rec) : List (List Int) := rs.map fun r => r.2
theorem rws_len {rs : List Rec} : (rws rs).length = rs.length := List.length_map ..
theorem rws_at {rs : List Rec} {i : Nat} (h : i < rs.length) : rowAt (rws rs) i = (recAt rs i).2 := by
  have h1 := rowAt_some (xss := rws rs) (i := i) (by rw [rws_len]; exact h)
  rw [rws, List.getElem?_map, recAt_some h] at h1
  exact (Option.some.inj h1).symm

theorem RetG.toR {P : Program} {K : Value → AHeap → Prop} {h : AHeap} {f : FuncId} {vs : List Value} {rs : List Rec} (r : RetG P f vs h (sl2 · rs.length) (rls · rs))
    (hK : ∀ k, k = h.length → Recs (h ++ rls k rs) (sl2 k rs.length) rs → K (sl2 k rs.length) (h ++ rls k rs)) : Tri P f vs h K := r.toG fun k hk => hK k hk (rls_recs hk rfl)
section
variable {P : Program} {ops : Array Oper} {KE : Env → AHeap → Prop} {os : List Oper} {env : Env} {h : AHeap} {d : Option Tmp} {ty : TypeId} {pos : String} {af : Array Edge} {g : Option (Nat × Bool)}
end
theorem prod_eq {a b : Rec} (h : a.1 = b.1 ∧ a.2 = b.2) : a = b := Prod.ext h.1 h.2
theorem prod_ne {a b : Rec} (h : ¬ (a.1 = b.1 ∧ a.2 = b.2)) : ¬ a = b := fun e => h (by rw [e]; exact ⟨rfl, rfl⟩)

def midR (c : Int) (rs : List Rec) (s : Nat) : List Rec := (markRT c rs s).set s (c + totR (rs.take s), (recAt rs s).2)
theorem midR_len {c : Int} {rs : List Rec} {s : Nat} (h : s < rs.length) : (midR c rs s).length = rs.length := by rw [midR, List.length_set, markRT_len (by omega)]
theorem midR_at {c : Int} {rs : List Rec} {s : Nat} (h : s < rs.length) : recAt (midR c rs s) s = (c + totR (rs.take s), (recAt rs s).2) := by
  have hl := markRT_len (c := c) (Nat.le_of_lt h)
  rw [recAt, midR, List.getD_eq_getElem?_getD, List.getElem?_set_self (by omega)]; rfl
theorem mkR1 {h g : AHeap} {k s : Nat} {c : Int} {rs : List Rec} (hk : k = h.length) (hs : s < rs.length) :
    (h ++ rls k (markRT c rs s) ++ g).set k ⟨(vrec (k + 1) (markRT c rs s)).set (s * 2) (i64 (c + totR (rs.take s))), true, 2⟩ = h ++ rls k (midR c rs s) ++ g := by
  have hl := markRT_len (c := c) (Nat.le_of_lt hs)
  rw [set_prev (by rw [List.length_append, rls_len]; omega), rls_set1 hk (by omega), markRT_row hs, midR]
theorem mkR2 {h g : AHeap} {k s : Nat} {c : Int} {rs : List Rec} (hk : k = h.length) (hs : s < rs.length) :
    (h ++ rls k (midR c rs s) ++ g).set (k + 1 + s) (lst (upto (c + totR (rs.take s) + 1) (recAt rs s).2.length)) = h ++ rls k (markRT c rs (s + 1)) ++ g := by
  have hl := midR_len (c := c) hs
  have ha := midR_at (c := c) hs
  rw [set_prev (by rw [List.length_append, rls_len]; omega), rls_set2 hk (by omega) (by rw [ha, upto_len]), ha, midR, List.set_set, markRT_step hs]
theorem mid_out {h g : AHeap} {k : Nat} {rs : List Rec} (hk : k = h.length) : (h ++ rls k rs ++ g)[k]? = some ⟨vrec (k + 1) rs, true, 2⟩ := lk_prev (rls_outer hk)
theorem mid_cell {k s : Nat} {c : Int} {rs : List Rec} (hs : s < rs.length) : (vrec (k + 1) (midR c rs s))[s * 2 + 1]? = some (sl (k + 1 + s) (recAt rs s).2.length) := by
  rw [(vrec_get (k := k + 1) (i := s) (rs := midR c rs s) (by rw [midR_len hs]; exact hs)).2, midR_at hs]
theorem mid_row {h g : AHeap} {k s : Nat} {c : Int} {rs : List Rec} (hk : k = h.length) (hs : s < rs.length) : (h ++ rls k (midR c rs s) ++ g)[k + 1 + s]? = some (lst (recAt rs s).2) := by
  have := rls_row (h := h) (k := k) (i := s) (rs := midR c rs s) hk (by rw [midR_len hs]; exact hs)
  rw [midR_at hs] at this
  exact lk_prev this
section
variable {P : Program} {K : Value → AHeap → Prop} {env : Env} {h : AHeap} {dst : Option Tmp} {ty : TypeId} {pos : String} {after : Array Edge} {guard : Option (Nat × Bool)}
theorem o_storeR0 {t : TypeId} {x y : Operand} {k n i b : Nat} {cs : List Value} {z : Value} {a : Int} {h' : AHeap} (hi : InfoIs P t z 1 b) (hx : aeval env x = .pointer (some ⟨k, i * 2, some (n * 2)⟩)) (ho : h[k]? = some ⟨cs, true, 2⟩) (hn : cs.length = n * 2) (hlt : i < n)
    (hy : aeval env y = i64 a) (hs : h.set k ⟨cs.set (i * 2) (i64 a), true, 2⟩ = h') (hK : K undef h') : AOp P ⟨dst, .store t x y, ty, pos, after, guard⟩ K env h := by
  subst hs
  exact o_store hi hx ho hn rfl hy (by omega) rfl hK
end

/-! ## Shares of each -/
def srL (rs : List Rec) : List (List Int) := rs.map fun r => shL r.1 r.2
theorem srL_len {rs : List Rec} : (srL rs).length = rs.length := List.length_map ..
theorem srL_at {rs : List Rec} {i : Nat} (h : i < rs.length) : rowAt (srL rs) i = shL (recAt rs i).1 (recAt rs i).2 := by
  have h1 := rowAt_some (xss := srL rs) (i := i) (by rw [srL_len]; exact h)
  rw [srL, List.getElem?_map, recAt_some h] at h1
  exact (Option.some.inj h1).symm
def srW (rs : List Rec) (i : Nat) : Bool := isW 10000 (recAt rs i).1 (recAt rs i).2
def srK (rs : List Rec) (w : Int) : Bool := decide (rs.length ≤ 16) && (decide (1 ≤ w ∧ w ≤ 8) && (List.range rs.length).all (srW rs))
theorem srK_1 {rs : List Rec} {w : Int} (h : ¬ rs.length ≤ 16) : srK rs w = false := by rw [srK, decide_eq_false h]; rfl
theorem srK_2 {rs : List Rec} {w : Int} (h : decide (1 ≤ w ∧ w ≤ 8) = false) : srK rs w = false := by rw [srK, h]; simp
theorem srK_3 {rs : List Rec} {w : Int} {s : Nat} (hs : s < rs.length) (h : srW rs s = false) : srK rs w = false := by
  have : (List.range rs.length).all (srW rs) = false := by
    rw [List.all_eq_false]
    exact ⟨s, List.mem_range.2 hs, by rw [h]; simp⟩
  rw [srK, this]; simp
theorem srK_yes {rs : List Rec} {w : Int} {s : Nat} (h1 : rs.length ≤ 16) (h2 : decide (1 ≤ w ∧ w ≤ 8) = true) (hs : s = rs.length) (h3 : (List.range s).all (srW rs) = true) : srK rs w = true := by
  subst hs; rw [srK, decide_eq_true h1, h2, h3]; rfl
theorem srK_lb {rs : List Rec} {w : Int} (h : srK rs w = true) : LB (srL rs) ∧ total (srL rs) ≤ 96 := by
  simp only [srK, Bool.and_eq_true, decide_eq_true_eq] at h
  have hr : ∀ i, i < rs.length → (rowAt (srL rs) i).length ≤ 6 := fun i hi => by
    have hw : isW 10000 (recAt rs i).1 (recAt rs i).2 = true := List.all_eq_true.1 h.2.2 i (List.mem_range.2 hi)
    have hg := isW_get hw
    rw [srL_at hi, shL_len]
    omega
  have ht : ∀ s : Nat, s ≤ rs.length → total ((srL rs).take s) ≤ s * 6 := fun s => by
    induction s with
    | zero => intro _; simp [total]
    | succ s ih =>
      intro hs
      have := ih (by omega)
      have h9 := hr s (by omega)
      rw [total_take (by rw [srL_len]; omega)]
      omega
  have h9 := ht rs.length (Nat.le_refl _)
  rw [List.take_of_length_le (by rw [srL_len]; exact Nat.le_refl _)] at h9
  exact ⟨⟨by rw [srL_len]; omega, by omega⟩, by omega⟩

def SplR (h : AHeap) (k : Nat) (rs ss : List Rec) (X X' : AHeap) : Prop := ∃ g, X = h ++ rls k rs ++ g ∧ X' = h ++ rls k ss ++ g
theorem splR_here {h : AHeap} {k : Nat} {rs ss : List Rec} : SplR h k rs ss (h ++ rls k rs) (h ++ rls k ss) := ⟨[], by simp, by simp⟩
theorem splR_more {h : AHeap} {k : Nat} {rs ss : List Rec} {X X' t : AHeap} (s : SplR h k rs ss X X') : SplR h k rs ss (X ++ t) (X' ++ t) := by
  obtain ⟨g, rfl, rfl⟩ := s
  exact ⟨g ++ t, by simp only [List.append_assoc], by simp only [List.append_assoc]⟩
theorem mark_splR {P : Program} {f : FuncId} {a : List Value} {v : Value} {h X X' : AHeap} {k : Nat} {rs ss : List Rec} (s : SplR h k rs ss X X') (r : ∀ g, Ret P f a (h ++ rls k rs ++ g) v (h ++ rls k ss ++ g)) : Ret P f a X v X' := by
  obtain ⟨g, rfl, rfl⟩ := s
  exact r g
theorem totR_eq : ∀ {rs : List Rec}, totR rs = rs.length + total (rws rs)
  | [] => rfl
  | r :: rs => by
    have := totR_eq (rs := rs)
    simp only [totR, rws, List.map_cons, total, List.length_cons] at this ⊢
    omega
theorem lb_tot {rs : List Rec} (h : LB (rws rs)) : totR rs ≤ 10000000 := by
  have h1 := h.1
  have h2 := h.2
  rw [rws_len] at h1
  rw [totR_eq]
  omega
end Go.Am

namespace Go.Am
set_option linter.unusedSimpArgs false
set_option linter.unusedVariables false
end Go.Am
