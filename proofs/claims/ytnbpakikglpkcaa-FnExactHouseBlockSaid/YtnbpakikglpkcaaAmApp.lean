/-
  The abstract heap: append, literals of structs and slices. General: no program is named.
-/
import Derived.Test.YtnbpakikglpkcaaAmMemOps2
namespace Go.Am
set_option linter.unusedSimpArgs false
set_option linter.unusedVariables false
open Go.RowKit

section
variable {P : Program}

theorem run_append_room' (w : World) (t ty e te : TypeId) (i : TypeInfo) (ht : P.underlying t = some (.slice e)) (hi : P.info? e = some i)
    (g off sLen sCap : Nat) (cur : Array Value) (hg : w.heap[g]? = some (.cells cur te (0, 0)))
    (a : Addr) (m c : Nat) (news : List Value) (hl : news.length = m * i.size) (hnews : ∀ j u, news[j]? = some u → w.cell? (a.add j) = some u) (h1 : ∀ u ∈ news, u.oneCell' = true)
    (hroom : sLen + m ≤ sCap) (hfit : off + sLen * i.size + news.length ≤ cur.size) :
    (Builtin.append_ #[t, t] ty #[.slice (some ⟨g, off, none⟩) sLen sCap, .slice (some a) m c]).run P w =
      .ok (.slice (some ⟨g, off, none⟩) (sLen + m) sCap) (w.setRow g (cur.toList.take (off + sLen * i.size) ++ news ++ cur.toList.drop (off + sLen * i.size + news.length)).toArray) := by
  have hf := run_firstCells_some (P := P) w i.size m a m c news hl hnews
  have hst := run_storeCells_at P g (off + sLen * i.size) te news 0 cur w hg (by simpa using hfit) h1
  simp only [Nat.add_zero] at hst
  simp [Builtin.append_, run_underlying ht, sizeOf, typeInfo, hi, Builtin.lenOf, hroom, hf, Addr.add_lit, hst]

/-- Nothing is appended. -/
theorem run_append_none (w : World) (t ty e : TypeId) (i : TypeInfo) (ht : P.underlying t = some (.slice e)) (hi : P.info? e = some i)
    (b a : Option Addr) (n sCap c : Nat) (hle : n ≤ sCap) :
    (Builtin.append_ #[t, t] ty #[.slice b n sCap, .slice a 0 c]).run P w = .ok (.slice b n sCap) w := by
  cases b <;> cases a <;>
    simp [Builtin.append_, run_underlying ht, sizeOf, typeInfo, hi, Builtin.lenOf, Builtin.firstCells, loadCells, loadCellsFrom, storeCells, hle]

end

/-- The cells of a slice, as they are read. -/
def news (o : AObj) (off n : Nat) : List Value := (o.cells.drop off).take n

theorem Rel.news {m h w} (hr : Rel m h w) {k off ver len cap : Nat} {o : AObj} {r : Value} (hv : VRel m h (.slice (some ⟨k, off, some ver⟩) len cap) r) (ho : h[k]? = some o) (hver : o.cells.length = ver)
    (hlen : 0 < len) (hpos : 0 < o.esz) :
    ∃ (a : Addr) (c : Nat) (rs : List Value), r = .slice (some a) len c ∧ rs.length = len * o.esz ∧ (news o off (len * o.esz)).length = len * o.esz ∧
      (∀ (j : Nat) (u : Value), rs[j]? = some u → w.cell? (a.add j) = some u) ∧
      (∀ (j : Nat) (v u : Value), (news o off (len * o.esz))[j]? = some v → rs[j]? = some u → VRel m h v u) := by
  obtain ⟨l, hl, b, cap', rfl, c1, c2, c3, c4, c5⟩ := hv.slice_inv ho hver
  have hle : len * o.esz ≤ cap * o.esz := Nat.mul_le_mul_right _ c1
  have hp : 0 < len * o.esz := Nat.mul_pos hlen hpos
  have hb := c4 (by omega)
  subst hb
  have hnl : (Am.news o off (len * o.esz)).length = len * o.esz := by simp [Am.news]; omega
  let f : Nat → Value := fun j => (w.cell? ⟨l.block, l.base + off + j, none⟩).getD undef
  have hc : ∀ j, j < len * o.esz → ∃ v, (Am.news o off (len * o.esz))[j]? = some v ∧ w.cell? ⟨l.block, l.base + off + j, none⟩ = some (f j) ∧ VRel m h v (f j) := fun j hj => by
    have h1 : (Am.news o off (len * o.esz))[j]? = o.cells[off + j]? := by simp [Am.news, hj]
    have h2 : off + j < o.cells.length := by omega
    obtain ⟨r, g1, g2⟩ := hr.cell ho hl (List.getElem?_eq_getElem h2)
    rw [← Nat.add_assoc] at g1
    exact ⟨_, h1.trans (List.getElem?_eq_getElem h2), by simp [f, g1], by simpa [f, g1] using g2⟩
  refine ⟨_, cap', (List.range (len * o.esz)).map f, rfl, by simp, hnl, fun j u hj => ?_, fun j v u hj hu => ?_⟩
  · simp only [List.getElem?_map, Option.map_eq_some_iff] at hj
    obtain ⟨j', hj', rfl⟩ := hj
    obtain ⟨hlt, e⟩ := List.getElem?_eq_some_iff.1 hj'
    simp at hlt e
    subst e
    obtain ⟨v, _, g2, _⟩ := hc j hlt
    rw [Addr.add_lit]
    exact g2
  · simp only [List.getElem?_map, Option.map_eq_some_iff] at hu
    obtain ⟨j', hj', rfl⟩ := hu
    obtain ⟨hlt, e⟩ := List.getElem?_eq_some_iff.1 hj'
    simp at hlt e
    subst e
    obtain ⟨v', g1, _, g3⟩ := hc j hlt
    rw [g1] at hj; cases hj
    exact g3

theorem news_oneCell {m h} {vs rs : List Value} (hl : vs.length = rs.length) (h1 : vs.all oneCellA = true) (hv : ∀ (j : Nat) (v u : Value), vs[j]? = some v → rs[j]? = some u → VRel m h v u) :
    ∀ u ∈ rs, u.oneCell' = true := fun u hu => by
  obtain ⟨j, hj, rfl⟩ := List.getElem_of_mem hu
  have hj' : j < vs.length := by omega
  have := hv j _ _ (List.getElem?_eq_getElem hj') (List.getElem?_eq_getElem hj)
  exact (this.oneCell (List.all_eq_true.1 h1 _ (by simp))).1

section
variable {P : Program} {K : Value → AHeap → Prop} {env : Env} {h : AHeap} {dst : Option Tmp} {ty : TypeId} {pos : String} {after : Array Edge} {guard : Option (Nat × Bool)}

/-- append(s, x...) to a list of one's own that is full. -/
theorem aop_append {t e : TypeId} {s x : Operand} {i : TypeInfo} {z : Value} {k ver n k2 off2 ver2 m c2 : Nat} {o o2 : AObj} (hu : P.underlying t = some (.slice e)) (hi : P.info? e = some i) (hz : i.zero = some z)
    (hs : i.size = o.esz) (hzs : z.cells.size = i.size) (hpos : 0 < o.esz) (hs2 : o2.esz = o.esz)
    (hx : aeval env s = .slice (some ⟨k, 0, some ver⟩) n n) (ho : h[k]? = some o) (hver : o.cells.length = ver) (hfull : n * o.esz = ver) (hm : o.mine = true)
    (hy : aeval env x = .slice (some ⟨k2, off2, some ver2⟩) m c2) (ho2 : h[k2]? = some o2) (hver2 : o2.cells.length = ver2) (h1 : (news o2 off2 (m * o.esz)).all oneCellA = true)
    (hm0 : 0 < m) (hb : (n + m) * i.bytes ≤ 140737488355328) (h63 : n + m ≤ 9223372036854775807)
    (hK : K (.slice (some ⟨k, 0, some (ver + m * o.esz)⟩) (n + m) (n + m)) (h.set k ⟨o.cells ++ news o2 off2 (m * o.esz), true, o.esz⟩)) :
    AOp P ⟨dst, .call { callee := .builtin .append, args := #[s, x], argTypes := #[t, t] }, ty, pos, after, guard⟩ K env h :=
  .of_run fun mp w a hr hop => by
    have hp := hop s (by simp [Op.operands, Call.operands])
    have hq := hop x (by simp [Op.operands, Call.operands])
    rw [hx] at hp; rw [hy] at hq
    have hk := (List.getElem?_eq_some_iff.1 ho).1
    obtain ⟨ad, cx, rs, hxe, hrl, hnl, hcells, hrel⟩ := hr.news hq ho2 hver2 hm0 (by rw [hs2]; exact hpos)
    rw [hs2] at hrl hnl hrel
    obtain ⟨l, hl, b, cap', hse, c1, c2', c3, c4, c5⟩ := hp.slice_inv ho hver
    have hone := news_oneCell (by rw [hrl, hnl]) h1 hrel
    have hlen' : (o.cells ++ Am.news o2 off2 (m * o.esz)).length = ver + m * o.esz := by rw [List.length_append, hnl, hver]
    have hmm : 0 < m * o.esz := Nat.mul_pos hm0 hpos
    have hmul : (n + m) * o.esz = ver + m * o.esz := by rw [Nat.add_mul, hfull]
    have hexec : ∀ v' w', (Builtin.append_ #[t, t] ty #[a.eval s, a.eval x]).run P w = .ok v' w' →
        (execOp a.eval ⟨dst, .call { callee := .builtin .append, args := #[s, x], argTypes := #[t, t] }, ty, pos, after, guard⟩).run P w = .ok (.value v') w' := fun v' w' hh => by
      simp only [execOp, resolve, invoke, builtin, Sem.run_bind, Sem.run_pure, Result.andThen_ok, List.map_toArray, List.map_cons, List.map_nil, hh]
    -- the new cells, real
    have hreal : ∀ (c' : Array Value), (∀ j, j < ver → ∃ r, c'[j]? = some r ∧ ∀ v, o.cells[j]? = some v → VRel mp h v r) → (∀ j, j < m * o.esz → c'[ver + j]? = rs[j]?) →
        ∀ j (hj : j < (o.cells ++ Am.news o2 off2 (m * o.esz)).length), ∃ r, c'[j]? = some r ∧ VRel mp h (o.cells ++ Am.news o2 off2 (m * o.esz))[j] r := fun c' q1 q2 j hj => by
      have hg : (o.cells ++ Am.news o2 off2 (m * o.esz))[j]? = some (o.cells ++ Am.news o2 off2 (m * o.esz))[j] := List.getElem?_eq_getElem hj
      generalize (o.cells ++ Am.news o2 off2 (m * o.esz))[j] = v at hg
      rw [hlen'] at hj
      rw [List.getElem?_append] at hg
      by_cases hlt : j < o.cells.length
      · rw [if_pos hlt] at hg
        obtain ⟨r, g1, g2⟩ := q1 j (by omega)
        exact ⟨r, g1, g2 v hg⟩
      · rw [if_neg hlt] at hg
        have hj2 : j - o.cells.length < m * o.esz := by omega
        have hjr : j - o.cells.length < rs.length := by omega
        have := q2 (j - o.cells.length) hj2
        rw [show ver + (j - o.cells.length) = j by omega, List.getElem?_eq_getElem hjr] at this
        exact ⟨_, this, hrel _ _ _ hg (List.getElem?_eq_getElem hjr)⟩
    have hold : ∀ (cr : Array Value), (∀ i (hi : i < o.cells.length), ∃ r, cr[l.base + i]? = some r ∧ VRel mp h o.cells[i] r) → ∀ j, j < ver → ∃ r, cr[l.base + j]? = some r ∧ ∀ v, o.cells[j]? = some v → VRel mp h v r := fun cr q j hj => by
      obtain ⟨r, g1, g2⟩ := q j (by omega)
      exact ⟨r, g1, fun v hv => by rw [List.getElem?_eq_getElem (by omega)] at hv; cases hv; exact g2⟩
    by_cases hroom : n + m ≤ cap'
    · -- in place
      have hop0 : 0 < o.cells.length := by
        rcases Nat.eq_zero_or_pos o.cells.length with h0 | h0
        · have := (c5 hm).2 h0; omega
        · exact h0
      obtain ⟨cr, te, fz, hblk, hcr, hmine⟩ := hr.holds k o l ho hl hop0
      obtain ⟨hbase, rfl, hcap⟩ := hmine hm
      have hcap2 := (c5 hm).1 hop0
      have hb0 := c4 (by omega)
      rw [hbase] at hb0
      subst hb0
      have hfit : 0 + n * i.size + rs.length ≤ cr.size := by
        rw [hrl, hcap, ← hcap2, hs, Nat.zero_add, Nat.zero_add, ← Nat.add_mul]
        exact Nat.mul_le_mul_right _ hroom
      have hrun := run_append_room' (P := P) w t ty e te i hu hi l.block 0 n cap' cr hblk ad m cx rs (by rw [hs]; exact hrl) hcells hone hroom hfit
      simp only [Nat.zero_add] at hrun hfit
      rw [hs, hfull] at hrun hfit
      have hexec' := hexec _ _ (by rw [hse, hxe]; exact hrun)
      obtain ⟨r1, s1⟩ := hr.rewrite ho hm hl (l' := l) (cs := o.cells ++ Am.news o2 off2 (m * o.esz)) (c' := (cr.toList.take ver ++ rs ++ cr.toList.drop (ver + rs.length)).toArray) (ty := te) (by rw [hlen']; omega) (setRow_heap w l.block cr _ te (0, 0) hblk) hbase
        (by rw [← hcap]; simp only [List.size_toArray, List.length_append, List.length_take, List.length_drop, Array.length_toList]; omega) (.inl ⟨rfl, hop0⟩)
        (by simp [World.setRow]) rfl rfl rfl (fun b _ hne => setRow_other w l.block b _ hne)
        (hreal _ (fun j hj => by
          obtain ⟨r, g1, g2⟩ := hold cr hcr j hj
          rw [hbase, Nat.zero_add] at g1
          refine ⟨r, ?_, g2⟩
          simp only [List.getElem?_toArray]
          rw [List.append_assoc, List.getElem?_append, if_pos (by simp; have := (Array.getElem?_eq_some_iff.1 g1).1; omega), List.getElem?_take, if_pos hj]
          simpa using g1) (fun j hj => by
          simp only [List.getElem?_toArray]
          have ht : (cr.toList.take ver).length = ver := by simp; omega
          rw [List.append_assoc, List.getElem?_append, if_neg (by omega), ht, List.getElem?_append, if_pos (by omega)]
          congr 1; omega))
      refine ⟨_, _, _, _, _, hexec', r1, s1, ?_, hK⟩
      refine .slice (o := ⟨o.cells ++ Am.news o2 off2 (m * o.esz), true, o.esz⟩) (by simp [hk]) (by simp only []; omega) ⟨_, _, _, rfl⟩ fun _ => ⟨l, by simp [Map.push], _, cap', rfl, Nat.le_refl _, hroom, by simp only []; omega, fun _ => by simp [hbase], fun _ => ⟨fun _ => hcap2, fun hz0 => by simp only [] at hz0; omega⟩⟩
    · -- a new row
      have hdone : ∀ (w' : World) (cr : Array Value) (cp : Nat) (_hrun : (Builtin.append_ #[t, t] ty #[a.eval s, a.eval x]).run P w = .ok (.slice (some ⟨w.heap.size, 0, none⟩) (n + m) cp) w')
          (_hw : w' = w.drew.alloc (.cells cr e)) (_hle : n + m ≤ cp) (_hsz : cr.size = cp * o.esz)
          (_hq1 : ∀ j, j < ver → ∃ r, cr[j]? = some r ∧ ∀ v, o.cells[j]? = some v → VRel mp h v r) (_hq2 : ∀ j, j < m * o.esz → cr[ver + j]? = rs[j]?),
          ∃ v r m' h' w', (execOp a.eval ⟨dst, .call { callee := .builtin .append, args := #[s, x], argTypes := #[t, t] }, ty, pos, after, guard⟩).run P w = .ok (.value r) w' ∧
            Rel m' h' w' ∧ Step mp h w m' h' w' ∧ VRel m' h' v r ∧ K v h' := by
        intro w' cr cp hrun hw hle hsz hq1 hq2
        subst hw
        obtain ⟨r1, s1⟩ := hr.rewrite (w' := w.drew.alloc (.cells cr e)) ho hm hl (l' := ⟨w.heap.size, 0, cr.size⟩) (c' := cr) (ty := e) (cs := o.cells ++ Am.news o2 off2 (m * o.esz)) (by rw [hlen']; omega)
          (by show (w.heap.push _)[w.heap.size]? = _; simp) rfl rfl (.inr ⟨by rw [hlen']; omega, Nat.le_refl _⟩) (by simp) rfl rfl rfl (fun b hb0 _ => Below.heap_alloc w.drew _ _ hb0)
          (hreal cr hq1 hq2)
        refine ⟨_, _, _, _, _, hexec _ _ hrun, r1, s1, ?_, hK⟩
        refine .slice (o := ⟨o.cells ++ Am.news o2 off2 (m * o.esz), true, o.esz⟩) (by simp [hk]) (by simp only []; omega) ⟨_, _, _, rfl⟩ fun _ => ⟨_, by simp [Map.push]; rfl, _, cp, rfl, Nat.le_refl _, hle, by simp only []; omega, fun _ => rfl, fun _ => ⟨fun _ => by simp [hsz], fun hz0 => by simp only [] at hz0; omega⟩⟩
      have hgrow : cap' < n + m := by omega
      have hcapge := grownCap_ge w (n + m) cap' e
      rcases Nat.eq_zero_or_pos n with hn0 | hn0
      · -- from an empty list
        have hoc : o.cells.length = 0 := by rw [hver, ← hfull, hn0, Nat.zero_mul]
        have hcap0 := (c5 hm).2 hoc
        subst hcap0
        have hver0 : ver = 0 := by omega
        have hrun0 : ∃ (a0 : Option Addr), a.eval s = .slice a0 0 0 := ⟨b, by rw [hse, hn0]⟩
        obtain ⟨a0, ha0⟩ := hrun0
        have hfits := growslice_fits (need := n + m) (old := 0) (bytes := i.bytes) hgrow hb
        have hfit48 : Builtin.nextslicecap m 0 * i.bytes ≤ 281474976710656 := by simpa [hn0] using hfits
        have hrun : (Builtin.append_ #[t, t] ty #[.slice a0 0 0, .slice (some ad) m cx]).run P w =
            .ok (.slice (some ⟨w.heap.size, 0, none⟩) m (grownCap w m 0 e)) (w.drew.alloc (.cells (rs.toArray ++ Builtin.zeroCells z.cells (grownCap w m 0 e - m)) e)) := by
          cases a0 with
          | none => exact run_append_nil (P := P) w t ty e i z hu hi hz ad m cx rs (by rw [hs]; exact hrl) hcells hm0 (by omega) (by rw [hn0, Nat.zero_add] at hb; omega)
          | some a1 =>
            have := run_append_grow (P := P) w t ty e i z hu hi hz a1 0 0 [] (by simp) (by simp) ad m cx rs (by rw [hs]; exact hrl) hcells (by omega) (by omega) (by simpa [hn0] using hfits)
            simpa using this
        refine hdone _ (rs.toArray ++ Builtin.zeroCells z.cells (grownCap w m 0 e - m)) (grownCap w m 0 e) (by rw [ha0, hxe, hrun, hn0]; simp) rfl (by rw [hn0, Nat.zero_add] at *; exact hcapge) ?_ (fun j hj => by omega) (fun j hj => ?_)
        · rw [hn0, Nat.zero_add] at hcapge
          simp only [Array.size_append, List.size_toArray, size_zeroCells, hzs, hs, hrl, ← Nat.add_mul]
          congr 1; omega
        · rw [hver0, Nat.zero_add, Array.getElem?_append, if_pos (by simp; omega)]
          simp
      · have hop0 : 0 < o.cells.length := by rw [hver, ← hfull]; exact Nat.mul_pos hn0 hpos
        obtain ⟨cr, te, fz, hblk, hcr, hmine⟩ := hr.holds k o l ho hl hop0
        obtain ⟨hbase, rfl, hcap⟩ := hmine hm
        have hb0 := c4 (by omega)
        rw [hbase] at hb0
        subst hb0
        let f : Nat → Value := fun j => (cr[j]?).getD undef
        have hfc : ∀ j, j < ver → cr[j]? = some (f j) := fun j hj => by
          obtain ⟨r, g1, _⟩ := hcr j (by omega)
          rw [hbase, Nat.zero_add] at g1
          simp [f, g1]
        have holds : ∀ (j : Nat) (v : Value), ((List.range ver).map f)[j]? = some v → w.cell? (Addr.add ⟨l.block, 0 + 0, none⟩ j) = some v := fun j v hj => by
          simp only [List.getElem?_map, Option.map_eq_some_iff] at hj
          obtain ⟨j', hj', rfl⟩ := hj
          obtain ⟨hlt, e0⟩ := List.getElem?_eq_some_iff.1 hj'
          simp at hlt e0
          subst e0
          rw [Addr.add_lit, cell_at hblk]
          simpa using hfc j hlt
        have hrun := run_append_grow (P := P) w t ty e i z hu hi hz ⟨l.block, 0 + 0, none⟩ n cap' ((List.range ver).map f) (by simp [hs, hfull]) holds ad m cx rs (by rw [hs]; exact hrl) hcells hgrow (by omega) (growslice_fits hgrow hb)
        refine hdone _ _ _ (by rw [hse, hxe]; exact hrun) rfl hcapge ?_ (fun j hj => ?_) (fun j hj => ?_)
        · simp only [Array.size_append, List.size_toArray, List.length_map, List.length_range, size_zeroCells, hzs, hs, hrl]
          rw [← hfull, ← Nat.add_mul, ← Nat.add_mul]
          congr 1; omega
        · obtain ⟨r, g1, g2⟩ := hold cr hcr j hj
          rw [hbase, Nat.zero_add] at g1
          have hfj : f j = r := by simp [f, g1]
          refine ⟨r, ?_, g2⟩
          rw [Array.getElem?_append, if_pos (by simp; omega), Array.getElem?_append, if_pos (by simp; exact hj)]
          simp [List.getElem?_range hj, hfj]
        · rw [Array.getElem?_append, if_pos (by simp; omega), Array.getElem?_append, if_neg (by simp)]
          simp

/-- append(s, x...) where x is empty. -/
theorem aop_appendNone {t e : TypeId} {s x : Operand} {i : TypeInfo} {q : Option Addr} {c2 : Nat} (hu : P.underlying t = some (.slice e)) (hi : P.info? e = some i)
    (hx : (aeval env s = .slice none 0 0) ∨ ∃ k off ver n cap o, aeval env s = .slice (some ⟨k, off, some ver⟩) n cap ∧ h[k]? = some o ∧ o.cells.length = ver)
    (hy : aeval env x = .slice q 0 c2) (hq : (q = none ∧ c2 = 0) ∨ ∃ k2 off2 ver2 o2, q = some ⟨k2, off2, some ver2⟩ ∧ h[k2]? = some o2 ∧ o2.cells.length = ver2)
    (hK : K (aeval env s) h) :
    AOp P ⟨dst, .call { callee := .builtin .append, args := #[s, x], argTypes := #[t, t] }, ty, pos, after, guard⟩ K env h :=
  .of_run fun mp w a hr hop => by
    have hp := hop s (by simp [Op.operands, Call.operands])
    have hqq := hop x (by simp [Op.operands, Call.operands])
    have hxe : ∃ b c, a.eval x = .slice b 0 c := by
      rw [hy] at hqq
      rcases hq with ⟨rfl, rfl⟩ | ⟨k2, off2, ver2, o2, rfl, ho2, hver2⟩
      · exact ⟨_, _, hqq.nil_inv⟩
      · obtain ⟨l, hl, b, cap', he, _⟩ := hqq.slice_inv ho2 hver2
        exact ⟨_, _, he⟩
    have hse : ∃ b n c, a.eval s = .slice b n c ∧ n ≤ c := by
      rcases hx with hx | ⟨k, off, ver, n, cap, o, hx, ho, hver⟩
      · rw [hx] at hp; exact ⟨_, _, _, hp.nil_inv, Nat.le_refl _⟩
      · rw [hx] at hp
        obtain ⟨l, hl, b, cap', he, c1, c2, _⟩ := hp.slice_inv ho hver
        exact ⟨_, _, _, he, by omega⟩
    obtain ⟨b1, c1, he1⟩ := hxe
    obtain ⟨b2, n2, c2', he2, hle⟩ := hse
    have hrun := run_append_none (P := P) w t ty e i hu hi b2 b1 n2 c2' c1 hle
    refine ⟨_, a.eval s, mp, h, w, ?_, hr, Step.refl, hp, hK⟩
    simp only [execOp, resolve, invoke, builtin, Sem.run_bind, Sem.run_pure, Result.andThen_ok, List.map_toArray, List.map_cons, List.map_nil, he1, he2, hrun]

end
end Go.Am
