/-
  The abstract heap: stores, make, append, slicing, literals, calls. General: no program is named.
-/
import Derived.Test.YtejlkmepnamodaaAmMemOps
namespace Go.Am
set_option linter.unusedSimpArgs false
set_option linter.unusedVariables false
open Go.RowKit

def splice (cs : List Value) (off : Nat) (vs : List Value) : List Value := cs.take off ++ vs ++ cs.drop (off + vs.length)

theorem splice_length {cs vs : List Value} {off : Nat} (hf : off + vs.length ≤ cs.length) : (splice cs off vs).length = cs.length := by
  simp only [splice, List.length_append, List.length_take, List.length_drop]; omega

theorem splice_get {cs vs : List Value} {off : Nat} (hf : off + vs.length ≤ cs.length) (i : Nat) :
    (splice cs off vs)[i]? = if i < off then cs[i]? else if i < off + vs.length then vs[i - off]? else cs[i]? := by
  unfold splice
  have hl : (cs.take off).length = off := by simp; omega
  rw [List.append_assoc, List.getElem?_append, hl]
  split
  · rw [List.getElem?_take, if_pos ‹_›]
  · rw [List.getElem?_append]
    by_cases h2 : i < off + vs.length
    · rw [if_pos (by omega), if_pos h2]
    · rw [if_neg (by omega), if_neg h2, List.getElem?_drop]
      congr 1; omega

theorem splice_one (cs : List Value) (off : Nat) (v : Value) (hf : off < cs.length) : splice cs off [v] = cs.set off v := by
  apply List.ext_getElem?
  intro i
  rw [splice_get (by simp; omega), List.getElem?_set]
  by_cases h1 : i < off
  · rw [if_pos h1, if_neg (by omega)]
  · rw [if_neg h1]
    by_cases h2 : i = off
    · subst h2; simp [hf]
    · rw [if_neg (by simp; omega), if_neg (by omega)]

theorem AOp.of_skip {P : Program} {o : Oper} {K : Value → AHeap → Prop} {env : Env} {h : AHeap}
    (H : ∀ m w a, Rel m h w → OpsRel m h env a o → ∃ m' h' w', (execOp a.eval o).run P w = .ok .skip w' ∧
      Rel m' h' w' ∧ Step m h w m' h' w' ∧ K undef h') : AOp P o K env h := by
  intro m w a hr ho
  obtain ⟨m', h', w', hrun, p1, p2, p4⟩ := H m w a hr ho
  unfold Oper.wp
  rw [hrun]
  exact ⟨undef, undef, m', h', rfl, p1, p2, .undef _ _, p4⟩

/-- Cells of one's own block get new values, in place. -/
theorem Rel.storeCells {P : Program} {m h w} (hr : Rel m h w) {k off : Nat} {o : AObj} {l : Loc} (ho : h[k]? = some o) (hm : o.mine = true) (hl : m k = some l)
    {vs : List Value} {rs : List Value} (hlen : vs.length = rs.length) (hf : off + vs.length ≤ o.cells.length) (h0 : 0 < vs.length)
    (hv : ∀ (i : Nat) (v r : Value), vs[i]? = some v → rs[i]? = some r → VRel m h v r) (h1 : ∀ r ∈ rs, r.oneCell' = true) :
    ∃ w', (Go.storeCells ⟨l.block, l.base + off, none⟩ rs).run P w = .ok () w' ∧
      Rel (m.push k l) (h.set k ⟨splice o.cells off vs, true, o.esz⟩) w' ∧ Step m h w (m.push k l) (h.set k ⟨splice o.cells off vs, true, o.esz⟩) w' := by
  obtain ⟨c, ty, fz, hb, hc, hmm⟩ := hr.holds k o l ho hl (by omega)
  obtain ⟨hbase, rfl, hcap⟩ := hmm hm
  have hcs : o.cells.length ≤ c.size := by
    obtain ⟨r, hr1, _⟩ := hc (o.cells.length - 1) (by omega)
    have := (Array.getElem?_eq_some_iff.1 hr1).1
    omega
  have hrun := run_storeCells_at P l.block (l.base + off) ty rs 0 c w hb (by omega) h1
  refine ⟨_, hrun, ?_⟩
  have hget : ∀ i, (c.toList.take (l.base + off + 0) ++ rs ++ c.toList.drop (l.base + off + 0 + rs.length))[i]? = if i < off then c.toList[i]? else if i < off + vs.length then rs[i - off]? else c.toList[i]? := by
    intro i
    have := splice_get (cs := c.toList) (vs := rs) (off := off) (by simp; omega) i
    rw [hbase, Nat.zero_add, Nat.add_zero, hlen]
    exact this
  refine hr.rewrite ho hm hl (l' := l) (cs := splice o.cells off vs) (by rw [splice_length hf]; exact Nat.le_refl _) (setRow_heap w l.block c _ ty (0, 0) hb) hbase ?_ (.inl ⟨rfl, by omega⟩) ?_ rfl rfl rfl
    (fun b _ hne => setRow_other w l.block b _ hne) (fun i hi => ?_)
  · rw [← hcap]
    simp only [List.size_toArray, List.length_append, List.length_take, List.length_drop, Array.length_toList]
    omega
  · simp [World.setRow]
  · rw [splice_length hf] at hi
    obtain ⟨r, hr1, hr2⟩ := hc i hi
    rw [hbase, Nat.zero_add] at hr1
    have hsp := splice_get hf i
    have hi' : i < (splice o.cells off vs).length := by rw [splice_length hf]; exact hi
    rw [List.getElem?_eq_getElem hi'] at hsp
    simp only [List.getElem?_toArray]
    rw [hget i]
    by_cases c1 : i < off
    · rw [if_pos c1] at hsp ⊢
      rw [List.getElem?_eq_getElem hi, Option.some.injEq] at hsp
      exact ⟨r, by simpa using hr1, by rw [hsp]; exact hr2⟩
    · rw [if_neg c1] at hsp ⊢
      by_cases c2 : i < off + vs.length
      · rw [if_pos c2] at hsp ⊢
        have hj : i - off < rs.length := by omega
        exact ⟨rs[i - off], by rw [List.getElem?_eq_getElem hj], hv _ _ _ hsp.symm (List.getElem?_eq_getElem hj)⟩
      · rw [if_neg c2] at hsp ⊢
        rw [List.getElem?_eq_getElem hi, Option.some.injEq] at hsp
        exact ⟨r, by simpa using hr1, by rw [hsp]; exact hr2⟩

section
variable {P : Program} {K : Value → AHeap → Prop} {env : Env} {h : AHeap} {dst : Option Tmp} {ty : TypeId} {pos : String} {after : Array Edge} {guard : Option (Nat × Bool)}

theorem aop_storeAgg {t : TypeId} {x y : Operand} {k off ver : Nat} {o : AObj} {i : TypeInfo} {v : Value} (hi : P.info? t = some i) (hsz : i.size = v.cells.size)
    (hx : aeval env x = .pointer (some ⟨k, off, some ver⟩)) (ho : h[k]? = some o) (hver : o.cells.length = ver) (hm : o.mine = true) (hy : aeval env y = v)
    (hf : off + v.cells.size ≤ ver) (h0 : 0 < v.cells.size) (h1 : v.cells.toList.all oneCellA = true)
    (hK : K undef (h.set k ⟨splice o.cells off v.cells.toList, true, o.esz⟩)) : AOp P ⟨dst, .store t x y, ty, pos, after, guard⟩ K env h :=
  .of_skip fun m w a hr hop => by
    have hp := hop x (by simp [Op.operands])
    have hq := hop y (by simp [Op.operands])
    rw [hx] at hp; rw [hy] at hq
    obtain ⟨l, hl, he⟩ := hp.pointer_inv ho hver
    obtain ⟨hs, hc⟩ := hq.cells
    obtain ⟨w', hrun, r1, s1⟩ := hr.storeCells (P := P) ho hm hl (off := off) (vs := v.cells.toList) (rs := (a.eval y).cells.toList) (by simp [hs]) (by simp; omega) (by simpa using h0)
      (fun j v' r' e1 e2 => by
        simp only [Array.getElem?_toList] at e1 e2
        obtain ⟨l1, rfl⟩ := Array.getElem?_eq_some_iff.1 e1
        obtain ⟨l2, rfl⟩ := Array.getElem?_eq_some_iff.1 e2
        exact hc j l1 l2)
      (fun r hmem => by
        obtain ⟨j, hj, rfl⟩ := List.getElem_of_mem hmem
        simp only [Array.length_toList] at hj
        have := hc j (by omega) hj
        have h2 := List.all_eq_true.1 h1 (v.cells[j]'(by omega)) (by simp)
        simpa using (this.oneCell h2).1)
    refine ⟨_, _, w', ?_, r1, s1, hK⟩
    have hne : ¬ (a.eval y).cells.size ≠ i.size := by omega
    simp only [execOp, he, Instr.storeAt, Instr.sureAddr, storeVar, Sem.run_bind, Sem.run_pure, Result.andThen_ok, sizeOf, typeInfo]
    simp [hi, hne, hrun]

theorem aop_store {t : TypeId} {x y : Operand} {k off ver : Nat} {o : AObj} {i : TypeInfo} {v : Value} (hi : P.info? t = some i) (hsz : i.size = 1)
    (hx : aeval env x = .pointer (some ⟨k, off, some ver⟩)) (ho : h[k]? = some o) (hver : o.cells.length = ver) (hm : o.mine = true) (hy : aeval env y = v)
    (hf : off < ver) (h1 : oneCellA v = true)
    (hK : K undef (h.set k ⟨o.cells.set off v, true, o.esz⟩)) : AOp P ⟨dst, .store t x y, ty, pos, after, guard⟩ K env h := by
  have hc : v.cells = #[v] := by cases v <;> first | rfl | (simp [oneCellA] at h1)
  refine aop_storeAgg hi (by rw [hc]; exact hsz) hx ho hver hm hy (by rw [hc]; simp; omega) (by rw [hc]; simp) (by rw [hc]; simp [h1]) ?_
  rw [hc]
  rw [splice_one _ _ _ (by omega)]
  exact hK

theorem aop_make {t e : TypeId} {x y : Operand} {i : TypeInfo} {z : Value} {k1 k2 : IntKind} {l c : Int} (hu : P.underlying t = some (.slice e)) (hi : P.info? e = some i) (hz : i.zero = some z)
    (hsz : i.size = 1) (hp : isPrim z = true) (hone : oneCellA z = true) (hx : aeval env x = .int k1 l) (hy : aeval env y = .int k2 c) (h0 : 0 ≤ l) (hlc : l ≤ c) (hb : (i.bytes : Int) * c ≤ 281474976710656) (h63 : c ≤ 9223372036854775807)
    (hK : K (.slice (some ⟨h.length, 0, some c.toNat⟩) l.toNat c.toNat) (h ++ [⟨List.replicate c.toNat z, true, 1⟩])) : AOp P ⟨dst, .makeSlice t x y, ty, pos, after, guard⟩ K env h :=
  .of_run fun m w a hr hop => by
    have hp1 := hop x (by simp [Op.operands])
    have hp2 := hop y (by simp [Op.operands])
    rw [hx] at hp1; rw [hy] at hp2
    have hcz : z.cells = #[z] := by cases z <;> first | rfl | (simp [oneCellA] at hone)
    have hrun := run_make (P := P) w t e i z hu hi hz k1 k2 l c h0 hlc hb h63
    obtain ⟨r1, s1⟩ := hr.push (c := madeCells z.cells (c.toNat * i.size)) (ty := e) (o := ⟨List.replicate c.toNat z, true, 1⟩) (by simp [size_madeCells, hsz]) (fun j hj => by
      simp only [List.length_replicate] at hj
      refine ⟨z, ?_, by simpa using VRel.prim hp⟩
      simp [madeCells, hsz, hcz, hj, Nat.mod_one])
    refine ⟨_, .slice (some ⟨w.heap.size, 0, none⟩) l.toNat c.toNat, _, _, _, ?_, r1, s1, ?_, hK⟩
    · simp [execOp, hp1.int, hp2.int, hrun]
    · refine .slice (o := ⟨List.replicate c.toNat z, true, 1⟩) (by simp) (by simp) ⟨_, _, _, rfl⟩ fun _ => ⟨⟨w.heap.size, 0, _⟩, by simp [Map.push]; rfl, _, _, rfl, by omega, Nat.le_refl _, by simp, fun _ => rfl, fun _ => ⟨fun _ => by simp [size_madeCells, hsz], fun hh => by simpa using hh⟩⟩

/-- s[l:h]. -/
theorem aop_slice {t e : TypeId} {x : Operand} {lo hi : Option Operand} {k off ver len cap : Nat} {o : AObj} {i : TypeInfo} {l r : Nat} (hu : P.underlying t = some (.slice e)) (hin : P.info? e = some i) (hs : i.size = o.esz)
    (hx : aeval env x = .slice (some ⟨k, off, some ver⟩) len cap) (ho : h[k]? = some o) (hver : o.cells.length = ver)
    (hlo : (lo = none ∧ l = 0) ∨ ∃ y kd, lo = some y ∧ aeval env y = .int kd (l : Int)) (hhi : (hi = none ∧ r = len) ∨ ∃ y kd, hi = some y ∧ aeval env y = .int kd (r : Int))
    (hlr : l ≤ r) (hrc : r ≤ cap)
    (hK : K (.slice (some ⟨k, off + l * o.esz, some ver⟩) (r - l) (cap - l)) h) : AOp P ⟨dst, .slice t x lo hi none, ty, pos, after, guard⟩ K env h :=
  .of_run fun m w a hr hop => by
    have hp := hop x (by simp [Op.operands])
    rw [hx] at hp
    obtain ⟨lc, hl, b, cap', he, c1, c2, c3, c4, c5⟩ := hp.slice_inv ho hver
    have hl' : lo.map a.eval = none ∧ l = 0 ∨ ∃ kd, lo.map a.eval = some (.int kd (l : Int)) := by
      rcases hlo with ⟨rfl, rfl⟩ | ⟨y, kd, rfl, hy⟩
      · exact .inl ⟨rfl, rfl⟩
      · have := hop y (by simp [Op.operands])
        rw [hy] at this
        exact .inr ⟨kd, by simp [this.int]⟩
    have hr' : hi.map a.eval = none ∧ r = len ∨ ∃ kd, hi.map a.eval = some (.int kd (r : Int)) := by
      rcases hhi with ⟨rfl, rfl⟩ | ⟨y, kd, rfl, hy⟩
      · exact .inl ⟨rfl, rfl⟩
      · have := hop y (by simp [Op.operands])
        rw [hy] at this
        exact .inr ⟨kd, by simp [this.int]⟩
    have hb : (Instr.sliceBounds true len cap' (lo.map a.eval) (hi.map a.eval) none).run P w = .ok (l, r, cap') w := by
      have e1 : ∀ (n : Nat) kd code, r ≤ n → (Instr.sliceBound (.int kd (r : Int)) n code).run P w = .ok r w := fun n kd code hn => by
        simp [Instr.sliceBound, asIntOf, hn]
      have e2 : ∀ (n : Nat) kd code, l ≤ n → (Instr.sliceBound (.int kd (l : Int)) n code).run P w = .ok l w := fun n kd code hn => by
        simp [Instr.sliceBound, asIntOf, hn]
      rcases hl' with ⟨q1, rfl⟩ | ⟨kd1, q1⟩ <;> rcases hr' with ⟨q2, rfl⟩ | ⟨kd2, q2⟩ <;>
        simp [Instr.sliceBounds, q1, q2, e1 cap' _ _ (by omega), e2 r _ _ hlr]
    have hlcap : l ≤ cap := by omega
    have hmul : l * o.esz + (cap - l) * o.esz = cap * o.esz := by rw [← Nat.add_mul]; congr 1; omega
    have hmul' : l * o.esz + (cap' - l) * o.esz = cap' * o.esz := by rw [← Nat.add_mul]; congr 1; omega
    refine ⟨_, .slice (if cap' = l then b else b.map (·.add (l * i.size))) (r - l) (cap' - l), m, h, w, ?_, hr, Step.refl, ?_, hK⟩
    · simp only [execOp, he, Instr.sliceAt, Sem.run_bind, run_underlying hu, Result.andThen_ok, Instr.slice, Option.map_none, hb, sizeOf, typeInfo]
      simp [hin]
    · refine .slice ho (by omega) ⟨_, _, _, rfl⟩ fun _ => ⟨lc, hl, _, _, rfl, by omega, by omega, by omega, fun hlt => ?_, fun hm => ⟨fun hpos' => ?_, fun hz => ?_⟩⟩
      · have hlc : l < cap := by
          rcases Nat.lt_or_ge l cap with h1 | h1
          · exact h1
          · have : cap - l = 0 := by omega
            rw [this, Nat.zero_mul] at hmul
            omega
        have hb0 := c4 (by omega)
        rw [if_neg (by omega), hb0]
        simp [Addr.add_lit, hs, Nat.add_assoc]
      · have := (c5 hm).1 hpos'
        omega
      · have := (c5 hm).2 hz
        omega

end
end Go.Am
