/-
  The abstract heap: what this claim needs of it. General: no program is named.
-/
import Derived.Test.YtcemfhppopmamaaAmG4
import Derived.ProofKit
import Derived.Carry
import Derived.Lib.SmallJoins
import Derived.Deep.Matrix
import Derived.Deep.Slices
import Derived.Deep.SlicePairs
namespace Go.Am
set_option linter.unusedSimpArgs false
set_option linter.unusedVariables false
open Go.RowKit Go.ChangeShapes Go.WideShapes Go.ChangeAt Go.Joins Go.Deep Go.WideElems

variable {H : Type} {enc : TypeId × Value → H} {P : Program}

/-- Blocks that are only looked at. -/
structure Abs (m : Map) (h : AHeap) (W : World) : Prop where
  rel : Rel m h W
  imm : ∀ (k : Nat) (o : AObj), h[k]? = some o → o.mine = false

theorem Abs.nil (W : World) : Abs (fun _ => none) [] W :=
  ⟨⟨fun k o l hk => by simp at hk, fun k1 k2 o1 o2 l1 l2 h1 => by simp at h1, fun k o hk => by simp at hk⟩, fun k o hk => by simp at hk⟩

/-- One block more that is only looked at. -/
theorem Abs.look {m h W} (a : Abs m h W) {cells : List Value} {esz : Nat} {l : Loc}
    (hh : 0 < cells.length → ∃ c ty fz, W.heap[l.block]? = some (.cells c ty fz) ∧ ∀ i (hi : i < cells.length), ∃ r, c[l.base + i]? = some r ∧ VRel m h cells[i] r)
    (hw : ∀ v ∈ cells, Within h.length v) :
    Abs (m.push h.length l) (h ++ [⟨cells, false, esz⟩]) W ∧ Ext m h (m.push h.length l) (h ++ [⟨cells, false, esz⟩]) := by
  have mold : ∀ {k}, k < h.length → m.push h.length l k = m k := fun {k} hk => by simp [Map.push, Nat.ne_of_lt hk]
  have mnew : m.push h.length l h.length = some l := by simp [Map.push]
  have ex : Ext m h (m.push h.length l) (h ++ [⟨cells, false, esz⟩]) := fun k x hk => by
    have hlt := (List.getElem?_eq_some_iff.1 hk).1
    exact ⟨x, by rw [List.getElem?_append_left hlt]; exact hk, Nat.le_refl _, rfl, rfl, fun l1 hl => ⟨l1, by rw [mold hlt]; exact hl, fun _ => rfl⟩⟩
  have himm : ∀ (k : Nat) (o : AObj), (h ++ [⟨cells, false, esz⟩])[k]? = some o → o.mine = false := fun k o hk => by
    rcases lookup_push hk with ⟨_, h2⟩ | ⟨_, rfl⟩
    · exact a.imm k o h2
    · rfl
  refine ⟨⟨⟨fun k o l1 hk hl hp => ?_, fun k1 k2 o1 o2 l1 l2 g1 _ _ _ _ hm => ?_, fun k o hk v hv => ?_⟩, himm⟩, ex⟩
  · rcases lookup_push hk with ⟨h1, h2⟩ | ⟨rfl, rfl⟩
    · rw [mold h1] at hl
      obtain ⟨c, ty, fz, hb, hc, hm⟩ := a.rel.holds k o l1 h2 hl hp
      exact ⟨c, ty, fz, hb, fun i hi => by obtain ⟨r, r1, r2⟩ := hc i hi; exact ⟨r, r1, r2.mono ex⟩, hm⟩
    · rw [mnew] at hl; cases hl
      obtain ⟨c, ty, fz, hb, hc⟩ := hh hp
      exact ⟨c, ty, fz, hb, fun i hi => by obtain ⟨r, r1, r2⟩ := hc i hi; exact ⟨r, r1, r2.mono ex⟩, fun hm => by cases hm⟩
  · rw [himm k1 o1 g1] at hm; cases hm
  · rcases lookup_push hk with ⟨h1, h2⟩ | ⟨rfl, rfl⟩
    · exact (a.rel.closed k o h2 v hv).mono (by simp)
    · exact (hw v hv).mono (by simp)

/-- A slice of integers that came in. -/
theorem abs_ints {t e : TypeId} {fuel : Nat} {r : Value} {x : DataW H × List MemPlace} {m h W} (a : Abs m h W) (ht : P.underlying t = some (.slice e)) (he : P.underlying e = some (.int .i64)) (hc : P.cellsOf e = 1)
    (hv : DataW.trod enc P W 0 (fun _ => true) true fuel t [r] = some x) :
    ∃ m' g v xs, Abs m' (h ++ g) W ∧ Ext m h m' (h ++ g) ∧ VRel m' (h ++ g) v r ∧ Ints (h ++ g) v xs ∧ xs.length ≤ 9223372036854775807 := by
  rcases open_ints ht he hc hv with ⟨hcs, _⟩ | ⟨ad, len, cap, zs, hcs, _, hl, hm, hz, _, hcell, _⟩
  · simp only [List.cons.injEq, and_true] at hcs
    subst hcs
    exact ⟨m, [], .slice none 0 0, [], by simpa using a, by simpa using Ext.refl m h, .prim rfl, .inl ⟨rfl, rfl⟩, by simp⟩
  · simp only [List.cons.injEq, and_true] at hcs
    subst hcs
    simp only [if_true] at hz
    have hlen : ((zs.take len).map i64).length = len := by simp; omega
    obtain ⟨a', ex⟩ := a.look (cells := (zs.take len).map i64) (esz := 1) (l := ⟨ad.block, ad.off, 0⟩) (fun hp => by
      rw [hlen] at hp
      have hspot := World.cell?_spot (hcell 0 (by omega))
      have hc0 := hcell 0 (by omega)
      have hadd : ∀ i, ad.add i = ⟨ad.block, ad.off + i, none⟩ := fun i => by
        have h0 : ad.spot = none := by simpa [Addr.add] using hspot
        obtain ⟨b, o, s⟩ := ad
        simp only at h0
        subst h0
        exact Addr.add_lit _ _ _
      cases hb : W.heap[ad.block]? with
      | none => rw [hadd] at hc0; simp [World.cell?, hb] at hc0
      | some ob =>
        cases ob with
        | cells c ty fz =>
          refine ⟨c, ty, fz, rfl, fun i hi => ?_⟩
          rw [hlen] at hi
          have h1 := hcell i (by omega)
          rw [hadd, cell_at hb] at h1
          refine ⟨_, h1, ?_⟩
          have : zs.getD i 0 = zs[i]'(by omega) := getD_at (by omega)
          simp only [List.getElem_map, List.getElem_take, this]
          exact .prim rfl
        | _ => rw [hadd] at hc0; simp [World.cell?, hb] at hc0) (fun v hv => by
      simp only [List.mem_map] at hv
      obtain ⟨z, _, rfl⟩ := hv
      exact .prim rfl)
    refine ⟨_, _, .slice (some ⟨h.length, 0, some len⟩) len len, zs.take len, a', ex, ?_, .inr ⟨h.length, 0, len, len, ⟨(zs.take len).map i64, false, 1⟩, by simp; omega, by simp, hlen, rfl, by simp; omega, by omega, fun i z hi => by
      simp only [Nat.zero_add, List.getElem?_map, hi, Option.map_some]⟩, by
        have : maxLen = 9223372036854775807 := rfl
        simp; omega⟩
    refine .slice (o := ⟨(zs.take len).map i64, false, 1⟩) (by simp) (by simp only [hlen]; exact Nat.le_refl _) ⟨_, _, _, rfl⟩ fun _ => ⟨⟨ad.block, ad.off, 0⟩, by simp [Map.push], some ad, cap, rfl, Nat.le_refl _, hl, by simp only [hlen]; omega, fun hlt => ?_, fun hm0 => by cases hm0⟩
    simp only [hlen] at hlt
    have hspot := World.cell?_spot (hcell 0 (by omega))
    have h0 : ad.spot = none := by simpa [Addr.add] using hspot
    obtain ⟨b, o, s⟩ := ad
    simp only at h0
    subst h0
    rfl

/-- From the contract to the world: the answer is true, and all old blocks are as they were. -/
theorem calls_of_ret {f : FuncId} {vs : List Value} {h : AHeap} {m : Map} {W : World} {args : Array Value} (r : Ret P f vs h (.bool true) h) (a : Abs m h W) (hv : VRels m h vs args) :
    Calls P f args W fun e W' => e = .returned (.bool true) ∧ Below W.heap.size W W' :=
  (r.2 m W args a.rel hv).mono fun e W' ⟨v, rr, m', h', he, _, st, hvr, hV, _⟩ => by
    subst he hV
    refine ⟨by rw [hvr.bool], st.os, st.tape, st.output, st.size, fun b hb => st.frame b hb fun k o l hk _ hm => ?_⟩
    rw [a.imm k o hk] at hm; cases hm

theorem trodAll_below (hl : laidOutB P = true) {W W' : World} (hb : Below W.heap.size W W') : ∀ {ts : List TypeId} {vs : List Value} {ds : List (DataW H)} {ps : List MemPlace},
    (∀ t ∈ ts, P.readableRec t = true ∧ t < P.types.size) → DataW.TrodAll enc P W 0 (fun _ => true) true ts vs ds ps → (∀ x ∈ ps, x.block < W.heap.size) →
    DataW.TrodAll enc P W' 0 (fun b => decide (b < W.heap.size)) true ts vs ds ps
  | [], [], [], _, _, h, _ => h
  | t :: ts, v :: vs, d :: ds, ps, hr, ⟨p, q, h1, h2, e⟩, hlt => by
    subst e
    exact ⟨p, q, Below.trod hl (hr t (by simp)).1 (hr t (by simp)).2 h1 hb (fun x hx => hlt x (by simp [hx])),
      trodAll_below hl hb (fun u hu => hr u (by simp [hu])) h2 (fun x hx => hlt x (by simp [hx])), rfl⟩
  | [], _ :: _, _, _, _, h, _ => h.elim
  | [], [], _ :: _, _, _, h, _ => h.elim
  | _ :: _, [], _, _, _, h, _ => h.elim
  | _ :: _, _ :: _, [], _, _, h, _ => h.elim

theorem law_post {f : Func} {s : ChangeSpec} {W W' : World} {args : Array Value} {ds gs : List (DataW H)} {before : List MemPlace} {tb : TypeId} (hl : laidOutB P = true)
    (hr : ∀ t ∈ f.params.toList, P.readableRec t = true ∧ t < P.types.size) (hrt : f.resultTypes = #[tb]) (hb : P.underlying tb = some .bool) (hvars : s.vars = [])
    (hres : (s.fn H (ds ++ gs)).results = [.lit (.bool true)]) (hargs : (s.fn H (ds ++ gs)).args = ds) (hv : (s.fn H (ds ++ gs)).vars = [])
    (hW : DataW.Whole enc P f.params.toList s.vars false W args.toList ds gs before) (hbel : Below W.heap.size W W') : s.post enc P f false true false false W args (.bool true) W' := by
  have hW' := hW
  obtain ⟨p, q, hA, hV, rfl, _, _⟩ := hW
  rw [hvars] at hV
  obtain ⟨rfl, rfl⟩ := trodVars_none hV
  refine ⟨_, _, _, [], p, [], hW', ?_, ?_, ?_, hbel.frame _, fun h => by cases h⟩
  · rw [hres, hrt]
    exact ⟨[], [], ⟨1, by simp [DataW.trod, Value.cells, hb]⟩, rfl, rfl⟩
  · rw [hargs]
    exact trodAll_below hl hbel hr hA (fun x hx => by simpa using hW'.lt x (by simp [hx]))
  · rw [hv, hvars]; rfl

/-- An integer that came in, by the reading alone. -/
theorem trod_int {fuel : Nat} {t : TypeId} {k : IntKind} {r : Value} {x : DataW H × List MemPlace} {W : World} (ht : P.underlying t = some (.int k)) (hv : DataW.trod enc P W 0 (fun _ => true) true fuel t [r] = some x) : ∃ n, r = .int k n := by
  cases fuel with
  | zero => simp [DataW.trod] at hv
  | succ n =>
    simp only [DataW.trod, ht] at hv
    cases r <;> simp at hv
    exact ⟨_, by rw [hv.1.1]⟩

theorem vrels2 {m h} {a b r s : Value} (h0 : VRel m h a r) (h1 : VRel m h b s) : VRels m h [a, b] #[r, s] :=
  ⟨rfl, fun i v q hv hq => by
    match i with
    | 0 => simp at hv hq; subst hv hq; exact h0
    | 1 => simp at hv hq; subst hv hq; exact h1
    | _ + 2 => simp at hv⟩

end Go.Am

namespace Go.Am
set_option linter.unusedSimpArgs false
set_option linter.unusedVariables false
open Go.RowKit Go.ChangeShapes Go.WideShapes Go.ChangeAt Go.Joins Go.Deep Go.WideElems

variable {H : Type} {enc : TypeId × Value → H} {P : Program}

end Go.Am

namespace Go.Am
set_option linter.unusedSimpArgs false
set_option linter.unusedVariables false
open Go.RowKit Go.ChangeShapes Go.WideShapes Go.ChangeAt Go.Joins Go.Deep Go.WideElems
variable {H : Type} {enc : TypeId × Value → H} {P : Program}
end Go.Am

namespace Go.Am
set_option linter.unusedSimpArgs false
set_option linter.unusedVariables false
open Go.RowKit Go.ChangeShapes Go.WideShapes Go.ChangeAt Go.Joins Go.Deep Go.WideElems
variable {H : Type} {enc : TypeId × Value → H} {P : Program}
end Go.Am

namespace Go.Am
set_option linter.unusedSimpArgs false
set_option linter.unusedVariables false
open Go.RowKit Go.ChangeShapes Go.WideShapes Go.ChangeAt Go.Joins Go.Deep Go.WideElems

variable {H : Type} {enc : TypeId × Value → H} {P : Program}

def mixR : List Rec → List Value → List Value
  | r :: rs, u :: us => i64 r.1 :: u :: mixR rs us
  | _, _ => []
theorem mixR_len : ∀ {rs : List Rec} {us : List Value}, us.length = rs.length → (mixR rs us).length = rs.length * 2
  | [], [], _ => rfl
  | [], _ :: _, h => by simp at h
  | _ :: _, [], h => by simp at h
  | r :: rs, u :: us, h => by
    have := mixR_len (rs := rs) (us := us) (by simpa using h)
    simp [mixR, this]; omega
theorem mixR_get : ∀ {rs : List Rec} {us : List Value} {i : Nat}, us.length = rs.length → i < rs.length → (mixR rs us)[i * 2]? = some (i64 (recAt rs i).1) ∧ (mixR rs us)[i * 2 + 1]? = us[i]?
  | [], [], i, _, h => by simp at h
  | [], _ :: _, _, h, _ => by simp at h
  | _ :: _, [], _, h, _ => by simp at h
  | r :: rs, u :: us, 0, _, _ => ⟨rfl, rfl⟩
  | r :: rs, u :: us, i + 1, h, hi => by
    have := mixR_get (rs := rs) (us := us) (i := i) (by simpa using h) (by simpa using hi)
    rw [mixR, show (i + 1) * 2 = i * 2 + 1 + 1 by omega, List.getElem?_cons_succ, List.getElem?_cons_succ, List.getElem?_cons_succ, List.getElem?_cons_succ, this.1, this.2]
    exact ⟨rfl, rfl⟩
theorem abs_recrows {e t0 t1 : TypeId} {W : World} {V0 V1 : Nat → Value} {D0 D1 : Nat → DataW H} {P0 P1 : Nat → List MemPlace} {fuel : Nat} (h0 : P.underlying t0 = some (.int .i64)) (ht : P.underlying t1 = some (.slice e)) (he : P.underlying e = some (.int .i64)) (hc : P.cellsOf e = 1) : ∀ (n : Nat) {m h}, Abs m h W →
    (∀ i, i < n → DataW.trod enc P W 0 (fun _ => true) true fuel t0 [V0 i] = some (D0 i, P0 i) ∧ DataW.trod enc P W 0 (fun _ => true) true fuel t1 [V1 i] = some (D1 i, P1 i)) →
    ∃ (m' : Map) (g : List AObj) (rs : List Rec) (us : List Value), Abs m' (h ++ g) W ∧ Ext m h m' (h ++ g) ∧ us.length = n ∧ rs.length = n ∧ ∀ i, i < n → V0 i = i64 (recAt rs i).1 ∧ (recAt rs i).2.length ≤ 9223372036854775807 ∧ ∃ u : Value, us[i]? = some u ∧ VRel m' (h ++ g) u (V1 i) ∧ Ints (h ++ g) u (recAt rs i).2
  | 0, m, h, a, _ => ⟨m, [], [], [], by simpa using a, by simpa using Ext.refl m h, rfl, rfl, fun r hr => by omega⟩
  | n + 1, m, h, a, hx => by
    obtain ⟨m1, g1, rs, us, a1, e1, hl1, hr1, hu1⟩ := abs_recrows h0 ht he hc n a (fun r hr => hx r (by omega))
    obtain ⟨x1, x2⟩ := hx n (by omega)
    obtain ⟨z, hz⟩ := trod_int h0 x1
    obtain ⟨m2, g2, v, xs, a2, e2, hv, hi, hl⟩ := abs_ints a1 ht he hc x2
    rw [List.append_assoc] at a2 e2 hv hi
    refine ⟨m2, g1 ++ g2, rs ++ [(z, xs)], us ++ [v], a2, fun k o hk => ?_, by simp [hl1], by simp [hr1], fun r hr => ?_⟩
    · obtain ⟨o1, p1, p2, p3, p4, p5⟩ := e1 k o hk
      obtain ⟨o2, q1, q2, q3, q4, q5⟩ := e2 k o1 p1
      refine ⟨o2, q1, Nat.le_trans p2 q2, q3.trans p3, q4.trans p4, fun l hl => ?_⟩
      obtain ⟨l1, hl1, f1⟩ := p5 l hl
      obtain ⟨l2, hl2, f2⟩ := q5 l1 hl1
      exact ⟨l2, hl2, fun hq => (f2 (by omega)).trans (f1 (by omega))⟩
    · by_cases hr2 : r < n
      · obtain ⟨y1, y2, u, w1, w2, w3⟩ := hu1 r hr2
        have er : recAt (rs ++ [(z, xs)]) r = recAt rs r := by
          rw [recAt, List.getD_eq_getElem?_getD, List.getElem?_append_left (by omega), recAt, List.getD_eq_getElem?_getD]
        rw [er]
        refine ⟨y1, y2, u, by rw [List.getElem?_append_left (by omega)]; exact w1, w2.mono e2, ?_⟩
        have := w3.app g2
        rwa [List.append_assoc] at this
      · have : r = n := by omega
        subst this
        have er : recAt (rs ++ [(z, xs)]) r = (z, xs) := by
          rw [recAt, List.getD_eq_getElem?_getD, List.getElem?_append_right (by omega), hr1, Nat.sub_self]; rfl
        rw [er]
        exact ⟨hz, hl, v, by rw [List.getElem?_append_right (by omega), hl1]; simp, hv, hi⟩
/-- A slice of records that came in. -/
theorem abs_r {t e q i0 i1 : TypeId} {f0 f1 : Field} {r : Value} {d : DataW H} {p : List MemPlace} {m h W} {rc : Reach} {b0 : Nat} (a : Abs m h W)
    (ht : P.underlying t = some (.slice e)) (he : P.underlying e = some (.struct #[f0, f1])) (ce : P.cellsOf e = 2) (o0 : f0.offset = 0) (o1 : f1.offset = 1) (c0 : P.cellsOf f0.type = 1) (c1 : P.cellsOf f1.type = 1)
    (e0 : f0.type = i0) (e1 : f1.type = i1) (hi0 : P.underlying i0 = some (.int .i64)) (hi1 : P.underlying i1 = some (.slice q)) (hq : P.underlying q = some (.int .i64)) (cq : P.cellsOf q = 1)
    (hval : Value.okWide P W rc b0 t r) (hv : DataW.Trod enc P W 0 (fun _ => true) true t r d p) :
    ∃ m' g v rs, Abs m' (h ++ g) W ∧ Ext m h m' (h ++ g) ∧ VRel m' (h ++ g) v r ∧ Recs (h ++ g) v rs ∧ rs.length ≤ 9223372036854775807 ∧ ∀ x ∈ rs, x.2.length ≤ 9223372036854775807 := by
  obtain ⟨ad0, len0, cap0, rfl⟩ := okWide_slice ht hval
  obtain ⟨fuel, hf⟩ := hv
  rcases open_slice_pairs ht he ce o0 o1 c0 c1 hf with ⟨hcs, _⟩ | ⟨ad, len, cap, mm, n, V0, V1, D0, D1, P0, P1, hcs, _, hl, hm, hmm, _, hrow⟩
  · replace hcs := List.head_eq_of_cons_eq hcs
    rw [hcs]
    exact ⟨m, [], .slice none 0 0, [], by simpa using a, by simpa using Ext.refl m h, .prim rfl, .inl ⟨rfl, rfl⟩, by simp, by simp⟩
  · replace hcs := List.head_eq_of_cons_eq hcs
    rw [hcs]
    have hmax : maxLen = 9223372036854775807 := rfl
    have hml : len ≤ mm := by rw [hmm]; split <;> omega
    obtain ⟨m1, g1, rs, us, a1, ex1, hul, hrl, hu⟩ := abs_recrows (enc := enc) (V0 := V0) (V1 := V1) (D0 := D0) (D1 := D1) (P0 := P0) (P1 := P1) (fuel := n) hi0 hi1 hq cq len a (fun i hi => by
      obtain ⟨_, _, r3, r4⟩ := hrow i (by omega)
      rw [e0] at r3; rw [e1] at r4
      exact ⟨r3, r4⟩)
    have hcell : ∀ j, j < len * 2 → ∃ x, W.cell? (ad.add j) = some x ∧ ∃ y, (mixR rs us)[j]? = some y ∧ VRel m1 (h ++ g1) y x := fun j hj => by
      obtain ⟨y1, _, u, w1, w2, _⟩ := hu (j / 2) (by omega)
      obtain ⟨k0, k1⟩ := mixR_get (rs := rs) (us := us) (i := j / 2) (by omega) (by omega)
      obtain ⟨r1, r2, _, _⟩ := hrow (j / 2) (by omega)
      by_cases ej : j % 2 = 0
      · rw [show j / 2 * 2 = j by omega] at k0 r1
        exact ⟨_, r1, _, k0, by rw [y1]; exact .prim rfl⟩
      · rw [show j / 2 * 2 + 1 = j by omega] at k1 r2
        exact ⟨_, r2, u, by rw [k1, w1], w2⟩
    have hxl := mixR_len (rs := rs) (us := us) (by omega)
    have hadd0 : 0 < len → ad.spot = none := fun hp => by
      obtain ⟨x, hx, _⟩ := hcell 0 (by omega)
      have hspot := World.cell?_spot hx
      simpa [Addr.add] using hspot
    obtain ⟨a', ex⟩ := a1.look (cells := mixR rs us) (esz := 2) (l := ⟨ad.block, ad.off, 0⟩) (fun hp => by
      rw [hxl, hrl] at hp
      have h0 := hadd0 (by omega)
      have hadd : ∀ i, ad.add i = ⟨ad.block, ad.off + i, none⟩ := fun i => by
        obtain ⟨b, o, s⟩ := ad
        simp only at h0
        subst h0
        exact Addr.add_lit _ _ _
      obtain ⟨x0, hc0, _⟩ := hcell 0 (by omega)
      cases hb : W.heap[ad.block]? with
      | none => rw [hadd] at hc0; simp [World.cell?, hb] at hc0
      | some ob =>
        cases ob with
        | cells c ty fz =>
          refine ⟨c, ty, fz, rfl, fun i hi => ?_⟩
          have hi' : i < len * 2 := by rw [hxl, hrl] at hi; exact hi
          obtain ⟨x, hx1, y, hy, hr⟩ := hcell i hi'
          rw [hadd, cell_at hb] at hx1
          rw [List.getElem?_eq_getElem hi, Option.some.injEq] at hy
          exact ⟨_, hx1, by rw [hy]; exact hr⟩
        | _ => rw [hadd] at hc0; simp [World.cell?, hb] at hc0) (fun v hv => by
      obtain ⟨i, hi, rfl⟩ := List.getElem_of_mem hv
      obtain ⟨x, _, y, hy, hr⟩ := hcell i (by rw [hxl, hrl] at hi; exact hi)
      rw [List.getElem?_eq_getElem hi, Option.some.injEq] at hy
      rw [hy]
      exact hr.within)
    rw [List.append_assoc] at a' ex
    have hcl : (mixR rs us).length = len * 2 := by rw [hxl, hrl]
    refine ⟨_, _, .slice (some ⟨(h ++ g1).length, 0, some (len * 2)⟩) len len, rs, a', fun k o hk => ?_, ?_, .inr ⟨(h ++ g1).length, 0, len * 2, len, ⟨mixR rs us, false, 2⟩, by rw [hrl], ?_, hcl, rfl, by omega, by omega, fun i x hi => ?_⟩, by omega, fun x hx => ?_⟩
    · obtain ⟨o1, p1, p2, p3, p4, p5⟩ := ex1 k o hk
      obtain ⟨o2, q1, q2, q3, q4, q5⟩ := ex k o1 p1
      refine ⟨o2, q1, Nat.le_trans p2 q2, q3.trans p3, q4.trans p4, fun l hl => ?_⟩
      obtain ⟨l1, hl1, f1⟩ := p5 l hl
      obtain ⟨l2, hl2, f2⟩ := q5 l1 hl1
      exact ⟨l2, hl2, fun hq => (f2 (by omega)).trans (f1 (by omega))⟩
    · refine .slice (o := ⟨mixR rs us, false, 2⟩) (by rw [← List.append_assoc]; simp) (by simp only [hcl]; exact Nat.le_refl _) ⟨_, _, _, rfl⟩ fun _ => ⟨⟨ad.block, ad.off, 0⟩, by simp [Map.push], some ad, cap, rfl, Nat.le_refl _, hl, by simp only [hcl]; omega, fun hlt => ?_, fun hm0 => by cases hm0⟩
      simp only [hcl] at hlt
      have h0 := hadd0 (by omega)
      obtain ⟨b, o, s⟩ := ad
      simp only at h0
      subst h0
      rfl
    · rw [← List.append_assoc]; simp
    · have hlt : i < rs.length := (List.getElem?_eq_some_iff.1 hi).1
      have hx : x = recAt rs i := by rw [recAt_some hlt] at hi; exact (Option.some.inj hi).symm
      subst hx
      obtain ⟨_, _, u, w1, w2, w3⟩ := hu i (by omega)
      obtain ⟨k0, k1⟩ := mixR_get (rs := rs) (us := us) (i := i) (by omega) hlt
      have := w3.app [⟨mixR rs us, false, 2⟩]
      rw [List.append_assoc] at this
      rw [Nat.zero_add]
      exact ⟨u, k0, by rw [k1, w1], this⟩
    · obtain ⟨i, hi, rfl⟩ := List.getElem_of_mem hx
      obtain ⟨_, y2, _⟩ := hu i (by omega)
      have := recAt_some hi
      rw [List.getElem?_eq_getElem hi, Option.some.injEq] at this
      rw [this]
      exact y2
end Go.Am
