/-
  The abstract heap: what this claim needs of it. General: no program is named.
-/
import Derived.Test.YtnbpakikglpkcaaAmG4
import Derived.ProofKit
import Derived.Carry
import Derived.Lib.SmallJoins
import Derived.Deep.Matrix
namespace Go.Am
set_option linter.unusedSimpArgs false
set_option linter.unusedVariables false
open Go.RowKit Go.ChangeShapes Go.WideShapes Go.ChangeAt Go.Joins Go.Deep Go.WideElems

variable {H : Type} {enc : TypeId × Value → H} {P : Program}

/-- Blocks that are only looked at. -/
structure Abs (m : Map) (h : AHeap) (W : World) : Prop where
  rel : Rel m h W
  imm : ∀ (k : Nat) (o : AObj), h[k]? = some o → o.mine = false

theorem Abs.nil (W : World) : Abs (fun _ => none) [] W :=
  ⟨⟨fun k o l hk => by simp at hk, fun k1 k2 o1 o2 l1 l2 h1 => by simp at h1, fun k o hk => by simp at hk⟩, fun k o hk => by simp at hk⟩

/-- One block more that is only looked at. -/
theorem Abs.look {m h W} (a : Abs m h W) {cells : List Value} {esz : Nat} {l : Loc}
    (hh : 0 < cells.length → ∃ c ty fz, W.heap[l.block]? = some (.cells c ty fz) ∧ ∀ i (hi : i < cells.length), ∃ r, c[l.base + i]? = some r ∧ VRel m h cells[i] r)
    (hw : ∀ v ∈ cells, Within h.length v) :
    Abs (m.push h.length l) (h ++ [⟨cells, false, esz⟩]) W ∧ Ext m h (m.push h.length l) (h ++ [⟨cells, false, esz⟩]) := by
  have mold : ∀ {k}, k < h.length → m.push h.length l k = m k := fun {k} hk => by simp [Map.push, Nat.ne_of_lt hk]
  have mnew : m.push h.length l h.length = some l := by simp [Map.push]
  have ex : Ext m h (m.push h.length l) (h ++ [⟨cells, false, esz⟩]) := fun k x hk => by
    have hlt := (List.getElem?_eq_some_iff.1 hk).1
    exact ⟨x, by rw [List.getElem?_append_left hlt]; exact hk, Nat.le_refl _, rfl, rfl, fun l1 hl => ⟨l1, by rw [mold hlt]; exact hl, fun _ => rfl⟩⟩
  have himm : ∀ (k : Nat) (o : AObj), (h ++ [⟨cells, false, esz⟩])[k]? = some o → o.mine = false := fun k o hk => by
    rcases lookup_push hk with ⟨_, h2⟩ | ⟨_, rfl⟩
    · exact a.imm k o h2
    · rfl
  refine ⟨⟨⟨fun k o l1 hk hl hp => ?_, fun k1 k2 o1 o2 l1 l2 g1 _ _ _ _ hm => ?_, fun k o hk v hv => ?_⟩, himm⟩, ex⟩
  · rcases lookup_push hk with ⟨h1, h2⟩ | ⟨rfl, rfl⟩
    · rw [mold h1] at hl
      obtain ⟨c, ty, fz, hb, hc, hm⟩ := a.rel.holds k o l1 h2 hl hp
      exact ⟨c, ty, fz, hb, fun i hi => by obtain ⟨r, r1, r2⟩ := hc i hi; exact ⟨r, r1, r2.mono ex⟩, hm⟩
    · rw [mnew] at hl; cases hl
      obtain ⟨c, ty, fz, hb, hc⟩ := hh hp
      exact ⟨c, ty, fz, hb, fun i hi => by obtain ⟨r, r1, r2⟩ := hc i hi; exact ⟨r, r1, r2.mono ex⟩, fun hm => by cases hm⟩
  · rw [himm k1 o1 g1] at hm; cases hm
  · rcases lookup_push hk with ⟨h1, h2⟩ | ⟨rfl, rfl⟩
    · exact (a.rel.closed k o h2 v hv).mono (by simp)
    · exact (hw v hv).mono (by simp)

/-- From the contract to the world: the answer is true, and all old blocks are as they were. -/
theorem calls_of_ret {f : FuncId} {vs : List Value} {h : AHeap} {m : Map} {W : World} {args : Array Value} (r : Ret P f vs h (.bool true) h) (a : Abs m h W) (hv : VRels m h vs args) :
    Calls P f args W fun e W' => e = .returned (.bool true) ∧ Below W.heap.size W W' :=
  (r.2 m W args a.rel hv).mono fun e W' ⟨v, rr, m', h', he, _, st, hvr, hV, _⟩ => by
    subst he hV
    refine ⟨by rw [hvr.bool], st.os, st.tape, st.output, st.size, fun b hb => st.frame b hb fun k o l hk _ hm => ?_⟩
    rw [a.imm k o hk] at hm; cases hm

theorem trodAll_below (hl : laidOutB P = true) {W W' : World} (hb : Below W.heap.size W W') : ∀ {ts : List TypeId} {vs : List Value} {ds : List (DataW H)} {ps : List MemPlace},
    (∀ t ∈ ts, P.readableRec t = true ∧ t < P.types.size) → DataW.TrodAll enc P W 0 (fun _ => true) true ts vs ds ps → (∀ x ∈ ps, x.block < W.heap.size) →
    DataW.TrodAll enc P W' 0 (fun b => decide (b < W.heap.size)) true ts vs ds ps
  | [], [], [], _, _, h, _ => h
  | t :: ts, v :: vs, d :: ds, ps, hr, ⟨p, q, h1, h2, e⟩, hlt => by
    subst e
    exact ⟨p, q, Below.trod hl (hr t (by simp)).1 (hr t (by simp)).2 h1 hb (fun x hx => hlt x (by simp [hx])),
      trodAll_below hl hb (fun u hu => hr u (by simp [hu])) h2 (fun x hx => hlt x (by simp [hx])), rfl⟩
  | [], _ :: _, _, _, _, h, _ => h.elim
  | [], [], _ :: _, _, _, h, _ => h.elim
  | _ :: _, [], _, _, _, h, _ => h.elim
  | _ :: _, _ :: _, [], _, _, h, _ => h.elim

theorem law_post {f : Func} {s : ChangeSpec} {W W' : World} {args : Array Value} {ds gs : List (DataW H)} {before : List MemPlace} {tb : TypeId} (hl : laidOutB P = true)
    (hr : ∀ t ∈ f.params.toList, P.readableRec t = true ∧ t < P.types.size) (hrt : f.resultTypes = #[tb]) (hb : P.underlying tb = some .bool) (hvars : s.vars = [])
    (hres : (s.fn H (ds ++ gs)).results = [.lit (.bool true)]) (hargs : (s.fn H (ds ++ gs)).args = ds) (hv : (s.fn H (ds ++ gs)).vars = [])
    (hW : DataW.Whole enc P f.params.toList s.vars false W args.toList ds gs before) (hbel : Below W.heap.size W W') : s.post enc P f false true false false W args (.bool true) W' := by
  have hW' := hW
  obtain ⟨p, q, hA, hV, rfl, _, _⟩ := hW
  rw [hvars] at hV
  obtain ⟨rfl, rfl⟩ := trodVars_none hV
  refine ⟨_, _, _, [], p, [], hW', ?_, ?_, ?_, hbel.frame _, fun h => by cases h⟩
  · rw [hres, hrt]
    exact ⟨[], [], ⟨1, by simp [DataW.trod, Value.cells, hb]⟩, rfl, rfl⟩
  · rw [hargs]
    exact trodAll_below hl hbel hr hA (fun x hx => by simpa using hW'.lt x (by simp [hx]))
  · rw [hv, hvars]; rfl

theorem vrels2 {m h} {a b r s : Value} (h0 : VRel m h a r) (h1 : VRel m h b s) : VRels m h [a, b] #[r, s] :=
  ⟨rfl, fun i v q hv hq => by
    match i with
    | 0 => simp at hv hq; subst hv hq; exact h0
    | 1 => simp at hv hq; subst hv hq; exact h1
    | _ + 2 => simp at hv⟩

end Go.Am

namespace Go.Am
set_option linter.unusedSimpArgs false
set_option linter.unusedVariables false
open Go.RowKit Go.ChangeShapes Go.WideShapes Go.ChangeAt Go.Joins Go.Deep Go.WideElems

variable {H : Type} {enc : TypeId × Value → H} {P : Program}

/-- One row. -/
theorem abs_row {m h W} (a : Abs m h W) {A : Option Addr} {L C : Nat} {Z : List Int} (hl : L ≤ C) (hz : Z.length = C) (hn : A = none → C = 0)
    (hc : ∀ a', A = some a' → ∀ c, c < C → W.cell? (a'.add c) = some (.int .i64 (Z.getD c 0))) :
    ∃ m' g v, Abs m' (h ++ g) W ∧ Ext m h m' (h ++ g) ∧ VRel m' (h ++ g) v (.slice A L C) ∧ Ints (h ++ g) v (Z.take L) := by
  cases A with
  | none =>
    have h0 := hn rfl
    subst h0
    have hL : L = 0 := by omega
    subst hL
    exact ⟨m, [], .slice none 0 0, by simpa using a, by simpa using Ext.refl m h, .prim rfl, .inl ⟨rfl, by simp⟩⟩
  | some ad =>
    have hcell := hc ad rfl
    have hlen : ((Z.take L).map i64).length = L := by simp; omega
    obtain ⟨a', ex⟩ := a.look (cells := (Z.take L).map i64) (esz := 1) (l := ⟨ad.block, ad.off, 0⟩) (fun hp => by
      rw [hlen] at hp
      have hspot := World.cell?_spot (hcell 0 (by omega))
      have hc0 := hcell 0 (by omega)
      have hadd : ∀ i, ad.add i = ⟨ad.block, ad.off + i, none⟩ := fun i => by
        have h0 : ad.spot = none := by simpa [Addr.add] using hspot
        obtain ⟨b, o, s⟩ := ad
        simp only at h0
        subst h0
        exact Addr.add_lit _ _ _
      cases hb : W.heap[ad.block]? with
      | none => rw [hadd] at hc0; simp [World.cell?, hb] at hc0
      | some ob =>
        cases ob with
        | cells c ty fz =>
          refine ⟨c, ty, fz, rfl, fun i hi => ?_⟩
          rw [hlen] at hi
          have h1 := hcell i (by omega)
          rw [hadd, cell_at hb] at h1
          refine ⟨_, h1, ?_⟩
          have : Z.getD i 0 = Z[i]'(by omega) := getD_at (by omega)
          simp only [List.getElem_map, List.getElem_take, this]
          exact .prim rfl
        | _ => rw [hadd] at hc0; simp [World.cell?, hb] at hc0) (fun v hv => by
      simp only [List.mem_map] at hv
      obtain ⟨z, _, rfl⟩ := hv
      exact .prim rfl)
    refine ⟨_, _, .slice (some ⟨h.length, 0, some L⟩) L L, a', ex, ?_, .inr ⟨h.length, 0, L, L, ⟨(Z.take L).map i64, false, 1⟩, by simp; omega, by simp, hlen, rfl, by simp; omega, by omega, fun i z hi => by
      simp only [Nat.zero_add, List.getElem?_map, hi, Option.map_some]⟩⟩
    refine .slice (o := ⟨(Z.take L).map i64, false, 1⟩) (by simp) (by simp only [hlen]; exact Nat.le_refl _) ⟨_, _, _, rfl⟩ fun _ => ⟨⟨ad.block, ad.off, 0⟩, by simp [Map.push], some ad, C, rfl, Nat.le_refl _, hl, by simp only [hlen]; omega, fun hlt => ?_, fun hm0 => by cases hm0⟩
    simp only [hlen] at hlt
    have hspot := World.cell?_spot (hcell 0 (by omega))
    have h0 : ad.spot = none := by simpa [Addr.add] using hspot
    obtain ⟨b, o, s⟩ := ad
    simp only at h0
    subst h0
    rfl

/-- The rows, one after the other. -/
theorem abs_rows {W : World} {A : Nat → Option Addr} {L C : Nat → Nat} {Z : Nat → List Int} : ∀ (n : Nat) {m h}, Abs m h W →
    (∀ r, r < n → L r ≤ C r ∧ (Z r).length = C r ∧ (A r = none → C r = 0) ∧ ∀ a', A r = some a' → ∀ c, c < C r → W.cell? (a'.add c) = some (.int .i64 ((Z r).getD c 0))) →
    ∃ (m' : Map) (g : List AObj) (us : List Value), Abs m' (h ++ g) W ∧ Ext m h m' (h ++ g) ∧ us.length = n ∧ ∀ r, r < n → ∃ u : Value, us[r]? = some u ∧ VRel m' (h ++ g) u (.slice (A r) (L r) (C r)) ∧ Ints (h ++ g) u ((Z r).take (L r))
  | 0, m, h, a, _ => ⟨m, [], [], by simpa using a, by simpa using Ext.refl m h, rfl, fun r hr => by omega⟩
  | n + 1, m, h, a, hx => by
    obtain ⟨m1, g1, us, a1, e1, hl1, hu1⟩ := abs_rows n a (fun r hr => hx r (by omega))
    obtain ⟨x1, x2, x3, x4⟩ := hx n (by omega)
    obtain ⟨m2, g2, v, a2, e2, hv, hi⟩ := abs_row a1 x1 x2 x3 x4
    rw [List.append_assoc] at a2 e2 hv hi
    refine ⟨m2, g1 ++ g2, us ++ [v], a2, fun k o hk => ?_, by simp [hl1], fun r hr => ?_⟩
    · obtain ⟨o1, p1, p2, p3, p4, p5⟩ := e1 k o hk
      obtain ⟨o2, q1, q2, q3, q4, q5⟩ := e2 k o1 p1
      refine ⟨o2, q1, Nat.le_trans p2 q2, q3.trans p3, q4.trans p4, fun l hl => ?_⟩
      obtain ⟨l1, hl1, f1⟩ := p5 l hl
      obtain ⟨l2, hl2, f2⟩ := q5 l1 hl1
      exact ⟨l2, hl2, fun hq => (f2 (by omega)).trans (f1 (by omega))⟩
    · by_cases hr2 : r < n
      · obtain ⟨u, w1, w2, w3⟩ := hu1 r hr2
        refine ⟨u, by rw [List.getElem?_append_left (by omega)]; exact w1, w2.mono e2, ?_⟩
        have := w3.app g2
        rwa [List.append_assoc] at this
      · have : r = n := by omega
        subst this
        refine ⟨v, by rw [List.getElem?_append_right (by omega), hl1]; simp, hv, hi⟩

/-- A slice of slices of integers that came in. -/
theorem abs_lists {t e q : TypeId} {fuel : Nat} {r : Value} {x : DataW H × List MemPlace} {m h W} (a : Abs m h W) (ht : P.underlying t = some (.slice e)) (he : P.underlying e = some (.slice q)) (hq : P.underlying q = some (.int .i64)) (ce : P.cellsOf e = 1) (cq : P.cellsOf q = 1)
    (hv : DataW.trod enc P W 0 (fun _ => true) true fuel t [r] = some x) :
    ∃ m' g v xss, Abs m' (h ++ g) W ∧ Ext m h m' (h ++ g) ∧ VRel m' (h ++ g) v r ∧ Lists (h ++ g) v xss ∧ xss.length ≤ 9223372036854775807 ∧ ∀ xs ∈ xss, xs.length ≤ 9223372036854775807 := by
  rcases open_int_rows ht he hq ce cq hv with ⟨hcs, _⟩ | ⟨ad, len, cap, A, L, C, Z, hcs, _, hl, hm, _, hrow⟩
  · simp only [List.cons.injEq, and_true] at hcs
    subst hcs
    exact ⟨m, [], .slice none 0 0, [], by simpa using a, by simpa using Ext.refl m h, .prim rfl, .inl ⟨rfl, rfl⟩, by simp, by simp⟩
  · simp only [List.cons.injEq, and_true] at hcs
    subst hcs
    have hmax : maxLen = 9223372036854775807 := rfl
    obtain ⟨m1, g1, us, a1, e1, hul, hu⟩ := abs_rows (A := A) (L := L) (C := C) (Z := Z) len a (fun r hr => by
      obtain ⟨_, r1, _, r3, _, r5, r6⟩ := hrow r (by omega)
      exact ⟨r1, r3, r5, fun a' ha => (r6 a' ha).2⟩)
    have hget : ∀ i (hi : i < us.length), ∃ u, us[i] = u ∧ VRel m1 (h ++ g1) u (.slice (A i) (L i) (C i)) ∧ Ints (h ++ g1) u ((Z i).take (L i)) := fun i hi => by
      obtain ⟨u, w1, w2, w3⟩ := hu i (by omega)
      rw [List.getElem?_eq_getElem hi, Option.some.injEq] at w1
      exact ⟨u, w1, w2, w3⟩
    have hcell : ∀ i, i < len → W.cell? (ad.add i) = some (.slice (A i) (L i) (C i)) := fun i hi => (hrow i (by omega)).1
    obtain ⟨a', ex⟩ := a1.look (cells := us) (esz := 1) (l := ⟨ad.block, ad.off, 0⟩) (fun hp => by
      rw [hul] at hp
      have hspot := World.cell?_spot (hcell 0 (by omega))
      have hc0 := hcell 0 (by omega)
      have hadd : ∀ i, ad.add i = ⟨ad.block, ad.off + i, none⟩ := fun i => by
        have h0 : ad.spot = none := by simpa [Addr.add] using hspot
        obtain ⟨b, o, s⟩ := ad
        simp only at h0
        subst h0
        exact Addr.add_lit _ _ _
      cases hb : W.heap[ad.block]? with
      | none => rw [hadd] at hc0; simp [World.cell?, hb] at hc0
      | some ob =>
        cases ob with
        | cells c ty fz =>
          refine ⟨c, ty, fz, rfl, fun i hi => ?_⟩
          have h1 := hcell i (by omega)
          rw [hadd, cell_at hb] at h1
          obtain ⟨u, w1, w2, _⟩ := hget i hi
          exact ⟨_, h1, by rw [w1]; exact w2⟩
        | _ => rw [hadd] at hc0; simp [World.cell?, hb] at hc0) (fun v hv => by
      obtain ⟨i, hi, rfl⟩ := List.getElem_of_mem hv
      obtain ⟨u, w1, _, w3⟩ := hget i hi
      rw [w1]
      exact w3.within)
    rw [List.append_assoc] at a' ex
    have hxl : ((List.range len).map fun r => (Z r).take (L r)).length = len := by simp
    refine ⟨_, _, .slice (some ⟨(h ++ g1).length, 0, some len⟩) len len, (List.range len).map fun r => (Z r).take (L r), a', fun k o hk => ?_, ?_, .inr ⟨(h ++ g1).length, 0, len, len, ⟨us, false, 1⟩, by rw [hxl], ?_, hul, rfl, by rw [hxl]; omega, by omega, fun i xs hi => ?_⟩, by rw [hxl]; omega, fun xs hx => ?_⟩
    · obtain ⟨o1, p1, p2, p3, p4, p5⟩ := e1 k o hk
      obtain ⟨o2, q1, q2, q3, q4, q5⟩ := ex k o1 p1
      refine ⟨o2, q1, Nat.le_trans p2 q2, q3.trans p3, q4.trans p4, fun l hl => ?_⟩
      obtain ⟨l1, hl1, f1⟩ := p5 l hl
      obtain ⟨l2, hl2, f2⟩ := q5 l1 hl1
      exact ⟨l2, hl2, fun hq => (f2 (by omega)).trans (f1 (by omega))⟩
    · refine .slice (o := ⟨us, false, 1⟩) (by rw [← List.append_assoc]; simp) (by simp only [hul]; exact Nat.le_refl _) ⟨_, _, _, rfl⟩ fun _ => ⟨⟨ad.block, ad.off, 0⟩, by simp [Map.push], some ad, cap, rfl, Nat.le_refl _, hl, by simp only [hul]; omega, fun hlt => ?_, fun hm0 => by cases hm0⟩
      simp only [hul] at hlt
      have hspot := World.cell?_spot (hcell 0 (by omega))
      have h0 : ad.spot = none := by simpa [Addr.add] using hspot
      obtain ⟨b, o, s⟩ := ad
      simp only at h0
      subst h0
      rfl
    · rw [← List.append_assoc]; simp
    · have hlt : i < len := by have := (List.getElem?_eq_some_iff.1 hi).1; simpa using this
      simp only [List.getElem?_map, List.getElem?_range hlt, Option.map_some, Option.some.injEq] at hi
      subst hi
      obtain ⟨u, w1, w2, w3⟩ := hu i hlt
      have := w3.app [⟨us, false, 1⟩]
      rw [List.append_assoc] at this
      exact ⟨u, by simpa using w1, this⟩
    · simp only [List.mem_map, List.mem_range] at hx
      obtain ⟨r, hr, rfl⟩ := hx
      obtain ⟨_, r1, r2, r3, _⟩ := hrow r (by omega)
      simp; omega

theorem abs_ss {t e q : TypeId} {r : Value} {d : DataW H} {p : List MemPlace} {m h W} {rc : Reach} {b0 : Nat} (a : Abs m h W)
    (hs : P.underlying t = some (.slice e)) (he : P.underlying e = some (.slice q)) (hq : P.underlying q = some (.int .i64)) (ce : P.cellsOf e = 1) (cq : P.cellsOf q = 1)
    (hval : Value.okWide P W rc b0 t r) (hv : DataW.Trod enc P W 0 (fun _ => true) true t r d p) :
    ∃ m' g v xss, Abs m' (h ++ g) W ∧ Ext m h m' (h ++ g) ∧ VRel m' (h ++ g) v r ∧ Lists (h ++ g) v xss ∧ xss.length ≤ 9223372036854775807 ∧ ∀ xs ∈ xss, xs.length ≤ 9223372036854775807 := by
  obtain ⟨ad, len, cap, rfl⟩ := okWide_slice hs hval
  obtain ⟨fuel, hf⟩ := hv
  exact abs_lists a hs he hq ce cq hf

end Go.Am
