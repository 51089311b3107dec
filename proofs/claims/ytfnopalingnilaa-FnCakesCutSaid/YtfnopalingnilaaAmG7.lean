/-
  The abstract heap: what this claim needs of it. General: no program is named.
-/
import Derived.Test.YtfnopalingnilaaAmG6
import Derived.ProofKit
import Derived.Carry
import Derived.Lib.SmallJoins
import Derived.Deep.Matrix
import Derived.Deep.Slices
namespace Go.Am
set_option linter.unusedSimpArgs false
set_option linter.unusedVariables false
open Go.RowKit Go.ChangeShapes Go.WideShapes Go.ChangeAt Go.Joins Go.Deep Go.WideElems

variable {H : Type} {enc : TypeId × Value → H} {P : Program}

/-- Blocks that are only looked at. -/
structure Abs (m : Map) (h : AHeap) (W : World) : Prop where
  rel : Rel m h W
  imm : ∀ (k : Nat) (o : AObj), h[k]? = some o → o.mine = false

theorem Abs.nil (W : World) : Abs (fun _ => none) [] W :=
  ⟨⟨fun k o l hk => by simp at hk, fun k1 k2 o1 o2 l1 l2 h1 => by simp at h1, fun k o hk => by simp at hk⟩, fun k o hk => by simp at hk⟩

/-- One block more that is only looked at. -/
theorem Abs.look {m h W} (a : Abs m h W) {cells : List Value} {esz : Nat} {l : Loc}
    (hh : 0 < cells.length → ∃ c ty fz, W.heap[l.block]? = some (.cells c ty fz) ∧ ∀ i (hi : i < cells.length), ∃ r, c[l.base + i]? = some r ∧ VRel m h cells[i] r)
    (hw : ∀ v ∈ cells, Within h.length v) :
    Abs (m.push h.length l) (h ++ [⟨cells, false, esz⟩]) W ∧ Ext m h (m.push h.length l) (h ++ [⟨cells, false, esz⟩]) := by
  have mold : ∀ {k}, k < h.length → m.push h.length l k = m k := fun {k} hk => by simp [Map.push, Nat.ne_of_lt hk]
  have mnew : m.push h.length l h.length = some l := by simp [Map.push]
  have ex : Ext m h (m.push h.length l) (h ++ [⟨cells, false, esz⟩]) := fun k x hk => by
    have hlt := (List.getElem?_eq_some_iff.1 hk).1
    exact ⟨x, by rw [List.getElem?_append_left hlt]; exact hk, Nat.le_refl _, rfl, rfl, fun l1 hl => ⟨l1, by rw [mold hlt]; exact hl, fun _ => rfl⟩⟩
  have himm : ∀ (k : Nat) (o : AObj), (h ++ [⟨cells, false, esz⟩])[k]? = some o → o.mine = false := fun k o hk => by
    rcases lookup_push hk with ⟨_, h2⟩ | ⟨_, rfl⟩
    · exact a.imm k o h2
    · rfl
  refine ⟨⟨⟨fun k o l1 hk hl hp => ?_, fun k1 k2 o1 o2 l1 l2 g1 _ _ _ _ hm => ?_, fun k o hk v hv => ?_⟩, himm⟩, ex⟩
  · rcases lookup_push hk with ⟨h1, h2⟩ | ⟨rfl, rfl⟩
    · rw [mold h1] at hl
      obtain ⟨c, ty, fz, hb, hc, hm⟩ := a.rel.holds k o l1 h2 hl hp
      exact ⟨c, ty, fz, hb, fun i hi => by obtain ⟨r, r1, r2⟩ := hc i hi; exact ⟨r, r1, r2.mono ex⟩, hm⟩
    · rw [mnew] at hl; cases hl
      obtain ⟨c, ty, fz, hb, hc⟩ := hh hp
      exact ⟨c, ty, fz, hb, fun i hi => by obtain ⟨r, r1, r2⟩ := hc i hi; exact ⟨r, r1, r2.mono ex⟩, fun hm => by cases hm⟩
  · rw [himm k1 o1 g1] at hm; cases hm
  · rcases lookup_push hk with ⟨h1, h2⟩ | ⟨rfl, rfl⟩
    · exact (a.rel.closed k o h2 v hv).mono (by simp)
    · exact (hw v hv).mono (by simp)

/-- From the contract to the world: the answer is true, and all old blocks are as they were. -/
theorem calls_of_ret {f : FuncId} {vs : List Value} {h : AHeap} {m : Map} {W : World} {args : Array Value} (r : Ret P f vs h (.bool true) h) (a : Abs m h W) (hv : VRels m h vs args) :
    Calls P f args W fun e W' => e = .returned (.bool true) ∧ Below W.heap.size W W' :=
  (r.2 m W args a.rel hv).mono fun e W' ⟨v, rr, m', h', he, _, st, hvr, hV, _⟩ => by
    subst he hV
    refine ⟨by rw [hvr.bool], st.os, st.tape, st.output, st.size, fun b hb => st.frame b hb fun k o l hk _ hm => ?_⟩
    rw [a.imm k o hk] at hm; cases hm

theorem trodAll_below (hl : laidOutB P = true) {W W' : World} (hb : Below W.heap.size W W') : ∀ {ts : List TypeId} {vs : List Value} {ds : List (DataW H)} {ps : List MemPlace},
    (∀ t ∈ ts, P.readableRec t = true ∧ t < P.types.size) → DataW.TrodAll enc P W 0 (fun _ => true) true ts vs ds ps → (∀ x ∈ ps, x.block < W.heap.size) →
    DataW.TrodAll enc P W' 0 (fun b => decide (b < W.heap.size)) true ts vs ds ps
  | [], [], [], _, _, h, _ => h
  | t :: ts, v :: vs, d :: ds, ps, hr, ⟨p, q, h1, h2, e⟩, hlt => by
    subst e
    exact ⟨p, q, Below.trod hl (hr t (by simp)).1 (hr t (by simp)).2 h1 hb (fun x hx => hlt x (by simp [hx])),
      trodAll_below hl hb (fun u hu => hr u (by simp [hu])) h2 (fun x hx => hlt x (by simp [hx])), rfl⟩
  | [], _ :: _, _, _, _, h, _ => h.elim
  | [], [], _ :: _, _, _, h, _ => h.elim
  | _ :: _, [], _, _, _, h, _ => h.elim
  | _ :: _, _ :: _, [], _, _, h, _ => h.elim

theorem law_post {f : Func} {s : ChangeSpec} {W W' : World} {args : Array Value} {ds gs : List (DataW H)} {before : List MemPlace} {tb : TypeId} (hl : laidOutB P = true)
    (hr : ∀ t ∈ f.params.toList, P.readableRec t = true ∧ t < P.types.size) (hrt : f.resultTypes = #[tb]) (hb : P.underlying tb = some .bool) (hvars : s.vars = [])
    (hres : (s.fn H (ds ++ gs)).results = [.lit (.bool true)]) (hargs : (s.fn H (ds ++ gs)).args = ds) (hv : (s.fn H (ds ++ gs)).vars = [])
    (hW : DataW.Whole enc P f.params.toList s.vars false W args.toList ds gs before) (hbel : Below W.heap.size W W') : s.post enc P f false true false false W args (.bool true) W' := by
  have hW' := hW
  obtain ⟨p, q, hA, hV, rfl, _, _⟩ := hW
  rw [hvars] at hV
  obtain ⟨rfl, rfl⟩ := trodVars_none hV
  refine ⟨_, _, _, [], p, [], hW', ?_, ?_, ?_, hbel.frame _, fun h => by cases h⟩
  · rw [hres, hrt]
    exact ⟨[], [], ⟨1, by simp [DataW.trod, Value.cells, hb]⟩, rfl, rfl⟩
  · rw [hargs]
    exact trodAll_below hl hbel hr hA (fun x hx => by simpa using hW'.lt x (by simp [hx]))
  · rw [hv, hvars]; rfl

theorem vrels2 {m h} {a b r s : Value} (h0 : VRel m h a r) (h1 : VRel m h b s) : VRels m h [a, b] #[r, s] :=
  ⟨rfl, fun i v q hv hq => by
    match i with
    | 0 => simp at hv hq; subst hv hq; exact h0
    | 1 => simp at hv hq; subst hv hq; exact h1
    | _ + 2 => simp at hv⟩

end Go.Am

namespace Go.Am
set_option linter.unusedSimpArgs false
set_option linter.unusedVariables false
open Go.RowKit Go.ChangeShapes Go.WideShapes Go.ChangeAt Go.Joins Go.Deep Go.WideElems

variable {H : Type} {enc : TypeId × Value → H} {P : Program}

end Go.Am

namespace Go.Am
set_option linter.unusedSimpArgs false
set_option linter.unusedVariables false
open Go.RowKit Go.ChangeShapes Go.WideShapes Go.ChangeAt Go.Joins Go.Deep Go.WideElems
variable {H : Type} {enc : TypeId × Value → H} {P : Program}
theorem abs_bytes {t e : TypeId} {fuel : Nat} {r : Value} {x : DataW H × List MemPlace} {m h W} (a : Abs m h W) (ht : P.underlying t = some (.slice e)) (he : P.underlying e = some (.int .u8)) (hc : P.cellsOf e = 1)
    (hv : DataW.trod enc P W 0 (fun _ => true) true fuel t [r] = some x) :
    ∃ m' g v xs, Abs m' (h ++ g) W ∧ Ext m h m' (h ++ g) ∧ VRel m' (h ++ g) v r ∧ Byts (h ++ g) v xs ∧ xs.length ≤ 9223372036854775807 ∧ BB xs := by
  rcases open_ints ht he hc hv with ⟨hcs, _⟩ | ⟨ad, len, cap, zs, hcs, _, hl, hm, hz, _, hcell, hwz⟩
  · simp only [List.cons.injEq, and_true] at hcs
    subst hcs
    exact ⟨m, [], .slice none 0 0, [], by simpa using a, by simpa using Ext.refl m h, .prim rfl, .inl ⟨rfl, rfl⟩, by simp, fun b hb => by cases hb⟩
  · simp only [List.cons.injEq, and_true] at hcs
    subst hcs
    simp only [if_true] at hz
    have hlen : ((zs.take len).map by8).length = len := by simp; omega
    obtain ⟨a', ex⟩ := a.look (cells := (zs.take len).map by8) (esz := 1) (l := ⟨ad.block, ad.off, 0⟩) (fun hp => by
      rw [hlen] at hp
      have hspot := World.cell?_spot (hcell 0 (by omega))
      have hc0 := hcell 0 (by omega)
      have hadd : ∀ i, ad.add i = ⟨ad.block, ad.off + i, none⟩ := fun i => by
        have h0 : ad.spot = none := by simpa [Addr.add] using hspot
        obtain ⟨b, o, s⟩ := ad
        simp only at h0
        subst h0
        exact Addr.add_lit _ _ _
      cases hb : W.heap[ad.block]? with
      | none => rw [hadd] at hc0; simp [World.cell?, hb] at hc0
      | some ob =>
        cases ob with
        | cells c ty fz =>
          refine ⟨c, ty, fz, rfl, fun i hi => ?_⟩
          rw [hlen] at hi
          have h1 := hcell i (by omega)
          rw [hadd, cell_at hb] at h1
          refine ⟨_, h1, ?_⟩
          have : zs.getD i 0 = zs[i]'(by omega) := getD_at (by omega)
          simp only [List.getElem_map, List.getElem_take, this]
          exact .prim rfl
        | _ => rw [hadd] at hc0; simp [World.cell?, hb] at hc0) (fun v hv => by
      simp only [List.mem_map] at hv
      obtain ⟨z, _, rfl⟩ := hv
      exact .prim rfl)
    refine ⟨_, _, .slice (some ⟨h.length, 0, some len⟩) len len, zs.take len, a', ex, ?_, .inr ⟨h.length, 0, len, len, ⟨(zs.take len).map by8, false, 1⟩, by simp; omega, by simp, hlen, rfl, by simp; omega, by omega, fun i z hi => by
      simp only [Nat.zero_add, List.getElem?_map, hi, Option.map_some]⟩, by
        have : maxLen = 9223372036854775807 := rfl
        simp; omega, fun b hb => by
        have h8 := hwz b (List.mem_of_mem_take hb)
        simp only [Lit.wf, Bool.and_eq_true, decide_eq_true_eq, IntKind.min, IntKind.max, IntKind.bits, IntKind.signed] at h8
        simp at h8
        omega⟩
    refine .slice (o := ⟨(zs.take len).map by8, false, 1⟩) (by simp) (by simp only [hlen]; exact Nat.le_refl _) ⟨_, _, _, rfl⟩ fun _ => ⟨⟨ad.block, ad.off, 0⟩, by simp [Map.push], some ad, cap, rfl, Nat.le_refl _, hl, by simp only [hlen]; omega, fun hlt => ?_, fun hm0 => by cases hm0⟩
    simp only [hlen] at hlt
    have hspot := World.cell?_spot (hcell 0 (by omega))
    have h0 : ad.spot = none := by simpa [Addr.add] using hspot
    obtain ⟨b, o, s⟩ := ad
    simp only at h0
    subst h0
    rfl
theorem abs_b {t e : TypeId} {r : Value} {d : DataW H} {p : List MemPlace} {m h W} {rc : Reach} {b0 : Nat} (a : Abs m h W)
    (hs : P.underlying t = some (.slice e)) (he : P.underlying e = some (.int .u8)) (hc : P.cellsOf e = 1)
    (hval : Value.okWide P W rc b0 t r) (hv : DataW.Trod enc P W 0 (fun _ => true) true t r d p) :
    ∃ m' g v xs, Abs m' (h ++ g) W ∧ Ext m h m' (h ++ g) ∧ VRel m' (h ++ g) v r ∧ Byts (h ++ g) v xs ∧ xs.length ≤ 9223372036854775807 ∧ BB xs := by
  obtain ⟨ad, len, cap, rfl⟩ := okWide_slice hs hval
  obtain ⟨fuel, hf⟩ := hv
  exact abs_bytes a hs he hc hf
end Go.Am

namespace Go.Am
set_option linter.unusedSimpArgs false
set_option linter.unusedVariables false
open Go.RowKit Go.ChangeShapes Go.WideShapes Go.ChangeAt Go.Joins Go.Deep Go.WideElems
variable {H : Type} {enc : TypeId × Value → H} {P : Program}
end Go.Am
