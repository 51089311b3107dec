/-
  From an abstract contract of a law ('it answers true') to the row: the arguments' reading gives an abstract heap; all old blocks stay. General: no program is named.
-/
import Derived.Test.YtnbpakikglpkcaaAmRun
import Derived.ProofKit
import Derived.Carry
import Derived.Lib.SmallJoins
namespace Go.Am
set_option linter.unusedSimpArgs false
set_option linter.unusedVariables false
open Go.RowKit Go.ChangeShapes Go.WideShapes Go.ChangeAt Go.Joins Go.Deep Go.WideElems

variable {H : Type} {enc : TypeId × Value → H} {P : Program}

/-- Blocks that are only looked at. -/
structure Abs (m : Map) (h : AHeap) (W : World) : Prop where
  rel : Rel m h W
  imm : ∀ (k : Nat) (o : AObj), h[k]? = some o → o.mine = false

theorem Abs.nil (W : World) : Abs (fun _ => none) [] W :=
  ⟨⟨fun k o l hk => by simp at hk, fun k1 k2 o1 o2 l1 l2 h1 => by simp at h1, fun k o hk => by simp at hk⟩, fun k o hk => by simp at hk⟩

/-- One block more that is only looked at. -/
theorem Abs.look {m h W} (a : Abs m h W) {cells : List Value} {esz : Nat} {l : Loc}
    (hh : 0 < cells.length → ∃ c ty fz, W.heap[l.block]? = some (.cells c ty fz) ∧ ∀ i (hi : i < cells.length), ∃ r, c[l.base + i]? = some r ∧ VRel m h cells[i] r)
    (hw : ∀ v ∈ cells, Within h.length v) :
    Abs (m.push h.length l) (h ++ [⟨cells, false, esz⟩]) W ∧ Ext m h (m.push h.length l) (h ++ [⟨cells, false, esz⟩]) := by
  have mold : ∀ {k}, k < h.length → m.push h.length l k = m k := fun {k} hk => by simp [Map.push, Nat.ne_of_lt hk]
  have mnew : m.push h.length l h.length = some l := by simp [Map.push]
  have ex : Ext m h (m.push h.length l) (h ++ [⟨cells, false, esz⟩]) := fun k x hk => by
    have hlt := (List.getElem?_eq_some_iff.1 hk).1
    exact ⟨x, by rw [List.getElem?_append_left hlt]; exact hk, Nat.le_refl _, rfl, rfl, fun l1 hl => ⟨l1, by rw [mold hlt]; exact hl, fun _ => rfl⟩⟩
  have himm : ∀ (k : Nat) (o : AObj), (h ++ [⟨cells, false, esz⟩])[k]? = some o → o.mine = false := fun k o hk => by
    rcases lookup_push hk with ⟨_, h2⟩ | ⟨_, rfl⟩
    · exact a.imm k o h2
    · rfl
  refine ⟨⟨⟨fun k o l1 hk hl hp => ?_, fun k1 k2 o1 o2 l1 l2 g1 _ _ _ _ hm => ?_, fun k o hk v hv => ?_⟩, himm⟩, ex⟩
  · rcases lookup_push hk with ⟨h1, h2⟩ | ⟨rfl, rfl⟩
    · rw [mold h1] at hl
      obtain ⟨c, ty, fz, hb, hc, hm⟩ := a.rel.holds k o l1 h2 hl hp
      exact ⟨c, ty, fz, hb, fun i hi => by obtain ⟨r, r1, r2⟩ := hc i hi; exact ⟨r, r1, r2.mono ex⟩, hm⟩
    · rw [mnew] at hl; cases hl
      obtain ⟨c, ty, fz, hb, hc⟩ := hh hp
      exact ⟨c, ty, fz, hb, fun i hi => by obtain ⟨r, r1, r2⟩ := hc i hi; exact ⟨r, r1, r2.mono ex⟩, fun hm => by cases hm⟩
  · rw [himm k1 o1 g1] at hm; cases hm
  · rcases lookup_push hk with ⟨h1, h2⟩ | ⟨rfl, rfl⟩
    · exact (a.rel.closed k o h2 v hv).mono (by simp)
    · exact (hw v hv).mono (by simp)

/-- From the contract to the world: the answer is true, and all old blocks are as they were. -/
theorem calls_of_ret {f : FuncId} {vs : List Value} {h : AHeap} {m : Map} {W : World} {args : Array Value} (r : Ret P f vs h (.bool true) h) (a : Abs m h W) (hv : VRels m h vs args) :
    Calls P f args W fun e W' => e = .returned (.bool true) ∧ Below W.heap.size W W' :=
  (r.2 m W args a.rel hv).mono fun e W' ⟨v, rr, m', h', he, _, st, hvr, hV, _⟩ => by
    subst he hV
    refine ⟨by rw [hvr.bool], st.os, st.tape, st.output, st.size, fun b hb => st.frame b hb fun k o l hk _ hm => ?_⟩
    rw [a.imm k o hk] at hm; cases hm

theorem trodAll_below (hl : laidOutB P = true) {W W' : World} (hb : Below W.heap.size W W') : ∀ {ts : List TypeId} {vs : List Value} {ds : List (DataW H)} {ps : List MemPlace},
    (∀ t ∈ ts, P.readableRec t = true ∧ t < P.types.size) → DataW.TrodAll enc P W 0 (fun _ => true) true ts vs ds ps → (∀ x ∈ ps, x.block < W.heap.size) →
    DataW.TrodAll enc P W' 0 (fun b => decide (b < W.heap.size)) true ts vs ds ps
  | [], [], [], _, _, h, _ => h
  | t :: ts, v :: vs, d :: ds, ps, hr, ⟨p, q, h1, h2, e⟩, hlt => by
    subst e
    exact ⟨p, q, Below.trod hl (hr t (by simp)).1 (hr t (by simp)).2 h1 hb (fun x hx => hlt x (by simp [hx])),
      trodAll_below hl hb (fun u hu => hr u (by simp [hu])) h2 (fun x hx => hlt x (by simp [hx])), rfl⟩
  | [], _ :: _, _, _, _, h, _ => h.elim
  | [], [], _ :: _, _, _, h, _ => h.elim
  | _ :: _, [], _, _, _, h, _ => h.elim
  | _ :: _, _ :: _, [], _, _, h, _ => h.elim

theorem law_post {f : Func} {s : ChangeSpec} {W W' : World} {args : Array Value} {ds gs : List (DataW H)} {before : List MemPlace} {tb : TypeId} (hl : laidOutB P = true)
    (hr : ∀ t ∈ f.params.toList, P.readableRec t = true ∧ t < P.types.size) (hrt : f.resultTypes = #[tb]) (hb : P.underlying tb = some .bool) (hvars : s.vars = [])
    (hres : (s.fn H (ds ++ gs)).results = [.lit (.bool true)]) (hargs : (s.fn H (ds ++ gs)).args = ds) (hv : (s.fn H (ds ++ gs)).vars = [])
    (hW : DataW.Whole enc P f.params.toList s.vars false W args.toList ds gs before) (hbel : Below W.heap.size W W') : s.post enc P f false true false false W args (.bool true) W' := by
  have hW' := hW
  obtain ⟨p, q, hA, hV, rfl, _, _⟩ := hW
  rw [hvars] at hV
  obtain ⟨rfl, rfl⟩ := trodVars_none hV
  refine ⟨_, _, _, [], p, [], hW', ?_, ?_, ?_, hbel.frame _, fun h => by cases h⟩
  · rw [hres, hrt]
    exact ⟨[], [], ⟨1, by simp [DataW.trod, Value.cells, hb]⟩, rfl, rfl⟩
  · rw [hargs]
    exact trodAll_below hl hbel hr hA (fun x hx => by simpa using hW'.lt x (by simp [hx]))
  · rw [hv, hvars]; rfl

theorem vrels1 {m h} {a r : Value} (h0 : VRel m h a r) : VRels m h [a] #[r] :=
  ⟨rfl, fun i v q hv hq => by
    match i with
    | 0 => simp at hv hq; subst hv hq; exact h0
    | _ + 1 => simp at hv⟩

end Go.Am
