/-
  The abstract heap: literals of structs and slices. General: no program is named.
-/
import Derived.Test.YtnbpakikglpkcaaAmCall
namespace Go.Am
set_option linter.unusedSimpArgs false
set_option linter.unusedVariables false
open Go.RowKit

def PW (m : Map) (h : AHeap) (a b : Array Value) : Prop := a.size = b.size ∧ ∀ (i : Nat) (v r : Value), a[i]? = some v → b[i]? = some r → VRel m h v r

theorem PW.set {m h} {a b : Array Value} (p : PW m h a b) {v r : Value} (hv : VRel m h v r) (i : Nat) : PW m h (a.setIfInBounds i v) (b.setIfInBounds i r) := by
  refine ⟨by simp [p.1], fun j x y hx hy => ?_⟩
  rw [Array.getElem?_setIfInBounds] at hx hy
  by_cases e : i = j
  · subst e
    simp only [if_true] at hx hy
    split at hx
    · rename_i hlt
      rw [if_pos (by rw [← p.1]; exact hlt)] at hy
      cases hx; cases hy; exact hv
    · cases hx
  · rw [if_neg e] at hx hy
    exact p.2 j x y hx hy

theorem foldl_pw {m h} {off : Nat} : ∀ (l l' : List (Value × Nat)) (a b : Array Value), l.length = l'.length →
    (∀ (i : Nat) (x y : Value × Nat), l[i]? = some x → l'[i]? = some y → x.2 = y.2 ∧ VRel m h x.1 y.1) → PW m h a b →
    PW m h (l.foldl (fun cs x => cs.setIfInBounds (off + x.2) x.1) a) (l'.foldl (fun cs x => cs.setIfInBounds (off + x.2) x.1) b)
  | [], [], _, _, _, _, p => p
  | [], _ :: _, _, _, hl, _, _ => by simp at hl
  | _ :: _, [], _, _, hl, _, _ => by simp at hl
  | x :: l, y :: l', a, b, hl, hx, p => by
    simp only [List.foldl_cons]
    obtain ⟨h1, h2⟩ := hx 0 x y rfl rfl
    rw [h1]
    exact foldl_pw l l' _ _ (by simpa using hl) (fun i u v hu hv => hx (i + 1) u v (by simpa using hu) (by simpa using hv)) (p.set h2 _)

theorem fill_pw {m h} {place : Nat → Option (Nat × Nat)} : ∀ (ps qs : List (Nat × Value)) (a b out : Array Value), ps.length = qs.length →
    (∀ (i : Nat) (x y : Nat × Value), ps[i]? = some x → qs[i]? = some y → x.1 = y.1 ∧ VRel m h x.2 y.2) → PW m h a b → Instr.fill place a ps = some out →
    ∃ out', Instr.fill place b qs = some out' ∧ PW m h out out'
  | [], [], a, b, out, _, _, p, hf => by simp only [Instr.fill, Option.some.injEq] at hf; subst hf; exact ⟨b, rfl, p⟩
  | [], _ :: _, _, _, _, hl, _, _, _ => by simp at hl
  | _ :: _, [], _, _, _, hl, _, _, _ => by simp at hl
  | (i, v) :: ps, (j, r) :: qs, a, b, out, hl, hx, p, hf => by
    obtain ⟨h1, h2⟩ := hx 0 _ _ rfl rfl
    simp only at h1 h2
    subst h1
    simp only [Instr.fill] at hf ⊢
    cases hp : place i with
    | none => rw [hp] at hf; cases hf
    | some os =>
      obtain ⟨off, size⟩ := os
      rw [hp] at hf
      simp only [] at hf ⊢
      obtain ⟨hs, hc⟩ := h2.cells
      rw [← hs, ← p.1]
      split at hf
      · cases hf
      · rename_i hcond
        rw [if_neg hcond]
        refine fill_pw ps qs _ _ out (by simpa using hl) (fun k u w hu hw => hx (k + 1) u w (by simpa using hu) (by simpa using hw)) ?_ hf
        rw [← Array.foldl_toList, ← Array.foldl_toList]
        refine foldl_pw _ _ a b (by simp [hs]) (fun k x y hxk hyk => ?_) p
        simp only [Array.toList_zipIdx, List.getElem?_zipIdx, Option.map_eq_some_iff] at hxk hyk
        obtain ⟨x', hx', rfl⟩ := hxk
        obtain ⟨y', hy', rfl⟩ := hyk
        simp only [Array.getElem?_toList] at hx' hy'
        obtain ⟨q1, rfl⟩ := Array.getElem?_eq_some_iff.1 hx'
        obtain ⟨q2, rfl⟩ := Array.getElem?_eq_some_iff.1 hy'
        exact ⟨rfl, hc k q1 q2⟩

theorem parts_pw {m h} {env : Env} {a : Act} {o : Oper} {parts : Array (Nat × Operand)} (hop : OpsRel m h env a o) (hsub : ∀ x ∈ parts.toList, x.2 ∈ o.op.operands.toList) :
    ∀ (i : Nat) (x y : Nat × Value), (parts.toList.map fun p => (p.1, aeval env p.2))[i]? = some x → (parts.toList.map fun p => (p.1, a.eval p.2))[i]? = some y → x.1 = y.1 ∧ VRel m h x.2 y.2 := fun i x y hx hy => by
  simp only [List.getElem?_map, Option.map_eq_some_iff] at hx hy
  obtain ⟨p, hp, rfl⟩ := hx
  obtain ⟨q, hq, rfl⟩ := hy
  rw [hp] at hq; cases hq
  exact ⟨rfl, hop _ (hsub p (List.mem_of_getElem? hp))⟩

section
variable {P : Program} {K : Value → AHeap → Prop} {env : Env} {h : AHeap} {dst : Option Tmp} {ty : TypeId} {pos : String} {after : Array Edge} {guard : Option (Nat × Bool)}

/-- A slice's literal. -/
theorem aop_buildSlice {t e : TypeId} {len : Nat} {parts : Array (Nat × Operand)} {i : TypeInfo} {z : Value} {out : Array Value} (hu : P.underlying t = some (.slice e)) (hi : P.info? e = some i) (hz : i.zero = some z)
    (hcz : isConst z = true) (hsz : i.size = z.cells.size) (hpos : 0 < i.size) (hlen : len * i.size ≤ 2 ^ 24)
    (hf : Instr.fill (fun k => some (k * i.size, i.size)) ((Array.range (len * i.size)).map (z.cells[· % z.cells.size]!)) (parts.toList.map fun p => (p.1, aeval env p.2)) = some out) (hos : out.size = len * i.size)
    (hK : K (.slice (some ⟨h.length, 0, some (len * i.size)⟩) len len) (h ++ [⟨out.toList, true, i.size⟩])) :
    AOp P ⟨dst, .buildSlice t len parts, ty, pos, after, guard⟩ K env h :=
  .of_run fun m w a hr hop => by
    have hv := (VRel.const m h hcz).cells
    have p0 : PW m h ((Array.range (len * i.size)).map (z.cells[· % z.cells.size]!)) ((Array.range (len * i.size)).map (z.cells[· % z.cells.size]!)) := ⟨rfl, fun j v r e1 e2 => by
      rw [e1] at e2; cases e2
      simp only [Array.getElem?_map, Option.map_eq_some_iff] at e1
      obtain ⟨q, hq, rfl⟩ := e1
      have hlt : q % z.cells.size < z.cells.size := Nat.mod_lt _ (by omega)
      have := hv.2 (q % z.cells.size) hlt hlt
      simpa [hlt] using this⟩
    obtain ⟨out', hf', p'⟩ := fill_pw _ (parts.toList.map fun p => (p.1, a.eval p.2)) _ _ _ (by simp) (parts_pw hop (fun x hx => by
      simp only [Op.operands, List.mem_map]
      exact ⟨x, hx, rfl⟩)) p0 hf
    obtain ⟨r1, s1⟩ := hr.push (c := out') (ty := e) (o := ⟨out.toList, true, i.size⟩) (by simp [p'.1]) (fun j hj => by
      simp only [Array.length_toList] at hj
      have h2 : j < out'.size := by rw [← p'.1]; exact hj
      exact ⟨out'[j], by simp [h2], by simpa using p'.2 j _ _ (Array.getElem?_eq_getElem hj) (Array.getElem?_eq_getElem h2)⟩)
    refine ⟨_, .slice (some ⟨w.heap.size, 0, none⟩) len len, _, _, _, ?_, r1, s1, ?_, hK⟩
    · have hn : ¬ (len * i.size > 2 ^ 24) := by omega
      have hpe : (parts.map fun x => (x.1, a.eval x.2)).toList = parts.toList.map fun p => (p.1, a.eval p.2) := by simp
      by_cases h0 : len * i.size = 0
      · have e0 : (Array.range (len * i.size)).map (fun x => (#[] : Array Value)[x % (#[] : Array Value).size]!) = (Array.range (len * i.size)).map (z.cells[· % z.cells.size]!) := by
          rw [h0, Array.range_zero']; simp
        simp only [execOp, Instr.buildSlice, Sem.run_bind, run_underlying hu, Result.andThen_ok, sizeOf, typeInfo, run_program, hi, Sem.run_pure, if_neg hn, if_pos h0, hpe, e0, hf']
        simp [newRow]
      · simp only [execOp, Instr.buildSlice, Sem.run_bind, run_underlying hu, Result.andThen_ok, sizeOf, typeInfo, run_program, hi, Sem.run_pure, if_neg hn, if_neg h0, zeroValue, hz, hpe, hf']
        simp [newRow]
    · refine .slice (o := ⟨out.toList, true, i.size⟩) (by simp) (by simp [hos]) ⟨_, _, _, rfl⟩ fun _ => ⟨⟨w.heap.size, 0, out'.size⟩, by simp [Map.push], _, len, rfl, Nat.le_refl _, Nat.le_refl _, by simp [hos], fun _ => rfl, fun _ => ⟨fun _ => by simp [← p'.1, hos], fun hz0 => ?_⟩⟩
      simp only [Array.length_toList, hos] at hz0
      rcases Nat.eq_zero_or_pos len with h0 | h0
      · exact h0
      · have := Nat.mul_pos h0 hpos; omega

end
end Go.Am
