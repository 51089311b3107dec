/-
  The abstract heap: the laws of the operations that read, make and write memory. General: no program is named.
-/
import Derived.Test.YtejlkmepnamodaaAmMem
import Derived.Laws.AppendOwn
import Derived.Laws.MakeOwn
namespace Go.Am
set_option linter.unusedSimpArgs false
set_option linter.unusedVariables false
open Go.RowKit

theorem VRel.pointer_inv {m h} {k off ver : Nat} {r : Value} (hv : VRel m h (.pointer (some ⟨k, off, some ver⟩)) r) {o : AObj} (ho : h[k]? = some o) (hver : o.cells.length = ver) :
    ∃ l, m k = some l ∧ r = .pointer (some ⟨l.block, l.base + off, none⟩) := by
  cases hv with
  | prim hp => simp [isPrim] at hp
  | ptr ho' _ _ hr =>
    rw [ho] at ho'; cases ho'
    exact hr hver.symm

theorem VRel.slice_inv {m h} {k off ver len cap : Nat} {r : Value} (hv : VRel m h (.slice (some ⟨k, off, some ver⟩) len cap) r) {o : AObj} (ho : h[k]? = some o) (hver : o.cells.length = ver) :
    ∃ l, m k = some l ∧ SliceAt o l off len cap r := by
  cases hv with
  | prim hp => simp [isPrim] at hp
  | slice ho' _ _ hr =>
    rw [ho] at ho'; cases ho'
    exact hr hver.symm

theorem VRel.cells {m h} {v r : Value} (hv : VRel m h v r) : v.cells.size = r.cells.size ∧ ∀ i (h1 : i < v.cells.size) (h2 : i < r.cells.size), VRel m h v.cells[i] r.cells[i] := by
  have one : ∀ {v r : Value}, v.cells = #[v] → r.cells = #[r] → VRel m h v r → v.cells.size = r.cells.size ∧ ∀ i (h1 : i < v.cells.size) (h2 : i < r.cells.size), VRel m h v.cells[i] r.cells[i] := by
    intro v r e1 e2 hv
    refine ⟨by rw [e1, e2]; rfl, fun i h1 h2 => ?_⟩
    have hi : i = 0 := by rw [e1] at h1; simpa using h1
    subst hi
    simpa [e1, e2] using hv
  cases hv with
  | agg hs hc => exact ⟨hs, hc⟩
  | prim hp =>
    cases v <;> first | exact one rfl rfl (.prim hp) | (simp [isPrim] at hp)
  | ptr a b c d => obtain ⟨x, rfl⟩ := c; exact one rfl rfl (.ptr a b ⟨_, rfl⟩ d)
  | slice a b c d => obtain ⟨x, y, z, rfl⟩ := c; exact one rfl rfl (.slice a b ⟨_, _, _, rfl⟩ d)
  | tuple hs hc => exact one rfl rfl (.tuple hs hc)
  | func a b c d => exact one rfl rfl (.func a b c d)
  | iface a => exact one rfl rfl (.iface a)

def oneCellA : Value → Bool
  | .agg _ | .tuple _ => false
  | _ => true

theorem VRel.oneCell {m h} {v r : Value} (hv : VRel m h v r) (h1 : oneCellA v = true) : r.oneCell' = true ∧ r.cells = #[r] := by
  cases hv with
  | agg hs hc => simp [oneCellA] at h1
  | prim hp => cases v <;> first | exact ⟨rfl, rfl⟩ | (simp [isPrim] at hp)
  | ptr a b c d => obtain ⟨x, rfl⟩ := c; exact ⟨rfl, rfl⟩
  | slice a b c d => obtain ⟨x, y, z, rfl⟩ := c; exact ⟨rfl, rfl⟩
  | tuple hs hc => simp [oneCellA] at h1
  | func a b c d => exact ⟨rfl, rfl⟩
  | iface a => exact ⟨rfl, rfl⟩

theorem cell_at {w : World} {b i : Nat} {c : Array Value} {ty : TypeId} {fz : Nat × Nat} (hb : w.heap[b]? = some (.cells c ty fz)) : w.cell? ⟨b, i, none⟩ = c[i]? := by
  simp [World.cell?, hb]

theorem Rel.cell {m h w} (hr : Rel m h w) {k : Nat} {o : AObj} {l : Loc} (ho : h[k]? = some o) (hl : m k = some l) {i : Nat} {v : Value} (hi : o.cells[i]? = some v) :
    ∃ r, w.cell? ⟨l.block, l.base + i, none⟩ = some r ∧ VRel m h v r := by
  obtain ⟨hlt, rfl⟩ := List.getElem?_eq_some_iff.1 hi
  obtain ⟨c, ty, fz, hb, hc, _⟩ := hr.holds k o l ho hl (by omega)
  obtain ⟨r, h1, h2⟩ := hc i hlt
  exact ⟨r, by rw [cell_at hb]; exact h1, h2⟩

def aggD : TypeDesc → Bool
  | .struct _ | .array _ _ => true
  | _ => false

theorem run_isAgg {P : Program} {t : TypeId} {d : TypeDesc} (hu : P.underlying t = some d) (w : World) : (isAgg t).run P w = .ok (aggD d) w := by
  simp only [isAgg, Sem.run_bind, run_underlying hu, Result.andThen_ok]
  cases d <;> rfl

section
variable {P : Program} {K : Value → AHeap → Prop} {env : Env} {h : AHeap} {dst : Option Tmp} {ty : TypeId} {pos : String} {after : Array Edge} {guard : Option (Nat × Bool)}

theorem aop_alloc {e : TypeId} {i : TypeInfo} {z : Value} (hi : P.info? e = some i) (hz : i.zero = some z) (hc : isConst z = true)
    (hK : K (.pointer (some ⟨h.length, 0, some z.cells.size⟩)) (h ++ [⟨z.cells.toList, true, 1⟩])) : AOp P ⟨dst, .alloc e, ty, pos, after, guard⟩ K env h :=
  .of_run fun m w a hr ho => by
    have hv := (VRel.const m h hc).cells
    obtain ⟨h1, h2⟩ := hr.push (c := z.cells) (ty := e) (o := ⟨z.cells.toList, true, 1⟩) (by simp) (fun j hj => by
      simp only [Array.length_toList] at hj
      exact ⟨z.cells[j], by simp, by simpa using hv.2 j hj hj⟩)
    refine ⟨_, .pointer (some ⟨w.heap.size, 0, none⟩), _, _, _, ?_, h1, h2, ?_, hK⟩
    · simp [execOp, Instr.alloc, zeroValue, typeInfo, hi, hz, newVar, newRow]
    · exact .ptr (o := ⟨z.cells.toList, true, 1⟩) (by simp) (by simp) ⟨_, rfl⟩ fun _ => ⟨⟨w.heap.size, 0, z.cells.size⟩, by simp [Map.push], rfl⟩

theorem aop_box {e : TypeId} {x : Operand} {v : Value} (hx : aeval env x = v)
    (hK : K (.pointer (some ⟨h.length, 0, some v.cells.size⟩)) (h ++ [⟨v.cells.toList, true, 1⟩])) : AOp P ⟨dst, .box e x, ty, pos, after, guard⟩ K env h :=
  .of_run fun m w a hr ho => by
    have hv0 := ho x (by simp [Op.operands])
    rw [hx] at hv0
    have hv := hv0.cells
    have hs : v.cells.size = (a.eval x).cells.size := hv.1
    obtain ⟨h1, h2⟩ := hr.push (c := (a.eval x).cells) (ty := e) (o := ⟨v.cells.toList, true, 1⟩) (by simp [hs]) (fun j hj => by
      simp only [Array.length_toList] at hj
      exact ⟨(a.eval x).cells[j]'(by omega), by simp, by simpa using hv.2 j hj (by omega)⟩)
    refine ⟨_, .pointer (some ⟨w.heap.size, 0, none⟩), _, _, _, ?_, h1, h2, ?_, hK⟩
    · simp [execOp, Instr.box, newVar, newRow]
    · exact .ptr (o := ⟨v.cells.toList, true, 1⟩) (by simp) (by simp) ⟨_, rfl⟩ fun _ => ⟨⟨w.heap.size, 0, _⟩, by simp [Map.push]; rfl, rfl⟩

theorem aop_load {t : TypeId} {x : Operand} {k off ver : Nat} {o : AObj} {d : TypeDesc} {v : Value} (hu : P.underlying t = some d) (hd : aggD d = false)
    (hx : aeval env x = .pointer (some ⟨k, off, some ver⟩)) (ho : h[k]? = some o) (hver : o.cells.length = ver) (hv : o.cells[off]? = some v) (hK : K v h) :
    AOp P ⟨dst, .load t x, ty, pos, after, guard⟩ K env h :=
  .of_run fun m w a hr hop => by
    have hp := hop x (by simp [Op.operands])
    rw [hx] at hp
    obtain ⟨l, hl, he⟩ := hp.pointer_inv ho hver
    obtain ⟨r, h1, h2⟩ := hr.cell ho hl hv
    refine ⟨v, r, m, h, w, ?_, hr, Step.refl, h2, hK⟩
    simp [execOp, he, Instr.loadAt, Instr.sureAddr, loadVar, run_isAgg hu, hd, h1]

theorem aop_loadAgg {t : TypeId} {x : Operand} {k off ver : Nat} {o : AObj} {d : TypeDesc} {i : TypeInfo} {vs : List Value} (hu : P.underlying t = some d) (hd : aggD d = true)
    (hi : P.info? t = some i) (hsz : i.size = vs.length)
    (hx : aeval env x = .pointer (some ⟨k, off, some ver⟩)) (ho : h[k]? = some o) (hver : o.cells.length = ver) (hv : (o.cells.drop off).take vs.length = vs) (hK : K (.agg vs.toArray) h) :
    AOp P ⟨dst, .load t x, ty, pos, after, guard⟩ K env h :=
  .of_run fun m w a hr hop => by
    have hp := hop x (by simp [Op.operands])
    rw [hx] at hp
    obtain ⟨l, hl, he⟩ := hp.pointer_inv ho hver
    have hcell : ∀ j (hj : j < vs.length), ∃ r, w.cell? ⟨l.block, l.base + off + j, none⟩ = some r ∧ VRel m h vs[j] r := fun j hj => by
      have : o.cells[off + j]? = some vs[j] := by
        have h1 : ((o.cells.drop off).take vs.length)[j]? = vs[j]? := by rw [hv]
        rw [List.getElem?_take, if_pos hj, List.getElem?_drop] at h1
        rw [h1, List.getElem?_eq_getElem hj]
      obtain ⟨r, h1, h2⟩ := hr.cell ho hl this
      exact ⟨r, by rw [Nat.add_assoc]; exact h1, h2⟩
    let f : Nat → Value := fun j => (w.cell? ⟨l.block, l.base + off + j, none⟩).getD undef
    have hrun := run_loadCells (P := P) w ⟨l.block, l.base + off, none⟩ vs.length f (fun j hj => by
      obtain ⟨r, h1, _⟩ := hcell j hj
      rw [Addr.add_lit]
      simp [f, h1])
    refine ⟨.agg vs.toArray, .agg ((List.range vs.length).map f).toArray, m, h, w, ?_, hr, Step.refl, ?_, hK⟩
    · simp only [execOp, he, Instr.loadAt, Instr.sureAddr, loadVar, Sem.run_bind, Sem.run_pure, Result.andThen_ok, run_isAgg hu, hd, sizeOf, typeInfo, if_true]
      simp [hi, hsz, hrun]
    · refine .agg (by simp) fun j h1 h2 => ?_
      simp only [List.size_toArray] at h1
      obtain ⟨r, g1, g2⟩ := hcell j h1
      simpa [f, g1] using g2

theorem run_fieldPlace {P : Program} {f : Field} {i : TypeInfo} (hi : P.info? f.type = some i) (h0 : i.size ≠ 0) (b off : Nat) (w : World) :
    (fieldPlace ⟨b, off, none⟩ f).run P w = .ok ⟨b, off + f.offset, none⟩ w := by
  simp [fieldPlace, sizeOf, typeInfo, hi, h0, Addr.add_lit]

theorem aop_fieldAddr {s : TypeId} {x : Operand} {fi k off ver : Nat} {o : AObj} {fs : Array Field} {f : Field} {i : TypeInfo} (hu : P.underlying s = some (.struct fs)) (hf : fs[fi]? = some f)
    (hi : P.info? f.type = some i) (h0 : i.size ≠ 0)
    (hx : aeval env x = .pointer (some ⟨k, off, some ver⟩)) (ho : h[k]? = some o) (hver : o.cells.length = ver) (hK : K (.pointer (some ⟨k, off + f.offset, some ver⟩)) h) :
    AOp P ⟨dst, .fieldAddr s x fi, ty, pos, after, guard⟩ K env h :=
  .of_run fun m w a hr hop => by
    have hp := hop x (by simp [Op.operands])
    rw [hx] at hp
    obtain ⟨l, hl, he⟩ := hp.pointer_inv ho hver
    refine ⟨_, .pointer (some ⟨l.block, l.base + (off + f.offset), none⟩), m, h, w, ?_, hr, Step.refl, ?_, hK⟩
    · simp only [execOp, he, Instr.fieldAt, Sem.run_bind, run_underlying hu, Result.andThen_ok, hf]
      simp [Instr.sureAddr, run_fieldPlace hi h0, Nat.add_assoc]
    · exact .ptr ho (by omega) ⟨_, rfl⟩ fun _ => ⟨l, hl, rfl⟩

theorem aop_indexAddr {t e : TypeId} {x y : Operand} {k off ver len cap : Nat} {o : AObj} {i : TypeInfo} {kd : IntKind} {z : Int} (hu : P.underlying t = some (.slice e))
    (hi : P.info? e = some i) (hs : i.size = o.esz)
    (hx : aeval env x = .slice (some ⟨k, off, some ver⟩) len cap) (ho : h[k]? = some o) (hver : o.cells.length = ver)
    (hy : aeval env y = .int kd z) (h0 : 0 ≤ z) (hlt : z < len) (hpos : 0 < o.esz)
    (hK : K (.pointer (some ⟨k, off + z.toNat * o.esz, some ver⟩)) h) : AOp P ⟨dst, .indexAddr t x y, ty, pos, after, guard⟩ K env h :=
  .of_run fun m w a hr hop => by
    have hp := hop x (by simp [Op.operands])
    have hq := hop y (by simp [Op.operands])
    rw [hx] at hp; rw [hy] at hq
    obtain ⟨l, hl, b, cap', he, c1, c2, c3, c4, c5⟩ := hp.slice_inv ho hver
    have hoff : off < o.cells.length := by
      have : 0 < cap * o.esz := Nat.mul_pos (by omega) hpos
      omega
    have hb := c4 hoff
    subst hb
    refine ⟨_, .pointer (some ⟨l.block, l.base + (off + z.toNat * o.esz), none⟩), m, h, w, ?_, hr, Step.refl, ?_, hK⟩
    · simp only [execOp, he, hq.int, Instr.indexAt, asIntOf, Sem.run_bind, Sem.run_pure, run_underlying hu, Result.andThen_ok]
      simp [h0, hlt, sizeOf, typeInfo, hi, hs, Addr.add_lit, Nat.add_assoc]
    · exact .ptr ho (by omega) ⟨_, rfl⟩ fun _ => ⟨l, hl, rfl⟩

theorem aop_len {t : TypeId} {e : TypeId} {x : Operand} {a : Option Addr} {len cap : Nat} (hu : P.underlying t = some (.slice e)) (hx : aeval env x = .slice a len cap)
    (hok : ∀ ad, a = some ad → ∃ k off ver o, ad = ⟨k, off, some ver⟩ ∧ h[k]? = some o ∧ o.cells.length = ver) (hK : K (.int .i64 len) h) :
    AOp P ⟨dst, .call { callee := .builtin .len, args := #[x], argTypes := #[t] }, ty, pos, after, guard⟩ K env h :=
  .of_run fun m w b hr hop => by
    have hp := hop x (by simp [Op.operands, Call.operands])
    rw [hx] at hp
    have : ∃ q c, b.eval x = .slice q len c := by
      cases a with
      | none =>
        generalize b.eval x = r at hp
        cases hp
        exact ⟨_, _, rfl⟩
      | some ad =>
        obtain ⟨k, off, ver, o, rfl, ho, hver⟩ := hok ad rfl
        obtain ⟨l, hl, q, cap', he, _⟩ := hp.slice_inv ho hver
        exact ⟨q, cap', he⟩
    obtain ⟨q, c, he⟩ := this
    refine ⟨_, .int .i64 len, m, h, w, ?_, hr, Step.refl, .prim rfl, hK⟩
    simp [execOp, resolve, invoke, builtin, he, Builtin.len_, run_underlying hu, goInt]

end
end Go.Am
