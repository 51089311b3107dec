/-
  The abstract heap: lists of truth values that are copied; houses in turn. General: no program is named.
-/
import Derived.Test.YtnbpakikglpkcaaAmLib15
namespace Go.Am
set_option linter.unusedSimpArgs false
set_option linter.unusedVariables false
section
variable {P : Program} {K : Value → AHeap → Prop} {env : Env} {h : AHeap} {dst : Option Tmp} {ty : TypeId} {pos : String} {after : Array Edge} {guard : Option (Nat × Bool)}
theorem fillB1 (p : Bool) : Instr.fill (fun k => some (k * 1, 1)) (Array.map (fun x => (Value.bool false).cells[x % (Value.bool false).cells.size]!) (Array.range (1 * 1))) [(0, .bool p)] = some #[.bool p] := by
  have e : Array.range (1 * 1) = #[0] := by decide
  rw [e]
  simp [Instr.fill, Value.cells]
theorem o_buildB1 {t e : TypeId} {b : Nat} {x : Operand} {p : Bool} (hu : P.underlying t = some (.slice e)) (hi : InfoIs P e (.bool false) 1 b) (hx : aeval env x = .bool p) (hK : ∀ k, k = h.length → K (sl k 1) (h ++ [lstB [p]])) :
    AOp P ⟨dst, .buildSlice t 1 #[(0, x)], ty, pos, after, guard⟩ K env h := by
  obtain ⟨i, h1, h2, h3, h4⟩ := hi.get
  refine aop_buildSlice (out := #[.bool p]) hu h1 h2 rfl (by rw [h3]; rfl) (by omega) (by rw [h3]; decide) ?_ (by rw [h3]; rfl) ?_
  · simp only [h3, List.map_cons, List.map_nil, hx]
    exact fillB1 p
  · simp only [h3, Nat.mul_one]
    exact hK _ rfl
theorem o_lenV {t e : TypeId} {x : Operand} {k n : Nat} {us : List Value} (hu : P.underlying t = some (.slice e)) (hx : aeval env x = sl k n) (ho : h[k]? = some (vls us)) (hn : us.length = n) (hK : K (i64 n) h) :
    AOp P ⟨dst, .call { callee := .builtin .len, args := #[x], argTypes := #[t] }, ty, pos, after, guard⟩ K env h :=
  aop_len hu hx (fun ad ha => by cases ha; exact ⟨k, 0, n, vls us, rfl, ho, hn⟩) hK
theorem o_sliceLoV {t e : TypeId} {x y1 : Operand} {k n : Nat} {us : List Value} {z : Value} {b : Nat} {k1 : IntKind} {l : Nat} (hu : P.underlying t = some (.slice e)) (hi : InfoIs P e z 1 b)
    (hx : aeval env x = sl k n) (ho : h[k]? = some (vls us)) (hn : us.length = n) (hy1 : aeval env y1 = .int k1 (l : Int)) (hlr : l ≤ n)
    (hK : K (.slice (some ⟨k, l, some n⟩) (n - l) (n - l)) h) : AOp P ⟨dst, .slice t x (some y1) none none, ty, pos, after, guard⟩ K env h := by
  obtain ⟨i, h1, _, h3, _⟩ := hi.get
  refine aop_slice (l := l) (r := n) hu h1 (by rw [h3]; rfl) hx ho hn (.inr ⟨y1, k1, rfl, hy1⟩) (.inl ⟨rfl, rfl⟩) hlr (Nat.le_refl _) ?_
  show K (.slice (some ⟨k, 0 + l * 1, some n⟩) (n - l) (n - l)) h
  rw [Nat.zero_add, Nat.mul_one]; exact hK
theorem o_sliceHiV {t e : TypeId} {x y2 : Operand} {k n : Nat} {us : List Value} {z : Value} {b : Nat} {k1 : IntKind} {r : Nat} (hu : P.underlying t = some (.slice e)) (hi : InfoIs P e z 1 b)
    (hx : aeval env x = sl k n) (ho : h[k]? = some (vls us)) (hn : us.length = n) (hy2 : aeval env y2 = .int k1 (r : Int)) (hlr : r ≤ n)
    (hK : K (.slice (some ⟨k, 0, some n⟩) r n) h) : AOp P ⟨dst, .slice t x none (some y2) none, ty, pos, after, guard⟩ K env h := by
  obtain ⟨i, h1, _, h3, _⟩ := hi.get
  refine aop_slice (l := 0) (r := r) hu h1 (by rw [h3]; rfl) hx ho hn (.inl ⟨rfl, rfl⟩) (.inr ⟨y2, k1, rfl, hy2⟩) (Nat.zero_le _) hlr ?_
  show K (.slice (some ⟨k, 0 + 0 * 1, some n⟩) (r - 0) (n - 0)) h
  simpa using hK
/-- copy between blocks of one's own. -/
theorem o_copyV {t t2 e : TypeId} {x y : Operand} {k off ver dLen dCap k2 off2 ver2 sLen sCap b : Nat} {us ws zs : List Value} {z : Value} {h' : AHeap} (hu : P.underlying t = some (.slice e)) (hi : InfoIs P e z 1 b)
    (hx : aeval env x = .slice (some ⟨k, off, some ver⟩) dLen dCap) (ho : h[k]? = some (vls us)) (hver : us.length = ver) (hfit : off + dLen ≤ ver)
    (hy : aeval env y = .slice (some ⟨k2, off2, some ver2⟩) sLen sCap) (ho2 : h[k2]? = some (vls ws)) (hver2 : ws.length = ver2) (hfit2 : off2 + sLen ≤ ver2) (hpos : 0 < min sLen dLen) (h1 : ws.all oneCellA = true)
    (he : us.take off ++ (ws.drop off2).take (min sLen dLen) ++ us.drop (off + min sLen dLen) = zs)
    (hs : h.set k (vls zs) = h') (hK : K (i64 (min sLen dLen : Nat)) h') :
    AOp P ⟨dst, .call { callee := .builtin .copy, args := #[x, y], argTypes := #[t, t2] }, ty, pos, after, guard⟩ K env h :=
  .of_run fun mp w a hr hop => by
    have hp := hop x (by simp [Op.operands, Call.operands])
    have hq := hop y (by simp [Op.operands, Call.operands])
    rw [hx] at hp; rw [hy] at hq
    obtain ⟨i, hi1, hi2, hi3, hi4⟩ := hi.get
    have hsz : (P.info? e).map (·.size) = some 1 := by rw [hi1]; simp [hi3]
    have hcl : (vls us).cells.length = ver := hver
    obtain ⟨l, hl, da, cap', hse, c1, c2, c3, c4, c5⟩ := hp.slice_inv ho hcl
    have hexec : ∀ v' w', (Builtin.copy_ #[t, t2] ty #[a.eval x, a.eval y]).run P w = .ok v' w' →
        (execOp a.eval ⟨dst, .call { callee := .builtin .copy, args := #[x, y], argTypes := #[t, t2] }, ty, pos, after, guard⟩).run P w = .ok (.value v') w' := fun v' w' hh => by
      simp only [execOp, resolve, invoke, builtin, Sem.run_bind, Sem.run_pure, Result.andThen_ok, List.map_toArray, List.map_cons, List.map_nil, hh]
    obtain ⟨a2, c2', rs, he2, hrl, hnl, hcells, hrel⟩ := hr.news hq ho2 hver2 (by omega) (by show 0 < 1; omega)
    rw [show (vls ws).esz = 1 from rfl, Nat.mul_one] at hrl hnl hrel
    have hnews : news (vls ws) off2 sLen = (ws.drop off2).take sLen := rfl
    rw [hnews] at hrel hnl
    obtain ⟨n, hn⟩ : ∃ n, n = min sLen dLen := ⟨_, rfl⟩
    rw [← hn] at hpos he hK
    have hb := c4 (by rw [hcl]; omega)
    subst hb
    have hone : ∀ r ∈ rs, r.oneCell' = true := news_oneCell (vs := (ws.drop off2).take sLen) (by rw [hnl, hrl]) (by
      rw [List.all_eq_true] at h1 ⊢
      intro v hv
      exact h1 v (List.mem_of_mem_drop (List.mem_of_mem_take hv))) hrel
    have hvl : ((ws.drop off2).take n).length = n := by simp; omega
    obtain ⟨w', hst, r1, s1⟩ := hr.storeCells (P := P) (k := k) (off := off) ho rfl hl (vs := (ws.drop off2).take n) (rs := rs.take n) (by rw [hvl]; simp; omega) (by rw [hcl, hvl]; omega) (by omega)
      (fun j v r hv hr => by
        rw [List.getElem?_take] at hr hv
        split at hr
        · rename_i hj
          rw [if_pos hj] at hv
          exact hrel j v r (by rw [List.getElem?_take, if_pos (by omega)]; exact hv) hr
        · cases hr)
      (fun r hm => hone r (List.mem_of_mem_take hm))
    have hsp : splice (vls us).cells off ((ws.drop off2).take n) = (vls zs).cells := by
      rw [splice, hvl, ← he]; rfl
    have hrun := run_copy_eq (P := P) w t t2 ty e ⟨l.block, l.base + off, none⟩ dLen cap' a2 sLen c2' (rs.take n) w' hu hsz (by rw [List.length_take, hrl]; show min n sLen = min sLen dLen; omega)
      (fun j v hj => hcells j v (by
        rw [List.getElem?_take] at hj
        split at hj
        · exact hj
        · cases hj)) hst
    have hlen : (rs.take n).length = n := by simp; omega
    refine ⟨i64 n, i64 n, _, _, w', hexec _ _ (by rw [hse, he2, hrun, hlen]; rfl), r1, s1, .prim rfl, ?_⟩
    rw [hsp, show (vls us).esz = 1 from rfl]
    rw [← hs] at hK
    exact hK
end
def repB (c : Bool) (n s : Nat) : List Bool := List.replicate s c ++ List.replicate (n - s) false
theorem repB_len {c : Bool} {n s : Nat} (h : s ≤ n) : (repB c n s).length = n := by simp [repB]; omega
theorem repB_full {c : Bool} {n : Nat} : repB c n n = List.replicate n c := by simp [repB]
theorem boolOne {bs : List Bool} : (bs.map bo).all oneCellA = true := by
  rw [List.all_eq_true]; intro v hv
  obtain ⟨b, _, rfl⟩ := List.mem_map.1 hv; rfl
theorem repB_first {c : Bool} {n d : Nat} (h : 1 ≤ n) (e1 : d = n) : ((List.replicate n false).map bo).take 0 ++ (([c].map bo).drop 0).take (min 1 d) ++ ((List.replicate n false).map bo).drop (0 + min 1 d) = (repB c n 1).map bo := by
  subst e1
  rw [show min 1 d = 1 by omega]; simp [repB]
theorem repB_step {c : Bool} {n s d : Nat} (hs : s ≤ n) (e2 : d = n - s) : ((repB c n s).map bo).take s ++ (((repB c n s).map bo).drop 0).take (min s d) ++ ((repB c n s).map bo).drop (s + min s d) = (repB c n (s + min s d)).map bo := by
  subst e2
  obtain ⟨m, hm⟩ : ∃ m, m = min s (n - s) := ⟨_, rfl⟩
  rw [← hm, List.drop_zero, ← List.map_take, ← List.map_take, ← List.map_drop, ← List.map_append, ← List.map_append]
  congr 1
  have h2 : (repB c n s).take s = List.replicate s c := by rw [repB, List.take_append_of_le_length (by simp)]; simp
  have h3 : (repB c n s).drop (s + m) = List.replicate (n - (s + m)) false := by
    rw [repB, List.drop_append]
    simp only [List.length_replicate, List.drop_replicate]
    rw [show s - (s + m) = 0 by omega, show s + m - s = m by omega, show n - s - m = n - (s + m) by omega]
    simp
  have h4 : (repB c n s).take m = List.replicate m c := by rw [repB, List.take_append_of_le_length (by simp; omega), List.take_replicate, show min m s = m by omega]
  rw [h2, h3, h4, repB, List.replicate_append_replicate]
end Go.Am
