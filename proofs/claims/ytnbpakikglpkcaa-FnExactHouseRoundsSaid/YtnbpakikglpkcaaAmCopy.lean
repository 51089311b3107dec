/-
  The abstract heap: 'copy' between lists of integers. General: no program is named.
-/
import Derived.Test.YtnbpakikglpkcaaAmLib2
import Derived.Laws.IdiomCopy
namespace Go.Am
set_option linter.unusedSimpArgs false
set_option linter.unusedVariables false
section
variable {P : Program} {K : Value → AHeap → Prop} {env : Env} {h : AHeap} {dst : Option Tmp} {ty : TypeId} {pos : String} {after : Array Edge} {guard : Option (Nat × Bool)}

theorem run_copy_eq {P : Program} (w : World) (dT sT ty elem : TypeId) (d : Addr) (dLen dCap : Nat) (a : Addr) (sLen sCap : Nat) (cs : List Value) (w' : World)
    (hu : P.underlying dT = some (.slice elem)) (hs : (P.info? elem).map (·.size) = some 1) (hn : cs.length = Nat.min sLen dLen)
    (hsrc : ∀ j v, cs[j]? = some v → w.cell? (a.add j) = some v) (hst : (storeCells d cs).run P w = .ok () w') :
    (Builtin.copy_ #[dT, sT] ty #[.slice (some d) dLen dCap, .slice (some a) sLen sCap]).run P w = .ok (goInt cs.length) w' := by
  have hl := run_loadCells_list (P := P) w a cs hsrc
  cases hq : P.info? elem with
  | none => simp [hq] at hs
  | some i =>
    have hi : i.size = 1 := by simpa [hq] using hs
    simp [Builtin.copy_, run_underlying hu, Builtin.lenOf, Builtin.firstCells, sizeOf, typeInfo, hq, hi, ← hn, hl, hst]

/-- copy(dst, src): all of src goes over, or as much as dst holds. -/
theorem o_copyI {t t2 e : TypeId} {x y : Operand} {k off ver dLen dCap b : Nat} {xs ys : List Int} {z v : Value} {h' : AHeap} (hu : P.underlying t = some (.slice e)) (hi : InfoIs P e z 1 b)
    (hx : aeval env x = .slice (some ⟨k, off, some ver⟩) dLen dCap) (ho : h[k]? = some (lst xs)) (hver : xs.length = ver) (hfit : off + dLen ≤ ver)
    (hy : aeval env y = v) (hv : Ints h v ys)
    (hs : h.set k (lst (xs.take off ++ ys.take (min ys.length dLen) ++ xs.drop (off + min ys.length dLen))) = h') (hK : K (i64 (min ys.length dLen : Nat)) h') :
    AOp P ⟨dst, .call { callee := .builtin .copy, args := #[x, y], argTypes := #[t, t2] }, ty, pos, after, guard⟩ K env h :=
  .of_run fun mp w a hr hop => by
    have hp := hop x (by simp [Op.operands, Call.operands])
    have hq := hop y (by simp [Op.operands, Call.operands])
    rw [hx] at hp; rw [hy] at hq
    obtain ⟨i, hi1, hi2, hi3, hi4⟩ := hi.get
    have hsz : (P.info? e).map (·.size) = some 1 := by rw [hi1]; simp [hi3]
    have hcl : (lst xs).cells.length = ver := by simp [lst, hver]
    obtain ⟨l, hl, da, cap', hse, c1, c2, c3, c4, c5⟩ := hp.slice_inv ho hcl
    have hexec : ∀ v' w', (Builtin.copy_ #[t, t2] ty #[a.eval x, a.eval y]).run P w = .ok v' w' →
        (execOp a.eval ⟨dst, .call { callee := .builtin .copy, args := #[x, y], argTypes := #[t, t2] }, ty, pos, after, guard⟩).run P w = .ok (.value v') w' := fun v' w' hh => by
      simp only [execOp, resolve, invoke, builtin, Sem.run_bind, Sem.run_pure, Result.andThen_ok, List.map_toArray, List.map_cons, List.map_nil, hh]
    rcases Nat.eq_zero_or_pos (min ys.length dLen) with h0 | h0
    · rw [h0] at hs hK
      have hsame : lst (xs.take off ++ ys.take 0 ++ xs.drop (off + 0)) = lst xs := by simp
      rw [hsame, set_same ho] at hs
      subst hs
      have hsrc : ∃ a2 c2, a.eval y = .slice a2 ys.length c2 := by
        rcases hv with ⟨rfl, rfl⟩ | ⟨k2, off2, ver2, cap2, o2, rfl, g1, g2, g3, g4, g5, g6⟩
        · exact ⟨none, 0, hq.nil_inv⟩
        · obtain ⟨l2, _, a2, c2', he2, _⟩ := hq.slice_inv g1 g2
          exact ⟨a2, c2', he2⟩
      obtain ⟨a2, c2', he2⟩ := hsrc
      have hrun := run_copy_none (P := P) w t t2 ty e da a2 dLen cap' ys.length c2' hu hsz h0
      exact ⟨i64 0, i64 0, mp, h, w, hexec _ _ (by rw [hse, he2]; exact hrun), hr, Step.refl, .prim rfl, hK⟩
    · rcases hv with ⟨rfl, rfl⟩ | ⟨k2, off2, ver2, cap2, o2, rfl, g1, g2, g3, g4, g5, g6⟩
      · simp at h0
      · obtain ⟨a2, c2', rs, he2, hrl, hnl, hcells, hrel⟩ := hr.news hq g1 g2 (by omega) (by omega)
        rw [g3, Nat.mul_one] at hrl hnl hrel
        have hnews : news o2 off2 ys.length = ys.map i64 := by
          have := news_ints (off := off2) (o := o2) (ys := ys) g6
          rwa [Nat.mul_one] at this
        rw [hnews] at hrel
        obtain ⟨n, hn⟩ : ∃ n, n = min ys.length dLen := ⟨_, rfl⟩
        rw [← hn] at h0 hs hK
        have hle1 : n ≤ ys.length := by omega
        have hle2 : n ≤ dLen := by omega
        have hb := c4 (by rw [hcl]; omega)
        subst hb
        obtain ⟨w', hst, r1, s1⟩ := hr.storeCells (P := P) (k := k) (off := off) ho rfl hl (vs := (ys.take n).map i64) (rs := rs.take n) (by simp; omega) (by rw [hcl]; simp; omega) (by simp; omega)
          (fun j v r hv hr => by
            rw [List.getElem?_take] at hr
            simp only [List.getElem?_map, List.getElem?_take] at hv
            split at hr
            · rename_i hj
              rw [if_pos hj] at hv
              exact hrel j v r (by simpa using hv) hr
            · cases hr)
          (fun r hm => by
            obtain ⟨j, hj⟩ := List.getElem?_of_mem hm
            rw [List.getElem?_take] at hj
            split at hj
            · rename_i hjn
              have := hrel j (i64 (ys[j]'(by omega))) r (by simp [List.getElem?_eq_getElem (show j < ys.length by omega)]) hj
              exact (this.oneCell rfl).1
            · cases hj)
        have hsp : splice (lst xs).cells off ((ys.take n).map i64) = (lst (xs.take off ++ ys.take n ++ xs.drop (off + n))).cells := by
          have hl2 : ((ys.take n).map i64).length = n := by simp; omega
          rw [splice, hl2]
          simp [lst, List.map_take, List.map_drop]
        have hrun := run_copy_eq (P := P) w t t2 ty e ⟨l.block, l.base + off, none⟩ dLen cap' a2 ys.length c2' (rs.take n) w' hu hsz (by rw [List.length_take, hrl]; show min n ys.length = min ys.length dLen; omega)
          (fun j v hj => hcells j v (by
            rw [List.getElem?_take] at hj
            split at hj
            · exact hj
            · cases hj)) hst
        have hlen : (rs.take n).length = n := by simp; omega
        refine ⟨i64 n, i64 n, _, _, w', hexec _ _ (by rw [hse, he2, hrun, hlen]; rfl), r1, s1, .prim rfl, ?_⟩
        rw [hsp, show (lst xs).esz = 1 from rfl]
        rw [← hs] at hK
        exact hK
/-- The same, what the list becomes named. -/
theorem o_copyR {t t2 e : TypeId} {x y : Operand} {k off ver dLen dCap b : Nat} {xs ys zs : List Int} {z v : Value} {h' : AHeap} (hu : P.underlying t = some (.slice e)) (hi : InfoIs P e z 1 b)
    (hx : aeval env x = .slice (some ⟨k, off, some ver⟩) dLen dCap) (ho : h[k]? = some (lst xs)) (hver : xs.length = ver) (hfit : off + dLen ≤ ver)
    (hy : aeval env y = v) (hv : Ints h v ys) (he : xs.take off ++ ys.take (min ys.length dLen) ++ xs.drop (off + min ys.length dLen) = zs)
    (hs : h.set k (lst zs) = h') (hK : K (i64 (min ys.length dLen : Nat)) h') :
    AOp P ⟨dst, .call { callee := .builtin .copy, args := #[x, y], argTypes := #[t, t2] }, ty, pos, after, guard⟩ K env h :=
  o_copyI hu hi hx ho hver hfit hy hv (by rw [he]; exact hs) hK
end
end Go.Am
