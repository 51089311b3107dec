/-
  The abstract heap: what new memory, stores and growth do to the relation. General: no program is named.
-/
import Derived.Test.YtejlkmepnamodaaAmOps
import Derived.Below
namespace Go.Am
set_option linter.unusedSimpArgs false
set_option linter.unusedVariables false
open Go.RowKit

theorem Rel.block_lt {m h w} (hr : Rel m h w) {k : Nat} {o : AObj} {l : Loc} (ho : h[k]? = some o) (hl : m k = some l) (hp : 0 < o.cells.length) : l.block < w.heap.size := by
  obtain ⟨c, ty, fz, hb, _⟩ := hr.holds k o l ho hl hp
  exact (Array.getElem?_eq_some_iff.1 hb).1

theorem lookup_push {h : AHeap} {k : Nat} {o x : AObj} (hk : (h ++ [o])[k]? = some x) : (k < h.length ∧ h[k]? = some x) ∨ (k = h.length ∧ x = o) := by
  rw [List.getElem?_append] at hk
  split at hk
  · exact .inl ⟨‹_›, hk⟩
  · rename_i hge
    have : k - h.length = 0 := by
      rcases Nat.lt_or_ge (k - h.length) 1 with h1 | h1
      · omega
      · rw [List.getElem?_eq_none (by simpa using h1)] at hk; cases hk
    rw [this] at hk
    exact .inr ⟨by omega, by simpa using hk.symm⟩

def Map.push (m : Map) (k : Nat) (l : Loc) : Map := fun i => if i = k then some l else m i

/-- A new block of the call's own. -/
theorem Rel.push {m h w} (hr : Rel m h w) {c : Array Value} {ty : TypeId} {o : AObj} (hs : o.cells.length ≤ c.size)
    (hv : ∀ i (hi : i < o.cells.length), ∃ r, c[i]? = some r ∧ VRel m h o.cells[i] r) :
    Rel (m.push h.length ⟨w.heap.size, 0, c.size⟩) (h ++ [o]) (w.alloc (.cells c ty)) ∧
    Step m h w (m.push h.length ⟨w.heap.size, 0, c.size⟩) (h ++ [o]) (w.alloc (.cells c ty)) := by
  have old : ∀ {k x}, h[k]? = some x → k < h.length ∧ (h ++ [o])[k]? = some x := fun {k x} hk => by
    have hlt := (List.getElem?_eq_some_iff.1 hk).1
    exact ⟨hlt, by rw [List.getElem?_append_left hlt]; exact hk⟩
  have mold : ∀ {k}, k < h.length → m.push h.length ⟨w.heap.size, 0, c.size⟩ k = m k := fun {k} hk => by
    simp [Map.push, Nat.ne_of_lt hk]
  have mnew : m.push h.length ⟨w.heap.size, 0, c.size⟩ h.length = some ⟨w.heap.size, 0, c.size⟩ := by simp [Map.push]
  have ex : Ext m h (m.push h.length ⟨w.heap.size, 0, c.size⟩) (h ++ [o]) := fun k x hk => by
    obtain ⟨h1, h2⟩ := old hk
    exact ⟨x, h2, Nat.le_refl _, rfl, rfl, fun l hl => ⟨l, by rw [mold h1]; exact hl, fun _ => rfl⟩⟩
  have hblk : ∀ b, b < w.heap.size → (w.alloc (.cells c ty)).heap[b]? = w.heap[b]? := fun b hb => Below.heap_alloc _ _ _ hb
  have hnew : (w.alloc (.cells c ty)).heap[w.heap.size]? = some (.cells c ty) := by
    show (w.heap.push _)[w.heap.size]? = _
    simp
  refine ⟨⟨?_, ?_, ?_⟩, ⟨?_, by simp, rfl, rfl, rfl, fun b hb _ => hblk b hb, ?_⟩⟩
  · intro k x l hk hl hp
    rcases lookup_push hk with ⟨h1, h2⟩ | ⟨rfl, rfl⟩
    · rw [mold h1] at hl
      obtain ⟨c0, ty0, fz, hb, hc, hm⟩ := hr.holds k x l h2 hl hp
      refine ⟨c0, ty0, fz, by rw [hblk _ (hr.block_lt h2 hl hp)]; exact hb, fun i hi => ?_, hm⟩
      obtain ⟨r, hr1, hr2⟩ := hc i hi
      exact ⟨r, hr1, hr2.mono ex⟩
    · rw [mnew] at hl
      cases hl
      refine ⟨c, ty, (0, 0), hnew, fun i hi => ?_, fun _ => ⟨rfl, rfl, rfl⟩⟩
      obtain ⟨r, hr1, hr2⟩ := hv i hi
      exact ⟨r, by simpa using hr1, hr2.mono ex⟩
  · intro k1 k2 o1 o2 l1 l2 g1 g2 e1 e2 hne hm p1 p2
    rcases lookup_push g1 with ⟨a1, b1⟩ | ⟨rfl, rfl⟩ <;> rcases lookup_push g2 with ⟨a2, b2⟩ | ⟨a2, b2⟩
    · rw [mold a1] at e1; rw [mold a2] at e2
      exact hr.sep k1 k2 o1 o2 l1 l2 b1 b2 e1 e2 hne hm p1 p2
    · subst a2 b2
      rw [mold a1] at e1; rw [mnew] at e2; cases e2
      exact Nat.ne_of_lt (hr.block_lt b1 e1 p1)
    · rw [mold a2] at e2; rw [mnew] at e1; cases e1
      exact Nat.ne_of_gt (hr.block_lt b2 e2 p2)
    · exact absurd a2.symm hne
  · intro k x hk v hx
    rcases lookup_push hk with ⟨h1, h2⟩ | ⟨rfl, rfl⟩
    · exact (hr.closed k x h2 v hx).mono (by simp)
    · obtain ⟨i, hi, rfl⟩ := List.getElem_of_mem hx
      obtain ⟨r, _, hr2⟩ := hv i hi
      exact (hr2.mono ex).within
  · intro k x hk
    obtain ⟨h1, h2⟩ := old hk
    exact ⟨x, h2, Nat.le_refl _, rfl, rfl, fun l hl => ⟨l, by rw [mold h1]; exact hl, fun _ => rfl⟩, fun hn => by rw [mold h1]; exact hn⟩
  · intro k x l hk hl hp
    rcases lookup_push hk with ⟨h1, h2⟩ | ⟨rfl, rfl⟩
    · rw [mold h1] at hl
      exact .inr ⟨k, x, l, h2, hl, hp, rfl, id⟩
    · rw [mnew] at hl; cases hl
      exact .inl (Nat.le_refl _)

theorem lookup_set {h : AHeap} {k j : Nat} {o x : AObj} (hj : (h.set k o)[j]? = some x) (hk : k < h.length) : (j = k ∧ x = o) ∨ (j ≠ k ∧ h[j]? = some x) := by
  rw [List.getElem?_set] at hj
  split at hj
  · rename_i e
    simp only [Option.some.injEq] at hj
    exact .inl ⟨e.symm, hj.symm⟩
  · rename_i e
    exact .inr ⟨fun h => e h.symm, hj⟩

/-- A block of one's own gets other contents, where it lies ('w'' with the same row of the same size, 'c'') or in a new block (it grows). -/
theorem Rel.rewrite {m h w} (hr : Rel m h w) {k : Nat} {o : AObj} {l l' : Loc} (ho : h[k]? = some o) (hm : o.mine = true) (hl : m k = some l)
    {cs : List Value} {w' : World} {c' : Array Value} {ty : TypeId} (hlen : o.cells.length ≤ cs.length)
    (hw : w'.heap[l'.block]? = some (.cells c' ty)) (hbase : l'.base = 0) (hcap : c'.size = l'.rcap)
    (hplace : (l' = l ∧ 0 < o.cells.length) ∨ (o.cells.length < cs.length ∧ w.heap.size ≤ l'.block))
    (hsize : w.heap.size ≤ w'.heap.size) (hos : w'.os = w.os) (htape : w'.tape = w.tape) (hout : w'.output = w.output)
    (hrest : ∀ b, b < w.heap.size → b ≠ l'.block → w'.heap[b]? = w.heap[b]?)
    (hv : ∀ i (hi : i < cs.length), ∃ r, c'[i]? = some r ∧ VRel m h cs[i] r) :
    Rel (m.push k l') (h.set k ⟨cs, true, o.esz⟩) w' ∧ Step m h w (m.push k l') (h.set k ⟨cs, true, o.esz⟩) w' := by
  have hk := (List.getElem?_eq_some_iff.1 ho).1
  have hnew : (h.set k ⟨cs, true, o.esz⟩)[k]? = some ⟨cs, true, o.esz⟩ := by simp [hk]
  have mk : m.push k l' k = some l' := by simp [Map.push]
  have mo : ∀ {j}, j ≠ k → m.push k l' j = m j := fun {j} hj => by simp [Map.push, hj]
  have hother : ∀ {j x}, j ≠ k → h[j]? = some x → (h.set k ⟨cs, true, o.esz⟩)[j]? = some x := fun {j x} hj hx => by
    rw [List.getElem?_set_ne (fun e => hj e.symm)]; exact hx
  have ex : ∀ (j : Nat) (x : AObj), h[j]? = some x → ∃ o', (h.set k ⟨cs, true, o.esz⟩)[j]? = some o' ∧ x.cells.length ≤ o'.cells.length ∧ o'.mine = x.mine ∧ o'.esz = x.esz ∧
      (∀ l1, m j = some l1 → ∃ l2, m.push k l' j = some l2 ∧ (o'.cells.length = x.cells.length → l2 = l1)) := fun j x hj => by
    by_cases e : j = k
    · subst e
      rw [ho] at hj; cases hj
      refine ⟨_, hnew, hlen, hm.symm, rfl, fun l1 h1 => ⟨l', mk, fun hq => ?_⟩⟩
      rw [hl] at h1; cases h1
      rcases hplace with ⟨h1, _⟩ | ⟨h1, _⟩
      · exact h1
      · simp only at hq; omega
    · exact ⟨x, hother e hj, Nat.le_refl _, rfl, rfl, fun l1 h1 => ⟨l1, by rw [mo e]; exact h1, fun _ => rfl⟩⟩
  have hblk : ∀ {j x lj}, j ≠ k → h[j]? = some x → m j = some lj → 0 < x.cells.length → lj.block ≠ l'.block := fun {j x lj} hj hx hlj hp => by
    rcases hplace with ⟨h1, h2⟩ | ⟨_, h2⟩
    · subst h1
      exact (hr.sep k j o x _ lj ho hx hl hlj (Ne.symm hj) hm h2 hp).symm
    · have := hr.block_lt hx hlj hp; omega
  refine ⟨⟨?_, ?_, ?_⟩, ⟨?_, hsize, hos, htape, hout, ?_, ?_⟩⟩
  · intro j x lj hj hlj hp
    rcases lookup_set hj hk with ⟨rfl, rfl⟩ | ⟨e, hx⟩
    · rw [mk] at hlj; cases hlj
      refine ⟨c', ty, (0, 0), hw, fun i hi => ?_, fun _ => ⟨hbase, rfl, hcap⟩⟩
      obtain ⟨r, h1, h2⟩ := hv i hi
      exact ⟨r, by rw [hbase, Nat.zero_add]; exact h1, h2.mono ex⟩
    · rw [mo e] at hlj
      obtain ⟨c0, ty0, fz, hb, hc, hm0⟩ := hr.holds j x lj hx hlj hp
      refine ⟨c0, ty0, fz, by rw [hrest _ (hr.block_lt hx hlj hp) (hblk e hx hlj hp)]; exact hb, fun i hi => ?_, hm0⟩
      obtain ⟨r, h1, h2⟩ := hc i hi
      exact ⟨r, h1, h2.mono ex⟩
  · intro k1 k2 o1 o2 l1 l2 g1 g2 e1 e2 hne hm1 p1 p2
    rcases lookup_set g1 hk with ⟨a1, b1⟩ | ⟨a1, b1⟩ <;> rcases lookup_set g2 hk with ⟨a2, b2⟩ | ⟨a2, b2⟩
    · exact absurd (a1.trans a2.symm) hne
    · subst a1 b1
      rw [mk] at e1; cases e1; rw [mo a2] at e2
      exact (hblk a2 b2 e2 p2).symm
    · subst a2 b2
      rw [mk] at e2; cases e2; rw [mo a1] at e1
      exact hblk a1 b1 e1 p1
    · rw [mo a1] at e1; rw [mo a2] at e2
      exact hr.sep k1 k2 o1 o2 l1 l2 b1 b2 e1 e2 hne hm1 p1 p2
  · intro j x hj v hx
    rcases lookup_set hj hk with ⟨rfl, rfl⟩ | ⟨e, hx0⟩
    · obtain ⟨i, hi, rfl⟩ := List.getElem_of_mem hx
      obtain ⟨r, _, h2⟩ := hv i hi
      exact (h2.mono ex).within
    · exact (hr.closed j x hx0 v hx).mono (by simp)
  · intro j x hj
    obtain ⟨o', q1, q2, q3, q4, q5⟩ := ex j x hj
    refine ⟨o', q1, q2, q3, q4, q5, fun hn => ?_⟩
    have : j ≠ k := fun e => by subst e; rw [hl] at hn; cases hn
    rw [mo this]; exact hn
  · intro b hb hno
    by_cases e : b = l'.block
    · rcases hplace with ⟨h1, h2⟩ | ⟨_, h2⟩
      · subst h1
        exact absurd e.symm (hno k o _ ho hl hm h2)
      · omega
    · exact hrest b hb e
  · intro j x lj hj hlj hp
    rcases lookup_set hj hk with ⟨rfl, rfl⟩ | ⟨e, hx⟩
    · rw [mk] at hlj; cases hlj
      rcases hplace with ⟨h1, h2⟩ | ⟨_, h2⟩
      · subst h1
        exact .inr ⟨_, o, _, ho, hl, h2, rfl, fun _ => hm⟩
      · exact .inl h2
    · rw [mo e] at hlj
      exact .inr ⟨j, x, lj, hx, hlj, hp, rfl, id⟩

end Go.Am
