/-
  The abstract heap: garbage is forgotten, what is handed back gets the next number. General: no program is named.
-/
import Derived.Test.YtejlkmepnamodaaAmCall
namespace Go.Am
set_option linter.unusedSimpArgs false
set_option linter.unusedVariables false

/-- 'v' is 'v1' with its references renumbered. -/
inductive VRen (s : Nat → Nat) : Value → Value → Prop
  | prim {v : Value} (hp : isPrim v = true) : VRen s v v
  | ptr {k off ver : Nat} : VRen s (.pointer (some ⟨k, off, some ver⟩)) (.pointer (some ⟨s k, off, some ver⟩))
  | slice {k off ver len cap : Nat} : VRen s (.slice (some ⟨k, off, some ver⟩) len cap) (.slice (some ⟨s k, off, some ver⟩) len cap)
  | agg {a b : Array Value} (hs : a.size = b.size) (hc : ∀ i (h1 : i < a.size) (h2 : i < b.size), VRen s a[i] b[i]) : VRen s (.agg a) (.agg b)
  | tuple {a b : Array Value} (hs : a.size = b.size) (hc : ∀ i (h1 : i < a.size) (h2 : i < b.size), VRen s a[i] b[i]) : VRen s (.tuple a) (.tuple b)
  | func {fn : Fn} {a b c d : Array Value} (hs : a.size = b.size) (ht : c.size = d.size)
      (hc : ∀ i (h1 : i < a.size) (h2 : i < b.size), VRen s a[i] b[i]) (hd : ∀ i (h1 : i < c.size) (h2 : i < d.size), VRen s c[i] d[i]) :
      VRen s (.func fn a c) (.func fn b d)
  | iface {t : TypeId} {v r : Value} (hv : VRen s v r) : VRen s (.iface t v) (.iface t r)

theorem VRel.ren {m m' : Map} {h h' : AHeap} {s : Nat → Nat} {v v1 r : Value} (hr : VRen s v v1) (hv : VRel m h v1 r) (hw : Within h'.length v)
    (hm : ∀ (k : Nat) (o' : AObj), h'[k]? = some o' → m' k = m (s k) ∧ ∃ o, h[s k]? = some o ∧ o'.cells.length = o.cells.length ∧ o'.mine = o.mine ∧ o'.esz = o.esz) :
    VRel m' h' v r := by
  induction hr generalizing r with
  | prim hp =>
    cases hv <;> first | exact .prim hp | (simp [isPrim] at hp)
  | @ptr k off ver =>
    cases hv with
    | prim hp => simp [isPrim] at hp
    | ptr ho hv hs hrr =>
      cases hw with
      | prim hp => simp [isPrim] at hp
      | ptr hk =>
        obtain ⟨h1, o, h2, h3, h4, h5⟩ := hm k _ (List.getElem?_eq_getElem hk)
        rw [ho] at h2; cases h2
        refine .ptr (List.getElem?_eq_getElem hk) (by omega) hs fun hq => ?_
        rw [h1]; exact hrr (by omega)
  | @slice k off ver len cap =>
    cases hv with
    | prim hp => simp [isPrim] at hp
    | slice ho hv hs hrr =>
      cases hw with
      | prim hp => simp [isPrim] at hp
      | slice hk =>
        obtain ⟨h1, o, h2, h3, h4, h5⟩ := hm k _ (List.getElem?_eq_getElem hk)
        rw [ho] at h2; cases h2
        refine .slice (List.getElem?_eq_getElem hk) (by omega) hs fun hq => ?_
        rw [h1]
        obtain ⟨l, hl, a, cap', e, c1, c2, c3, c4, c5⟩ := hrr (by omega)
        exact ⟨l, hl, a, cap', e, c1, c2, by rw [h5, h3]; exact c3, fun hh => c4 (by omega), fun hm0 => by rw [h5, h3]; exact c5 (by rw [← h4]; exact hm0)⟩
  | agg hs _ ih =>
    cases hv with
    | prim hp => simp [isPrim] at hp
    | agg hs2 hc2 =>
      cases hw with
      | prim hp => simp [isPrim] at hp
      | agg hw => exact .agg (by omega) fun i h1 h2 => ih i h1 (by omega) (hc2 i (by omega) h2) (hw i h1)
  | tuple hs _ ih =>
    cases hv with
    | prim hp => simp [isPrim] at hp
    | tuple hs2 hc2 =>
      cases hw with
      | prim hp => simp [isPrim] at hp
      | tuple hw => exact .tuple (by omega) fun i h1 h2 => ih i h1 (by omega) (hc2 i (by omega) h2) (hw i h1)
  | func hs ht _ _ i1 i2 =>
    cases hv with
    | prim hp => simp [isPrim] at hp
    | func hs2 ht2 hc2 hd2 =>
      cases hw with
      | prim hp => simp [isPrim] at hp
      | func hw1 hw2 => exact .func (by omega) (by omega) (fun i h1 h2 => i1 i h1 (by omega) (hc2 i (by omega) h2) (hw1 i h1)) (fun i h1 h2 => i2 i h1 (by omega) (hd2 i (by omega) h2) (hw2 i h1))
  | iface _ ih =>
    cases hv with
    | prim hp => simp [isPrim] at hp
    | iface hv2 =>
      cases hw with
      | prim hp => simp [isPrim] at hp
      | iface hw => exact .iface (ih hv2 hw)

/-- What may be forgotten of a heap: 'h2' holds blocks of 'h1', under other numbers; the first ones (those of 'h0') keep theirs. -/
structure Keeps (s : Nat → Nat) (h0 h1 h2 : AHeap) : Prop where
  same : ∀ k, k < h0.length → s k = k
  long : h0.length ≤ h2.length
  inj : ∀ (i j : Nat), i < h2.length → j < h2.length → s i = s j → i = j
  blocks : ∀ (k : Nat) (o2 : AObj), h2[k]? = some o2 → ∃ o1, h1[s k]? = some o1 ∧ o2.cells.length = o1.cells.length ∧ o2.mine = o1.mine ∧ o2.esz = o1.esz ∧
    ∀ (i : Nat) (v : Value), o2.cells[i]? = some v → Within h2.length v ∧ ∃ v1, o1.cells[i]? = some v1 ∧ VRen s v v1

theorem Rel.keeps {s : Nat → Nat} {m0 m1 : Map} {h0 h1 h2 : AHeap} {w0 w1 : World} (hr : Rel m1 h1 w1) (st : Step m0 h0 w0 m1 h1 w1) (kp : Keeps s h0 h1 h2) :
    Rel (fun k => m1 (s k)) h2 w1 ∧ Step m0 h0 w0 (fun k => m1 (s k)) h2 w1 := by
  have hm : ∀ (k : Nat) (o' : AObj), h2[k]? = some o' → m1 (s k) = m1 (s k) ∧ ∃ o, h1[s k]? = some o ∧ o'.cells.length = o.cells.length ∧ o'.mine = o.mine ∧ o'.esz = o.esz := fun k o' hk => by
    obtain ⟨o1, g1, g2, g3, g4, _⟩ := kp.blocks k o' hk
    exact ⟨rfl, o1, g1, g2, g3, g4⟩
  refine ⟨⟨fun k o l hk hl hp => ?_, fun k1 k2 o1 o2 l1 l2 g1 g2 e1 e2 hne hm1 p1 p2 => ?_, fun k o hk v hv => ?_⟩, ⟨fun k o hk => ?_, st.size, st.os, st.tape, st.output, st.frame, fun k o l hk hl hp => ?_⟩⟩
  · obtain ⟨o1, g1, g2, g3, g4, g5⟩ := kp.blocks k o hk
    obtain ⟨c, ty, fz, hb, hc, hmm⟩ := hr.holds _ o1 l g1 hl (by omega)
    refine ⟨c, ty, fz, hb, fun i hi => ?_, fun hh => hmm (by rw [← g3]; exact hh)⟩
    obtain ⟨hw, v1, hv1, hren⟩ := g5 i _ (List.getElem?_eq_getElem hi)
    obtain ⟨r, r1, r2⟩ := hc i (by omega)
    obtain ⟨hlt, hv1⟩ := List.getElem?_eq_some_iff.1 hv1
    refine ⟨r, r1, VRel.ren hren (by rw [← hv1]; exact r2) hw hm⟩
  · obtain ⟨o1', g1', q1, q2, _⟩ := kp.blocks k1 o1 g1
    obtain ⟨o2', g2', q3, q4, _⟩ := kp.blocks k2 o2 g2
    exact hr.sep _ _ o1' o2' l1 l2 g1' g2' e1 e2 (fun e => hne (kp.inj k1 k2 (List.getElem?_eq_some_iff.1 g1).1 (List.getElem?_eq_some_iff.1 g2).1 e)) (by rw [← q2]; exact hm1) (by omega) (by omega)
  · obtain ⟨o1, g1, g2, g3, g4, g5⟩ := kp.blocks k o hk
    obtain ⟨i, hi, rfl⟩ := List.getElem_of_mem hv
    exact (g5 i _ (List.getElem?_eq_getElem hi)).1
  · obtain ⟨o', p1, p2, p3, p4, p5, p6⟩ := st.ext k o hk
    have hk0 := (List.getElem?_eq_some_iff.1 hk).1
    have hs := kp.same k hk0
    have hk2 : k < h2.length := Nat.lt_of_lt_of_le hk0 kp.long
    obtain ⟨o1, g1, g2, g3, g4, _⟩ := kp.blocks k _ (List.getElem?_eq_getElem hk2)
    rw [hs, p1] at g1; cases g1
    refine ⟨_, List.getElem?_eq_getElem hk2, by omega, by rw [g3, p3], by rw [g4, p4], fun l hl => ?_, fun hn => by simp only [hs]; exact p6 hn⟩
    obtain ⟨l', q1, q2⟩ := p5 l hl
    exact ⟨l', by simp only [hs]; exact q1, fun hq => q2 (by omega)⟩
  · obtain ⟨o1, g1, g2, g3, g4, _⟩ := kp.blocks k o hk
    obtain h := st.own _ o1 l g1 hl (by omega)
    rcases h with h | ⟨k0, o0, l0, a1, a2, a3, a4, a5⟩
    · exact .inl h
    · exact .inr ⟨k0, o0, l0, a1, a2, a3, a4, fun hh => a5 (by rw [← g3]; exact hh)⟩

/-- A contract's heap may be made smaller. -/
theorem Tri.keeps {P : Program} {f : FuncId} {args : List Value} {h : AHeap} {R R' : Value → AHeap → Prop} (t : Tri P f args h R)
    (hk : (∀ (k : Nat) (o : AObj), h[k]? = some o → ∀ v ∈ o.cells, Within h.length v) → ∀ v1 h1, R v1 h1 → ∃ s h2 v2, Keeps s h h1 h2 ∧ Within h2.length v2 ∧ VRen s v2 v1 ∧ R' v2 h2) : Tri P f args h R' :=
  ⟨t.1, fun m w rs hr hvs => (t.2 m w rs hr hvs).mono fun e w' ⟨v, r, m', h', he, p1, p2, p3, p4⟩ => by
    obtain ⟨s, h2, v2, kp, hw, hren, hR⟩ := hk hr.closed v h' p4
    obtain ⟨q1, q2⟩ := p1.keeps p2 kp
    exact ⟨v2, r, _, h2, he, q1, q2, VRel.ren hren p3 hw fun k o' hk => by
      obtain ⟨o1, g1, g2, g3, g4, _⟩ := kp.blocks k o' hk
      exact ⟨rfl, o1, g1, g2, g3, g4⟩, hR⟩⟩

theorem VRen.id {s : Nat → Nat} {n : Nat} {v : Value} (hw : Within n v) (hs : ∀ k, k < n → s k = k) : VRen s v v := by
  induction hw with
  | prim hp => exact .prim hp
  | @ptr k off ver hk => have := VRen.ptr (s := s) (k := k) (off := off) (ver := ver); rwa [hs k hk] at this
  | @slice k off ver len cap hk => have := VRen.slice (s := s) (k := k) (off := off) (ver := ver) (len := len) (cap := cap); rwa [hs k hk] at this
  | agg _ ih => exact .agg rfl fun i h1 _ => ih i h1
  | tuple _ ih => exact .tuple rfl fun i h1 _ => ih i h1
  | func _ _ i1 i2 => exact .func rfl rfl (fun i h1 _ => i1 i h1) (fun i h1 _ => i2 i h1)
  | iface _ ih => exact .iface ih

def Closed (h : AHeap) : Prop := ∀ (k : Nat) (o : AObj), h[k]? = some o → ∀ v ∈ o.cells, Within h.length v

/-- What the call returned when it ends so and so. -/
def Ret (P : Program) (f : FuncId) (args : List Value) (h : AHeap) (v : Value) (h' : AHeap) : Prop := Tri P f args h fun v' h'' => v' = v ∧ h'' = h'

/-- The result refers to nothing new; old blocks are 'hb'. -/
theorem Tri.forget {P : Program} {f : FuncId} {args : List Value} {h hb : AHeap} {V : Value} (hl : hb.length = h.length) (hw : Within h.length V) (hc : Closed h → Closed hb)
    (t : Tri P f args h fun v h' => v = V ∧ ∃ g, h' = hb ++ g) : Ret P f args h V hb :=
  t.keeps fun hcl v1 h1 ⟨e1, g, e2⟩ => by
    subst e1 e2
    refine ⟨fun k => k, hb, v1, ⟨fun _ _ => rfl, by omega, fun _ _ _ _ e => e, fun k o hk => ?_⟩, by rw [hl]; exact hw, .id hw (fun _ _ => rfl), rfl, rfl⟩
    have hlt := (List.getElem?_eq_some_iff.1 hk).1
    refine ⟨o, by rw [List.getElem?_append_left hlt]; exact hk, rfl, rfl, rfl, fun i v hv => ?_⟩
    have := hc hcl k o hk v (List.mem_of_getElem? hv)
    exact ⟨this, v, hv, .id this (fun _ _ => rfl)⟩

/-- The result refers to one new block, of cells without references; old blocks are 'hb'. -/
theorem Tri.forget1 {P : Program} {f : FuncId} {args : List Value} {h hb : AHeap} {V : Value} {o : AObj} (hl : hb.length = h.length) (hw : Within (h.length + 1) V) (hc : Closed h → Closed hb)
    (ho : ∀ v ∈ o.cells, isPrim v = true)
    (t : Tri P f args h fun v h' => ∃ g k, h' = hb ++ g ∧ h'[k]? = some o ∧ h.length ≤ k ∧ VRen (fun j => if j < h.length then j else k) V v) : Ret P f args h V (hb ++ [o]) :=
  t.keeps fun hcl v1 h1 ⟨g, k, e1, e2, e3, e4⟩ => by
    subst e1
    refine ⟨fun j => if j < h.length then j else k, hb ++ [o], V, ⟨fun j hj => by simp [hj], by simp; omega, fun i j hi hj he => ?_, fun j x hj => ?_⟩, by simpa [hl] using hw, e4, rfl, rfl⟩
    · simp only [List.length_append, List.length_singleton] at hi hj
      split at he <;> split at he <;> omega
    · rcases lookup_push hj with ⟨h1, h2⟩ | ⟨h1, h2⟩
      · rw [hl] at h1
        refine ⟨x, by simp only [h1, if_true]; rw [List.getElem?_append_left (by omega)]; exact h2, rfl, rfl, rfl, fun i v hv => ?_⟩
        have := hc hcl j x h2 v (List.mem_of_getElem? hv)
        exact ⟨this.mono (by simp), v, hv, .id this (fun q hq => by simp only [hl] at hq; simp [hq])⟩
      · subst h2
        rw [hl] at h1
        refine ⟨x, by subst h1; simpa using e2, rfl, rfl, rfl, fun i v hv => ?_⟩
        have := ho v (List.mem_of_getElem? hv)
        exact ⟨.prim this, v, hv, .prim this⟩

end Go.Am
