/-
  The abstract heap: lists of lists that are appended to; copies of empty lists. General: no program is named.
-/
import Derived.Test.YtnfefjofojmokaaAmLib17
namespace Go.Am
set_option linter.unusedSimpArgs false
set_option linter.unusedVariables false

/-- A nil slice that is returned stands for an empty block of one's own, too. -/
theorem Tri.ghost {P : Program} {f : FuncId} {args : List Value} {h : AHeap} {R R' : Value → AHeap → Prop} (t : Tri P f args h R)
    (hR : ∀ v h', R v h' → R' v h' ∨ (v = .slice none 0 0 ∧ R' (sl h'.length 0) (h' ++ [lst []]))) : Tri P f args h R' :=
  ⟨t.1, fun m w rs hr hvs => (t.2 m w rs hr hvs).mono fun e w' ⟨v, r, m', h', he, p1, p2, p3, p4⟩ => by
    rcases hR v h' p4 with h1 | ⟨rfl, h1⟩
    · exact ⟨v, r, m', h', he, p1, p2, p3, h1⟩
    · have hr0 : r = .slice none 0 0 := p3.nil_inv
      subst hr0
      have mold : ∀ {k}, k < h'.length → m'.push h'.length ⟨0, 0, 0⟩ k = m' k := fun {k} hk => by simp [Map.push, Nat.ne_of_lt hk]
      have ex : Ext m' h' (m'.push h'.length ⟨0, 0, 0⟩) (h' ++ [lst []]) := fun k x hk => by
        have hlt := (List.getElem?_eq_some_iff.1 hk).1
        exact ⟨x, by rw [List.getElem?_append_left hlt]; exact hk, Nat.le_refl _, rfl, rfl, fun l1 hl => ⟨l1, by rw [mold hlt]; exact hl, fun _ => rfl⟩⟩
      have rel : Rel (m'.push h'.length ⟨0, 0, 0⟩) (h' ++ [lst []]) w' := by
        refine ⟨fun k o l1 hk hl hp => ?_, fun k1 k2 o1 o2 l1 l2 g1 g2 e1 e2 hne hm hp1 hp2 => ?_, fun k o hk v hv => ?_⟩
        · rcases lookup_push hk with ⟨h1, h2⟩ | ⟨rfl, rfl⟩
          · rw [mold h1] at hl
            obtain ⟨c, ty, fz, hb, hc, hm⟩ := p1.holds k o l1 h2 hl hp
            exact ⟨c, ty, fz, hb, fun i hi => by obtain ⟨r, r1, r2⟩ := hc i hi; exact ⟨r, r1, r2.mono ex⟩, hm⟩
          · simp [lst] at hp
        · rcases lookup_push g1 with ⟨a1, a2⟩ | ⟨rfl, rfl⟩
          · rcases lookup_push g2 with ⟨b1, b2⟩ | ⟨rfl, rfl⟩
            · rw [mold a1] at e1; rw [mold b1] at e2
              exact p1.sep k1 k2 o1 o2 l1 l2 a2 b2 e1 e2 hne hm hp1 hp2
            · simp [lst] at hp2
          · simp [lst] at hp1
        · rcases lookup_push hk with ⟨h1, h2⟩ | ⟨rfl, rfl⟩
          · exact (p1.closed k o h2 v hv).mono (by simp)
          · simp [lst] at hv
      have st : Step m h w (m'.push h'.length ⟨0, 0, 0⟩) (h' ++ [lst []]) w' := by
        refine p2.trans ⟨fun k o ho => ?_, Nat.le_refl _, rfl, rfl, rfl, fun _ _ _ => rfl, fun k o l hk hl hp => ?_⟩
        · have hlt := (List.getElem?_eq_some_iff.1 ho).1
          exact ⟨o, by rw [List.getElem?_append_left hlt]; exact ho, Nat.le_refl _, rfl, rfl, fun l hl => ⟨l, by rw [mold hlt]; exact hl, fun _ => rfl⟩, fun hn => by rw [mold hlt]; exact hn⟩
        · rcases lookup_push hk with ⟨a1, a2⟩ | ⟨rfl, rfl⟩
          · rw [mold a1] at hl
            exact .inr ⟨k, o, l, a2, hl, hp, rfl, id⟩
          · simp [lst] at hp
      exact ⟨sl h'.length 0, .slice none 0 0, _, _, he, rel, st, vrel_ghost (by simp) (by simp [Map.push]; rfl), h1⟩⟩

section
variable {P : Program} {K : Value → AHeap → Prop} {env : Env} {h : AHeap} {dst : Option Tmp} {ty : TypeId} {pos : String} {after : Array Edge} {guard : Option (Nat × Bool)}
/-- Whether an empty slice is nil is not known. -/
theorem o_anySlice {t e yt : TypeId} {x y : Operand} {v : Value} (hu : P.underlying t = some (.slice e)) (hx : aeval env x = v) (hv : Ints h v []) (hy : aeval env y = .slice none 0 0)
    (hT : K (.bool true) h) (hF : K (.bool false) h) : AOp P ⟨dst, .binOp .eql t x y yt, ty, pos, after, guard⟩ K env h := by
  rcases hv with ⟨rfl, _⟩ | ⟨k, off, ver, cap, o, rfl, g2, g3, g4, g5, g6, g7⟩
  · exact o_nilSlice hu hx hy hT
  · refine .of_run fun m w a hr ho => ?_
    have h1 := ho x (by simp [Op.operands])
    have h2 := ho y (by simp [Op.operands])
    rw [hx] at h1; rw [hy] at h2
    obtain ⟨l, hl, ad, cap', he, _⟩ := h1.slice_inv g2 g3
    have hr' : ∀ d : Nat, (Op.equalIn (d + 1) t (.slice ad ([] : List Int).length cap') (.slice none 0 0)).run P w = .ok (decide (ad = none ∧ cap' = 0)) w ∨ (Op.equalIn (d + 1) t (.slice ad ([] : List Int).length cap') (.slice none 0 0)).run P w = .ok true w ∨ (Op.equalIn (d + 1) t (.slice ad ([] : List Int).length cap') (.slice none 0 0)).run P w = .ok false w := fun d => by
      cases ad with
      | none => right; left; simp [Op.equalIn, run_underlying hu]
      | some a0 => right; right; simp [Op.equalIn, run_underlying hu]
    have : ∃ b : Bool, (Op.equalIn (9999 + 1) t (.slice ad ([] : List Int).length cap') (.slice none 0 0)).run P w = .ok b w := by
      rcases hr' 9999 with h | h | h <;> exact ⟨_, h⟩
    obtain ⟨b, hb⟩ := this
    refine ⟨.bool b, .bool b, m, h, w, ?_, hr, Step.refl, .prim rfl, by cases b; exact hF; exact hT⟩
    simp only [execOp, he, h2.nil_inv, eqGuard_at_slice, Sem.run_bind, Sem.run_pure, Result.andThen_ok, binOp, Op.equal, Op.maxDepth, hb]

theorem fillV1 (k n : Nat) : Instr.fill (fun k => some (k * 1, 1)) (Array.map (fun x => (Value.slice none 0 0).cells[x % (Value.slice none 0 0).cells.size]!) (Array.range (1 * 1))) [(0, sl k n)] = some #[sl k n] := by
  have e : Array.range (1 * 1) = #[0] := by decide
  rw [e]
  simp [Instr.fill, Value.cells]
theorem o_buildV0 {t e : TypeId} {b : Nat} (hu : P.underlying t = some (.slice e)) (hi : InfoIs P e (.slice none 0 0) 1 b) (hK : ∀ k, k = h.length → K (sl k 0) (h ++ [vls []])) :
    AOp P ⟨dst, .buildSlice t 0 #[], ty, pos, after, guard⟩ K env h := by
  obtain ⟨inf, g1, g2, g3, g4⟩ := hi.get
  refine aop_buildSlice (out := #[]) hu g1 g2 rfl (by rw [g3]; rfl) (by omega) (by omega) (by simp [Instr.fill]) (by simp) ?_
  have := hK h.length rfl
  rw [g3]; exact this
theorem o_buildV1 {t e : TypeId} {b k0 n : Nat} {x : Operand} (hu : P.underlying t = some (.slice e)) (hi : InfoIs P e (.slice none 0 0) 1 b) (hx : aeval env x = sl k0 n) (hK : ∀ k, k = h.length → K (sl k 1) (h ++ [vls [sl k0 n]])) :
    AOp P ⟨dst, .buildSlice t 1 #[(0, x)], ty, pos, after, guard⟩ K env h := by
  obtain ⟨inf, g1, g2, g3, g4⟩ := hi.get
  refine aop_buildSlice (out := #[sl k0 n]) hu g1 g2 rfl (by rw [g3]; rfl) (by omega) (by omega) (by rw [g3]; simp only [List.map_cons, List.map_nil, hx]; exact fillV1 k0 n) (by simp [g3]) ?_
  have := hK h.length rfl
  rw [g3]; exact this
theorem o_appendV1 {t e : TypeId} {s x : Operand} {k n k2 b : Nat} {us : List Value} {w : Value} {h' : AHeap} (hu : P.underlying t = some (.slice e)) (hi : InfoIs P e (.slice none 0 0) 1 b) (hb : b ≤ 100)
    (hx : aeval env s = sl k n) (ho : h[k]? = some (vls us)) (hn : us.length = n) (hy : aeval env x = sl k2 1) (ho2 : h[k2]? = some (vls [w])) (h1 : oneCellA w = true) (hle : n ≤ 10000000)
    (hs : h.set k (vls (us ++ [w])) = h') (hK : K (sl k (n + 1)) h') :
    AOp P ⟨dst, .call { callee := .builtin .append, args := #[s, x], argTypes := #[t, t] }, ty, pos, after, guard⟩ K env h := by
  obtain ⟨inf, g1, g2, g3, g4⟩ := hi.get
  have hnews : news (vls [w]) 0 (1 * (vls us).esz) = [w] := rfl
  refine aop_append (o := vls us) (o2 := vls [w]) hu g1 g2 (by rw [g3]; rfl) (by rw [g3]; rfl) (by show 0 < 1; omega) rfl hx ho hn (by show n * 1 = n; omega) rfl hy ho2 rfl (by rw [hnews]; simp [h1]) (by omega) ?_ (by omega) ?_
  · rw [g4]
    have := Nat.mul_le_mul (show n + 1 ≤ 10000001 by omega) hb
    omega
  · rw [hnews]
    subst hs
    exact hK
end

/-! ## Lists of lists whose rows lie anywhere -/
def rvals (r : Nat → Nat) (xss : List (List Int)) (s : Nat) : List Value := (List.range s).map fun i => sl (r i) (rowAt xss i).length
theorem rvals_len {r : Nat → Nat} {xss : List (List Int)} {s : Nat} : (rvals r xss s).length = s := by simp [rvals]
theorem rvals_succ {r : Nat → Nat} {xss : List (List Int)} {s : Nat} : rvals r xss (s + 1) = rvals r xss s ++ [sl (r s) (rowAt xss s).length] := by simp [rvals, List.range_succ]
theorem rvals_congr {r r' : Nat → Nat} {xss : List (List Int)} {s : Nat} (h : ∀ i, i < s → r i = r' i) : rvals r xss s = rvals r' xss s := by
  unfold rvals
  apply List.map_congr_left
  intro i hi
  rw [h i (List.mem_range.1 hi)]
theorem rvals_get {r : Nat → Nat} {xss : List (List Int)} {s i : Nat} (h : i < s) : (rvals r xss s)[i]? = some (sl (r i) (rowAt xss i).length) := by simp [rvals, List.getElem?_range h]
structure OwnS (b : Nat) (H : AHeap) (kO : Nat) (xss : List (List Int)) (s : Nat) (r : Nat → Nat) : Prop where
  out : H[kO]? = some (vls (rvals r xss s))
  low : b ≤ kO
  row : ∀ i, i < s → b ≤ r i ∧ r i ≠ kO ∧ H[r i]? = some (lst (rowAt xss i))
  inj : ∀ i j, i < s → j < s → r i = r j → i = j
theorem owns_zero {b : Nat} {H : AHeap} {kO : Nat} {xss : List (List Int)} (h : H[kO]? = some (vls [])) (hb : b ≤ kO) : OwnS b H kO xss 0 fun _ => 0 :=
  ⟨h, hb, fun i hi => by omega, fun i j hi => by omega⟩
theorem owns_step {b kO s kR : Nat} {H : AHeap} {xss : List (List Int)} {r : Nat → Nat} (o : OwnS b H kO xss s r) (hb : b ≤ H.length) (hk : kR = H.length) {t : AObj} :
    OwnS b ((H ++ [lst (rowAt xss s)] ++ [t]).set kO (vls (rvals r xss s ++ [sl kR (rowAt xss s).length]))) kO xss (s + 1) (fun i => if i = s then kR else r i) := by
  subst hk
  have hlt := (List.getElem?_eq_some_iff.1 o.out).1
  have hold : ∀ k, k < H.length → k ≠ kO → ((H ++ [lst (rowAt xss s)] ++ [t]).set kO (vls (rvals r xss s ++ [sl H.length (rowAt xss s).length])))[k]? = H[k]? := fun k hk hne => by
    rw [List.getElem?_set_ne (Ne.symm hne), List.append_assoc, List.getElem?_append_left hk]
  have hnew : ((H ++ [lst (rowAt xss s)] ++ [t]).set kO (vls (rvals r xss s ++ [sl H.length (rowAt xss s).length])))[H.length]? = some (lst (rowAt xss s)) := by
    rw [List.getElem?_set_ne (by omega), List.append_assoc, List.getElem?_append_right (Nat.le_refl _)]; simp
  refine ⟨?_, o.low, fun i hi => ?_, fun i j hi hj => ?_⟩
  · rw [List.getElem?_set_self (by simp; omega), rvals_succ]
    simp only [if_true]
    rw [rvals_congr (r := fun i => if i = s then H.length else r i) (r' := r) (fun i hi => by rw [if_neg (by omega)])]
  · by_cases e : i = s
    · subst e
      simp only [if_true]
      exact ⟨hb, by omega, hnew⟩
    · obtain ⟨h1, h2, h3⟩ := o.row i (by omega)
      simp only [if_neg e]
      exact ⟨h1, h2, by rw [hold _ (List.getElem?_eq_some_iff.1 h3).1 h2]; exact h3⟩
  · have hri : ∀ i, i < s → r i < H.length := fun i hi => (List.getElem?_eq_some_iff.1 (o.row i hi).2.2).1
    intro he
    by_cases e1 : i = s <;> by_cases e2 : j = s
    · omega
    · simp only [e1, if_true, if_neg e2] at he
      have := hri j (by omega); omega
    · simp only [e2, if_true, if_neg e1] at he
      have := hri i (by omega); omega
    · simp only [if_neg e1, if_neg e2] at he
      exact o.inj i j (by omega) (by omega) he
theorem owns_push {b kO s : Nat} {H g : AHeap} {xss : List (List Int)} {r : Nat → Nat} (o : OwnS b H kO xss s r) : OwnS b (H ++ g) kO xss s r :=
  ⟨lk_prev o.out, o.low, fun i hi => ⟨(o.row i hi).1, (o.row i hi).2.1, lk_prev (o.row i hi).2.2⟩, o.inj⟩
theorem grown_set {h H : AHeap} {k : Nat} {o : AObj} (g : Grown h H) (hk : h.length ≤ k) : Grown h (H.set k o) := by
  obtain ⟨g0, rfl⟩ := g
  rw [List.set_append_right _ _ hk]
  exact ⟨_, rfl⟩

theorem retl_of2 {P : Program} {f : FuncId} {args : List Value} {h : AHeap} {xss : List (List Int)}
    (t : Tri P f args h fun v h' => ∃ kO r, v = sl kO xss.length ∧ Grown h h' ∧ OwnS h.length h' kO xss xss.length r) : RetG P f args h (sl · xss.length) (lls · xss) :=
  t.keeps fun hcl v1 h1 ⟨kO, r, e1, ⟨g, e2⟩, o⟩ => by
    subst e1
    let s : Nat → Nat := fun j => if j < h.length then j else if j = h.length then kO else r (j - h.length - 1)
    have s1 : ∀ j, j < h.length → s j = j := fun j hj => by simp [s, hj]
    have s2 : s h.length = kO := by simp [s]
    have s3 : ∀ i, s (h.length + 1 + i) = r i := fun i => by
      simp only [s]
      rw [if_neg (by omega), if_neg (by omega)]
      congr 1; omega
    have hlen : (h ++ lls h.length xss).length = h.length + xss.length + 1 := by rw [List.length_append, lls_len]; omega
    have hlow := o.low
    refine ⟨s, h ++ lls h.length xss, sl h.length xss.length, ⟨s1, by rw [hlen]; omega, fun i j hi hj he => ?_, fun k o2 hk => ?_⟩, .slice (by rw [hlen]; omega), ?_, rfl, rfl⟩
    · rw [hlen] at hi hj
      have cls : ∀ i, i < h.length + xss.length + 1 → (i < h.length ∧ s i = i) ∨ (i = h.length ∧ s i = kO) ∨ (∃ a, a < xss.length ∧ i = h.length + 1 + a ∧ s i = r a) := fun i hi => by
        by_cases c1 : i < h.length
        · exact .inl ⟨c1, s1 i c1⟩
        · by_cases c2 : i = h.length
          · exact .inr (.inl ⟨c2, by rw [c2, s2]⟩)
          · refine .inr (.inr ⟨i - h.length - 1, by omega, by omega, ?_⟩)
            rw [← s3 (i - h.length - 1)]; congr 1; omega
      rcases cls i hi with ⟨a1, a2⟩ | ⟨a1, a2⟩ | ⟨a, a1, a3, a2⟩ <;> rcases cls j hj with ⟨b1, b2⟩ | ⟨b1, b2⟩ | ⟨c, b1, b3, b2⟩ <;> rw [a2, b2] at he
      · exact he
      · omega
      · have := (o.row c b1).1; omega
      · omega
      · omega
      · exact absurd he.symm (o.row c b1).2.1
      · have := (o.row a a1).1; omega
      · exact absurd he (o.row a a1).2.1
      · have := o.inj a c a1 b1 he; omega
    · by_cases c1 : k < h.length
      · rw [List.getElem?_append_left c1] at hk
        refine ⟨o2, by rw [s1 k c1, e2, List.getElem?_append_left c1]; exact hk, rfl, rfl, rfl, fun i v hv => ?_⟩
        have := hcl k o2 hk v (List.mem_of_getElem? hv)
        exact ⟨this.mono (by rw [hlen]; omega), v, hv, .id this s1⟩
      · by_cases c2 : k = h.length
        · subst c2
          rw [lls_outer rfl, Option.some.injEq] at hk
          subst hk
          refine ⟨vls (rvals r xss xss.length), by rw [s2]; exact o.out, by simp [vls, vrows_len, rvals_len], rfl, rfl, fun i v hv => ?_⟩
          have hv' : (vrows (h.length + 1) xss)[i]? = some v := hv
          have hi := (List.getElem?_eq_some_iff.1 hv').1
          rw [vrows_len] at hi
          rw [vrows_get hi, Option.some.injEq] at hv'
          subst hv'
          refine ⟨.slice (by rw [hlen]; omega), _, rvals_get hi, ?_⟩
          have := VRen.slice (s := s) (k := h.length + 1 + i) (off := 0) (ver := (rowAt xss i).length) (len := (rowAt xss i).length) (cap := (rowAt xss i).length)
          rwa [s3] at this
        · have hkl := (List.getElem?_eq_some_iff.1 hk).1
          rw [hlen] at hkl
          obtain ⟨a, ha, rfl⟩ : ∃ a, a < xss.length ∧ k = h.length + 1 + a := ⟨k - h.length - 1, by omega, by omega⟩
          rw [lls_row rfl ha, Option.some.injEq] at hk
          subst hk
          refine ⟨_, by rw [s3]; exact (o.row a ha).2.2, rfl, rfl, rfl, fun i v hv => ?_⟩
          have := lst_prim v (List.mem_of_getElem? hv)
          exact ⟨.prim this, v, hv, .prim this⟩
    · have := VRen.slice (s := s) (k := h.length) (off := 0) (ver := xss.length) (len := xss.length) (cap := xss.length)
      rwa [s2] at this

theorem ghost_fin {h : AHeap} : ∀ (v : Value) (h' : AHeap), ((v = .slice none 0 0 ∧ Grown h h') ∨ (∃ k, v = sl k 0 ∧ Grown h h' ∧ h'[k]? = some (lst []) ∧ h.length ≤ k)) →
    (∃ k, v = (fun k => sl k 0) k ∧ Grown h h' ∧ h'[k]? = some (lst []) ∧ h.length ≤ k) ∨ (v = .slice none 0 0 ∧ ∃ k, sl h'.length 0 = (fun k => sl k 0) k ∧ Grown h (h' ++ [lst []]) ∧ (h' ++ [lst []])[k]? = some (lst []) ∧ h.length ≤ k) := fun v h' hq => by
  rcases hq with ⟨e, g⟩ | hq
  · exact .inr ⟨e, h'.length, rfl, g.push _, lk_last rfl, g.len⟩
  · exact .inl hq

section
variable {P : Program} {K : Value → AHeap → Prop} {env : Env} {h : AHeap} {dst : Option Tmp} {ty : TypeId} {pos : String} {after : Array Edge} {guard : Option (Nat × Bool)}
theorem o_buildSS {t : TypeId} {f0 f1 : Field} {z0 z1 y0 y1 : Value} {b0 b1 s b k1 n1 k2 n2 : Nat} {x y : Operand} (hu : P.underlying t = some (.struct #[f0, f1])) (ho : f0.offset = 0) (ho1 : f1.offset = 1) (h0 : InfoIs P f0.type z0 1 b0) (h1 : InfoIs P f1.type z1 1 b1)
    (hi : InfoIs P t (.agg #[y0, y1]) s b) (hc : isConst (.agg #[y0, y1]) = true) (hx : aeval env x = sl k1 n1) (hy : aeval env y = sl k2 n2) (hK : K (.agg #[sl k1 n1, sl k2 n2]) h) : AOp P ⟨dst, .build t #[(0, x), (1, y)], ty, pos, after, guard⟩ K env h := by
  obtain ⟨i, g1, g2, _, _⟩ := hi.get
  refine aop_build (out := #[sl k1 n1, sl k2 n2]) (fun _ => 1) hu g1 g2 hc (build2_sz h0 h1) ?_ hK
  simp [Instr.fill, ho, ho1, hx, hy, Value.cells]
end

/-! ## Results with lists of lists, or none -/
def OptG (ok : Bool) (V : Nat → Value) (gs : Nat → List AObj) (N : Value) (h : AHeap) (v : Value) (h' : AHeap) : Prop :=
  (ok = true ∧ ∃ g0 g1 k, h' = h ++ g0 ++ gs k ++ g1 ∧ k = h.length + g0.length ∧ v = V k) ∨ (ok = false ∧ v = N ∧ Grown h h')
def RetOG (P : Program) (f : FuncId) (args : List Value) (h : AHeap) (ok : Bool) (V : Nat → Value) (gs : Nat → List AObj) (N : Value) : Prop :=
  (ok = true → RetG P f args h V gs) ∧ (ok = false → Ret P f args h N h)
abbrev wt2 (n m k : Nat) : Value := .tuple #[ws2 n m k, .bool true]
abbrev NW2 : Value := .tuple #[.agg #[.slice none 0 0, .slice none 0 0], .bool false]
theorem retog2_of {P : Program} {f : FuncId} {args : List Value} {h : AHeap} {ok : Bool} {xss yss : List (List Int)} (t : Tri P f args h (OptG ok (wt2 xss.length yss.length) (fun k => lls2 k xss yss) NW2 h)) :
    RetOG P f args h ok (wt2 xss.length yss.length) (fun k => lls2 k xss yss) NW2 :=
  ⟨fun e => retg_of (gs := fun k => lls2 k xss yss) (ShG.app ShG.lls ShG.lls (fun _ => lls_len)) (.tup2 ws_lls2 (.prim rfl))
    (fun d => .tup2 (.agg2 (shf_sl (Nat.le_refl _)) (by
      have := shf_sl (t := h.length) (d := d) (n := yss.length) (k := h.length + (xss.length + 1)) (by omega)
      rwa [show h.length + (xss.length + 1) + d = h.length + d + (xss.length + 1) by omega] at this)) (.prim rfl))
    (t.mono fun v h' q => by
      rcases q with ⟨_, q⟩ | ⟨e2, _⟩
      · exact q
      · rw [e] at e2; cases e2),
   fun e => ret_of (.tup2 (.agg2 (.prim rfl) (.prim rfl)) (.prim rfl)) (t.mono fun v h' q => by
      rcases q with ⟨e2, _⟩ | ⟨_, q⟩
      · rw [e] at e2; cases e2
      · exact q)⟩
theorem RetG.toT2 {P : Program} {K : Value → AHeap → Prop} {h : AHeap} {f : FuncId} {vs : List Value} {xss yss : List (List Int)} (r : RetG P f vs h (wt2 xss.length yss.length) (fun k => lls2 k xss yss))
    (hK : ∀ k, k = h.length → (Lists (h ++ lls2 k xss yss) (sl k xss.length) xss ∧ Lists (h ++ lls2 k xss yss) (sl (k + (xss.length + 1)) yss.length) yss) → K (wt2 xss.length yss.length k) (h ++ lls2 k xss yss)) : Tri P f vs h K :=
  r.toG fun k hk => hK k hk ⟨lls2_left hk rfl, lls2_right hk rfl rfl⟩
theorem regroup2 {h : AHeap} {a b : AObj} {k : Nat} {xss yss : List (List Int)} : h ++ [a] ++ [b] ++ lls k xss ++ lls (k + (xss.length + 1)) yss = h ++ [a, b] ++ lls2 k xss yss ++ [] := by simp [lls2]
theorem within_nw2 {n : Nat} : Within n NW2 := .tup2 (.agg2 (.prim rfl) (.prim rfl)) (.prim rfl)

/-! ## Marks of two lists of lists -/
theorem spl_l2 {h : AHeap} {k : Nat} {xss xss' yss : List (List Int)} (e : xss'.length = xss.length) : Spl h k xss xss' (h ++ lls2 k xss yss) (h ++ lls2 k xss' yss) :=
  ⟨lls (k + (xss.length + 1)) yss, by simp only [lls2, List.append_assoc], by simp only [lls2, List.append_assoc, e]⟩
theorem spl_r2 {h : AHeap} {k : Nat} {xss yss yss' : List (List Int)} : Spl (h ++ lls k xss) (k + (xss.length + 1)) yss yss' (h ++ lls2 k xss yss) (h ++ lls2 k xss yss') :=
  ⟨[], by simp only [lls2, List.append_assoc, List.append_nil], by simp only [lls2, List.append_assoc, List.append_nil]⟩
def Spl2 (h : AHeap) (k : Nat) (xss yss xss' yss' : List (List Int)) (X X' : AHeap) : Prop := ∃ g, X = h ++ lls2 k xss yss ++ g ∧ X' = h ++ lls2 k xss' yss' ++ g
theorem spl2_here {h : AHeap} {k : Nat} {xss yss xss' yss' : List (List Int)} : Spl2 h k xss yss xss' yss' (h ++ lls2 k xss yss) (h ++ lls2 k xss' yss') := ⟨[], by simp, by simp⟩
theorem spl2_more {h : AHeap} {k : Nat} {xss yss xss' yss' : List (List Int)} {X X' t : AHeap} (s : Spl2 h k xss yss xss' yss' X X') : Spl2 h k xss yss xss' yss' (X ++ t) (X' ++ t) := by
  obtain ⟨g, rfl, rfl⟩ := s
  exact ⟨g ++ t, by simp only [List.append_assoc], by simp only [List.append_assoc]⟩
theorem mark_spl2 {P : Program} {f : FuncId} {a : List Value} {v : Value} {h X X' : AHeap} {k : Nat} {xss yss xss' yss' : List (List Int)} {B : AObj} (s : Spl2 h k xss yss xss' yss' X X') (r : ∀ g, Ret P f a (h ++ lls2 k xss yss ++ g) v (h ++ lls2 k xss' yss' ++ g ++ [B])) : Ret P f a X v (X' ++ [B]) := by
  obtain ⟨g, rfl, rfl⟩ := s
  exact r g
theorem markL_row : ∀ {c : Int} {xss : List (List Int)} {s : Nat}, s < xss.length → rowAt (markL c xss) s = upto (c + total (xss.take s)) (rowAt xss s).length
  | c, x :: xs, 0, _ => by simp [markL, rowAt, total]
  | c, x :: xs, s + 1, h => by
    have := markL_row (c := c + x.length) (xss := xs) (s := s) (by simpa using h)
    have e1 : rowAt (markL c (x :: xs)) (s + 1) = rowAt (markL (c + x.length) xs) s := by simp [markL, rowAt]
    have e2 : rowAt (x :: xs) (s + 1) = rowAt xs s := by simp [rowAt]
    rw [e1, this, e2]
    simp only [List.take_succ_cons, total, Int.natCast_add, Int.add_assoc]
end Go.Am
