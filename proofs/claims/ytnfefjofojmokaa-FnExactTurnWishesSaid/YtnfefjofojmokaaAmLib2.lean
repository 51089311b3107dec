/-
  The abstract heap: lists that are built place by place, and the plain laws of the chapters. General: no program is named.
-/
import Derived.Test.YtnfefjofojmokaaAmLib
import Derived.Test.YtnfefjofojmokaaAmSink2
namespace Go.Am
set_option linter.unusedSimpArgs false
set_option linter.unusedVariables false

/-! ## Lists that are built -/
/-- The first s values, then zeros. -/
def fillZ (f : Nat → Int) (n s : Nat) : List Int := (List.range s).map f ++ List.replicate (n - s) 0
/-- The first s values, then a, then zeros. -/
def fillA (f : Nat → Int) (n s : Nat) (a : Int) : List Int := (fillZ f n s).set s a
theorem fillZ_len {f : Nat → Int} {n s : Nat} (h : s ≤ n) : (fillZ f n s).length = n := by simp [fillZ]; omega
theorem fillA_len {f : Nat → Int} {n s : Nat} {a : Int} (h : s ≤ n) : (fillA f n s a).length = n := by rw [fillA, List.length_set, fillZ_len h]
theorem fillZ_zero {f : Nat → Int} {n : Nat} : fillZ f n 0 = List.replicate n 0 := by simp [fillZ]
theorem fillZ_full {f : Nat → Int} {n s : Nat} (h : s = n) : fillZ f n s = (List.range n).map f := by subst h; simp [fillZ]
theorem fillZ_set {f : Nat → Int} {n s : Nat} (h : s < n) (a : Int) : (fillZ f n s).set s a = (List.range s).map f ++ a :: List.replicate (n - (s + 1)) 0 := by
  have h2 : n - s = (n - (s + 1)) + 1 := by omega
  rw [fillZ, List.set_append_right _ _ (by simp), h2, List.replicate_succ]
  simp
theorem fillA_done {f : Nat → Int} {n s : Nat} (h : s < n) : fillA f n s (f s) = fillZ f n (s + 1) := by
  rw [fillA, fillZ_set h, fillZ, List.range_succ, List.map_append, List.append_assoc]; rfl
theorem fillA_zero {f : Nat → Int} {n s : Nat} (h : s < n) : fillA f n s 0 = fillZ f n s := by
  have h2 : n - s = (n - (s + 1)) + 1 := by omega
  rw [fillA, fillZ_set h, fillZ, h2, List.replicate_succ]
theorem fillA_set {f : Nat → Int} {n s : Nat} {a b : Int} : (fillA f n s a).set s b = fillA f n s b := by rw [fillA, fillA, List.set_set]
theorem fillA_get {f : Nat → Int} {n s : Nat} {a : Int} (h : s < n) : (fillA f n s a).getD s 0 = a := by
  rw [fillA, List.getD_eq_getElem?_getD, List.getElem?_set_self (by rw [fillZ_len (by omega)]; exact h)]; rfl
theorem map_step {f : Nat → Int} {s : Nat} : (List.range s).map f ++ [f s] = (List.range (s + 1)).map f := by rw [List.range_succ, List.map_append]; rfl
theorem map_len {f : Nat → Int} {s : Nat} : ((List.range s).map f).length = s := by simp
theorem map_get {f : Nat → Int} {s n : Nat} (h : s < n) : ((List.range n).map f).getD s 0 = f s := by
  rw [List.getD_eq_getElem?_getD, List.getElem?_map, List.getElem?_range h]; rfl

theorem Grown.eq {h h' g : AHeap} (p : Grown h h') (e : g = h) : Grown g h' := by subst e; exact p

/-! ## A nil slice in a variable, seen as an empty list -/
theorem vrel_ghost {m : Map} {h : AHeap} {l : Loc} {k : Nat} (ho : h[k]? = some (lst [])) (hm : m k = some l) : VRel m h (sl k 0) (.slice none 0 0) :=
  .slice ho (Nat.zero_le _) ⟨_, _, _, rfl⟩ fun _ => ⟨l, hm, none, 0, rfl, Nat.le_refl _, Nat.le_refl _, rfl, fun hlt => absurd hlt (by simp [lst]), fun _ => ⟨fun hlt => absurd hlt (by simp [lst]), fun _ => rfl⟩⟩
def GCells (k : Nat) (cs cs' : List Value) : Prop := cs.length = cs'.length ∧ ∀ i (h1 : i < cs.length) (h2 : i < cs'.length), cs'[i] = cs[i] ∨ (cs[i] = .slice none 0 0 ∧ cs'[i] = sl k 0)
theorem gcells2 {k : Nat} {a : Value} : GCells k [a, .slice none 0 0] [a, sl k 0] := ⟨rfl, fun i h1 h2 => by
  match i, h1 with
  | 0, _ => exact .inl rfl
  | 1, _ => exact .inr ⟨rfl, rfl⟩⟩
theorem gcells1 {k : Nat} : GCells k [.slice none 0 0] [sl k 0] := ⟨rfl, fun i h1 h2 => by
  match i, h1 with
  | 0, _ => exact .inr ⟨rfl, rfl⟩⟩
theorem awp_ghost {P : Program} {n : Nat} {c : Code} {Q : Exit → Env → AHeap → Prop} {env : Env} {h h2 : AHeap} {k kw : Nat} {cs cs' : List Value} (hk : k = h.length) (ho : h[kw]? = some ⟨cs, true, 1⟩)
    (hs : h.set kw ⟨cs', true, 1⟩ = h2) (hc : GCells k cs cs') (hw : AWp P n c Q env (h2 ++ [lst []])) : AWp P n c Q env h := by
  intro m w a hr he
  subst hk hs
  obtain ⟨hkw, _⟩ := List.getElem?_eq_some_iff.1 ho
  have hlen : (h.set kw ⟨cs', true, 1⟩).length = h.length := by simp
  have mold : ∀ {j}, j < h.length → m.push h.length ⟨0, 0, 0⟩ j = m j := fun {j} hj => by simp [Map.push, Nat.ne_of_lt hj]
  have mnew : m.push h.length ⟨0, 0, 0⟩ h.length = some ⟨0, 0, 0⟩ := by simp [Map.push]
  have gnew : (h.set kw ⟨cs', true, 1⟩ ++ [lst []])[h.length]? = some (lst []) := lk_last hlen.symm
  have gkw : (h.set kw ⟨cs', true, 1⟩ ++ [lst []])[kw]? = some ⟨cs', true, 1⟩ := lk_prev (lk_set hkw)
  have gold : ∀ {j x}, j ≠ kw → h[j]? = some x → (h.set kw ⟨cs', true, 1⟩ ++ [lst []])[j]? = some x := fun {j x} hj hx =>
    lk_prev (by rw [List.getElem?_set_ne (fun e => hj e.symm)]; exact hx)
  have ginv : ∀ {j x}, (h.set kw ⟨cs', true, 1⟩ ++ [lst []])[j]? = some x → (j = h.length ∧ x = lst []) ∨ (j = kw ∧ x = ⟨cs', true, 1⟩) ∨ (j ≠ kw ∧ j < h.length ∧ h[j]? = some x) := fun {j x} hx => by
    rcases lookup_push hx with ⟨h1, h2⟩ | ⟨h1, h2⟩
    · rw [hlen] at h1
      by_cases e : j = kw
      · subst e
        rw [lk_set hkw] at h2
        cases h2
        exact .inr (.inl ⟨rfl, rfl⟩)
      · rw [List.getElem?_set_ne (fun q => e q.symm)] at h2
        exact .inr (.inr ⟨e, h1, h2⟩)
    · exact .inl ⟨h1.trans hlen, h2⟩
  have ex : Ext m h (m.push h.length ⟨0, 0, 0⟩) (h.set kw ⟨cs', true, 1⟩ ++ [lst []]) := fun j x hx => by
    have hlt := (List.getElem?_eq_some_iff.1 hx).1
    by_cases e : j = kw
    · subst e
      rw [ho] at hx; cases hx
      exact ⟨_, gkw, Nat.le_of_eq hc.1, rfl, rfl, fun l hl => ⟨l, by rw [mold hlt]; exact hl, fun _ => rfl⟩⟩
    · exact ⟨x, gold e hx, Nat.le_refl _, rfl, rfl, fun l hl => ⟨l, by rw [mold hlt]; exact hl, fun _ => rfl⟩⟩
  have rel : Rel (m.push h.length ⟨0, 0, 0⟩) (h.set kw ⟨cs', true, 1⟩ ++ [lst []]) w := by
    refine ⟨fun j x l hx hl hp => ?_, fun j1 j2 x1 x2 l1 l2 g1 g2 e1 e2 hne hm p1 p2 => ?_, fun j x hx v hv => ?_⟩
    · rcases ginv hx with ⟨_, rfl⟩ | ⟨rfl, rfl⟩ | ⟨h1, h2, h3⟩
      · simp [lst] at hp
      · rw [mold hkw] at hl
        obtain ⟨c0, ty0, fz, hb, hcc, hm⟩ := hr.holds _ _ _ ho hl (by rw [show (⟨cs, true, 1⟩ : AObj).cells.length = cs'.length from hc.1]; exact hp)
        refine ⟨c0, ty0, fz, hb, fun i hi => ?_, hm⟩
        have hi' : i < cs.length := by rw [hc.1]; exact hi
        obtain ⟨r, r1, r2⟩ := hcc i hi'
        refine ⟨r, r1, ?_⟩
        rcases hc.2 i hi' hi with e | ⟨e1, e2⟩
        · show VRel _ _ cs'[i] r
          rw [e]; exact r2.mono ex
        · show VRel _ _ cs'[i] r
          rw [e2]
          have r3 : VRel m h cs[i] r := r2
          rw [e1] at r3
          rw [r3.nil_inv]
          exact vrel_ghost gnew mnew
      · rw [mold h2] at hl
        obtain ⟨c0, ty0, fz, hb, hcc, hm⟩ := hr.holds _ _ _ h3 hl hp
        exact ⟨c0, ty0, fz, hb, fun i hi => by obtain ⟨r, r1, r2⟩ := hcc i hi; exact ⟨r, r1, r2.mono ex⟩, hm⟩
    · have back : ∀ {j x l}, (h.set kw ⟨cs', true, 1⟩ ++ [lst []])[j]? = some x → (m.push h.length ⟨0, 0, 0⟩) j = some l → 0 < x.cells.length → ∃ y, h[j]? = some y ∧ m j = some l ∧ y.mine = x.mine ∧ 0 < y.cells.length := fun {j x l} hx hl hp => by
        rcases ginv hx with ⟨_, rfl⟩ | ⟨rfl, rfl⟩ | ⟨h1, h2, h3⟩
        · simp [lst] at hp
        · rw [mold hkw] at hl
          exact ⟨_, ho, hl, rfl, by rw [show (⟨cs, true, 1⟩ : AObj).cells.length = cs'.length from hc.1]; exact hp⟩
        · rw [mold h2] at hl
          exact ⟨_, h3, hl, rfl, hp⟩
      obtain ⟨y1, a1, a2, a3, a4⟩ := back g1 e1 p1
      obtain ⟨y2, b1, b2, b3, b4⟩ := back g2 e2 p2
      exact hr.sep j1 j2 y1 y2 l1 l2 a1 b1 a2 b2 hne (a3.trans hm) a4 b4
    · have hl2 : (h.set kw ⟨cs', true, 1⟩ ++ [lst []]).length = h.length + 1 := by simp
      rcases ginv hx with ⟨_, rfl⟩ | ⟨rfl, rfl⟩ | ⟨h1, h2, h3⟩
      · simp [lst] at hv
      · obtain ⟨i, hi, rfl⟩ := List.getElem_of_mem hv
        have hi' : i < cs.length := by rw [hc.1]; exact hi
        rcases hc.2 i hi' hi with e | ⟨e1, e2⟩
        · show Within _ cs'[i]
          rw [e]
          exact (hr.closed _ _ ho _ (List.getElem_mem hi')).mono (by omega)
        · show Within _ cs'[i]
          rw [e2]
          exact .slice (by omega)
      · exact (hr.closed _ _ h3 v hv).mono (by omega)
  have st : Step m h w (m.push h.length ⟨0, 0, 0⟩) (h.set kw ⟨cs', true, 1⟩ ++ [lst []]) w := by
    refine ⟨fun j x hx => ?_, Nat.le_refl _, rfl, rfl, rfl, fun _ _ _ => rfl, fun j x l hx hl hp => ?_⟩
    · obtain ⟨x', h1, h2, h3, h4, h5⟩ := ex j x hx
      have hlt := (List.getElem?_eq_some_iff.1 hx).1
      exact ⟨x', h1, h2, h3, h4, h5, fun hn => by rw [mold hlt]; exact hn⟩
    · right
      rcases ginv hx with ⟨_, rfl⟩ | ⟨rfl, rfl⟩ | ⟨h1, h2, h3⟩
      · simp [lst] at hp
      · rw [mold hkw] at hl
        exact ⟨_, _, _, ho, hl, by rw [show (⟨cs, true, 1⟩ : AObj).cells.length = cs'.length from hc.1]; exact hp, rfl, id⟩
      · rw [mold h2] at hl
        exact ⟨_, _, _, h3, hl, hp, rfl, id⟩
  exact wp_mono (hw _ w a rel (he.mono ex)) fun _ _ _ ⟨m', env', h', p1, p2, p3, p4⟩ => ⟨m', env', h', p1, st.trans p2, p3, p4⟩

/-! ## Functions with a result that may fail -/
def OptQ (ok : Bool) (V : Nat → Value) (o : AObj) (N : Value) (h : AHeap) (v : Value) (h' : AHeap) : Prop :=
  (ok = true ∧ ∃ k, v = V k ∧ Grown h h' ∧ h'[k]? = some o ∧ h.length ≤ k) ∨ (ok = false ∧ v = N ∧ Grown h h')
def RetO (P : Program) (f : FuncId) (args : List Value) (h : AHeap) (ok : Bool) (V : Nat → Value) (o : AObj) (N : Value) : Prop :=
  (ok = true → RetN P f args h V o) ∧ (ok = false → Ret P f args h N h)
theorem reto_of {P : Program} {f : FuncId} {args : List Value} {h : AHeap} {ok : Bool} {V : Nat → Value} {o : AObj} {N : Value} (hV : ∀ (s : Nat → Nat) (k : Nat), VRen s (V k) (V (s k))) (hW : Within (h.length + 1) (V h.length)) (ho : ∀ v ∈ o.cells, isPrim v = true)
    (hN : Within h.length N) (t : Tri P f args h (OptQ ok V o N h)) : RetO P f args h ok V o N :=
  ⟨fun e => ret1_of hV hW ho (t.mono fun v h' q => by
      rcases q with ⟨_, q⟩ | ⟨e2, _⟩
      · exact q
      · rw [e] at e2; cases e2),
   fun e => ret_of hN (t.mono fun v h' q => by
      rcases q with ⟨e2, _⟩ | ⟨_, q⟩
      · rw [e] at e2; cases e2
      · exact q)⟩
theorem within_nilb {n : Nat} : Within n (.tuple #[.slice none 0 0, .bool false]) := within_tup2 (.prim rfl) (.prim rfl)
theorem within_nilw {n : Nat} : Within n (.tuple #[.agg #[i64 0, .slice none 0 0], .bool false]) := within_tup2 (.agg2 (.prim rfl) (.prim rfl)) (.prim rfl)
/-- (list, true): a new list. -/
abbrev VL (n : Nat) (k : Nat) : Value := .tuple #[sl k n, .bool true]
/-- (worths, true): a new list in worths. -/
abbrev VW (p : Int) (n : Nat) (k : Nat) : Value := .tuple #[.agg #[i64 p, sl k n], .bool true]
abbrev NL : Value := .tuple #[.slice none 0 0, .bool false]
abbrev NW : Value := .tuple #[.agg #[i64 0, .slice none 0 0], .bool false]
theorem retL_of {P : Program} {f : FuncId} {args : List Value} {h : AHeap} {ok : Bool} {n : Nat} {l : List Int} (t : Tri P f args h (OptQ ok (VL n) (lst l) NL h)) : RetO P f args h ok (VL n) (lst l) NL :=
  reto_of (fun _ _ => .tup2 .slice (.prim rfl)) (.tup2 (.slice (by omega)) (.prim rfl)) lst_prim within_nilb t
theorem retW_of {P : Program} {f : FuncId} {args : List Value} {h : AHeap} {ok : Bool} {p : Int} {n : Nat} {l : List Int} (t : Tri P f args h (OptQ ok (VW p n) (lst l) NW h)) : RetO P f args h ok (VW p n) (lst l) NW :=
  reto_of (fun _ _ => .tup2 (.agg2 (.prim rfl) .slice) (.prim rfl)) (.tup2 (.agg2 (.prim rfl) (.slice (by omega))) (.prim rfl)) lst_prim within_nilw t
theorem held_upto {c : Int} {n : Nat} : held c (upto c n) = c + n := by rw [held, upto_len, if_pos rfl]

section
variable {P : Program} {K : Value → AHeap → Prop} {env : Env} {h : AHeap} {dst : Option Tmp} {ty : TypeId} {pos : String} {after : Array Edge} {guard : Option (Nat × Bool)}
theorem o_makeZ {t e : TypeId} {x y : Operand} {b : Nat} {l : Int} {k1 k2 : IntKind} (hu : P.underlying t = some (.slice e)) (hi : InfoIs P e (i64 0) 1 b)
    (hx : aeval env x = .int k1 l) (hy : aeval env y = .int k2 l) (hb : 0 ≤ l ∧ b * l ≤ 281474976710656) (h63 : l ≤ 9223372036854775807)
    (hK : ∀ k, k = h.length → K (sl k l.toNat) (h ++ [lst (List.replicate l.toNat 0)])) : AOp P ⟨dst, .makeSlice t x y, ty, pos, after, guard⟩ K env h := by
  obtain ⟨n, rfl⟩ := Int.eq_ofNat_of_zero_le hb.1
  have h1 : ((n : Int)).toNat = n := Int.toNat_natCast n
  rw [h1] at hK
  have e1 : (b : Int) * (n : Int) = ((b * n : Nat) : Int) := (Int.natCast_mul b n).symm
  have e2 := hb.2
  rw [e1] at e2
  exact o_makeI hu hi hx hy (by omega) (by omega) hK
end

theorem ints_nil {h : AHeap} : Ints h (.slice none 0 0) [] := .inl ⟨rfl, rfl⟩
theorem closed_to {h h' : AHeap} {k : Nat} {o : AObj} (hc : Closed h) (ho : ∀ v ∈ o.cells, isPrim v = true) (e : h.set k o = h') : Closed h' := by subst e; exact hc.set ho

section
variable {P : Program} {K : Value → AHeap → Prop} {env : Env} {h : AHeap} {dst : Option Tmp} {ty : TypeId} {pos : String} {after : Array Edge} {guard : Option (Nat × Bool)}
/-- A list with an element is not nil. -/
theorem o_someSlice {t e yt : TypeId} {x y : Operand} {v : Value} {xs : List Int} (hu : P.underlying t = some (.slice e)) (hx : aeval env x = v) (hv : Ints h v xs) (h0 : 0 < xs.length) (hy : aeval env y = .slice none 0 0)
    (hK : K (.bool false) h) : AOp P ⟨dst, .binOp .eql t x y yt, ty, pos, after, guard⟩ K env h :=
  .of_pure (.bool false) (fun m w a _ ho => by
    have h1 := ho x (by simp [Op.operands])
    have h2 := ho y (by simp [Op.operands])
    rw [hx] at h1; rw [hy] at h2
    rcases hv with ⟨rfl, rfl⟩ | ⟨k, off, ver, cap, o, rfl, g2, g3, g4, g5, g6, g7⟩
    · simp at h0
    · obtain ⟨l, hl, b, cap', he, c1, c2, c3, c4, c5⟩ := h1.slice_inv g2 g3
      have hlt := (List.getElem?_eq_some_iff.1 (g7 0 _ (List.getElem?_eq_getElem h0))).1
      have hb := c4 (by omega)
      subst hb
      refine ⟨.bool false, ?_, .prim rfl⟩
      have hr : ∀ d : Nat, (Op.equalIn (d + 1) t (.slice (some ⟨l.block, l.base + off, none⟩) xs.length cap') (.slice none 0 0)).run P w = .ok false w := fun d => by
        simp [Op.equalIn, run_underlying hu]
      simp only [execOp, he, h2.nil_inv, eqGuard_at_slice, Sem.run_bind, Sem.run_pure, Result.andThen_ok, binOp, Op.equal, Op.maxDepth, hr 9999]) hK
end

section
variable {P : Program} {K : Value → AHeap → Prop} {env : Env} {h : AHeap} {dst : Option Tmp} {ty : TypeId} {pos : String} {after : Array Edge} {guard : Option (Nat × Bool)}
/-- A struct's literal of two fields. -/
theorem build2_sz {f0 f1 : Field} {z0 z1 : Value} {b0 b1 : Nat} (h0 : InfoIs P f0.type z0 1 b0) (h1 : InfoIs P f1.type z1 1 b1) : ∀ f ∈ (#[f0, f1] : Array Field).toList, ∃ i, P.info? f.type = some i ∧ i.size = (fun _ => 1 : Nat → Nat) f.type := fun f hf => by
  simp only [List.mem_cons, List.not_mem_nil, or_false] at hf
  rcases hf with rfl | rfl
  · obtain ⟨i, g1, _, g3, _⟩ := h0.get; exact ⟨i, g1, g3⟩
  · obtain ⟨i, g1, _, g3, _⟩ := h1.get; exact ⟨i, g1, g3⟩
theorem o_build20 {t : TypeId} {f0 f1 : Field} {z0 z1 y0 y1 : Value} {b0 b1 s b : Nat} (hu : P.underlying t = some (.struct #[f0, f1])) (h0 : InfoIs P f0.type z0 1 b0) (h1 : InfoIs P f1.type z1 1 b1)
    (hi : InfoIs P t (.agg #[y0, y1]) s b) (hc : isConst (.agg #[y0, y1]) = true) (hK : K (.agg #[y0, y1]) h) : AOp P ⟨dst, .build t #[], ty, pos, after, guard⟩ K env h := by
  obtain ⟨i, g1, g2, g3, g4⟩ := hi.get
  exact aop_build (fun _ => 1) hu g1 g2 hc (build2_sz h0 h1) (out := #[y0, y1]) (by simp [Instr.fill, Value.cells]) hK
theorem o_build21 {t : TypeId} {f0 f1 : Field} {z0 z1 y0 y1 : Value} {b0 b1 s b : Nat} {x : Operand} {p : Int} (hu : P.underlying t = some (.struct #[f0, f1])) (ho : f0.offset = 0) (h0 : InfoIs P f0.type z0 1 b0) (h1 : InfoIs P f1.type z1 1 b1)
    (hi : InfoIs P t (.agg #[y0, y1]) s b) (hc : isConst (.agg #[y0, y1]) = true) (hx : aeval env x = i64 p) (hK : K (.agg #[i64 p, y1]) h) : AOp P ⟨dst, .build t #[(0, x)], ty, pos, after, guard⟩ K env h := by
  obtain ⟨i, g1, g2, g3, g4⟩ := hi.get
  exact aop_build (fun _ => 1) hu g1 g2 hc (build2_sz h0 h1) (out := #[i64 p, y1]) (by simp [Instr.fill, Value.cells, hx, ho]) hK
theorem o_build22 {t : TypeId} {f0 f1 : Field} {z0 z1 y0 y1 w : Value} {b0 b1 s b : Nat} {x y : Operand} {p : Int} (hu : P.underlying t = some (.struct #[f0, f1])) (ho : f0.offset = 0) (ho1 : f1.offset = 1) (h0 : InfoIs P f0.type z0 1 b0) (h1 : InfoIs P f1.type z1 1 b1)
    (hi : InfoIs P t (.agg #[y0, y1]) s b) (hc : isConst (.agg #[y0, y1]) = true) (hx : aeval env x = i64 p) (hy : aeval env y = w) (hw : w.cells = #[w]) (hK : K (.agg #[i64 p, w]) h) : AOp P ⟨dst, .build t #[(0, x), (1, y)], ty, pos, after, guard⟩ K env h := by
  obtain ⟨i, g1, g2, g3, g4⟩ := hi.get
  exact aop_build (fun _ => 1) hu g1 g2 hc (build2_sz h0 h1) (out := #[i64 p, w]) (by
    have e : (i64 p).cells = #[i64 p] := rfl
    simp [Instr.fill, hx, ho, hy, ho1, hw, e, show (Value.agg #[y0, y1]).cells = #[y0, y1] from rfl]) hK
end
section
variable {P : Program} {ops : Array Oper} {KE : Env → AHeap → Prop} {os : List Oper} {env : Env} {h : AHeap} {d : Option Tmp} {ty : TypeId} {pos : String} {af : Array Edge} {g : Option (Nat × Bool)}
theorem d_buildI1 {t e : TypeId} {b : Nat} {x : Operand} {p : Int} (hw : wantedA ops env ⟨d, .buildSlice t 1 #[(0, x)], ty, pos, af, g⟩ = some true) (hu : P.underlying t = some (.slice e)) (hi : InfoIs P e (i64 0) 1 b) (hx : aeval env x = i64 p)
    (hK : ∀ k, k = h.length → (h ++ [lst [p]])[k]? = some (lst [p]) → DRun P ops KE os (env.put d (sl k 1)) (h ++ [lst [p]])) : DRun P ops KE (⟨d, .buildSlice t 1 #[(0, x)], ty, pos, af, g⟩ :: os) env h :=
  d_new hw (o_buildI1 hu hi hx fun k hk => by subst hk; exact ⟨rfl, rfl⟩) (.slice (by simp)) (by simpa using fun u hu => Within.prim (lst_prim u hu)) (hK _ rfl (by simp))
end

/-! ## Coalitions -/
/-- A list with one player's step at all sets before s. -/
def rowW (f : Int → Int → Int) (i : Nat) (l : List Int) : Nat → List Int
  | 0 => l
  | s + 1 => if s.testBit i then (rowW f i l s).set s (f ((rowW f i l s).getD s 0) ((rowW f i l s).getD (s - 2 ^ i) 0)) else rowW f i l s
def allW (f : Int → Int → Int) (l : List Int) : Nat → List Int
  | 0 => l
  | i + 1 => rowW f i (allW f l i) l.length
theorem rowW_len {f : Int → Int → Int} {i : Nat} {l : List Int} : ∀ s, (rowW f i l s).length = l.length
  | 0 => rfl
  | s + 1 => by rw [rowW]; split <;> simp [rowW_len s]
theorem allW_len {f : Int → Int → Int} {l : List Int} : ∀ i, (allW f l i).length = l.length
  | 0 => rfl
  | i + 1 => by rw [allW, rowW_len, allW_len i]
theorem rowL_len {f : Int → Int → Int} {l : List Int} {i s : Nat} : (rowW f i (allW f l i) s).length = l.length := by rw [rowW_len, allW_len]
theorem rowW_in {f : Int → Int → Int} {i : Nat} {l : List Int} {s : Nat} (h : s.testBit (i : Int).toNat = true) : rowW f i l (s + 1) = (rowW f i l s).set s (f ((rowW f i l s).getD s 0) ((rowW f i l s).getD (s - 2 ^ (i : Int).toNat) 0)) := by
  rw [Int.toNat_natCast] at h ⊢; rw [rowW, if_pos h]
theorem rowW_out {f : Int → Int → Int} {i : Nat} {l : List Int} {s : Nat} (h : s.testBit (i : Int).toNat = false) : rowW f i l (s + 1) = rowW f i l s := by
  rw [Int.toNat_natCast] at h; rw [rowW, if_neg (by rw [h]; decide)]
theorem allW_step {f : Int → Int → Int} {i s : Nat} {l : List Int} (h : s = l.length) : rowW f i (allW f l i) s = allW f l (i + 1) := by subst h; rfl
def subW (a b : Int) : Int := IntKind.i64.wrap (a - b)
def addW (a b : Int) : Int := IntKind.i64.wrap (a + b)
theorem sub_bit : ∀ a < 64, ∀ i < 6, Nat.testBit a i = true → 2 ^ i ≤ a ∧ andn a (2 ^ i) = a - 2 ^ i := by decide +kernel
theorem bit_dn {s : Nat} {q : Int} (hs : s < 64) (hq : 0 ≤ q ∧ q < 6) (hb : s.testBit q.toNat = true) : 2 ^ q.toNat ≤ s ∧ (0 : Int) < 2 ^ q.toNat ∧ (2 : Int) ^ q.toNat ≤ s ∧ ((s : Int) - 1 * 2 ^ q.toNat) = ((s - 2 ^ q.toNat : Nat) : Int) ∧ andn s (2 ^ q.toNat) = s - 2 ^ q.toNat := by
  obtain ⟨h1, h2⟩ := sub_bit s hs q.toNat (by omega) hb
  have e : (((2 : Nat) ^ q.toNat : Nat) : Int) = (2 : Int) ^ q.toNat := by simp
  have h10 : 0 < (2 : Nat) ^ q.toNat := Nat.two_pow_pos _
  exact ⟨h1, by omega, by omega, by omega, h2⟩
/-- What a player brings to the sets before s. -/
def swS (xs : List Int) (i : Nat) : Nat → Int
  | 0 => 0
  | s + 1 => if s.testBit i then swS xs i s else IntKind.i64.wrap (swS xs i s + (xs.getD (s + 2 ^ i) 0 - xs.getD s 0))
theorem swS_in {xs : List Int} {i s : Nat} (h : s.testBit (i : Int).toNat = true) : swS xs i (s + 1) = swS xs i s := by
  rw [Int.toNat_natCast] at h; rw [swS, if_pos h]
theorem swS_out {xs : List Int} {i s : Nat} (h : s.testBit (i : Int).toNat = false) : swS xs i (s + 1) = IntKind.i64.wrap (swS xs i s + (xs.getD (s + 2 ^ (i : Int).toNat) 0 - xs.getD s 0)) := by
  rw [Int.toNat_natCast] at h; rw [swS, if_neg (by rw [h]; decide), Int.toNat_natCast]
def swF (xs : List Int) (i : Nat) : Int := swS xs i xs.length
def swL (p : Int) (xs : List Int) : List Int := (List.range p.toNat).map (swF xs)
theorem swL_len {p : Int} {xs : List Int} : (swL p xs).length = p.toNat := by simp [swL]
theorem sw_start {xs : List Int} {n s : Nat} (h : s < n) : fillZ (swF xs) n s = fillA (swF xs) n s (swS xs s 0) := (fillA_zero h).symm
theorem sw_done {xs : List Int} {n s : Nat} (h : s < n) : fillA (swF xs) n s (swS xs s xs.length) = fillZ (swF xs) n (s + 1) := fillA_done h
theorem sw_app {xs : List Int} {s t : Nat} (h : t = xs.length) : (List.range s).map (swF xs) ++ [swS xs s t] = (List.range (s + 1)).map (swF xs) := by subst h; exact map_step
theorem sw_set {xs : List Int} {n s : Nat} {a b : Int} (h : s < n) : (fillA (swF xs) n s a).set (s : Int).toNat (IntKind.i64.wrap ((fillA (swF xs) n s a).getD (s : Int).toNat 0 + b)) = fillA (swF xs) n s (IntKind.i64.wrap (a + b)) := by
  rw [Int.toNat_natCast, fillA_get h, fillA_set]

theorem Ret.ites {P : Program} {f : FuncId} {a : List Value} {h h' : AHeap} {b : Bool} {x y : Value} (r : Ret P f a h (if b = true then x else y) h') : (b = true → Ret P f a h x h') ∧ (b = false → Ret P f a h y h') :=
  ⟨fun e => by subst e; exact r, fun e => by subst e; exact r⟩
theorem within_func1 {n : Nat} {f : Fn} {a : Value} (h1 : Within n a) : Within n (.func f #[] #[a]) := .func (fun i h => by simp at h) fun i h => by
  match i, h with
  | 0, _ => exact h1
theorem within_func2 {n : Nat} {f : Fn} {a b : Value} (h1 : Within n a) (h2 : Within n b) : Within n (.func f #[] #[a, b]) := .func (fun i h => by simp at h) fun i h => by
  match i, h with
  | 0, _ => exact h1
  | 1, _ => exact h2
theorem within_func3 {n : Nat} {f : Fn} {a b c : Value} (h1 : Within n a) (h2 : Within n b) (h3 : Within n c) : Within n (.func f #[] #[a, b, c]) := .func (fun i h => by simp at h) fun i h => by
  match i, h with
  | 0, _ => exact h1
  | 1, _ => exact h2
  | 2, _ => exact h3
theorem within_func4 {n : Nat} {f : Fn} {a b c d : Value} (h1 : Within n a) (h2 : Within n b) (h3 : Within n c) (h4 : Within n d) : Within n (.func f #[] #[a, b, c, d]) := .func (fun i h => by simp at h) fun i h => by
  match i, h with
  | 0, _ => exact h1
  | 1, _ => exact h2
  | 2, _ => exact h3
  | 3, _ => exact h4
theorem one2 {p : Int} {v : Value} (h : oneCellA v = true) : (Value.agg #[i64 p, v]).cells.toList.all oneCellA = true := by
  show (oneCellA (i64 p) && (oneCellA v && true)) = true
  rw [h]; rfl
theorem Ints.one {h : AHeap} {v : Value} {xs : List Int} (hv : Ints h v xs) : oneCellA v = true := by
  rcases hv with ⟨rfl, _⟩ | ⟨k, off, ver, cap, o, rfl, _⟩ <;> rfl
theorem app_mid {P : Program} {M : Oper} {env2 : Env} {h1 : AHeap} {X : Value → Prop} {vM : Value} (hM : AOp P M (fun v h' => v = vM ∧ h' = h1) env2 h1) (hw : Within h1.length vM) (hX : X vM) :
    ∃ vM, Within h1.length vM ∧ AOp P M (fun v h' => v = vM ∧ h' = h1) env2 h1 ∧ X vM := ⟨vM, hw, hM, hX⟩
/-- Worths by a rule. -/
abbrev mapR (fn : Nat → Int) (p : Int) : List Int := (List.range (2 ^ p.toNat)).map fn
theorem mapR_len {fn : Nat → Int} {p : Int} : (mapR fn p).length = 2 ^ p.toNat := map_len
theorem pow_nat {n : Int} (h : 1 ≤ n ∧ n ≤ 6) : ((2 ^ n.toNat : Nat) : Int) = (2 : Int) ^ n.toNat ∧ 2 ≤ 2 ^ n.toNat ∧ 2 ^ n.toNat ≤ 64 := by
  have h1 := pow_bound h
  have e : ((2 ^ n.toNat : Nat) : Int) = (2 : Int) ^ n.toNat := by simp
  exact ⟨e, by omega, by omega⟩
/-- What the whole loses without all others. -/
def othF (xs : List Int) (s : Nat) : Int := xs.getD (xs.length - 1) 0 - xs.getD (xs.length - 1 - s) 0
theorem andn_full : ∀ i < 7, ∀ s < 2 ^ i, andn (2 ^ i - 1) s = 2 ^ i - 1 - s := by decide +kernel
theorem andn_all {m n : Int} {xs : List Int} (hW : isW m n xs = true) {s : Nat} (hs : s < xs.length) : andn (xs.length - 1) s = xs.length - 1 - s := by
  obtain ⟨h1, h2, h3, h4, _, _⟩ := isW_get hW
  have h5 := toNat_pow h2
  rw [h5] at hs ⊢
  exact andn_full n.toNat (by omega) s hs

/-- The set of all that is the s-th one without a player. -/
def posO (q s : Nat) : Nat := (s &&& (2 ^ q - 1)) ||| (andn s (s &&& (2 ^ q - 1)) * 2)
def cntO (q : Nat) : Nat → Nat
  | 0 => 0
  | t + 1 => if t.testBit q then cntO q t else cntO q t + 1
theorem posO_cnt : ∀ t < 64, ∀ q < 6, Nat.testBit t q = false → posO q (cntO q t) = t := by decide +kernel
theorem cntO_full : ∀ p < 7, ∀ q < p, cntO q (2 ^ p) = 2 ^ (p - 1) := by decide +kernel
theorem posO_lt : ∀ p < 7, ∀ q < p, ∀ s < 2 ^ (p - 1), posO q s < 2 ^ p := by decide +kernel
def outF (xs : List Int) (q : Int) (s : Nat) : Int := xs.getD (posO q.toNat s) 0
theorem cntO_in {q t : Nat} (h : t.testBit q = true) : cntO q (t + 1) = cntO q t := by rw [cntO, if_pos h]
theorem cntO_out {q t : Nat} (h : t.testBit q = false) : cntO q (t + 1) = cntO q t + 1 := by rw [cntO, if_neg (by rw [h]; decide)]
theorem cntO_le {q : Nat} : ∀ t, cntO q t ≤ t
  | 0 => Nat.le_refl _
  | t + 1 => by have := cntO_le (q := q) t; rw [cntO]; split <;> omega
theorem out_app {xs : List Int} {q : Int} {s : Nat} (hs : s < 64) (hq : 0 ≤ q ∧ q < 6) (h : s.testBit q.toNat = false) : (List.range (cntO q.toNat s)).map (outF xs q) ++ [xs.getD s 0] = (List.range (cntO q.toNat (s + 1))).map (outF xs q) := by
  rw [cntO_out h, ← map_step, outF, posO_cnt s hs q.toNat (by omega) h]
theorem out_full {p q : Int} {xs : List Int} (hx : xs.length = 2 ^ p.toNat) (hp : 2 ≤ p ∧ p ≤ 6) (hq : 0 ≤ q ∧ q < p) {s : Nat} (hs : s = xs.length) : cntO q.toNat s = 2 ^ (p - 1).toNat := by
  subst hs
  rw [hx, cntO_full p.toNat (by omega) q.toNat (by omega)]
  congr 1; omega
theorem out_lt {p q : Int} {xs : List Int} (hx : xs.length = 2 ^ p.toNat) (hp : 2 ≤ p ∧ p ≤ 6) (hq : 0 ≤ q ∧ q < p) {s : Nat} (hs : s < 2 ^ (p - 1).toNat) : posO q.toNat s < xs.length := by
  rw [hx]
  have e : (p - 1).toNat = p.toNat - 1 := by omega
  rw [e] at hs
  exact posO_lt p.toNat (by omega) q.toNat (by omega) s hs
theorem pow_q {q : Int} (hq : 0 ≤ q ∧ q < 6) : (0 : Int) < 2 ^ q.toNat ∧ (2 : Int) ^ q.toNat ≤ 32 ∧ ((2 ^ q.toNat : Nat) : Int) = (2 : Int) ^ q.toNat ∧ (1 : Int) * 2 ^ q.toNat - 1 = ((2 ^ q.toNat - 1 : Nat) : Int) := by
  have e : ((2 ^ q.toNat : Nat) : Int) = (2 : Int) ^ q.toNat := by simp
  have h10 : 0 < (2 : Nat) ^ q.toNat := Nat.two_pow_pos _
  have h9 : (2 : Nat) ^ q.toNat ≤ 2 ^ 5 := Nat.pow_le_pow_right (by omega) (by omega)
  exact ⟨by omega, by omega, e, by omega⟩
theorem shl_one (a : Nat) : ((a : Nat) : Int) * 2 ^ (1 : Int).toNat = ((a * 2 : Nat) : Int) := by
  rw [show ((1 : Int).toNat) = 1 from rfl]; omega

end Go.Am
