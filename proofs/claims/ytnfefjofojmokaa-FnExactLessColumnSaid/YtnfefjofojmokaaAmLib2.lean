/-
  The abstract heap: lists that are built place by place, and the plain laws of the chapters. General: no program is named.
-/
import Derived.Test.YtnfefjofojmokaaAmLib
import Derived.Test.YtnfefjofojmokaaAmSink2
namespace Go.Am
set_option linter.unusedSimpArgs false
set_option linter.unusedVariables false

/-! ## Lists that are built -/
theorem map_step {f : Nat → Int} {s : Nat} : (List.range s).map f ++ [f s] = (List.range (s + 1)).map f := by rw [List.range_succ, List.map_append]; rfl
theorem map_len {f : Nat → Int} {s : Nat} : ((List.range s).map f).length = s := by simp
theorem map_get {f : Nat → Int} {s n : Nat} (h : s < n) : ((List.range n).map f).getD s 0 = f s := by
  rw [List.getD_eq_getElem?_getD, List.getElem?_map, List.getElem?_range h]; rfl

/-! ## A nil slice in a variable, seen as an empty list -/
theorem vrel_ghost {m : Map} {h : AHeap} {l : Loc} {k : Nat} (ho : h[k]? = some (lst [])) (hm : m k = some l) : VRel m h (sl k 0) (.slice none 0 0) :=
  .slice ho (Nat.zero_le _) ⟨_, _, _, rfl⟩ fun _ => ⟨l, hm, none, 0, rfl, Nat.le_refl _, Nat.le_refl _, rfl, fun hlt => absurd hlt (by simp [lst]), fun _ => ⟨fun hlt => absurd hlt (by simp [lst]), fun _ => rfl⟩⟩
def GCells (k : Nat) (cs cs' : List Value) : Prop := cs.length = cs'.length ∧ ∀ i (h1 : i < cs.length) (h2 : i < cs'.length), cs'[i] = cs[i] ∨ (cs[i] = .slice none 0 0 ∧ cs'[i] = sl k 0)
theorem awp_ghost {P : Program} {n : Nat} {c : Code} {Q : Exit → Env → AHeap → Prop} {env : Env} {h h2 : AHeap} {k kw : Nat} {cs cs' : List Value} (hk : k = h.length) (ho : h[kw]? = some ⟨cs, true, 1⟩)
    (hs : h.set kw ⟨cs', true, 1⟩ = h2) (hc : GCells k cs cs') (hw : AWp P n c Q env (h2 ++ [lst []])) : AWp P n c Q env h := by
  intro m w a hr he
  subst hk hs
  obtain ⟨hkw, _⟩ := List.getElem?_eq_some_iff.1 ho
  have hlen : (h.set kw ⟨cs', true, 1⟩).length = h.length := by simp
  have mold : ∀ {j}, j < h.length → m.push h.length ⟨0, 0, 0⟩ j = m j := fun {j} hj => by simp [Map.push, Nat.ne_of_lt hj]
  have mnew : m.push h.length ⟨0, 0, 0⟩ h.length = some ⟨0, 0, 0⟩ := by simp [Map.push]
  have gnew : (h.set kw ⟨cs', true, 1⟩ ++ [lst []])[h.length]? = some (lst []) := lk_last hlen.symm
  have gkw : (h.set kw ⟨cs', true, 1⟩ ++ [lst []])[kw]? = some ⟨cs', true, 1⟩ := lk_prev (lk_set hkw)
  have gold : ∀ {j x}, j ≠ kw → h[j]? = some x → (h.set kw ⟨cs', true, 1⟩ ++ [lst []])[j]? = some x := fun {j x} hj hx =>
    lk_prev (by rw [List.getElem?_set_ne (fun e => hj e.symm)]; exact hx)
  have ginv : ∀ {j x}, (h.set kw ⟨cs', true, 1⟩ ++ [lst []])[j]? = some x → (j = h.length ∧ x = lst []) ∨ (j = kw ∧ x = ⟨cs', true, 1⟩) ∨ (j ≠ kw ∧ j < h.length ∧ h[j]? = some x) := fun {j x} hx => by
    rcases lookup_push hx with ⟨h1, h2⟩ | ⟨h1, h2⟩
    · rw [hlen] at h1
      by_cases e : j = kw
      · subst e
        rw [lk_set hkw] at h2
        cases h2
        exact .inr (.inl ⟨rfl, rfl⟩)
      · rw [List.getElem?_set_ne (fun q => e q.symm)] at h2
        exact .inr (.inr ⟨e, h1, h2⟩)
    · exact .inl ⟨h1.trans hlen, h2⟩
  have ex : Ext m h (m.push h.length ⟨0, 0, 0⟩) (h.set kw ⟨cs', true, 1⟩ ++ [lst []]) := fun j x hx => by
    have hlt := (List.getElem?_eq_some_iff.1 hx).1
    by_cases e : j = kw
    · subst e
      rw [ho] at hx; cases hx
      exact ⟨_, gkw, Nat.le_of_eq hc.1, rfl, rfl, fun l hl => ⟨l, by rw [mold hlt]; exact hl, fun _ => rfl⟩⟩
    · exact ⟨x, gold e hx, Nat.le_refl _, rfl, rfl, fun l hl => ⟨l, by rw [mold hlt]; exact hl, fun _ => rfl⟩⟩
  have rel : Rel (m.push h.length ⟨0, 0, 0⟩) (h.set kw ⟨cs', true, 1⟩ ++ [lst []]) w := by
    refine ⟨fun j x l hx hl hp => ?_, fun j1 j2 x1 x2 l1 l2 g1 g2 e1 e2 hne hm p1 p2 => ?_, fun j x hx v hv => ?_⟩
    · rcases ginv hx with ⟨_, rfl⟩ | ⟨rfl, rfl⟩ | ⟨h1, h2, h3⟩
      · simp [lst] at hp
      · rw [mold hkw] at hl
        obtain ⟨c0, ty0, fz, hb, hcc, hm⟩ := hr.holds _ _ _ ho hl (by rw [show (⟨cs, true, 1⟩ : AObj).cells.length = cs'.length from hc.1]; exact hp)
        refine ⟨c0, ty0, fz, hb, fun i hi => ?_, hm⟩
        have hi' : i < cs.length := by rw [hc.1]; exact hi
        obtain ⟨r, r1, r2⟩ := hcc i hi'
        refine ⟨r, r1, ?_⟩
        rcases hc.2 i hi' hi with e | ⟨e1, e2⟩
        · show VRel _ _ cs'[i] r
          rw [e]; exact r2.mono ex
        · show VRel _ _ cs'[i] r
          rw [e2]
          have r3 : VRel m h cs[i] r := r2
          rw [e1] at r3
          rw [r3.nil_inv]
          exact vrel_ghost gnew mnew
      · rw [mold h2] at hl
        obtain ⟨c0, ty0, fz, hb, hcc, hm⟩ := hr.holds _ _ _ h3 hl hp
        exact ⟨c0, ty0, fz, hb, fun i hi => by obtain ⟨r, r1, r2⟩ := hcc i hi; exact ⟨r, r1, r2.mono ex⟩, hm⟩
    · have back : ∀ {j x l}, (h.set kw ⟨cs', true, 1⟩ ++ [lst []])[j]? = some x → (m.push h.length ⟨0, 0, 0⟩) j = some l → 0 < x.cells.length → ∃ y, h[j]? = some y ∧ m j = some l ∧ y.mine = x.mine ∧ 0 < y.cells.length := fun {j x l} hx hl hp => by
        rcases ginv hx with ⟨_, rfl⟩ | ⟨rfl, rfl⟩ | ⟨h1, h2, h3⟩
        · simp [lst] at hp
        · rw [mold hkw] at hl
          exact ⟨_, ho, hl, rfl, by rw [show (⟨cs, true, 1⟩ : AObj).cells.length = cs'.length from hc.1]; exact hp⟩
        · rw [mold h2] at hl
          exact ⟨_, h3, hl, rfl, hp⟩
      obtain ⟨y1, a1, a2, a3, a4⟩ := back g1 e1 p1
      obtain ⟨y2, b1, b2, b3, b4⟩ := back g2 e2 p2
      exact hr.sep j1 j2 y1 y2 l1 l2 a1 b1 a2 b2 hne (a3.trans hm) a4 b4
    · have hl2 : (h.set kw ⟨cs', true, 1⟩ ++ [lst []]).length = h.length + 1 := by simp
      rcases ginv hx with ⟨_, rfl⟩ | ⟨rfl, rfl⟩ | ⟨h1, h2, h3⟩
      · simp [lst] at hv
      · obtain ⟨i, hi, rfl⟩ := List.getElem_of_mem hv
        have hi' : i < cs.length := by rw [hc.1]; exact hi
        rcases hc.2 i hi' hi with e | ⟨e1, e2⟩
        · show Within _ cs'[i]
          rw [e]
          exact (hr.closed _ _ ho _ (List.getElem_mem hi')).mono (by omega)
        · show Within _ cs'[i]
          rw [e2]
          exact .slice (by omega)
      · exact (hr.closed _ _ h3 v hv).mono (by omega)
  have st : Step m h w (m.push h.length ⟨0, 0, 0⟩) (h.set kw ⟨cs', true, 1⟩ ++ [lst []]) w := by
    refine ⟨fun j x hx => ?_, Nat.le_refl _, rfl, rfl, rfl, fun _ _ _ => rfl, fun j x l hx hl hp => ?_⟩
    · obtain ⟨x', h1, h2, h3, h4, h5⟩ := ex j x hx
      have hlt := (List.getElem?_eq_some_iff.1 hx).1
      exact ⟨x', h1, h2, h3, h4, h5, fun hn => by rw [mold hlt]; exact hn⟩
    · right
      rcases ginv hx with ⟨_, rfl⟩ | ⟨rfl, rfl⟩ | ⟨h1, h2, h3⟩
      · simp [lst] at hp
      · rw [mold hkw] at hl
        exact ⟨_, _, _, ho, hl, by rw [show (⟨cs, true, 1⟩ : AObj).cells.length = cs'.length from hc.1]; exact hp, rfl, id⟩
      · rw [mold h2] at hl
        exact ⟨_, _, _, h3, hl, hp, rfl, id⟩
  exact wp_mono (hw _ w a rel (he.mono ex)) fun _ _ _ ⟨m', env', h', p1, p2, p3, p4⟩ => ⟨m', env', h', p1, st.trans p2, p3, p4⟩

/-! ## Functions with a result that may fail -/
theorem within_nilb {n : Nat} : Within n (.tuple #[.slice none 0 0, .bool false]) := within_tup2 (.prim rfl) (.prim rfl)
theorem within_nilw {n : Nat} : Within n (.tuple #[.agg #[i64 0, .slice none 0 0], .bool false]) := within_tup2 (.agg2 (.prim rfl) (.prim rfl)) (.prim rfl)
theorem held_upto {c : Int} {n : Nat} : held c (upto c n) = c + n := by rw [held, upto_len, if_pos rfl]

section
variable {P : Program} {K : Value → AHeap → Prop} {env : Env} {h : AHeap} {dst : Option Tmp} {ty : TypeId} {pos : String} {after : Array Edge} {guard : Option (Nat × Bool)}
theorem o_makeZ {t e : TypeId} {x y : Operand} {b : Nat} {l : Int} {k1 k2 : IntKind} (hu : P.underlying t = some (.slice e)) (hi : InfoIs P e (i64 0) 1 b)
    (hx : aeval env x = .int k1 l) (hy : aeval env y = .int k2 l) (hb : 0 ≤ l ∧ b * l ≤ 281474976710656) (h63 : l ≤ 9223372036854775807)
    (hK : ∀ k, k = h.length → K (sl k l.toNat) (h ++ [lst (List.replicate l.toNat 0)])) : AOp P ⟨dst, .makeSlice t x y, ty, pos, after, guard⟩ K env h := by
  obtain ⟨n, rfl⟩ := Int.eq_ofNat_of_zero_le hb.1
  have h1 : ((n : Int)).toNat = n := Int.toNat_natCast n
  rw [h1] at hK
  have e1 : (b : Int) * (n : Int) = ((b * n : Nat) : Int) := (Int.natCast_mul b n).symm
  have e2 := hb.2
  rw [e1] at e2
  exact o_makeI hu hi hx hy (by omega) (by omega) hK
end

theorem ints_nil {h : AHeap} : Ints h (.slice none 0 0) [] := .inl ⟨rfl, rfl⟩
section
variable {P : Program} {K : Value → AHeap → Prop} {env : Env} {h : AHeap} {dst : Option Tmp} {ty : TypeId} {pos : String} {after : Array Edge} {guard : Option (Nat × Bool)}
end

section
variable {P : Program} {K : Value → AHeap → Prop} {env : Env} {h : AHeap} {dst : Option Tmp} {ty : TypeId} {pos : String} {after : Array Edge} {guard : Option (Nat × Bool)}
end
section
variable {P : Program} {ops : Array Oper} {KE : Env → AHeap → Prop} {os : List Oper} {env : Env} {h : AHeap} {d : Option Tmp} {ty : TypeId} {pos : String} {af : Array Edge} {g : Option (Nat × Bool)}
theorem d_buildI1 {t e : TypeId} {b : Nat} {x : Operand} {p : Int} (hw : wantedA ops env ⟨d, .buildSlice t 1 #[(0, x)], ty, pos, af, g⟩ = some true) (hu : P.underlying t = some (.slice e)) (hi : InfoIs P e (i64 0) 1 b) (hx : aeval env x = i64 p)
    (hK : ∀ k, k = h.length → (h ++ [lst [p]])[k]? = some (lst [p]) → DRun P ops KE os (env.put d (sl k 1)) (h ++ [lst [p]])) : DRun P ops KE (⟨d, .buildSlice t 1 #[(0, x)], ty, pos, af, g⟩ :: os) env h :=
  d_new hw (o_buildI1 hu hi hx fun k hk => by subst hk; exact ⟨rfl, rfl⟩) (.slice (by simp)) (by simpa using fun u hu => Within.prim (lst_prim u hu)) (hK _ rfl (by simp))
end

/-! ## Coalitions -/
theorem one2 {p : Int} {v : Value} (h : oneCellA v = true) : (Value.agg #[i64 p, v]).cells.toList.all oneCellA = true := by
  show (oneCellA (i64 p) && (oneCellA v && true)) = true
  rw [h]; rfl
theorem Ints.one {h : AHeap} {v : Value} {xs : List Int} (hv : Ints h v xs) : oneCellA v = true := by
  rcases hv with ⟨rfl, _⟩ | ⟨k, off, ver, cap, o, rfl, _⟩ <;> rfl
theorem app_mid {P : Program} {M : Oper} {env2 : Env} {h1 : AHeap} {X : Value → Prop} {vM : Value} (hM : AOp P M (fun v h' => v = vM ∧ h' = h1) env2 h1) (hw : Within h1.length vM) (hX : X vM) :
    ∃ vM, Within h1.length vM ∧ AOp P M (fun v h' => v = vM ∧ h' = h1) env2 h1 ∧ X vM := ⟨vM, hw, hM, hX⟩
end Go.Am
