/-
  The abstract heap: games in tables, less a row or a column. General: no program is named.
-/
import Derived.Test.YtnfefjofojmokaaAmLib18
import Derived.Laws.Entries
namespace Go.Am
set_option linter.unusedSimpArgs false
set_option linter.unusedVariables false
section
variable {P : Program} {K : Value → AHeap → Prop} {env : Env} {h : AHeap} {dst : Option Tmp} {ty : TypeId} {pos : String} {after : Array Edge} {guard : Option (Nat × Bool)}
/-- clear(s[off:]) of a list of one's own. -/
theorem o_clear {t e : TypeId} {x : Operand} {k off ver len cap b : Nat} {xs : List Int} {h' : AHeap} (hu : P.underlying t = some (.slice e)) (hi : InfoIs P e (i64 0) 1 b)
    (hx : aeval env x = .slice (some ⟨k, off, some ver⟩) len cap) (ho : h[k]? = some (lst xs)) (hver : xs.length = ver) (hfit : off + len ≤ ver) (hpos : 0 < len)
    (hs : h.set k (lst (xs.take off ++ List.replicate len 0 ++ xs.drop (off + len))) = h') (hK : K (.tuple #[]) h') :
    AOp P ⟨dst, .call { callee := .builtin .clear, args := #[x], argTypes := #[t] }, ty, pos, after, guard⟩ K env h :=
  .of_run fun mp w a hr hop => by
    have hp := hop x (by simp [Op.operands, Call.operands])
    rw [hx] at hp
    obtain ⟨i, hi1, hi2, hi3, hi4⟩ := hi.get
    have hcl : (lst xs).cells.length = ver := by simp [lst, hver]
    obtain ⟨l, hl, da, cap', hse, c1, c2, c3, c4, c5⟩ := hp.slice_inv ho hcl
    have hb := c4 (by omega)
    subst hb
    obtain ⟨w', hst, r1, s1⟩ := hr.storeCells (P := P) (k := k) (off := off) ho rfl hl (vs := List.replicate len (i64 0)) (rs := List.replicate len (i64 0)) rfl (by rw [hcl]; simp; omega) (by simp; omega)
      (fun j v r hv hr => by
        obtain ⟨h1, e1⟩ := List.getElem?_eq_some_iff.1 hv
        obtain ⟨h2, e2⟩ := List.getElem?_eq_some_iff.1 hr
        simp only [List.getElem_replicate] at e1 e2
        subst e1 e2
        exact .prim rfl)
      (fun r hm => by rw [List.eq_of_mem_replicate hm]; rfl)
    have hz : (Builtin.zeroCells (i64 0).cells len).toList = List.replicate len (i64 0) := by
      apply List.ext_getElem
      · simp [Builtin.zeroCells, Value.cells]
      · intro j h1 h2
        simp [Builtin.zeroCells, Value.cells, Nat.mod_one]
    have hrun : (Builtin.clear_ #[t] ty #[a.eval x]).run P w = .ok (.tuple #[]) w' := by
      rw [hse]
      have hne : len ≠ 0 := by omega
      obtain ⟨n, rfl⟩ : ∃ n, len = n + 1 := ⟨len - 1, by omega⟩
      simp [Builtin.clear_, run_underlying hu, zeroValue, typeInfo, hi1, hi2, hz, hst]
    have hsp : splice (lst xs).cells off (List.replicate len (i64 0)) = (lst (xs.take off ++ List.replicate len 0 ++ xs.drop (off + len))).cells := by
      rw [splice, List.length_replicate]
      simp [lst, List.map_take, List.map_drop]
    refine ⟨.tuple #[], .tuple #[], _, _, w', ?_, r1, s1, .tuple rfl (fun i h1 => by simp at h1), ?_⟩
    · simp only [execOp, resolve, invoke, builtin, Sem.run_bind, Sem.run_pure, Result.andThen_ok, List.map_toArray, List.map_cons, List.map_nil, hrun]
    · rw [hsp, show (lst xs).esz = 1 from rfl]
      rw [← hs] at hK
      exact hK
end

/-! ## All numbers but one -/
def ordL (i : Int) : Nat → List Int
  | 0 => []
  | n + 1 => if (n : Int) = i then ordL i n else ordL i n ++ [(n : Int)]
theorem ordL_out {i : Int} {n : Nat} (h : ¬ (n : Int) = i) : ordL i (n + 1) = ordL i n ++ [(n : Int)] := by rw [ordL, if_neg h]
theorem ordL_in {i : Int} {n : Nat} (h : (n : Int) = i) : ordL i (n + 1) = ordL i n := by rw [ordL, if_pos h]
theorem ordL_len : ∀ {n : Nat} {i : Int}, 0 ≤ i → (ordL i n).length = if (n : Int) ≤ i then n else n - 1
  | 0, i, h => by simp [ordL]
  | n + 1, i, h => by
    have ih := ordL_len (n := n) h
    rw [ordL]
    split
    · rw [ih, if_pos (by omega), if_neg (by omega)]; omega
    · rw [List.length_append, ih]
      by_cases c : (n : Int) ≤ i
      · rw [if_pos c]
        rw [if_pos (by omega)]; simp
      · rw [if_neg c, if_neg (by omega)]; simp; omega
theorem ordL_neg : ∀ {n : Nat}, ordL (-1) n = cntL n
  | 0 => rfl
  | n + 1 => by rw [ordL_out (by omega), ordL_neg]; exact map_step (f := fun (i : Nat) => (i : Int))
theorem ordL_bnd : ∀ {n : Nat} {i : Int}, ∀ x ∈ ordL i n, 0 ≤ x ∧ x < n
  | n + 1, i, x, hx => by
    rw [ordL] at hx
    split at hx
    · have := ordL_bnd x hx; omega
    · rcases List.mem_append.1 hx with hx | hx
      · have := ordL_bnd x hx; omega
      · simp at hx; omega
theorem ordL_get {n : Nat} {i : Int} {k : Nat} (h : k < (ordL i n).length) : 0 ≤ (ordL i n).getD k 0 ∧ (ordL i n).getD k 0 < n := by
  rw [getD_at h]; exact ordL_bnd _ (List.getElem_mem h)
theorem ordL_below : ∀ {j : Nat} {i : Int}, (j : Int) ≤ i → ordL i j = cntL j
  | 0, i, h => rfl
  | j + 1, i, h => by rw [ordL_out (by omega), ordL_below (by omega)]; exact map_step (f := fun (i : Nat) => (i : Int))
/-- The list while one number is taken out. -/
def delL (n : Nat) (i : Int) (j : Nat) : List Int := ordL i j ++ (cntL n).drop (j - 1)
theorem delL_len {n j : Nat} {i : Int} (hi : 0 ≤ i) (hj : i < j ∧ j ≤ n) : (delL n i j).length = n := by
  rw [delL, List.length_append, ordL_len hi, if_neg (by omega), List.length_drop, cntL_len]; omega
theorem cnt_get {n k : Nat} (h : k < n) : (cntL n).getD k 0 = (k : Int) := map_get (f := fun (i : Nat) => (i : Int)) h
theorem delL_get {n j : Nat} {i : Int} (hi : 0 ≤ i) (hj : i < j ∧ j < n) : (delL n i j).getD j 0 = (j : Int) := by
  have hl : (ordL i j).length = j - 1 := by rw [ordL_len hi, if_neg (by omega)]
  rw [delL, List.getD_eq_getElem?_getD, List.getElem?_append_right (by omega), hl, List.getElem?_drop, show j - 1 + (j - (j - 1)) = j by omega, ← List.getD_eq_getElem?_getD, cnt_get hj.2]
theorem delL_step {n j : Nat} {i : Int} (hi : 0 ≤ i) (hj : i < j ∧ j < n) : (delL n i j).set (j - 1) (j : Int) = delL n i (j + 1) := by
  have hl : (ordL i j).length = j - 1 := by rw [ordL_len hi, if_neg (by omega)]
  have hd : (cntL n).drop (j - 1) = (cntL n)[j - 1]'(by rw [cntL_len]; omega) :: (cntL n).drop j := by
    rw [List.drop_eq_getElem_cons (by rw [cntL_len]; omega), show j - 1 + 1 = j by omega]
  rw [delL, List.set_append_right _ _ (by omega), hl, Nat.sub_self, hd, List.set_cons_zero, delL, ordL_out (by omega), show j + 1 - 1 = j by omega, List.append_assoc]
  rfl
theorem delL_first {n : Nat} {i : Int} (hi : 0 ≤ i ∧ i < n) : cntL n = delL n i (i.toNat + 1) := by
  have e : ((i.toNat : Nat) : Int) = i := Int.toNat_of_nonneg hi.1
  rw [delL, ordL_in e, ordL_below (by omega), show i.toNat + 1 - 1 = i.toNat by omega]
  have : (cntL n).take i.toNat = cntL i.toNat := by
    apply List.ext_getElem
    · rw [List.length_take, cntL_len, cntL_len]; omega
    · intro k h1 h2
      simp [cntL]
  rw [← this, List.take_append_drop]
theorem delL_end {n : Nat} {i : Int} (hi : 0 ≤ i ∧ i < n) : (delL n i n).take (n - 1) ++ List.replicate 1 0 ++ (delL n i n).drop (n - 1 + 1) = ordL i n ++ [0] := by
  have hl : (ordL i n).length = n - 1 := by rw [ordL_len hi.1, if_neg (by omega)]
  have h1 : (delL n i n).take (n - 1) = ordL i n := by rw [delL, List.take_append_of_le_length (by omega), List.take_of_length_le (by omega)]
  rw [h1, List.drop_of_length_le (by rw [delL_len hi.1 (by omega)]; omega)]
  simp
theorem delL_fin {n off len : Nat} {i : Int} (hi : 0 ≤ i ∧ i < n) (e1 : off = n - 1) (e2 : len = 1) : (delL n i n).take off ++ List.replicate len 0 ++ (delL n i n).drop (off + len) = ordL i n ++ [0] := by subst e1 e2; exact delL_end hi
theorem del_idx {n : Nat} {i : Int} (hi : 0 ≤ i ∧ i < n) : idxTo (fun x => decide (x = i)) (cntL n) (cntL n).length = i := by
  have e : ((i.toNat : Nat) : Int) = i := Int.toNat_of_nonneg hi.1
  have h0 : idxTo (fun x => decide (x = i)) (cntL n) i.toNat = -1 := by
    obtain ⟨h1, h2⟩ := idxTo_lt (g := fun x => decide (x = i)) (ys := cntL n) i.toNat
    by_cases c : 0 ≤ idxTo (fun x => decide (x = i)) (cntL n) i.toNat
    · obtain ⟨k, hk, hg, _⟩ := h1 c
      rw [cnt_get (by omega)] at hg
      have := of_decide_eq_true hg
      omega
    · have := idxTo_bnd (g := fun x => decide (x = i)) (xs := cntL n) i.toNat
      omega
  rw [idxTo_some h0 (by rw [cnt_get (by omega)]; exact decide_eq_true e) (cntL n).length (by rw [cntL_len]; omega), e]
abbrev slP (k m n : Nat) : Value := .slice (some ⟨k, 0, some n⟩) m n
theorem Ints.pre {h : AHeap} {k m n : Nat} {xs ys : List Int} (ho : h[k]? = some (lst (xs ++ ys))) (hm : xs.length = m) (hn : (xs ++ ys).length = n) : Ints h (slP k m n) xs := by
  subst hm hn
  exact .inr ⟨k, 0, _, _, lst (xs ++ ys), rfl, ho, by simp [lst], rfl, by simp, by simp, fun i z hz => by
    have hi := (List.getElem?_eq_some_iff.1 hz).1
    simp only [lst, List.map_append, Nat.zero_add]
    rw [List.getElem?_append_left (by simpa using hi)]
    simp [hz]⟩

/-! ## Games -/
def gainB (n : Int) (xs : List Int) : Bool := decide (n ≤ xs.length ∧ (xs.length : Int) ≤ n) && xs.all fun x => decide (-1000 ≤ x ∧ x ≤ 1000)
def validG (p q : Int) (xs ys : List Int) : Bool := decide (1 ≤ p ∧ p ≤ 6) && decide (1 ≤ q ∧ q ≤ 6) && gainB (p * q) xs && gainB (p * q) ys
theorem gain_2 {n : Int} {xs : List Int} : ((xs.all fun x => decide (-1000 ≤ x ∧ x ≤ 1000)) && decide ((xs.length : Int) = n)) = gainB n xs := by
  rw [gainB, Bool.and_comm]
  congr 1
  by_cases h : (xs.length : Int) = n
  · rw [decide_eq_true h, decide_eq_true (by omega)]
  · rw [decide_eq_false h, decide_eq_false (by omega)]
theorem validG_get {p q : Int} {xs ys : List Int} (h : validG p q xs ys = true) : (1 ≤ p ∧ p ≤ 6) ∧ (1 ≤ q ∧ q ≤ 6) ∧ (xs.length : Int) = p * q ∧ (ys.length : Int) = p * q := by
  simp only [validG, gainB, Bool.and_eq_true, decide_eq_true_eq] at h
  exact ⟨h.1.1.1, h.1.1.2, by omega, by omega⟩
def szG2 (left : Int) (a b : Nat) : Int := if szL left a < 0 then -1 else if szL (szL left a) b < 0 then -1 else szL (szL left a) b
theorem szG2_spec {left : Int} {a b : Nat} (c : ¬ szG2 left a b < 0) : 0 ≤ szG2 left a b ∧ szG2 left a b ≤ left ∧ (a : Int) ≤ left ∧ (b : Int) ≤ left := by
  unfold szG2 at *
  split at c
  · omega
  · rename_i h1
    rw [if_neg h1]
    split at c
    · omega
    · rename_i h2
      rw [if_neg h2]
      have a1 := szL_spec h1
      have b1 := szL_spec h2
      omega
def lgs (xs ys : List Int) : List AObj := [lst xs, lst ys]
abbrev gv (p q : Int) (n m k : Nat) : Value := .agg #[i64 p, i64 q, sl k n, sl (k + 1) m]
theorem Within.agg4 {n : Nat} {a b c d : Value} (h1 : Within n a) (h2 : Within n b) (h3 : Within n c) (h4 : Within n d) : Within n (.agg #[a, b, c, d]) :=
  .agg fun i q1 => by
    match i, q1 with
    | 0, _ => exact h1
    | 1, _ => exact h2
    | 2, _ => exact h3
    | 3, _ => exact h4
theorem VRen.agg4 {s : Nat → Nat} {a b c d a' b' c' d' : Value} (h1 : VRen s a a') (h2 : VRen s b b') (h3 : VRen s c c') (h4 : VRen s d d') : VRen s (.agg #[a, b, c, d]) (.agg #[a', b', c', d']) :=
  .agg rfl fun i q1 q2 => by
    match i, q1 with
    | 0, _ => exact h1
    | 1, _ => exact h2
    | 2, _ => exact h3
    | 3, _ => exact h4
theorem sg_lgs {xs ys : List Int} : ShG (fun _ => lgs xs ys) := ShG.app (gs1 := fun _ => [lst xs]) (gs2 := fun _ => [lst ys]) (l := 1) (ShG.one lst_prim) (ShG.one lst_prim) (fun _ => rfl)
theorem ws_lgs {h : AHeap} {p q : Int} {n m : Nat} {xs ys : List Int} : Within (h.length + (lgs xs ys).length) (gv p q n m h.length) := .agg4 (.prim rfl) (.prim rfl) (.slice (by simp [lgs])) (.slice (by simp [lgs]))
theorem vr_lgs {t d : Nat} {p q : Int} {n m : Nat} : VRen (shf t d) (gv p q n m t) (gv p q n m (t + d)) := .agg4 (.prim rfl) (.prim rfl) (shf_sl (Nat.le_refl _)) (by
  have := shf_sl (t := t) (d := d) (n := m) (k := t + 1) (by omega)
  rwa [show t + 1 + d = t + d + 1 by omega] at this)
theorem retgG_of {P : Program} {f : FuncId} {args : List Value} {h : AHeap} {p q : Int} {n m : Nat} {xs ys : List Int}
    (t : Tri P f args h fun v h' => ∃ g0 g1 k, h' = h ++ g0 ++ lgs xs ys ++ g1 ∧ k = h.length + g0.length ∧ v = gv p q n m k) : RetG P f args h (gv p q n m) (fun _ => lgs xs ys) :=
  retg_of (gs := fun _ => lgs xs ys) sg_lgs ws_lgs (fun d => vr_lgs) t
theorem RetG.toG2 {P : Program} {K : Value → AHeap → Prop} {h : AHeap} {f : FuncId} {vs : List Value} {p q : Int} {n m : Nat} {xs ys : List Int} (r : RetG P f vs h (gv p q n m) (fun _ => lgs xs ys))
    (hK : ∀ k, k = h.length → ((h ++ [lst xs] ++ [lst ys])[k]? = some (lst xs) ∧ (h ++ [lst xs] ++ [lst ys])[k + 1]? = some (lst ys)) → K (gv p q n m k) (h ++ [lst xs] ++ [lst ys])) : Tri P f vs h K :=
  r.toG fun k hk => by
    have := hK k hk ⟨lk_prev (lk_last hk), lk_last (by simp [hk])⟩
    rwa [List.append_assoc] at this
abbrev gt (p q : Int) (n m k : Nat) : Value := .tuple #[gv p q n m k, .bool true]
abbrev NG : Value := .tuple #[.agg #[i64 0, i64 0, .slice none 0 0, .slice none 0 0], .bool false]
theorem retogG_of {P : Program} {f : FuncId} {args : List Value} {h : AHeap} {ok : Bool} {p q : Int} {n m : Nat} {xs ys : List Int} (t : Tri P f args h (OptG ok (gt p q n m) (fun _ => lgs xs ys) NG h)) : RetOG P f args h ok (gt p q n m) (fun _ => lgs xs ys) NG :=
  ⟨fun e => retg_of (gs := fun _ => lgs xs ys) sg_lgs (.tup2 ws_lgs (.prim rfl)) (fun d => .tup2 vr_lgs (.prim rfl)) (t.mono fun v h' q => by
      rcases q with ⟨_, q⟩ | ⟨e2, _⟩
      · exact q
      · rw [e] at e2; cases e2),
   fun e => ret_of (.tup2 (.agg4 (.prim rfl) (.prim rfl) (.prim rfl) (.prim rfl)) (.prim rfl)) (t.mono fun v h' q => by
      rcases q with ⟨e2, _⟩ | ⟨_, q⟩
      · rw [e] at e2; cases e2
      · exact q)⟩
theorem RetG.toT3 {P : Program} {K : Value → AHeap → Prop} {h : AHeap} {f : FuncId} {vs : List Value} {p q : Int} {n m : Nat} {xs ys : List Int} (r : RetG P f vs h (gt p q n m) (fun _ => lgs xs ys))
    (hK : ∀ k, k = h.length → ((h ++ [lst xs] ++ [lst ys])[k]? = some (lst xs) ∧ (h ++ [lst xs] ++ [lst ys])[k + 1]? = some (lst ys)) → K (gt p q n m k) (h ++ [lst xs] ++ [lst ys])) : Tri P f vs h K :=
  r.toG fun k hk => by
    have := hK k hk ⟨lk_prev (lk_last hk), lk_last (by simp [hk])⟩
    rwa [List.append_assoc] at this
theorem set2 {h h1 h2 : AHeap} {k k2 : Nat} {o o2 : AObj} (e1 : h.set k o = h1) (e2 : h1.set k2 o2 = h2) : (h.set k o).set k2 o2 = h2 := by rw [e1, e2]
theorem regroupG {h : AHeap} {a b c x y : AObj} : h ++ [a] ++ [b] ++ [c] ++ [x] ++ [y] = h ++ [a, b, c] ++ [x, y] ++ [] := by simp
section
variable {P : Program} {ops : Array Oper} {KE : Env → AHeap → Prop} {os : List Oper} {env : Env} {h : AHeap} {d : Option Tmp} {ty : TypeId} {pos : String} {af : Array Edge} {g : Option (Nat × Bool)}
theorem d_callG2 {f : FuncId} {xs : Array Operand} {ats : Array TypeId} {vs : List Value} {p q : Int} {n m : Nat} {as bs : List Int} (hw : wantedA ops env ⟨d, .call { callee := .value (.func f), args := xs, argTypes := ats }, ty, pos, af, g⟩ = some true)
    (hv : xs.toList.map (aeval env) = vs) (r : RetG P f vs h (gv p q n m) (fun _ => lgs as bs))
    (hK : ∀ k, k = h.length → ((h ++ [lst as] ++ [lst bs])[k]? = some (lst as) ∧ (h ++ [lst as] ++ [lst bs])[k + 1]? = some (lst bs)) → DRun P ops KE os (env.put d (gv p q n m k)) (h ++ [lst as] ++ [lst bs])) :
    DRun P ops KE (⟨d, .call { callee := .value (.func f), args := xs, argTypes := ats }, ty, pos, af, g⟩ :: os) env h :=
  d_callG hw hv r ws_lgs (fun x hx u hu => by
    simp only [lgs, List.mem_cons, List.not_mem_nil, or_false] at hx
    rcases hx with rfl | rfl <;> exact .prim (lst_prim u hu)) fun k hk => by
    have := hK k hk ⟨lk_prev (lk_last hk), lk_last (by simp [hk])⟩
    rwa [List.append_assoc] at this
end

/-! ## The grid of a part of a game -/
def cellG (xs : List Int) (q i k : Int) : Int := xs.getD (i * q + k).toNat 0
theorem ordL_le : ∀ {n : Nat} {i : Int}, (ordL i n).length ≤ n
  | 0, i => by simp [ordL]
  | n + 1, i => by
    have ih := ordL_le (n := n) (i := i)
    rw [ordL]
    split
    · omega
    · simp; omega
def gridG (f : Int → Int → Int) (rs cs : List Int) (s : Nat) : List Int := (rs.take s).flatMap fun x => cs.map (f x)
def rowG (f : Int → Int → Int) (rs cs : List Int) (s t : Nat) : List Int := gridG f rs cs s ++ (cs.take t).map (f (rs.getD s 0))
theorem rowG_zero {f : Int → Int → Int} {rs cs : List Int} {s : Nat} : rowG f rs cs s 0 = gridG f rs cs s := by simp [rowG]
theorem rowG_step {f : Int → Int → Int} {rs cs : List Int} {s t : Nat} (h : t < cs.length) : rowG f rs cs s t ++ [f (rs.getD s 0) (cs.getD t 0)] = rowG f rs cs s (t + 1) := by
  rw [rowG, rowG, List.take_succ_eq_append_getElem h, List.map_append, List.append_assoc, getD_at h]; rfl
theorem rowG_full {f : Int → Int → Int} {rs cs : List Int} {s t : Nat} (h : s < rs.length) (ht : t = cs.length) : rowG f rs cs s t = gridG f rs cs (s + 1) := by
  subst ht
  rw [rowG, gridG, gridG, List.take_succ_eq_append_getElem h, List.flatMap_append, List.take_length, getD_at h]
  simp
theorem gridG_len {f : Int → Int → Int} {rs cs : List Int} : ∀ {s : Nat}, s ≤ rs.length → (gridG f rs cs s).length = s * cs.length
  | 0, _ => by simp [gridG]
  | s + 1, h => by
    rw [← rowG_full (t := cs.length) (by omega) rfl, rowG, List.length_append, gridG_len (by omega), List.take_length, List.length_map, Nat.add_mul, Nat.one_mul]
theorem rowG_len {f : Int → Int → Int} {rs cs : List Int} {s t : Nat} (h : s ≤ rs.length) (ht : t ≤ cs.length) : (rowG f rs cs s t).length = s * cs.length + t := by
  rw [rowG, List.length_append, gridG_len h, List.length_map, List.length_take]; omega
theorem gcells4a {k : Nat} {a b c : Value} : GCells k [a, b, .slice none 0 0, c] [a, b, sl k 0, c] := ⟨rfl, fun i h1 h2 => by
  match i, h1 with
  | 0, _ => exact .inl rfl
  | 1, _ => exact .inl rfl
  | 2, _ => exact .inr ⟨rfl, rfl⟩
  | 3, _ => exact .inl rfl⟩
theorem gcells4b {k : Nat} {a b c : Value} : GCells k [a, b, c, .slice none 0 0] [a, b, c, sl k 0] := ⟨rfl, fun i h1 h2 => by
  match i, h1 with
  | 0, _ => exact .inl rfl
  | 1, _ => exact .inl rfl
  | 2, _ => exact .inl rfl
  | 3, _ => exact .inr ⟨rfl, rfl⟩⟩
theorem regroupG3 {h gs : AHeap} {a b c x y : AObj} : h ++ [a] ++ [b] ++ [c] ++ [x] ++ [y] ++ gs = h ++ [a, b, c] ++ [x, y] ++ gs := by simp
theorem regroupG2 {h gs : AHeap} {a b x y : AObj} : h ++ [a] ++ [b] ++ [x] ++ [y] ++ gs = h ++ [a, b] ++ [x, y] ++ gs := by simp
theorem grid_bnd {m n s t : Nat} (hm : m ≤ 6) (hn : n ≤ 6) (hs : s ≤ m) (ht : t ≤ n) : s * n + t ≤ 42 := by
  have : s * n ≤ 6 * 6 := Nat.mul_le_mul (by omega) hn
  omega

section
variable {P : Program} {K : Value → AHeap → Prop} {env : Env} {h : AHeap} {dst : Option Tmp} {ty : TypeId} {pos : String} {after : Array Edge} {guard : Option (Nat × Bool)}
theorem build4_sz {f0 f1 f2 f3 : Field} {z0 z1 z2 z3 : Value} {b0 b1 b2 b3 : Nat} (h0 : InfoIs P f0.type z0 1 b0) (h1 : InfoIs P f1.type z1 1 b1) (h2 : InfoIs P f2.type z2 1 b2) (h3 : InfoIs P f3.type z3 1 b3) : ∀ f ∈ (#[f0, f1, f2, f3] : Array Field).toList, ∃ i, P.info? f.type = some i ∧ i.size = (fun _ => 1 : Nat → Nat) f.type := fun f hf => by
  simp only [List.mem_cons, List.not_mem_nil, or_false] at hf
  rcases hf with rfl | rfl | rfl | rfl
  · obtain ⟨i, g1, _, g3, _⟩ := h0.get; exact ⟨i, g1, g3⟩
  · obtain ⟨i, g1, _, g3, _⟩ := h1.get; exact ⟨i, g1, g3⟩
  · obtain ⟨i, g1, _, g3, _⟩ := h2.get; exact ⟨i, g1, g3⟩
  · obtain ⟨i, g1, _, g3, _⟩ := h3.get; exact ⟨i, g1, g3⟩
theorem o_build40 {t : TypeId} {f0 f1 f2 f3 : Field} {z0 z1 z2 z3 y0 y1 y2 y3 : Value} {b0 b1 b2 b3 s b : Nat} (hu : P.underlying t = some (.struct #[f0, f1, f2, f3])) (h0 : InfoIs P f0.type z0 1 b0) (h1 : InfoIs P f1.type z1 1 b1) (h2 : InfoIs P f2.type z2 1 b2) (h3 : InfoIs P f3.type z3 1 b3)
    (hi : InfoIs P t (.agg #[y0, y1, y2, y3]) s b) (hc : isConst (.agg #[y0, y1, y2, y3]) = true) (hK : K (.agg #[y0, y1, y2, y3]) h) : AOp P ⟨dst, .build t #[], ty, pos, after, guard⟩ K env h := by
  obtain ⟨i, g1, g2, g3, g4⟩ := hi.get
  exact aop_build (fun _ => 1) hu g1 g2 hc (build4_sz h0 h1 h2 h3) (out := #[y0, y1, y2, y3]) (by simp [Instr.fill, Value.cells]) hK
theorem o_build42 {t : TypeId} {f0 f1 f2 f3 : Field} {z0 z1 z2 z3 y0 y1 y2 y3 : Value} {b0 b1 b2 b3 s b : Nat} {x y : Operand} {p q : Int} (hu : P.underlying t = some (.struct #[f0, f1, f2, f3])) (ho : f0.offset = 0) (ho1 : f1.offset = 1) (h0 : InfoIs P f0.type z0 1 b0) (h1 : InfoIs P f1.type z1 1 b1) (h2 : InfoIs P f2.type z2 1 b2) (h3 : InfoIs P f3.type z3 1 b3)
    (hi : InfoIs P t (.agg #[y0, y1, y2, y3]) s b) (hc : isConst (.agg #[y0, y1, y2, y3]) = true) (hx : aeval env x = i64 p) (hy : aeval env y = i64 q) (hK : K (.agg #[i64 p, i64 q, y2, y3]) h) : AOp P ⟨dst, .build t #[(0, x), (1, y)], ty, pos, after, guard⟩ K env h := by
  obtain ⟨i, g1, g2, g3, g4⟩ := hi.get
  exact aop_build (fun _ => 1) hu g1 g2 hc (build4_sz h0 h1 h2 h3) (out := #[i64 p, i64 q, y2, y3]) (by
    have e : (i64 p).cells = #[i64 p] := rfl
    have e2 : (i64 q).cells = #[i64 q] := rfl
    simp [Instr.fill, hx, ho, hy, ho1, e, e2, show (Value.agg #[y0, y1, y2, y3]).cells = #[y0, y1, y2, y3] from rfl]) hK
end

/-! ## A game less a row or a column -/
def lessB (p q : Int) (xs ys : List Int) (n i : Int) : Bool := validG p q xs ys && decide (0 ≤ i ∧ i ≤ n - 1) && decide (2 ≤ n)
theorem lessB_no1 {p q n i : Int} {xs ys : List Int} (h : validG p q xs ys = false) : lessB p q xs ys n i = false := by rw [lessB, h]; rfl
theorem lessB_no2 {p q n i : Int} {xs ys : List Int} (h : ¬ (0 ≤ i ∧ i ≤ n - 1)) : lessB p q xs ys n i = false := by rw [lessB, decide_eq_false h]; simp
theorem lessB_no3 {p q n i : Int} {xs ys : List Int} (h : n < 2) : lessB p q xs ys n i = false := by rw [lessB, decide_eq_false (p := 2 ≤ n) (by omega)]; simp
theorem lessB_yes {p q n i : Int} {xs ys : List Int} (h : validG p q xs ys = true) (h2 : 0 ≤ i ∧ i ≤ n - 1) (h3 : 2 ≤ n) : lessB p q xs ys n i = true := by rw [lessB, h, decide_eq_true h2, decide_eq_true h3]; rfl
theorem lessB_get {p q n i : Int} {xs ys : List Int} (h : lessB p q xs ys n i = true) : validG p q xs ys = true ∧ (0 ≤ i ∧ i ≤ n - 1) ∧ 2 ≤ n := by
  simp only [lessB, Bool.and_eq_true, decide_eq_true_eq] at h
  exact ⟨h.1.1, h.1.2, h.2⟩
theorem ordL_getZ {n i : Int} {k : Nat} (hn : 0 ≤ n) (h : k < (ordL i n.toNat).length) : 0 ≤ (ordL i n.toNat).getD k 0 ∧ (ordL i n.toNat).getD k 0 < n := by
  have := ordL_get h
  omega
theorem cntL_getZ {n : Int} {k : Nat} (hn : 0 ≤ n) (h : k < (cntL n.toNat).length) : 0 ≤ (cntL n.toNat).getD k 0 ∧ (cntL n.toNat).getD k 0 < n := by
  rw [← ordL_neg] at h ⊢
  exact ordL_getZ hn h
theorem Ints.preO {h : AHeap} {k : Nat} {n i : Int} (hi : 0 ≤ i ∧ i < n) (hg : h[k]? = some (lst (ordL i n.toNat ++ [0]))) : Ints h (slP k (n.toNat - 1) n.toNat) (ordL i n.toNat) := by
  have h1 : (ordL i n.toNat).length = n.toNat - 1 := by rw [ordL_len hi.1, if_neg (by omega)]
  exact Ints.pre hg h1 (by rw [List.length_append, h1]; simp; omega)
theorem len_mul {rs cs : List Int} (h1 : rs.length ≤ 6) (h2 : cs.length ≤ 6) : rs.length * cs.length ≤ 36 := Nat.mul_le_mul h1 h2
theorem gridG_full {f : Int → Int → Int} {rs cs : List Int} : (gridG f rs cs rs.length).length = rs.length * cs.length := gridG_len (Nat.le_refl _)
theorem regroupG4 {h : AHeap} {a b c d x y : AObj} : h ++ [a] ++ [b] ++ [c] ++ [d] ++ [x] ++ [y] = h ++ [a, b, c, d] ++ [x, y] ++ [] := by simp
theorem Ints.ownN {h : AHeap} {k n : Nat} (hg : h[k]? = some (lst (ordL (-1) n))) : Ints h (sl k (ordL (-1) n).length) (cntL n) := by
  rw [ordL_neg] at hg ⊢
  exact Ints.own hg rfl
theorem lessC_len {p q i : Int} {xs ys : List Int} (h : lessB p q xs ys q i = true) : (cntL p.toNat).length * (ordL i q.toNat).length ≤ 36 := by
  have hg := validG_get (lessB_get h).1
  exact len_mul (by rw [cntL_len]; omega) (Nat.le_trans ordL_le (by omega))
end Go.Am
