/-
  The abstract heap: what this claim needs of it. General: no program is named.
-/
import Derived.Test.YtfnopalingnilaaAmG4
namespace Go.Am
set_option linter.unusedSimpArgs false
set_option linter.unusedVariables false
open Ieee
/-! ## A number made wide, whatever it is -/
section
variable {P : Program} {K : Value → AHeap → Prop} {env : Env} {h : AHeap} {dst : Option Tmp} {ty : TypeId} {pos : String} {after : Array Edge} {guard : Option (Nat × Bool)}
end
/-! ## Marks -/
theorem fI_self {n : Int} (h0 : 0 ≤ n) (h1 : n ≤ 1000) : (single.order (fI n) (fI n) != some .eq) = false := by
  have hn := (fI_sm h0 h1).nn
  obtain ⟨m, i, e, _⟩ := fI_read h0 h1
  have : single.order (fI n) (fI n) = some .eq := by
    rw [Format.order, e]
    exact congrArg some (Int.compare_eq_eq.2 rfl)
  rw [this]; rfl
/-! ## Ends of parts -/
theorem gt_lt {x y : Nat} : gtB x y = ltB y x := by
  unfold gtB ltB
  rw [ord_def, ord_def]
  cases single.read x with
  | nan s f => cases single.read y <;> rfl
  | infinity s => cases single.read y with
    | nan t g => cases s <;> rfl
    | infinity t => cases s <;> cases t <;> rfl
    | number t n j => cases s <;> rfl
  | number s m i => cases single.read y with
    | nan t g => rfl
    | infinity t => cases t <;> rfl
    | number t n j =>
      show (some (compare (signed s m (i - min i j).toNat) (signed t n (j - min i j).toNat)) == some .gt) = (some (compare (signed t n (j - min j i).toNat) (signed s m (i - min j i).toNat)) == some .lt)
      rw [Int.min_comm j i]
      generalize signed s m (i - min i j).toNat = a
      generalize signed t n (j - min i j).toNat = b
      rcases Int.lt_trichotomy a b with h | h | h
      · rw [Int.compare_eq_lt.2 h, Int.compare_eq_gt.2 h]; rfl
      · subst h; rw [Int.compare_eq_eq.2 rfl]; rfl
      · rw [Int.compare_eq_gt.2 h, Int.compare_eq_lt.2 h]; rfl
def putF (os : List Int) (f : Nat → Nat) : Nat → List Nat
  | 0 => List.replicate os.length 0
  | s + 1 => (putF os f s).set (os.getD s 0).toNat (f s)
theorem putF_len {os : List Int} {f : Nat → Nat} : ∀ s, (putF os f s).length = os.length
  | 0 => by simp [putF]
  | s + 1 => by rw [putF, List.length_set, putF_len s]
theorem getD_setN {l : List Nat} {i k x : Nat} (hi : i < l.length) : (l.set i x).getD k 0 = if i = k then x else l.getD k 0 := by
  rw [List.getD_eq_getElem?_getD, List.getElem?_set]
  by_cases h : i = k
  · subst h; simp [hi]
  · rw [if_neg h, if_neg h, List.getD_eq_getElem?_getD]
theorem permB_inj {os : List Int} (h : permB os os.length = true) {i j : Nat} (hi : i < os.length) (hj : j < os.length) (e : os.getD i 0 = os.getD j 0) : i = j := by
  have key : ∀ i j, i < j → j < os.length → os.getD i 0 = os.getD j 0 → False := fun i j hij hj e => by
    have := (permB_get h hj).2
    rw [← Bool.not_eq_true, List.contains_iff_mem] at this
    refine this ?_
    rw [← e, getD_at (by omega)]
    refine List.mem_of_getElem? (i := i) ?_
    rw [List.getElem?_take, if_pos hij, List.getElem?_eq_getElem]
  rcases Nat.lt_trichotomy i j with h | h | h
  · exact (key i j h hj e).elim
  · exact h
  · exact (key j i h hi e.symm).elim
theorem putF_at {os : List Int} {f : Nat → Nat} (h : permB os os.length = true) : ∀ s t, t < s → s ≤ os.length → (putF os f s).getD (os.getD t 0).toNat 0 = f t
  | 0, t, ht, _ => by omega
  | s + 1, t, ht, hs => by
    have h1 := (permB_get h (show s < os.length by omega)).1
    have h2 := (permB_get h (show t < os.length by omega)).1
    rw [putF, getD_setN (by rw [putF_len]; omega)]
    by_cases e : t = s
    · subst e; rw [if_pos rfl]
    · rw [if_neg (fun e2 => e (permB_inj h (by omega) (by omega) (by omega))), putF_at h s t (by omega) (by omega)]
theorem permB_sur {os : List Int} (h : permB os os.length = true) {j : Nat} (hj : j < os.length) : ∃ t, t < os.length ∧ (os.getD t 0).toNat = j := by
  refine Classical.byContradiction fun hno => ?_
  have hd : os.Nodup := by
    rw [List.nodup_iff_pairwise_ne, List.pairwise_iff_getElem]
    intro a b ha hb hab e
    have := permB_inj h ha hb (by rw [getD_at ha, getD_at hb]; exact e)
    omega
  have := pigeon os.length ((j : Int) :: os) (fun x hx => by
    rcases List.mem_cons.1 hx with rfl | hx
    · omega
    · obtain ⟨t, ht, rfl⟩ := List.getElem_of_mem hx
      have := (permB_get h ht).1
      rw [getD_at ht] at this
      omega) (List.nodup_cons.2 ⟨fun hm => by
      obtain ⟨t, ht, e⟩ := List.getElem_of_mem hm
      exact hno ⟨t, ht, by rw [getD_at ht, e]; omega⟩, hd⟩)
  simp only [List.length_cons] at this
  omega
def cutF (cs : List Nat) (s : Nat) : Nat := if s = 0 then 0 else cs.getD (s - 1) 0
def endF (cs : List Nat) (s : Nat) : Nat := cs.getD s 0
theorem cutF_zero {cs : List Nat} : cutF cs 0 = 0 := rfl
theorem cutF_succ {cs : List Nat} {s : Nat} : cutF cs (s + 1) = cs.getD s 0 := rfl
def tieB (q : Int) (cs : List Nat) (t : Nat) : Bool := plF q (cs.getD t 0) && (decide (t = 0) || !ltB (cs.getD t 0) (cs.getD (t - 1) 0))
def fitB (q : Int) (bs es : List Nat) (j : Nat) : Bool := plF q (bs.getD j 0) && (plF q (es.getD j 0) && !gtB (bs.getD j 0) (es.getD j 0))
theorem pl_zero {q : Int} (hq : 0 ≤ q ∧ q ≤ 16) : plF q 0 = true := by
  have h := NF.nb (fI_nf (n := q) hq.1 (by omega))
  rw [plF, show geB 0 0 = true by unfold geB; rw [ord_def, read_zero]; rfl, Bool.true_and]
  have h2 := h.gt0
  rw [← not_gt (show NN 0 by rw [NN, read_zero]; rfl) (fI_sm hq.1 (by omega)).nn, h2]; rfl
theorem pl_gt {q : Int} {x : Nat} (h : plF q x = true) : gtB 0 x = false := by
  rw [plF, Bool.and_eq_true] at h
  rw [gt_lt, ltB]
  have h1 := h.1
  unfold geB at h1
  cases e : ord x 0 with
  | none => rw [e] at h1; cases h1
  | some o => rw [e] at h1; cases o <;> first | rfl | cases h1
theorem fit_all {q : Int} {os : List Int} {cs : List Nat} (hq : 0 ≤ q ∧ q ≤ 16) (h : permB os os.length = true) :
    (List.range os.length).all (fitB q (putF os (cutF cs) os.length) (putF os (endF cs) os.length)) = (List.range os.length).all (tieB q cs) := by
  have at1 : ∀ t, t < os.length → (putF os (cutF cs) os.length).getD (os.getD t 0).toNat 0 = cutF cs t := fun t ht => putF_at h _ t ht (Nat.le_refl _)
  have at2 : ∀ t, t < os.length → (putF os (endF cs) os.length).getD (os.getD t 0).toNat 0 = cs.getD t 0 := fun t ht => putF_at h _ t ht (Nat.le_refl _)
  rw [Bool.eq_iff_iff]
  constructor
  · intro ha
    refine List.all_eq_true.2 fun t ht => ?_
    have ht := List.mem_range.1 ht
    have hb := (permB_get h ht).1
    have h1 := List.all_eq_true.1 ha (os.getD t 0).toNat (List.mem_range.2 (by omega))
    rw [fitB, at1 t ht, at2 t ht, Bool.and_eq_true, Bool.and_eq_true] at h1
    rw [tieB, h1.2.1, Bool.true_and]
    cases t with
    | zero => rfl
    | succ t =>
      rw [cutF_succ, gt_lt] at h1
      rw [show t + 1 - 1 = t from rfl, h1.2.2, Bool.or_true]
  · intro ha
    refine List.all_eq_true.2 fun j hj => ?_
    have hj := List.mem_range.1 hj
    obtain ⟨t, ht, rfl⟩ := permB_sur h hj
    have h1 := List.all_eq_true.1 ha t (List.mem_range.2 ht)
    rw [fitB, at1 t ht, at2 t ht]
    rw [tieB, Bool.and_eq_true] at h1
    rw [h1.1, Bool.true_and]
    cases t with
    | zero => rw [cutF_zero, pl_zero hq, pl_gt h1.1]; rfl
    | succ t =>
      have h2 := List.all_eq_true.1 ha t (List.mem_range.2 (by omega))
      rw [tieB, Bool.and_eq_true] at h2
      have h3 := h1.2
      rw [decide_eq_false (by omega), Bool.false_or, show t + 1 - 1 = t from rfl, ← gt_lt] at h3
      rw [cutF_succ, h2.1, h3]; rfl
def lastEq (q : Int) (cs : List Nat) : Bool := !(single.order (cs.getD (cs.length - 1) 0) (fI q) != some .eq)
def envK (p q : Int) (xs os : List Int) (cs : List Nat) : Bool :=
  validC p q xs && (decide ((os.length : Int) = p) && (decide (cs.length = os.length) && (permB os os.length && ((List.range os.length).all (tieB q cs) && lastEq q cs))))
section
variable {p q : Int} {xs os : List Int} {cs : List Nat}
theorem envK_1 (h : validC p q xs = false) : envK p q xs os cs = false := by rw [envK, h]; rfl
theorem envK_2 (h : ¬ (os.length : Int) = p) : envK p q xs os cs = false := by rw [envK, decide_eq_false h]; simp
theorem envK_3 (h : ¬ cs.length = os.length) : envK p q xs os cs = false := by rw [envK, decide_eq_false h]; simp
theorem envK_4 (h : permB os os.length = false) : envK p q xs os cs = false := by rw [envK, h]; simp
theorem envK_6 (h : lastEq q cs = false) : envK p q xs os cs = false := by rw [envK, h]; simp
theorem envK_7 {t : Nat} (hq : 0 ≤ q ∧ q ≤ 16) (hp : permB os os.length = true) (ht : t < os.length) (h : fitB q (putF os (cutF cs) os.length) (putF os (endF cs) os.length) t = false) : envK p q xs os cs = false := by
  rw [envK, ← fit_all hq hp, rall_false ht h]; simp
theorem envK_yes (h1 : validC p q xs = true) (h2 : (os.length : Int) = p) (h3 : cs.length = os.length) (h4 : permB os os.length = true) (h5 : (List.range os.length).all (tieB q cs) = true) (h6 : lastEq q cs = true) : envK p q xs os cs = true := by
  rw [envK, h1, decide_eq_true h2, decide_eq_true h3, h4, h5, h6]; rfl
theorem envK_fit (hq : 0 ≤ q ∧ q ≤ 16) (h1 : validC p q xs = true) (h2 : (os.length : Int) = p) (h3 : cs.length = os.length) (h4 : permB os os.length = true) (h5 : (List.range os.length).all (fitB q (putF os (cutF cs) os.length) (putF os (endF cs) os.length)) = true) (h6 : lastEq q cs = true) : envK p q xs os cs = true :=
  envK_yes h1 h2 h3 h4 (by rw [← fit_all hq h4]; exact h5) h6
end
/-! ## What each would rather have -/
def eatE (xs : List Int) (q : Int) (bs es : List Nat) (i j : Nat) : Nat := cSum (bs.getD j 0) (es.getD j 0) (rowC q i xs) q.toNat
def envE (xs : List Int) (q : Int) (bs es : List Nat) (i j : Nat) : Nat := fSub (eatE xs q bs es i j) (eatE xs q bs es i i)
def rowE (xs : List Int) (q : Int) (bs es : List Nat) (i m : Nat) : List Nat := (List.range m).map (envE xs q bs es i)
def outE (xs : List Int) (q : Int) (bs es : List Nat) (n i m : Nat) : List Nat := ((List.range i).flatMap fun i => rowE xs q bs es i n) ++ rowE xs q bs es i m
section
variable {p q : Int} {xs : List Int} {bs es : List Nat}
theorem outE_step {n i m : Nat} : outE xs q bs es n i m ++ [envE xs q bs es i m] = outE xs q bs es n i (m + 1) := by
  rw [outE, outE, rowE, rowE, List.append_assoc, List.range_succ, List.map_append]; rfl
theorem outE_next {n i : Nat} : outE xs q bs es n i n = outE xs q bs es n (i + 1) 0 := by
  rw [outE, outE, List.range_succ, List.flatMap_append]
  simp [rowE]
theorem rowE_len {i m : Nat} : (rowE xs q bs es i m).length = m := by simp [rowE]
theorem flatE_len {n : Nat} : ∀ i, ((List.range i).flatMap fun i => rowE xs q bs es i n).length = i * n
  | 0 => by simp
  | i + 1 => by
    rw [List.range_succ, List.flatMap_append, List.length_append, flatE_len i, Nat.succ_mul]
    simp [rowE_len]
theorem outE_len {n i m : Nat} : (outE xs q bs es n i m).length = i * n + m := by rw [outE, List.length_append, flatE_len, rowE_len]
theorem fit_get {j : Nat} (h : fitB q bs es j = true) : plF q (bs.getD j 0) = true ∧ plF q (es.getD j 0) = true ∧ gtB (bs.getD j 0) (es.getD j 0) = false := by
  rw [fitB, Bool.and_eq_true, Bool.and_eq_true, Bool.not_eq_true'] at h
  exact ⟨h.1, h.2.1, h.2.2⟩
theorem cwT_fit {i j : Nat} (hV : validC p q xs = true) (hi : (i : Int) < p) :
    cwT p q i xs (bs.getD j 0) (es.getD j 0) = .tuple #[fl (cwR p q i xs (bs.getD j 0) (es.getD j 0)), .bool (fitB q bs es j)] := by
  rw [cwT, cwK, hV, decide_eq_true (show 0 ≤ (i : Int) ∧ (i : Int) ≤ p - 1 by omega), Bool.true_and, Bool.true_and]; rfl
theorem cwR_fit {i j : Nat} (hV : validC p q xs = true) (hi : (i : Int) < p) (h : fitB q bs es j = true) : cwR p q i xs (bs.getD j 0) (es.getD j 0) = eatE xs q bs es i j := by
  rw [cwR, cwK, hV, decide_eq_true (show 0 ≤ (i : Int) ∧ (i : Int) ≤ p - 1 by omega), Bool.true_and, Bool.true_and]
  have : (plF q (bs.getD j 0) && (plF q (es.getD j 0) && !gtB (bs.getD j 0) (es.getD j 0))) = true := h
  rw [this, if_pos rfl]; rfl
theorem eat_nf {i j : Nat} (hV : validC p q xs = true) (hi : (i : Int) < p) (h : fitB q bs es j = true) : NF 56 (eatE xs q bs es i j) := by
  obtain ⟨h1, h2, _⟩ := fit_get h
  obtain ⟨hp, hq, _⟩ := validC_get hV
  have hr := rowC_ok (i := (i : Int)) hV (by omega)
  exact (cSum_nf (pl_of (by omega) h1) (pl_of (by omega) h2) hr.2.2.2.1 q.toNat (by have := hr.2.2.1; omega)).mono (by omega)
theorem env_sub {i j : Nat} (hV : validC p q xs = true) (hi : (i : Int) < p) (hj : fitB q bs es j = true) (hi2 : fitB q bs es i = true) : floatBits .sub .f32 (eatE xs q bs es i j) (eatE xs q bs es i i) = some (envE xs q bs es i j) :=
  fb_sub (sub_small (eat_nf hV hi hj).sm (eat_nf hV hi hi2).sm (by decide) (by decide)).1
end
theorem fI_selfK {n : Int} (h0 : 0 ≤ n) (h1 : n ≤ 1000) : (FloatKind.f32.format.order (fI n) (fI n) != some .eq) = false := fI_self h0 h1
section
variable {P : Program} {ops : Array Oper} {KE : Env → AHeap → Prop} {os : List Oper} {env : Env} {h : AHeap} {d : Option Tmp} {ty : TypeId} {pos : String} {af : Array Edge} {g : Option (Nat × Bool)}
end
theorem lastEq_no {q : Int} {cs : List Nat} (h : (FloatKind.f32.format.order (cs.getD (cs.length - 1) 0) (fI q) != some .eq) = true) : lastEq q cs = false := by
  show (!(FloatKind.f32.format.order (cs.getD (cs.length - 1) 0) (fI q) != some .eq)) = false
  rw [h]; rfl
theorem lastEq_yes {q : Int} {cs : List Nat} (h : (FloatKind.f32.format.order (cs.getD (cs.length - 1) 0) (fI q) != some .eq) = false) : lastEq q cs = true := by
  show (!(FloatKind.f32.format.order (cs.getD (cs.length - 1) 0) (fI q) != some .eq)) = true
  rw [h]; rfl
theorem env_subR {p q : Int} {xs : List Int} {bs es : List Nat} {i j : Nat} (hV : validC p q xs = true) (hi : (i : Int) < p) (hj : fitB q bs es j = true) (hi2 : fitB q bs es i = true) :
    floatBits .sub .f32 (cwR p q i xs (bs.getD j 0) (es.getD j 0)) (cwR p q i xs (bs.getD i 0) (es.getD i 0)) = some (envE xs q bs es i j) := by
  rw [cwR_fit hV hi hj, cwR_fit hV hi hi2]; exact env_sub hV hi hj hi2
theorem cutF_pos {cs : List Nat} {s : Nat} (h : 0 < s) : cutF cs s = cs.getD (s - 1) 0 := if_neg (by omega)
end Go.Am

namespace Go.Am
set_option linter.unusedSimpArgs false
set_option linter.unusedVariables false
open Ieee
def chkH (n : Nat) : Bool := (List.range 5).all fun p => leB (fDiv (fDiv (cSum 0 (fI 1) [(n : Int) + 1] 1) (fI ((p : Int) + 2))) (fI ((n : Int) + 1))) 1056964608
theorem t_half : ((List.range 1000).all chkH) = true := by kernel_rfl
theorem half_le {n p : Int} (hn : 1 ≤ n ∧ n ≤ 1000) (hp : 2 ≤ p ∧ p ≤ 6) : leB (fDiv (fDiv (cSum 0 (fI 1) [n] 1) (fI p)) (fI n)) 1056964608 = true := by
  have h := List.all_eq_true.1 t_half (n - 1).toNat (List.mem_range.2 (by omega))
  have h2 := List.all_eq_true.1 h (p - 2).toNat (List.mem_range.2 (by omega))
  rwa [show (((n - 1).toNat : Nat) : Int) + 1 = n by omega, show (((p - 2).toNat : Nat) : Int) + 2 = p by omega] at h2
end Go.Am

namespace Go.Am
set_option linter.unusedSimpArgs false
set_option linter.unusedVariables false
open Ieee
theorem fI_pos_read {n : Int} (h0 : 1 ≤ n) (h1 : n ≤ 1000) : ∃ m i, single.read (fI n) = .number false m i ∧ i ≤ 0 ∧ m ≠ 0 ∧ V m i = n.toNat * UU := by
  obtain ⟨m, i, e, hi, hv⟩ := fI_pl0 (n := n) (by omega) h1
  refine ⟨m, i, e, hi, ?_, hv⟩
  rintro rfl
  unfold V at hv
  rw [Nat.zero_mul] at hv
  have := Nat.mul_pos (show 0 < n.toNat by omega) UU_pos
  omega
theorem nf_le {E : Int} {x y : Nat} (hx : NF E x) (hy : NB y) (h : leB y x = true) : NF E y := by
  obtain ⟨m, i, e, b⟩ := hx
  obtain ⟨n, j, e2⟩ := hy
  have hv := vle_of_leB e2 e h
  rw [vle] at hv
  exact ⟨n, j, e2, cmp_small b hv⟩
theorem div_nf {E p : Int} {x : Nat} (hx : NF E x) (hp : 1 ≤ p ∧ p ≤ 1000) : single.div x (fI p) = some (fDiv x (fI p)) ∧ NF E (fDiv x (fI p)) := by
  obtain ⟨m, i, e, hi, hm, hv⟩ := fI_pos_read hp.1 hp.2
  refine ⟨(div_nn hx.sm.nn e hm).1, ?_⟩
  obtain ⟨a, ha⟩ := hx.nb.nv
  obtain ⟨v, h1, h2⟩ := div_NV ha ⟨m, i, e, hi, hm, hv⟩ ha (by
    rw [Nat.mul_comm a, Nat.mul_right_comm]
    have : 1 * a ≤ p.toNat * a := Nat.mul_le_mul_right _ (by omega)
    have := Nat.mul_le_mul_right UU this
    rw [Nat.one_mul] at this
    rwa [Nat.mul_comm UU])
  exact nf_le hx h1.nb ((leB_NV h1 ha).2 h2)
theorem half_NV : ∃ v, NV 1056964608 v ∧ 2 * v = UU := by
  obtain ⟨j, hj⟩ : ∃ j : Int, j = -24 := ⟨_, rfl⟩
  refine ⟨V 8388608 j, ⟨_, j, by rw [hj]; exact read_half, rfl⟩, ?_⟩
  have gen : ∀ a u : Nat, u = 24 + a → 2 * (8388608 * 2 ^ a) = 2 ^ u := fun a u h => by rw [h, ← Nat.mul_assoc, Nat.pow_add]
  unfold V UU
  exact gen (j + 300).toNat 300 (by omega)
theorem geB_NV {x y a b : Nat} (hx : NV x a) (hy : NV y b) (h : geB x y = true) : b ≤ a := (leB_NV hy hx).1 (ge_le hx.nb hy.nb h)
theorem cut_inM {q : Int} {x w vx : Nat} {ws : List Int} {E : Int} (hq : 1 ≤ q ∧ q ≤ 16) (hl : (ws.length : Int) = q) (hw : okW ws) (hx : NV x vx) (hX : PlD x) (h0 : NF E w) (hE : 24 ≤ E ∧ E ≤ 60)
    (h1 : q = 1 → 0 < ws.getD 0 0 → leB (fDiv w (fI (ws.getD 0 0))) 1056964608 = true) : NB (mAll q x w ws) ∧ leB (mAll q x w ws) (fI q) = true := by
  have hfq := (fI_nf (n := q) (by omega) (by omega)).nb
  have hU := UU_pos
  rw [mAll]
  split
  · rename_i hc
    obtain ⟨k, hk, hh, he⟩ := (idxTo_lt (g := mHitI x w ws) (ys := cntL q.toNat) q.toNat).1 hc
    have he' : mFir x w ws q.toNat = (k : Int) := he
    have hbefore : ∀ j, j < k → mHit x w ws j = false := fun j hj => by
      have := idxTo_first (f := mHitI x w ws) _ he hj
      rw [cntL_get (by omega)] at this
      exact this
    rw [he']
    rw [cntL_get hk] at hh
    have hh' : mHit x w ws k = true := hh
    have hkl : k < ws.length := by omega
    have hb := hw.2 k hkl
    simp only [mHit, Bool.and_eq_true, decide_eq_true_eq] at hh'
    obtain ⟨hg, hP, hpos⟩ := hh'
    have hLn := (mLeft_nfG hx hX hw h0 hE k (by omega) hbefore).nb
    obtain ⟨vL, hL⟩ := hLn.nv
    obtain ⟨vP, hPv, hPle⟩ := piece_nv hw hkl hx hg
    have hLP := geB_NV hPv hL hP
    have hN := fI_NV hb.1 hb.2
    obtain ⟨m, i, e, hi, hm, hv⟩ := fI_pos_read (n := ws.getD k 0) (by omega) hb.2
    have hd := div_le hLn hN.nb ⟨m, i, e, hm⟩ ((leB_NV hL hN).2 (by omega))
    obtain ⟨vr, hr⟩ := hd.1.nv
    have hr1 := (leB_NV hr one_NV).1 hd.2
    show NB (mRes x w ws k) ∧ leB (mRes x w ws k) (fI q) = true
    rw [mRes]
    have hs : (k + 1) * UU = k * UU + UU := Nat.succ_mul k UU
    have hqV := fI_NV (n := q) (by omega) (by omega)
    have hkq : (k + 1) * UU ≤ q.toNat * UU := Nat.mul_le_mul_right _ (by omega)
    obtain ⟨α, ha, ha1, ha2, ha3⟩ := cA_nv (k := k) (by omega) hx hg
    rcases ha3 with ⟨a1, a2, a3⟩ | a1
    · rw [a1]
      subst a2
      by_cases c : (k + 1) * UU ≤ 2 * α
      · have hlp := last_part (x := x) (l := mLeft x w ws k) (n := fI (ws.getD k 0)) (q := k + 1) (vx := α) (vl := vL) (N := ws.getD k 0) (by omega) (by omega) hx (by rw [Nat.add_sub_cancel]; exact a3) ha2 c hL
          ⟨vP, by
            have e3 : mP x ws k = fMul (fI (ws.getD k 0)) (fSub (fI ((k + 1 : Nat) : Int)) x) := by rw [mP, a1]; rfl
            rwa [← e3], hLP⟩ rfl
        refine ⟨hlp.1, leB_trans hlp.1 (fI_NVk (k := k + 1) (by omega)).nb hfq hlp.2 ?_⟩
        exact (leB_NV (fI_NVk (k := k + 1) (by omega)) hqV).2 hkq
      · have hk0 : k = 0 := by
          by_cases ck : k = 0
          · exact ck
          · exfalso
            apply c
            have : 1 * UU ≤ k * UU := Nat.mul_le_mul_right _ (by omega)
            omega
        subst hk0
        by_cases cq : q = 1
        · have hh := h1 cq hpos
          obtain ⟨vh, hH, hH2⟩ := half_NV
          have hr2 : vr ≤ vh := (leB_NV hr hH).1 hh
          refine add_cap hx hr hqV ?_
          rw [cq]
          rw [one_nat]
          omega
        · refine add_cap hx hr hqV ?_
          have : 2 * UU ≤ q.toNat * UU := Nat.mul_le_mul_right _ (by omega)
          omega
    · rw [a1] at ha
      have h9 : k * UU + vr ≤ q.toNat * UU := by omega
      exact add_cap ha hr hqV h9
  · exact ⟨hfq, le_self hfq⟩

/-! ## The knife that moves -/
theorem kgetD {l : List Int} {k : Nat} (h : k < l.length) : l.getD k 0 = l[k] := by simp [List.getD, h]
abbrev kF (p q : Int) (xs : List Int) (i : Int) : Nat := cSum 0 (fI q) (rowC q i xs) q.toNat
abbrev kW (p q : Int) (xs : List Int) (i : Int) : Nat := fDiv (kF p q xs i) (fI p)
abbrev kM (p q : Int) (xs : List Int) (at_ : Nat) (i : Int) : Nat := mAll q at_ (kW p q xs i) (rowC q i xs)
structure KnOk (p q : Int) (xs : List Int) (x : Nat) (i : Int) : Prop where
  k1 : cwK p q i xs 0 (fI q) = true
  k2 : cmK p q i xs x (kW p q xs i) = true
  w0 : (validC p q xs && decide ((0 : Int) ≤ i ∧ i ≤ p - 1)) = true
  h0 : plF q 0 = true
  h1 : plF q (fI q) = true
  m2 : finB (kW p q xs i) = true
  f5 : floatBits .quo .f32 (kF p q xs i) (fI p) = some (kW p q xs i)
  hm : NB (kM p q xs x i) ∧ plF q (kM p q xs x i) = true
theorem plF_nb {q : Int} {x : Nat} (h : NB x) (h2 : leB x (fI q) = true) : plF q x = true := by rw [plF, h.ge0, h2]; rfl
theorem plF_zero {q : Int} (hq : 1 ≤ q ∧ q ≤ 16) : plF q 0 = true := by
  obtain ⟨m, i, e, _⟩ := fI_nf (n := q) (by omega) (by omega)
  have hle0 : leB 0 (fI q) = true := leB_of_vle read_zero e (by rw [vle, Nat.zero_mul]; exact Nat.zero_le _)
  rw [plF, zero_nb.ge0, hle0]; rfl
theorem kn_ok {p q i : Int} {xs : List Int} {x : Nat} (h : validC p q xs = true) (hp : 2 ≤ p) (hi : 0 ≤ i ∧ i ≤ p - 1) (hx : NB x) (hpl : plF q x = true) : KnOk p q xs x i := by
  obtain ⟨hp6, hq, hxq, _⟩ := validC_get h
  have hfq := fI_nf (n := q) (by omega) (by omega)
  have hr := rowC_ok (i := i) h hi
  have hX : PlD 0 := ⟨false, 0, -149, read_zero, by simp, .inl rfl⟩
  have hY : PlD (fI q) := fI_pl (by omega) (by omega)
  have hs := (cSum_nf hX hY hr.2.2.2.1 q.toNat (by have := hr.2.2.1; omega)).mono (E' := 56) (by omega)
  have hd := div_nf hs (p := p) (by omega)
  have hle : ∃ v, NV x v := hx.nv
  obtain ⟨v, hv⟩ := hle
  have hc := cut_inM hq hr.2.2.1 hr.2.2.2.1 hv (pl_of (by omega) hpl) hd.2 (by decide) (by
    rintro rfl hpos
    have hrl := hr.2.2.1
    obtain ⟨n, hn⟩ : ∃ n, rowC 1 i xs = [n] := by
      match hz : rowC 1 i xs, hrl with
      | [n], _ => exact ⟨n, rfl⟩
      | [], h9 => simp at h9
      | _ :: _ :: _, h9 => simp at h9; omega
    have hb := hr.2.2.2.1.2 0 (by omega)
    rw [hn] at hpos hb ⊢
    exact half_le ⟨by show 1 ≤ n; have : 0 < n := hpos; omega, hb.2⟩ ⟨hp, hp6.2⟩)
  have w0 : (validC p q xs && decide ((0 : Int) ≤ i ∧ i ≤ p - 1)) = true := by rw [h, decide_eq_true hi]; rfl
  have p1 : plF q (fI q) = true := plF_nb hfq.nb (le_self hfq.nb)
  exact ⟨cwK_yes w0 (plF_zero hq) p1 hfq.nb.gt0, cmK_yes w0 hpl hd.2.nb.ge0 hd.2.fin, w0, plF_zero hq, p1, hd.2.fin, fb_div hd.1, hc.1, plF_nb hc.1 hc.2⟩
/-- The first least. -/
def kB (f : Int → Nat) (zs : List Int) : Nat → Nat × Nat
  | 0 => (0, 0)
  | k + 1 => if (decide (k = 0) || ltB (f (zs.getD k 0)) (kB f zs k).2) = true then (k, f (zs.getD k 0)) else kB f zs k
theorem kB_lt {f : Int → Nat} {zs : List Int} : ∀ k, 0 < k → (kB f zs k).1 < k
  | k + 1, _ => by
    rw [kB]
    split
    · exact Nat.lt_succ_self k
    · rename_i c
      by_cases ck : k = 0
      · subst ck; exact absurd rfl c
      · exact Nat.lt_succ_of_lt (kB_lt k (by omega))
theorem kB_val {f : Int → Nat} {zs : List Int} : ∀ k, 0 < k → (kB f zs k).2 = f (zs.getD (kB f zs k).1 0)
  | k + 1, _ => by
    rw [kB]
    split
    · rfl
    · rename_i c
      by_cases ck : k = 0
      · subst ck; exact absurd rfl c
      · exact kB_val k (by omega)
def kJ (f : Int → Nat) (zs : List Int) (k : Nat) : Int := if k = 0 then -1 else ((kB f zs k).1 : Int)
theorem er_in {l : List Int} {P : Int → Prop} (h : ∀ k, k < l.length → P (l.getD k 0)) (b k : Nat) (hk : k < (l.eraseIdx b).length) : P ((l.eraseIdx b).getD k 0) := by
  have hmem : (l.eraseIdx b).getD k 0 ∈ l := by
    rw [kgetD hk]
    exact List.mem_of_mem_eraseIdx (List.getElem_mem _)
  obtain ⟨j, hj, e⟩ := List.getElem_of_mem hmem
  have := h j hj
  rwa [kgetD hj, e] at this
structure KState where
  left : List Int
  x : Nat
  os : List Int
  cs : List Nat
def kN (p q : Int) (xs : List Int) (s : KState) : KState :=
  let b := kB (kM p q xs s.x) s.left s.left.length
  ⟨s.left.eraseIdx b.1, b.2, s.os ++ [s.left.getD b.1 0], s.cs ++ [b.2]⟩
def kS (p q : Int) (xs : List Int) : Nat → KState
  | 0 => ⟨cntL p.toNat, 0, [], []⟩
  | t + 1 => kN p q xs (kS p q xs t)
structure KInv (p q : Int) (s : KState) (t : Nat) : Prop where
  ll : (s.left.length : Int) = p - t
  lz : ∀ k, k < s.left.length → 0 ≤ s.left.getD k 0 ∧ s.left.getD k 0 ≤ p - 1
  xb : NB s.x
  xp : plF q s.x = true
  ol : s.os.length = t
  cl : s.cs.length = t
theorem kS_inv {p q : Int} {xs : List Int} (h : validC p q xs = true) : ∀ t : Nat, (t : Int) + 1 ≤ p → KInv p q (kS p q xs t) t
  | 0, ht => by
    obtain ⟨hp6, hq, hxq, _⟩ := validC_get h
    refine ⟨by show ((cntL p.toNat).length : Int) = _; rw [cntL_len]; omega, fun k hk => ?_, zero_nb, plF_zero hq, rfl, rfl⟩
    have hk' : k < p.toNat := by rwa [show (kS p q xs 0).left = cntL p.toNat from rfl, cntL_len] at hk
    show 0 ≤ (cntL p.toNat).getD k 0 ∧ _
    rw [show (kS p q xs 0).left = cntL p.toNat from rfl, cntL_get hk']
    omega
  | t + 1, ht => by
    have ih := kS_inv h t (by omega)
    have hlp : 0 < (kS p q xs t).left.length := by have := ih.ll; omega
    have hb := kB_lt (f := kM p q xs (kS p q xs t).x) (zs := (kS p q xs t).left) _ hlp
    have hv := kB_val (f := kM p q xs (kS p q xs t).x) (zs := (kS p q xs t).left) _ hlp
    have hz := ih.lz _ hb
    have hm := (kn_ok h (by omega) hz ih.xb ih.xp).hm
    refine ⟨?_, fun k hk => ?_, ?_, ?_, ?_, ?_⟩
    · show ((List.eraseIdx _ _).length : Int) = _
      rw [List.length_eraseIdx, if_pos hb]
      have := ih.ll
      omega
    · show 0 ≤ (List.eraseIdx _ _).getD k 0 ∧ (List.eraseIdx _ _).getD k 0 ≤ p - 1
      refine er_in (l := (kS p q xs t).left) (P := fun z => 0 ≤ z ∧ z ≤ p - 1) ih.lz _ _ hk
    · show NB (kB _ _ _).2
      rw [hv]; exact hm.1
    · show plF q (kB _ _ _).2 = true
      rw [hv]; exact hm.2
    · show (_ ++ [_]).length = t + 1
      rw [List.length_append, ih.ol]; rfl
    · show (_ ++ [_]).length = t + 1
      rw [List.length_append, ih.cl]; rfl
end Go.Am

namespace Go.Am
set_option linter.unusedSimpArgs false
set_option linter.unusedVariables false
open Go.RowKit
/-- A region of these operations, in each order, told of its acts. -/
def AWpA (P : Program) (n : Nat) (l : List Oper) (Q : Exit → Env → AHeap → Prop) (env : Env) (h : AHeap) : Prop :=
  ∀ m w a, Rel m h w → EnvRel m h n env a → wpAny P .any l.toArray (fun e a' w' => e = .normal ∧ ∃ m' env' h', Rel m' h' w' ∧ Step m h w m' h' w' ∧ EnvRel m' h' n env' a' ∧ Q e env' h') l.toArray.size (Array.replicate l.toArray.size false) a { w with drawn := w.drawn + 1 }
theorem awp_drawE0A {P : Program} {n : Nat} {l l0 T : List Oper} {A E : Oper} {dE : Tmp} {jE : Nat} {Q : Exit → Env → AHeap → Prop} {env : Env} {h : AHeap} 
    (hd : depOk l.toArray = true) (hsA : sinkBut l.toArray jE l0.length = true) (hsT : ((List.range T.length).all fun i => sinkAt l.toArray (l0.length + 1 + i)) = true) (hin : dstsIn n l = true) (hl : l = l0 ++ A :: T)
    (hE : l0[jE]? = some E) (hdE : E.dst = some dE) (hgA : A.guard = none) (hgE : E.guard = none) (hgT : (T.all fun o => o.guard.isNone) = true) (hAE : noSlot dE A = true) (hEE : noSlot dE E = true) (hneA : A.dst ≠ some dE)
    (hone : ((List.range l0.length).all fun j => (j == jE) || decide ((l0[j]?).bind (·.dst) ≠ some dE)) = true)
    (hr : DRun P l.toArray (fun env1 h1 => AOp P A (fun v h2 => AOp P E (fun v' h' => v' = env1 dE ∧ h' = h2) (env1.put A.dst v) h2 ∧ ARun P l.toArray (Q .normal) T (env1.put A.dst v) h2) env1 h1) l0 env h) : AWpA P n l Q env h := by
  intro m w a hrel he
  obtain ⟨V0, H0, rfl, hA, hst0⟩ := drun_run l0 env h hr
  generalize henv1 : dval (fun j => (l0[j]?).bind (·.dst)) V0 env (fun _ => true) l0.length = env1 at hA
  let V : Nat → Value := fun j => if j < l0.length then V0 j else undef
  let H : Nat → AHeap := fun j => if j ≤ l0.length then H0 j else H0 l0.length
  have hlen : l.length = l0.length + 1 + T.length := by rw [hl]; simp; omega
  have hsz : l.toArray.size = l0.length + 1 + T.length := by simp [hlen]
  have hH00 : H 0 = H0 0 := by simp [H]
  have hHj : ∀ j, l0.length ≤ j → H j = H0 l0.length := fun j hj => by
    by_cases e : j = l0.length
    · simp [H, e]
    · have : ¬ j ≤ l0.length := by omega
      simp [H, this]
  have oA : (l.toArray)[l0.length]? = some A := by rw [List.getElem?_toArray, hl]; simp
  have hjE : jE < l0.length := (List.getElem?_eq_some_iff.1 hE).1
  have oE : (l.toArray)[jE]? = some E := by rw [List.getElem?_toArray, hl, List.getElem?_append_left hjE]; exact hE
  have oT : ∀ (j : Nat) (o : Oper), T[j]? = some o → (l.toArray)[l0.length + 1 + j]? = some o := fun j o ho => by
    rw [List.getElem?_toArray, hl, List.getElem?_append_right (by omega), show l0.length + 1 + j - l0.length = j + 1 by omega, List.getElem?_cons_succ]; exact ho
  have hdst : ∀ j, j < l0.length → ((l.toArray)[j]?).bind (·.dst) = (l0[j]?).bind (·.dst) := fun j hj => by
    simp only [List.getElem?_toArray]; rw [hl, List.getElem?_append_left hj]
  have hdv : ∀ i, i ≤ l0.length → dval (fun j => ((l.toArray)[j]?).bind (·.dst)) V env (fun _ => true) i = dval (fun j => (l0[j]?).bind (·.dst)) V0 env (fun _ => true) i := fun i hi =>
    dval_congr i fun j hj => ⟨hdst j (by omega), by simp [V]; omega⟩
  have hdv1 : dval (fun j => ((l.toArray)[j]?).bind (·.dst)) V env (fun _ => true) l0.length = env1 := (hdv _ (Nat.le_refl _)).trans henv1
  have hrun : ∀ (i : Nat) (x : Oper), i < l0.length → (l.toArray)[i]? = some x → RunAt P l.toArray (fun j => ((l.toArray)[j]?).bind (·.dst)) V env H i x := fun i x hi hx => by
    have hx0 : l0[i]? = some x := by
      rw [List.getElem?_toArray, hl, List.getElem?_append_left hi] at hx; exact hx
    have := hst0 i x hx0
    unfold RunAt at this ⊢
    rw [hdv i (by omega)]
    have e1 : H i = H0 i := by simp [H]; omega
    have e2 : H (i + 1) = H0 (i + 1) := by simp [H]; omega
    have e3 : V i = V0 i := by simp [V, hi]
    rw [e1, e2, e3]; exact this
  have hst' : ∀ (i : Nat) (x : Oper), (l.toArray)[i]? = some x → ∃ g, H (i + 1) = H i ++ g ∧ (∀ y ∈ g, ∀ u ∈ y.cells, Within (H (i + 1)).length u) ∧ Within (H (i + 1)).length (V i) := fun i x hx => by
    by_cases hi : i < l0.length
    · obtain ⟨g, q1, q2, q3, _⟩ := hrun i x hi hx
      exact ⟨g, q1, q2, q3⟩
    · have e3 : V i = undef := by simp only [V, hi, if_false]
      exact ⟨[], by rw [hHj _ (by omega), hHj _ (by omega), List.append_nil], by simp, by rw [e3]; exact .tuple fun i h1 => by simp at h1⟩
  have hHN : H l.toArray.size = H0 l0.length := hHj _ (by omega)
  rw [← hH00] at hrel he ⊢
  have hsteps : ∀ j, j < l.toArray.size → ∃ g, H (j + 1) = H j ++ g := fun j hj => by
    obtain ⟨g, hg, _⟩ := hst' j _ (Array.getElem?_eq_getElem hj)
    exact ⟨g, hg⟩
  obtain ⟨g0, hg0⟩ := run_prefix hsteps 0 l.toArray.size (by omega) (Nat.le_refl _)
  have hH : ∀ {k : Nat}, k < (H 0).length → (H l.toArray.size)[k]? = (H 0)[k]? := fun {k} hk => by rw [hg0, List.getElem?_append_left hk]
  let m1 : Map := fun k => if k < (H 0).length then m k else none
  have hm1 : ∀ {k}, k < (H 0).length → m1 k = m k := fun {k} hk => by simp [m1, hk]
  have hm1' : ∀ {k l}, m1 k = some l → k < (H 0).length ∧ m k = some l := fun {k l} hk => by
    simp only [m1] at hk
    split at hk
    · exact ⟨‹_›, hk⟩
    · cases hk
  have ex : Ext m (H 0) m1 (H l.toArray.size) := fun k o hk => by
    have h1 := (List.getElem?_eq_some_iff.1 hk).1
    exact ⟨o, by rw [hH h1]; exact hk, Nat.le_refl _, rfl, rfl, fun l hl => ⟨l, by rw [hm1 h1]; exact hl, fun _ => rfl⟩⟩
  have hback : ∀ {k o l1}, (H l.toArray.size)[k]? = some o → m1 k = some l1 → (H 0)[k]? = some o ∧ m k = some l1 := fun {k o l1} hk hl => by
    obtain ⟨h1, h2⟩ := hm1' hl
    exact ⟨by rw [← hH h1]; exact hk, h2⟩
  have hcl : ∀ p, p ≤ l.toArray.size → Closed (H p) := fun p => by
    induction p with
    | zero => exact fun _ => hrel.closed
    | succ p ih =>
      intro hp k o hk u hu
      obtain ⟨g, hg, hcl, _⟩ := hst' p _ (Array.getElem?_eq_getElem (by omega))
      rw [hg] at hk
      rw [List.getElem?_append] at hk
      split at hk
      · exact (ih (by omega) k o hk u hu).mono (by rw [hg]; simp)
      · exact hcl o (List.mem_of_getElem? hk) u hu
  have inv0 : DInv n l.toArray V H env m w (Array.replicate l.toArray.size false) m1 a { w with drawn := w.drawn + 1 } := by
    refine ⟨⟨fun k o l1 hk hl hp => ?_, fun k1 k2 o1 o2 l1 l2 g1 g2 e1 e2 hne hm p1 p2 => ?_, hcl _ (Nat.le_refl _)⟩, fun k hk => ⟨fun l1 hl => by rw [hm1 hk]; exact hl, fun hn => by rw [hm1 hk]; exact hn⟩, fun k l1 hk hl => ?_,
      Nat.le_refl _, rfl, rfl, rfl, fun _ _ _ => rfl, fun k o l1 hk hl hp => ?_, ⟨he.size, he.defers, fun t => ?_⟩, by simp, fun i o hi hlj => ?_⟩
    · obtain ⟨q1, q2⟩ := hback hk hl
      obtain ⟨c, ty, fz, hb, hc, hm⟩ := hrel.holds k o l1 q1 q2 hp
      refine ⟨c, ty, fz, hb, fun j hj => ?_, hm⟩
      obtain ⟨r, r1, r2⟩ := hc j hj
      exact ⟨r, r1, r2.mono ex⟩
    · obtain ⟨q1, q2⟩ := hback g1 e1
      obtain ⟨q3, q4⟩ := hback g2 e2
      exact hrel.sep k1 k2 o1 o2 l1 l2 q1 q3 q2 q4 hne hm p1 p2
    · have := (hm1' hl).1; omega
    · obtain ⟨q1, q2⟩ := hback hk hl
      exact .inr ⟨k, o, l1, q1, q2, hp, rfl, fun hh => hh⟩
    · have : dval (fun j => ((l.toArray)[j]?).bind (·.dst)) V env (fun j => (Array.replicate l.toArray.size false).getD j false) l.toArray.size t = env t := by
        have h0 : ∀ N, dval (fun j => ((l.toArray)[j]?).bind (·.dst)) V env (fun j => (Array.replicate l.toArray.size false).getD j false) N = env := fun N => by
          induction N with
          | zero => rfl
          | succ N ih => simp only [dval]; rw [if_neg (by rw [getD_replicate_false]; simp), ih]
        rw [h0]
      rw [this]
      exact (he.vals t).mono ex
    · rw [getD_replicate_false] at hlj; cases hlj
  -- what is wanted at the end
  let G : Exit → Act → World → Prop := fun e a' w' => e = .normal ∧ ∃ m' env' h', Rel m' h' w' ∧ Step m (H 0) w m' h' w' ∧ EnvRel m' h' n env' a' ∧ Q e env' h'
  have hin' : dstsIn n l.toArray.toList = true := by simpa using hin
  have hsT' : ∀ j, j < T.length → sinkAt l.toArray (l0.length + 1 + j) = true := fun j hj => List.all_eq_true.1 hsT j (List.mem_range.2 hj)
  -- only what stands behind is left
  have phaseT : ∀ (T2 T1 : List Oper) (fuel : Nat) (listed : Array Bool) (env2 : Env) (m' : Map) (h2 : AHeap) (a' : Act) (w' : World), T = T1 ++ T2 → listed.size = l.toArray.size → left l.toArray.size listed ≤ fuel →
      (∀ i, i < l0.length + 1 + T1.length → listed.getD i false = true) → (∀ i, l0.length + 1 + T1.length ≤ i → listed.getD i false = false) →
      (∀ (i : Nat) (o : Oper), l.toArray[i]? = some o → listed.getD i false = true → ∀ e ∈ o.after, Region.binds .any e = true → listed.getD e.on false = true) →
      Rel m' h2 w' → Step m (H 0) w m' h2 w' → EnvRel m' h2 n env2 a' → ARun P l.toArray (Q .normal) T2 env2 h2 → wpAny P .any l.toArray G fuel listed a' w' := by
    intro T2
    induction T2 with
    | nil =>
      intro T1 fuel listed env2 m' h2 a' w' hTT hls hf hall hno hcl irel hst ienv har
      refine wpAny_done (fun j hj => hall j ?_) ⟨rfl, m', env2, h2, irel, hst, ienv, har⟩ fuel
      have : T.length = T1.length := by rw [hTT]; simp
      omega
    | cons o T2 ih =>
      intro T1 fuel listed env2 m' h2 a' w' hTT hls hf hall hno hcl irel hst ienv har
      have hT1 : T1.length < T.length := by rw [hTT]; simp
      have hoT : T[T1.length]? = some o := by rw [hTT]; simp
      have oo := oT _ _ hoT
      have hun : listed.getD (l0.length + 1 + T1.length) false = false := hno _ (Nat.le_refl _)
      have hgo : o.guard = none := by
        have := List.all_eq_true.1 hgT o (List.mem_of_getElem? hoT)
        simpa using this
      have hop : AOp P o (fun v h' => ARun P l.toArray (Q .normal) T2 (env2.put o.dst v) h') env2 h2 := by
        rcases har with ⟨_, q⟩ | ⟨q, _⟩
        · exact q
        · rw [wantedA_noguard hgo] at q; cases q
      cases fuel with
      | zero => exact absurd (left_pos (N := l.toArray.size) (by omega) hun) (by omega)
      | succ fuel =>
        refine ⟨fun hnil => absurd hnil (ready_some hls hd _ (by omega) hun), fun i hi => ?_⟩
        obtain ⟨q1, oi, q2, q3⟩ := mem_ready.1 hi
        have hlt := (Array.getElem?_eq_some_iff.1 q2).1
        have hiT : i = l0.length + 1 + T1.length := by
          refine Classical.byContradiction fun hx => ?_
          by_cases h7 : i < l0.length + 1 + T1.length
          · have h6 := hall i h7
            rw [getD_both q1] at h6; cases h6
          · have h5 := hsT' (i - (l0.length + 1)) (by omega)
            rw [show l0.length + 1 + (i - (l0.length + 1)) = i by omega] at h5
            have := sinkAt_all h5 hcl q2 q3 i (l0.length + 1 + T1.length) (by omega) (by omega)
            rw [hun] at this; cases this
        subst hiT
        rw [oo] at q2; cases q2
        have hset : (listed.setIfInBounds (l0.length + 1 + T1.length) true).getD (l0.length + 1 + T1.length) false = true := by
          have : l0.length + 1 + T1.length < listed.size := by rw [hls]; omega
          simp [Array.getD_eq_getD_getElem?, this]
        refine wpOp_of oo hin' hgo irel hst ienv hop fun u h1 m3 a3 w3 r3 s3 e3 hq => ih (T1 ++ [o]) fuel _ _ m3 h1 a3 w3 (by rw [hTT]; simp) (by rw [Array.size_setIfInBounds]; exact hls) ?_ (fun j hj => ?_) (fun j hj => ?_) (fun j x hx hl9 e he9 hb9 => ?_) r3 s3 e3 hq
        · have := left_lt hls (i := l0.length + 1 + T1.length) (by omega) hun
          omega
        · by_cases h9 : j = l0.length + 1 + T1.length
          · subst h9; exact hset
          · rw [getD_set_ne false (fun e => h9 e.symm)]
            refine hall j ?_
            simp at hj; omega
        · simp at hj
          rw [getD_set_ne false (by omega)]
          exact hno j (by omega)
        · by_cases h9 : e.on = l0.length + 1 + T1.length
          · rw [h9]; exact hset
          · rw [getD_set_ne false (fun e => h9 e.symm)]
            by_cases h8 : j = l0.length + 1 + T1.length
            · subst h8; rw [oo] at hx; cases hx; exact q3 e he9 hb9
            · rw [getD_set_ne false (fun e => h8 e.symm)] at hl9
              exact hcl j x hx hl9 e he9 hb9
  have hbut : ∀ listed : Array Bool, (∀ i, i < l0.length → i ≠ jE → listed.getD i false = true) → ∀ t, t ≠ dE → env1 t = dval (fun j => ((l.toArray)[j]?).bind (·.dst)) V env (fun j => listed.getD j false) l0.length t := fun listed hpre t ht => by
    rw [← hdv1]
    refine (dval_agree (q := fun _ => true) _ fun j hj hd9 => hpre j hj fun e => ?_).symm
    subst e
    simp only [oE, Option.bind_some, hdE, Option.some.injEq] at hd9
    exact ht hd9.symm
  have phaseA : ∀ (fuel : Nat) (listed : Array Bool) (m' : Map) (a' : Act) (w' : World), left l.toArray.size listed ≤ fuel + 1 → (∀ e ∈ A.after, Region.binds .any e = true → listed.getD e.on false = true) → (∀ i, l0.length ≤ i → listed.getD i false = false) →
      DInv n l.toArray V H env m w listed m' a' w' → wpOp P l.toArray G l0.length (wpAny P .any l.toArray G fuel (listed.setIfInBounds l0.length true)) a' w' := by
    intro fuel listed m' a' w' hf hrd hno inv
    have hunA := hno l0.length (Nat.le_refl _)
    have hpre := fun i hi hne => sinkBut_all hsA inv.closed oA hrd l0.length i (by omega) hi hne
    have irel := inv.rel
    rw [hHN] at irel
    have hstep : Step m (H 0) w m' (H0 l0.length) w' := by
      rw [← hHN]
      exact ⟨fun k x hk => by
        have h1 := (List.getElem?_eq_some_iff.1 hk).1
        obtain ⟨e1, e2⟩ := inv.ext0 k h1
        exact ⟨x, by rw [hH h1]; exact hk, Nat.le_refl _, rfl, rfl, fun l1 hl => ⟨l1, e1 l1 hl, fun _ => rfl⟩, e2⟩, inv.size, inv.os, inv.tape, inv.output, inv.frame, inv.own⟩
    have ienv := inv.env
    rw [hHN, hsz, dval_cut (k := l0.length) _ (by omega) (fun j hj _ => hno j hj)] at ienv
    have hleft := left_lt inv.lsize (i := l0.length) (by omega) hunA
    have hls : (listed.setIfInBounds l0.length true).size = l.toArray.size := by rw [Array.size_setIfInBounds]; exact inv.lsize
    have hset : (listed.setIfInBounds l0.length true).getD l0.length false = true := by
      have : l0.length < listed.size := by rw [inv.lsize]; omega
      simp [Array.getD_eq_getD_getElem?, this]
    have hclosed2 : ∀ (i : Nat) (o : Oper), l.toArray[i]? = some o → (listed.setIfInBounds l0.length true).getD i false = true → ∀ e ∈ o.after, Region.binds .any e = true → (listed.setIfInBounds l0.length true).getD e.on false = true := fun i o ho hl9 e he9 hb9 => by
      by_cases h9 : e.on = l0.length
      · rw [h9]; exact hset
      · rw [getD_set_ne false (fun e => h9 e.symm)]
        by_cases h8 : i = l0.length
        · subst h8; rw [oA] at ho; cases ho; exact hrd e he9 hb9
        · rw [getD_set_ne false (fun e => h8 e.symm)] at hl9
          exact inv.closed i o ho hl9 e he9 hb9
    have hno2 : ∀ i, l0.length + 1 ≤ i → (listed.setIfInBounds l0.length true).getD i false = false := fun i hi => by rw [getD_set_ne false (by omega)]; exact hno i (by omega)
    by_cases hM : listed.getD jE false = true
    · have e0 : dval (fun j => ((l.toArray)[j]?).bind (·.dst)) V env (fun j => listed.getD j false) l0.length = env1 := by
        rw [← hdv1]
        funext t
        refine dval_agree (q := fun _ => true) _ (fun j hj _ => ?_)
        by_cases h9 : j = jE
        · rw [h9]; exact hM
        · exact hpre j hj h9
      rw [e0] at ienv
      refine wpOp_of oA hin' hgA irel hstep ienv hA fun v h1 m3 a3 w3 r3 s3 e3 hq => ?_
      refine phaseT T [] fuel _ _ m3 h1 a3 w3 rfl hls (by omega) (fun i hi => ?_) (fun i hi => hno2 i (by simpa using hi)) hclosed2 r3 s3 e3 hq.2
      by_cases h9 : i = l0.length
      · subst h9; exact hset
      · rw [getD_set_ne false (fun e => h9 e.symm)]
        simp at hi
        by_cases h8 : i = jE
        · rw [h8]; exact hM
        · exact hpre i (by omega) h8
    · have hM' : listed.getD jE false = false := by simpa using hM
      have hag := hbut listed hpre
      generalize dval (fun j => ((l.toArray)[j]?).bind (·.dst)) V env (fun j => listed.getD j false) l0.length = envX at ienv hag
      refine wpOp_of oA hin' hgA irel hstep ienv (AOp.but hAE hag hA) fun v h1 m3 a3 w3 r3 s3 e3 hq => ?_
      have hunM : (listed.setIfInBounds l0.length true).getD jE false = false := by rw [getD_set_ne false (by omega)]; exact hM'
      cases fuel with
      | zero => exact absurd (left_pos (N := l.toArray.size) (by omega) hunM) (by omega)
      | succ fuel =>
        refine ⟨fun hnil => absurd hnil (ready_some hls hd _ (by omega) hunM), fun i hi => ?_⟩
        obtain ⟨q1, oi, q2, q3⟩ := mem_ready.1 hi
        have hlt := (Array.getElem?_eq_some_iff.1 q2).1
        have hiM : i = jE := by
          refine Classical.byContradiction fun hx => ?_
          by_cases h7 : l0.length + 1 ≤ i
          · have h5 := hsT' (i - (l0.length + 1)) (by omega)
            rw [show l0.length + 1 + (i - (l0.length + 1)) = i by omega] at h5
            have := sinkAt_all h5 hclosed2 q2 q3 i jE (by omega) (by omega)
            rw [hunM] at this; cases this
          · have h6 : (listed.setIfInBounds l0.length true).getD i false = true := by
              by_cases h9 : i = l0.length
              · subst h9; exact hset
              · rw [getD_set_ne false (fun e => h9 e.symm)]; exact hpre i (by omega) hx
            rw [getD_both q1] at h6; cases h6
        subst hiM
        have hag2 : ∀ t, t ≠ dE → (env1.put A.dst v) t = (envX.put A.dst v) t := fun t ht => by
          cases hAd : A.dst with
          | none => exact hag t ht
          | some da =>
            simp only [Env.put]
            by_cases c : t = da
            · simp only [c, if_true]
            · simp only [c, if_false]; exact hag t ht
        refine wpOp_of oE hin' hgE r3 s3 e3 (AOp.but hEE hag2 hq.1) fun v9 h9 m4 a4 w4 r4 s4 e4 hq4 => ?_
        obtain ⟨rfl, rfl⟩ := hq4
        have henvE : (envX.put A.dst v).put E.dst (env1 dE) = env1.put A.dst v := by
          funext t
          rw [hdE]
          by_cases c : t = dE
          · subst c
            cases hAd : A.dst with
            | none => simp only [Env.put, if_true]
            | some da =>
              simp only [Env.put, if_true]
              by_cases c2 : t = da
              · exact absurd (by rw [hAd, c2]) hneA
              · simp only [c2, if_false]
          · rw [hag2 t c]
            simp only [Env.put, c, if_false]
        rw [henvE] at e4
        have hleft2 := left_lt hls (i := i) (by omega) hunM
        have hsetM : ((listed.setIfInBounds l0.length true).setIfInBounds i true).getD i false = true := by
          have : i < (listed.setIfInBounds l0.length true).size := by rw [hls]; omega
          rw [Array.getD_eq_getD_getElem?, Array.getElem?_setIfInBounds_self_of_lt this]; rfl
        refine phaseT T [] fuel _ _ m4 h9 a4 w4 rfl (by rw [Array.size_setIfInBounds]; exact hls) (by omega) (fun j hj => ?_) (fun j hj => ?_) (fun j x hx hl9 e he9 hb9 => ?_) r4 s4 e4 hq.2
        · by_cases h9 : j = i
          · subst h9; exact hsetM
          · rw [getD_set_ne false (fun e => h9 e.symm)]
            by_cases h8 : j = l0.length
            · subst h8; exact hset
            · rw [getD_set_ne false (fun e => h8 e.symm)]
              simp at hj
              exact hpre j (by omega) h9
        · simp at hj
          rw [getD_set_ne false (by omega)]
          exact hno2 j (by omega)
        · by_cases h9 : e.on = i
          · rw [h9]; exact hsetM
          · rw [getD_set_ne false (fun e => h9 e.symm)]
            by_cases h8 : j = i
            · subst h8; rw [oE] at hx; cases hx; rw [oE] at q2; cases q2; exact q3 e he9 hb9
            · rw [getD_set_ne false (fun e => h8 e.symm)] at hl9
              exact hclosed2 j x hx hl9 e he9 hb9
  have main : ∀ (fuel : Nat) (listed : Array Bool) (m' : Map) (a' : Act) (w' : World), left l.toArray.size listed ≤ fuel → (∀ i, l0.length ≤ i → listed.getD i false = false) → DInv n l.toArray V H env m w listed m' a' w' →
      wpAny P .any l.toArray G fuel listed a' w' := by
    intro fuel
    induction fuel with
    | zero =>
      intro listed m' a' w' hf hno inv
      exact absurd (left_pos (N := l.toArray.size) (by omega) (hno l0.length (Nat.le_refl _))) (by omega)
    | succ fuel ih =>
      intro listed m' a' w' hf hno inv
      refine ⟨fun hnil => absurd hnil (ready_some inv.lsize hd _ (by omega) (hno l0.length (Nat.le_refl _))), fun i hi => ?_⟩
      obtain ⟨q1, oi, q2, q3⟩ := mem_ready.1 hi
      have hlt := (Array.getElem?_eq_some_iff.1 q2).1
      by_cases hiA : i = l0.length
      · subst hiA
        rw [oA] at q2; cases q2
        exact phaseA fuel listed m' a' w' hf q3 hno inv
      · by_cases hiT : l0.length + 1 ≤ i
        · have h5 := hsT' (i - (l0.length + 1)) (by omega)
          rw [show l0.length + 1 + (i - (l0.length + 1)) = i by omega] at h5
          have := sinkAt_all h5 inv.closed q2 q3 i l0.length (by omega) (by omega)
          rw [hno _ (Nat.le_refl _)] at this; cases this
        · refine inv.step hd hin' hst' hrel.closed (fun t => (he.vals t).within) q2 (hrun i oi (by omega) q2) (getD_both q1) q3 fun m2 a2 w2 inv2 => ih _ m2 a2 w2 ?_ (fun j hj => by rw [getD_set_ne false (by omega)]; exact hno j hj) inv2
          have := left_lt inv.lsize hlt (getD_both q1)
          omega
  refine main _ _ m1 a _ ?_ (fun i _ => getD_replicate_false _ _) inv0
  unfold left
  exact Nat.le_trans List.countP_le_length (by simp)


theorem awp_drawEA {P : Program} {n : Nat} {l l0 T : List Oper} {A E : Oper} {dE : Tmp} {Q : Exit → Env → AHeap → Prop} {env : Env} {h : AHeap} (jA jE : Nat) (ht : l.take jA = l0) (hdr : l.drop jA = A :: T)
    (hd : depOk l.toArray = true) (hsA : sinkBut l.toArray jE l0.length = true) (hsT : ((List.range T.length).all fun i => sinkAt l.toArray (l0.length + 1 + i)) = true) (hin : dstsIn n l = true)
    (hE : l0[jE]? = some E) (hdE : E.dst = some dE) (hgA : A.guard = none) (hgE : E.guard = none) (hgT : (T.all fun o => o.guard.isNone) = true) (hAE : noSlot dE A = true) (hEE : noSlot dE E = true) (hneA : decide (A.dst ≠ some dE) = true)
    (hone : ((List.range l0.length).all fun j => (j == jE) || decide ((l0[j]?).bind (·.dst) ≠ some dE)) = true)
    (hr : DRun P l.toArray (fun env1 h1 => AOp P A (fun v h2 => AOp P E (fun v' h' => v' = env1 dE ∧ h' = h2) (env1.put A.dst v) h2 ∧ ARun P l.toArray (Q .normal) T (env1.put A.dst v) h2) env1 h1) l0 env h) : AWpA P n l Q env h :=
  awp_drawE0A hd hsA hsT hin (by rw [← ht, ← hdr, List.take_append_drop]) hE hdE hgA hgE hgT hAE hEE (of_decide_eq_true hneA) hone hr

/-! ## Another order of the text -/
def relab (s : List Nat) (o : Oper) : Oper := ⟨o.dst, o.op, o.type, o.pos, (o.after.filter fun e => s.contains e.on).map fun e => ⟨s.idxOf e.on, e.ground⟩, o.guard⟩
def permL (l : List Oper) (s r : List Nat) : List Oper := r.filterMap fun i => (l[i]?).map (relab s)
def permOk (l : List Oper) (s : List Nat) : Bool := ((List.range s.length).all fun j => decide (s.getD j 0 < l.length) && s.idxOf (s.getD j 0) == j) && l.all fun o => o.guard.isNone && o.after.all fun e => decide (e.on < l.length)
theorem permL_get {l : List Oper} {s : List Nat} : ∀ {r : List Nat} (_ : ∀ i ∈ r, i < l.length) (j : Nat), (permL l s r)[j]? = (r[j]?).bind fun i => (l[i]?).map (relab s)
  | [], _, j => by simp [permL]
  | i :: r, h, j => by
    have hi := h i (by simp)
    have e : permL l s (i :: r) = relab s l[i] :: permL l s r := by simp [permL, List.filterMap_cons, List.getElem?_eq_getElem hi]
    rw [e]
    cases j with
    | zero => simp [List.getElem?_eq_getElem hi]
    | succ j => simpa using permL_get (r := r) (fun i hi => h i (by simp [hi])) j
theorem wpOp_relab {P : Program} {ops ops' : Array Oper} {Q : Exit → Act → World → Prop} {i j : Nat} {o : Oper} {s : List Nat} (hi : ops[i]? = some o) (hj : ops'[j]? = some (relab s o)) (hg : o.guard = none) {K : Act → World → Prop} {a : Act} {w : World}
    (h : wpOp P ops' Q j K a w) : wpOp P ops Q i K a w := by
  unfold wpOp at h ⊢
  simp only [hi]
  simp only [hj] at h
  have w1 : Region.wanted o (yielded ops a.tmps) = true := by unfold Region.wanted; rw [hg]
  have w2 : Region.wanted (relab s o) (yielded ops' a.tmps) = true := by unfold Region.wanted relab; simp only [hg]
  rw [if_pos w1]
  rw [if_pos w2] at h
  have e : execOp a.eval (relab s o) = execOp a.eval o := by obtain ⟨d, op, ty, ps, af, g⟩ := o; cases op <;> rfl
  rcases h with h | ⟨h, h2⟩
  · refine .inl ?_
    unfold Oper.wp at h ⊢
    rw [e] at h
    exact h
  · refine .inr ⟨?_, h2⟩
    unfold Oper.asks at h ⊢
    rw [e] at h
    exact h
theorem wpAny_perm {P : Program} {l : List Oper} {s : List Nat} {Q : Exit → Act → World → Prop} (hok : permOk l s = true) : ∀ (fuel : Nat) (listed listed' : Array Bool) (a : Act) (w : World), listed.size = l.length → listed'.size = s.length →
    (∀ j, j < s.length → listed'.getD j false = listed.getD (s.getD j 0) false) → (∀ i, i < l.length → i ∉ s → listed.getD i false = true) →
    wpAny P .any (permL l s s).toArray Q fuel listed' a w → wpAny P .any l.toArray Q fuel listed a w := by
  rw [permOk, Bool.and_eq_true] at hok
  have h1 : ∀ j, j < s.length → s.getD j 0 < l.length ∧ s.idxOf (s.getD j 0) = j := fun j hj => by
    have := List.all_eq_true.1 hok.1 j (List.mem_range.2 hj)
    simpa using this
  have h2 : ∀ o ∈ l, o.guard = none ∧ ∀ e ∈ o.after, e.on < l.length := fun o ho => by
    have := List.all_eq_true.1 hok.2 o ho
    rw [Bool.and_eq_true] at this
    refine ⟨by simpa using this.1, fun e he => ?_⟩
    have := Array.all_eq_true'.1 this.2 e he
    simpa using this
  have hmem : ∀ i ∈ s, i < l.length := fun i hi => by
    obtain ⟨j, hj, e⟩ := List.getElem_of_mem hi
    have := (h1 j hj).1
    rwa [show s.getD j 0 = s[j] by simp [List.getD, hj], e] at this
  have hat : ∀ i, i ∈ s → s.idxOf i < s.length ∧ s.getD (s.idxOf i) 0 = i := fun i hi => by
    obtain ⟨j, hj, e⟩ := List.getElem_of_mem hi
    have h3 := h1 j hj
    rw [show s.getD j 0 = s[j] by simp [List.getD, hj], e] at h3
    rw [h3.2]
    exact ⟨hj, by rw [show s.getD j 0 = s[j] by simp [List.getD, hj], e]⟩
  have hget : ∀ j, j < s.length → ∀ o, l[s.getD j 0]? = some o → (permL l s s).toArray[j]? = some (relab s o) := fun j hj o ho => by
    rw [List.getElem?_toArray, permL_get hmem, List.getElem?_eq_getElem hj]
    rw [show s.getD j 0 = s[j] by simp [List.getD, hj]] at ho
    simp [ho]
  -- what is ready here is ready there
  have there : ∀ (listed listed' : Array Bool), listed.size = l.length → listed'.size = s.length → (∀ j, j < s.length → listed'.getD j false = listed.getD (s.getD j 0) false) → (∀ i, i < l.length → i ∉ s → listed.getD i false = true) →
      (∀ i, i ∈ Region.ready .any l.toArray listed → i ∈ s ∧ s.idxOf i ∈ Region.ready .any (permL l s s).toArray listed') ∧ (∀ j, j ∈ Region.ready .any (permL l s s).toArray listed' → s.getD j 0 ∈ Region.ready .any l.toArray listed) := by
    intro listed listed' hls hls' hA hB
    have both : ∀ (x : Array Bool) (N i : Nat), x.size = N → i < N → x.getD i true = x.getD i false := fun x N i hx hi => by
      have : i < x.size := by omega
      simp [Array.getD_eq_getD_getElem?, this]
    constructor
    · intro i hi
      obtain ⟨q1, o, q2, q3⟩ := mem_ready.1 hi
      have hil : i < l.length := by have := (Array.getElem?_eq_some_iff.1 q2).1; simpa using this
      rw [List.getElem?_toArray] at q2
      have his : i ∈ s := Classical.byContradiction fun hx => by
        have := hB i hil hx
        rw [both listed _ i hls hil, this] at q1; cases q1
      obtain ⟨a1, a2⟩ := hat i his
      refine ⟨his, mem_ready.2 ⟨?_, relab s o, hget _ a1 o (by rw [a2]; exact q2), fun e he hb => ?_⟩⟩
      · rw [both listed' _ _ hls' a1, hA _ a1, a2, ← both listed _ i hls hil]; exact q1
      · simp only [relab, Array.mem_map, Array.mem_filter] at he
        obtain ⟨e0, ⟨m1, m2⟩, rfl⟩ := he
        have m3 : e0.on ∈ s := by simpa using m2
        obtain ⟨b1, b2⟩ := hat _ m3
        show listed'.getD (s.idxOf e0.on) false = true
        rw [hA _ b1, b2]
        exact q3 e0 m1 hb
    · intro j hj
      obtain ⟨q1, o', q2, q3⟩ := mem_ready.1 hj
      have hjl : j < s.length := by
        refine Classical.byContradiction fun hx => ?_
        have : listed'.getD j true = true := by
          have : ¬ j < listed'.size := by omega
          simp [Array.getD_eq_getD_getElem?, this]
        rw [this] at q1; cases q1
      obtain ⟨c1, c2⟩ := h1 j hjl
      have ho : l[s.getD j 0]? = some l[s.getD j 0] := List.getElem?_eq_getElem c1
      rw [hget j hjl _ ho] at q2
      cases q2
      refine mem_ready.2 ⟨?_, _, by rw [List.getElem?_toArray]; exact ho, fun e he hb => ?_⟩
      · rw [both listed _ _ hls c1, ← hA j hjl, ← both listed' _ _ hls' hjl]; exact q1
      · by_cases hx : e.on ∈ s
        · obtain ⟨b1, b2⟩ := hat _ hx
          have := q3 ⟨s.idxOf e.on, e.ground⟩ (by simp only [relab, Array.mem_map, Array.mem_filter]; exact ⟨e, ⟨he, by simpa using hx⟩, rfl⟩) hb
          rw [← b2, ← hA _ b1]; exact this
        · exact hB _ ((h2 _ (List.getElem_mem c1)).2 e he) hx
  intro fuel
  induction fuel with
  | zero =>
    intro listed listed' a w hls hls' hA hB h
    refine ⟨?_, h.2⟩
    refine List.eq_nil_iff_forall_not_mem.2 fun i hi => ?_
    have := ((there listed listed' hls hls' hA hB).1 i hi).2
    rw [h.1] at this; cases this
  | succ fuel ih =>
    intro listed listed' a w hls hls' hA hB h
    obtain ⟨t1, t2⟩ := there listed listed' hls hls' hA hB
    refine ⟨fun hn => h.1 (List.eq_nil_iff_forall_not_mem.2 fun j hj => ?_), fun i hi => ?_⟩
    · have := t2 j hj
      rw [hn] at this; cases this
    · obtain ⟨his, hr⟩ := t1 i hi
      obtain ⟨a1, a2⟩ := hat i his
      have hil := hmem i his
      have ho : l[i]? = some l[i] := List.getElem?_eq_getElem hil
      refine wpOp_relab (s := s) (by rw [List.getElem?_toArray]; exact ho) (hget _ a1 _ (by rw [a2]; exact ho)) (h2 _ (List.getElem_mem hil)).1 (wpOp_mono (fun a1' w1' hk => ih _ _ _ _ (by rw [Array.size_setIfInBounds]; exact hls) (by rw [Array.size_setIfInBounds]; exact hls') (fun j hj => ?_) (fun i2 hi2 hx => ?_) hk) (h.2 _ hr))
      · by_cases e : j = s.idxOf i
        · subst e
          rw [a2]
          have z1 : s.idxOf i < listed'.size := by omega
          have z2 : i < listed.size := by omega
          simp [Array.getD_eq_getD_getElem?, z1, z2]
        · have e2 : i ≠ s.getD j 0 := fun e3 => by
            have := (h1 j hj).2
            rw [← e3] at this
            exact e this.symm
          rw [getD_set_ne false (fun e3 => e e3.symm), getD_set_ne false e2]
          exact hA j hj
      · have e2 : i ≠ i2 := fun e3 => hx (e3 ▸ his)
        rw [getD_set_ne false e2]
        exact hB i2 hi2 hx
/-- A move that may come late comes first; what is left, in another order. -/
theorem awp_hoist {P : Program} {n id : Nat} {l : List Oper} {Q : Exit → Env → AHeap → Prop} {env : Env} {h : AHeap} {x : Operand} {v : Value} {df : Tmp} {ty : TypeId} {ps : String} {af : Array Edge} (f : Nat) (s : List Nat) (hmix : P.follows .mixedOrders = true)
    (hf : l[f]? = some ⟨some df, .move x, ty, ps, af, none⟩) (hsel : Region.noSelect l.toArray = true) (hfr : Region.free .any l.toArray (Array.replicate l.toArray.size false) f = true) (hrd : (Region.ready .any l.toArray (Array.replicate l.toArray.size false)).contains f = true)
    (hok : permOk l s = true) (hsf : (s.length + 1 == l.length && !s.contains f && (List.range l.length).all fun i => i == f || s.contains i) = true) (hin : decide (df < n) = true) (hx : (match x with | .tmp _ => true | _ => false) = true)
    (hv : aeval env x = v) (hr : AWpA P n (permL l s s) Q (env.put (some df) v) h) : AWp P n (.region id l.toArray true) Q env h := by
  intro m w a hrel he
  subst hv
  simp only [Bool.and_eq_true, beq_iff_eq] at hsf
  obtain ⟨⟨hs1, hs2⟩, hs3⟩ := hsf
  obtain ⟨t, rfl⟩ : ∃ t, x = .tmp t := by cases x <;> first | exact ⟨_, rfl⟩ | cases hx
  have hsz : l.toArray.size = s.length + 1 := by simp [hs1]
  have hpl : (permL l s s).length = s.length := by
    have hmem : ∀ i ∈ s, i < l.length := by
      rw [permOk, Bool.and_eq_true] at hok
      intro i hi
      obtain ⟨j, hj, e⟩ := List.getElem_of_mem hi
      have := List.all_eq_true.1 hok.1 j (List.mem_range.2 hj)
      simp only [Bool.and_eq_true, decide_eq_true_eq] at this
      have := this.1
      rwa [show s.getD j 0 = s[j] by simp [List.getD, hj], e] at this
    refine Nat.le_antisymm (List.length_filterMap_le _ _) (Nat.le_of_not_lt fun hlt => ?_)
    have h5 := permL_get (l := l) (s := s) hmem (permL l s s).length
    have h6 : (permL l s s).length < s.length := hlt
    rw [List.getElem?_eq_none (Nat.le_refl _), List.getElem?_eq_getElem h6] at h5
    have h7 := hmem _ (List.getElem_mem h6)
    simp [List.getElem?_eq_getElem h7] at h5
  have hfl : f < l.length := by
    have := (List.getElem?_eq_some_iff.1 hf).1; exact this
  have henv : EnvRel m h n (env.put (some df) (aeval env (.tmp t))) (a.put (some df) (a.eval (.tmp t))) := he.put (fun d hd => by cases hd; exact of_decide_eq_true hin) (he.vals t)
  have H := hr m w _ hrel henv
  refine wp_mono (wp_region_any hmix ?_) fun e a' w' (q : e = .normal ∧ ∃ m' env' h', Rel m' h' w' ∧ Step m h w m' h' w' ∧ EnvRel m' h' n env' a' ∧ Q e env' h') => q.2
  rw [hsz]
  have hf' : l.toArray[f]? = some ⟨some df, .move (.tmp t), ty, ps, af, none⟩ := by rw [List.getElem?_toArray]; exact hf
  rw [hsz] at hfr hrd
  refine wpAny_take (v := a.eval (.tmp t)) hf' hsel hfr hrd (fun c a w hq => absurd hq.1 (by simp)) (.inl ⟨rfl, fun w => rfl⟩) ?_
  have hsz2 : (permL l s s).toArray.size = s.length := by simp [hpl]
  rw [hsz2] at H
  refine wpAny_perm hok _ _ _ _ _ (by rw [Array.size_setIfInBounds, Array.size_replicate]; omega) (by rw [Array.size_replicate]) (fun j hj => ?_) (fun i hi hx => ?_) H
  · have hne : f ≠ s.getD j 0 := fun e => by
      have : f ∈ s := by rw [e, show s.getD j 0 = s[j] by simp [List.getD, hj]]; exact List.getElem_mem hj
      simp [this] at hs2
    rw [getD_set_ne false hne, getD_replicate_false, getD_replicate_false]
  · have := List.all_eq_true.1 hs3 i (List.mem_range.2 hi)
    rw [Bool.or_eq_true] at this
    rcases this with h9 | h9
    · have e : i = f := by simpa using h9
      subst e
      have : i < (Array.replicate (s.length + 1) false).size := by rw [Array.size_replicate]; omega
      simp [Array.getD_eq_getD_getElem?, this]
      omega
    · exact absurd (by simpa using h9) hx
end Go.Am

namespace Go.Am
set_option linter.unusedSimpArgs false
set_option linter.unusedVariables false
section
variable {P : Program} {K : Value → AHeap → Prop} {env : Env} {h : AHeap} {dst : Option Tmp} {ty : TypeId} {pos : String} {after : Array Edge} {guard : Option (Nat × Bool)}
/-- s[l:r:m], not used. -/
theorem o_slice3 {t e : TypeId} {x y1 y2 y3 : Operand} {k n L l r b : Nat} {zs : List Int} {z0 : Value} {k1 k2 k3 : IntKind} {z1 z2 z3 : Int} (hu : P.underlying t = some (.slice e)) (hi : InfoIs P e z0 1 b)
    (hx : aeval env x = .slice (some ⟨k, 0, some L⟩) n L) (ho : h[k]? = some (lst zs)) (hn : zs.length = L) (hy1 : aeval env y1 = .int k1 z1) (hy2 : aeval env y2 = .int k2 z2) (hy3 : aeval env y3 = .int k3 z3) (e3 : z3 = (n : Int)) (e1 : z1 = (l : Int)) (e2 : z2 = (r : Int))
    (hlr : l ≤ r) (hr : r ≤ n) (hnL : n ≤ L) (h0 : 0 < L)
    (hK : K (.slice (some ⟨k, 0, some 0⟩) 0 0) h) : AOp P ⟨dst, .slice t x (some y1) (some y2) (some y3), ty, pos, after, guard⟩ K env h :=
  .of_run fun m w a hr9 hop => by
    subst e1 e2 e3
    obtain ⟨i, g1, _, g3, _⟩ := hi.get
    have hp := hop x (by simp [Op.operands])
    rw [hx] at hp
    have hver : (lst zs).cells.length = L := by simp [lst, hn]
    obtain ⟨lc, hl, bb, cap', he, c1, c2, c3, c4, c5⟩ := hp.slice_inv ho hver
    have p1 := hop y1 (by simp [Op.operands])
    rw [hy1] at p1
    have p2 := hop y2 (by simp [Op.operands])
    rw [hy2] at p2
    have p3 := hop y3 (by simp [Op.operands])
    rw [hy3] at p3
    have hb : (Instr.sliceBounds true n cap' (some (.int k1 (l : Int))) (some (.int k2 (r : Int))) (some (.int k3 (n : Int)))).run P w = .ok (l, r, n) w := by
      have s3 : ∀ code, (Instr.sliceBound (.int k3 (n : Int)) cap' code).run P w = .ok n w := fun code => by
        simp [Instr.sliceBound, asIntOf, show n ≤ cap' by omega]
      have s2 : ∀ code, (Instr.sliceBound (.int k2 (r : Int)) n code).run P w = .ok r w := fun code => by
        simp [Instr.sliceBound, asIntOf, hr]
      have s1 : ∀ code, (Instr.sliceBound (.int k1 (l : Int)) r code).run P w = .ok l w := fun code => by
        simp [Instr.sliceBound, asIntOf, hlr]
      simp [Instr.sliceBounds, s1, s2, s3]
    refine ⟨_, .slice (if n = l then bb else bb.map (·.add (l * i.size))) (r - l) (n - l), m, h, w, ?_, hr9, Step.refl, ?_, hK⟩
    · simp only [execOp, he, Instr.sliceAt, Sem.run_bind, run_underlying hu, Result.andThen_ok, Instr.slice, Option.map_some, p1.int, p2.int, p3.int, hb, sizeOf, typeInfo]
      simp [g1]
    · exact .slice ho (by omega) ⟨_, _, _, rfl⟩ fun e => absurd e (by omega)
theorem o_sliceAt {t e : TypeId} {x y1 y2 : Operand} {k n L l r b : Nat} {zs : List Int} {z0 : Value} {k1 k2 : IntKind} {z1 z2 : Int} (hu : P.underlying t = some (.slice e)) (hi : InfoIs P e z0 1 b)
    (hx : aeval env x = .slice (some ⟨k, 0, some L⟩) n L) (ho : h[k]? = some (lst zs)) (hn : zs.length = L) (hy1 : aeval env y1 = .int k1 z1) (hy2 : aeval env y2 = .int k2 z2) (e1 : z1 = (l : Int)) (e2 : z2 = (r : Int)) (hlr : l ≤ r) (hr : r ≤ L)
    (hK : K (.slice (some ⟨k, l, some L⟩) (r - l) (L - l)) h) : AOp P ⟨dst, .slice t x (some y1) (some y2) none, ty, pos, after, guard⟩ K env h := by
  obtain ⟨i, h1, _, h3, _⟩ := hi.get
  subst e1 e2
  refine aop_slice (l := l) (r := r) hu h1 (by rw [h3]; rfl) hx ho (by simp [lst, hn]) (.inr ⟨y1, k1, rfl, hy1⟩) (.inr ⟨y2, k2, rfl, hy2⟩) hlr hr ?_
  show K (.slice (some ⟨k, 0 + l * 1, some L⟩) (r - l) (L - l)) h
  simpa using hK
theorem o_sliceFrom {t e : TypeId} {x y1 : Operand} {k n L l b : Nat} {zs : List Int} {z0 : Value} {k1 : IntKind} {z1 : Int} (hu : P.underlying t = some (.slice e)) (hi : InfoIs P e z0 1 b)
    (hx : aeval env x = .slice (some ⟨k, 0, some L⟩) n L) (ho : h[k]? = some (lst zs)) (hn : zs.length = L) (hy1 : aeval env y1 = .int k1 z1) (e1 : z1 = (l : Int)) (hlr : l ≤ n) (hr : n ≤ L)
    (hK : K (.slice (some ⟨k, l, some L⟩) (n - l) (L - l)) h) : AOp P ⟨dst, .slice t x (some y1) none none, ty, pos, after, guard⟩ K env h := by
  obtain ⟨i, h1, _, h3, _⟩ := hi.get
  subst e1
  refine aop_slice (l := l) (r := n) hu h1 (by rw [h3]; rfl) hx ho (by simp [lst, hn]) (.inr ⟨y1, k1, rfl, hy1⟩) (.inl ⟨rfl, rfl⟩) hlr hr ?_
  show K (.slice (some ⟨k, 0 + l * 1, some L⟩) (n - l) (L - l)) h
  simpa using hK
/-- What stands when those behind have moved up. -/
def delB (zs : List Int) (i m : Nat) : List Int := zs.eraseIdx i ++ ([zs.getD (zs.length - 1) 0] ++ List.replicate m 0)
theorem delB_len {zs : List Int} {i m : Nat} (hi : i < zs.length) : (delB zs i m).length = zs.length + m := by
  rw [delB, List.length_append, List.length_append, List.length_eraseIdx, if_pos hi, List.length_replicate, List.length_singleton]; omega
theorem drop_lastE {zs : List Int} (h : 0 < zs.length) : zs.drop (zs.length - 1) = [zs.getD (zs.length - 1) 0] := by
  apply List.ext_getElem?
  intro j
  rw [List.getElem?_drop]
  cases j with
  | zero => simp [List.getD, List.getElem?_eq_getElem (show zs.length - 1 < zs.length by omega)]
  | succ j => rw [List.getElem?_eq_none (by omega), List.getElem?_eq_none (by simp)]
theorem delB_app {zs : List Int} {i m n : Nat} (hn : zs.length = n) (hi : i < n) : (zs ++ List.replicate m 0).take i ++ zs.drop (i + 1) ++ (zs ++ List.replicate m 0).drop (i + (n - (i + 1))) = delB zs i m := by
  rw [delB, List.eraseIdx_eq_take_drop_succ, List.take_append_of_le_length (by omega), List.drop_append_of_le_length (by omega), show i + (n - (i + 1)) = zs.length - 1 by omega, drop_lastE (by omega)]
theorem delB_last {zs : List Int} {i m n : Nat} (hn : zs.length = n) (hi : i + 1 = n) : zs ++ List.replicate m 0 = delB zs i m := by
  rw [← delB_app hn (by omega), List.drop_eq_nil_of_le (by omega), List.append_nil, show i + (n - (i + 1)) = i by omega, List.take_append_drop]
theorem delB_fin {zs : List Int} {i m n : Nat} (hn : zs.length = n) (hi : i < n) : (delB zs i m).take (n - 1) ++ List.replicate 1 0 ++ (delB zs i m).drop (n - 1 + 1) = zs.eraseIdx i ++ List.replicate (m + 1) 0 := by
  have he : (zs.eraseIdx i).length = n - 1 := by rw [List.length_eraseIdx, if_pos (by omega)]; omega
  rw [delB, List.take_append_of_le_length (by omega), List.take_of_length_le (by omega), List.drop_append, he, List.drop_eq_nil_of_le (by omega), List.nil_append, show n - 1 + 1 - (n - 1) = 1 by omega, List.append_assoc]
  rfl
theorem o_del {t e : TypeId} {s x : Operand} {k n m L i : Nat} {zs : List Int} {h' : AHeap} (hu : P.underlying t = some (.slice e)) (hi : InfoIs P e (i64 0) 1 8)
    (hx : aeval env s = .slice (some ⟨k, 0, some L⟩) i L) (ho : h[k]? = some (lst (zs ++ List.replicate m 0))) (hn : zs.length = n) (hL : n + m = L) (hin : i < n) (hy : aeval env x = .slice (some ⟨k, i + 1, some L⟩) (n - (i + 1)) (L - (i + 1)))
    (hs : h.set k (lst (delB zs i m)) = h') (hK : K (.slice (some ⟨k, 0, some L⟩) (n - 1) L) h') :
    AOp P ⟨dst, .call { callee := .builtin .append, args := #[s, x], argTypes := #[t, t] }, ty, pos, after, guard⟩ K env h := by
  have hlen : (zs ++ List.replicate m 0).length = L := by rw [List.length_append, List.length_replicate]; omega
  by_cases c : i + 1 = n
  · obtain ⟨inf, g1, g2, g3, g4⟩ := hi.get
    have hver : (lst (zs ++ List.replicate m 0)).cells.length = L := by simp only [lst, List.length_map]; exact hlen
    rw [← delB_last hn c, set_same ho] at hs
    subst hs
    refine aop_appendNone (q := some ⟨k, i + 1, some L⟩) (c2 := L - (i + 1)) hu g1 (.inr ⟨k, 0, L, i, L, _, hx, ho, hver⟩) (by rw [hy, c, Nat.sub_self]) (.inr ⟨k, i + 1, L, _, rfl, ho, hver⟩) ?_
    rw [hx, show i = n - 1 by omega]
    exact hK
  · have hI : Ints h (.slice (some ⟨k, i + 1, some L⟩) (n - (i + 1)) (L - (i + 1))) (zs.drop (i + 1)) := by
      refine .inr ⟨k, i + 1, L, L - (i + 1), lst (zs ++ List.replicate m 0), by rw [List.length_drop, hn], ho, by simp only [lst, List.length_map]; exact hlen, rfl, by rw [List.length_drop]; omega, by omega, fun j z hz => ?_⟩
      rw [List.getElem?_drop] at hz
      have hj : i + 1 + j < zs.length := (List.getElem?_eq_some_iff.1 hz).1
      show (List.map i64 (zs ++ List.replicate m 0))[i + 1 + j]? = some (i64 z)
      rw [List.getElem?_map, List.getElem?_append_left hj, hz]; rfl
    have hdl : (zs.drop (i + 1)).length = n - (i + 1) := by rw [List.length_drop, hn]
    subst hs
    refine o_appendIn (h' := h.set k (lst (delB zs i m))) hu hi hx ho hlen hy hI (by omega) (by omega) (by rw [hdl, delB_app hn hin]) ?_
    rw [hdl, show i + (n - (i + 1)) = n - 1 by omega]
    exact hK
end

/-! ## A list of numbers and one of floats -/
def fgs (xs : List Int) (ys : List Nat) : List AObj := [lst xs, lstF ys]
theorem ret2f_of {P : Program} {f : FuncId} {args : List Value} {h : AHeap} {xs : List Int} {ys : List Nat}
    (t : Tri P f args h fun v h' => ∃ kA kB, v = .tuple #[sl kA xs.length, sl kB ys.length, .bool true] ∧ Grown h h' ∧ h'[kA]? = some (lst xs) ∧ h'[kB]? = some (lstF ys) ∧ h.length ≤ kA ∧ h.length ≤ kB ∧ kA ≠ kB) : RetG P f args h (VT2 xs.length ys.length) (fun _ => fgs xs ys) :=
  t.keeps fun hcl v1 h1 ⟨kA, kB, e1, ⟨g, e2⟩, oA, oB, lA, lB, hne⟩ => by
    subst e1
    let s : Nat → Nat := fun j => if j < h.length then j else if j = h.length then kA else kB
    have s1 : ∀ j, j < h.length → s j = j := fun j hj => by simp [s, hj]
    have s2 : s h.length = kA := by simp [s]
    have s3 : s (h.length + 1) = kB := by
      simp only [s]
      rw [if_neg (by omega), if_neg (by omega)]
    have hlen : (h ++ fgs xs ys).length = h.length + 2 := by simp [fgs]
    refine ⟨s, h ++ fgs xs ys, .tuple #[sl h.length xs.length, sl (h.length + 1) ys.length, .bool true], ⟨s1, by rw [hlen]; omega, fun i j hi hj he => ?_, fun k o2 hk => ?_⟩, .tup3 (.slice (by rw [hlen]; omega)) (.slice (by rw [hlen]; omega)) (.prim rfl), ?_, rfl, rfl⟩
    · rw [hlen] at hi hj
      have cls : ∀ i, i < h.length + 2 → (i < h.length ∧ s i = i) ∨ (i = h.length ∧ s i = kA) ∨ (i = h.length + 1 ∧ s i = kB) := fun i hi => by
        by_cases c1 : i < h.length
        · exact .inl ⟨c1, s1 i c1⟩
        · by_cases c2 : i = h.length
          · exact .inr (.inl ⟨c2, by rw [c2, s2]⟩)
          · have c3 : i = h.length + 1 := by omega
            exact .inr (.inr ⟨c3, by rw [c3, s3]⟩)
      rcases cls i hi with ⟨a1, a2⟩ | ⟨a1, a2⟩ | ⟨a1, a2⟩ <;> rcases cls j hj with ⟨b1, b2⟩ | ⟨b1, b2⟩ | ⟨b1, b2⟩ <;> rw [a2, b2] at he <;> omega
    · by_cases c1 : k < h.length
      · rw [List.getElem?_append_left c1] at hk
        refine ⟨o2, by rw [s1 k c1, e2, List.getElem?_append_left c1]; exact hk, rfl, rfl, rfl, fun i v hv => ?_⟩
        have := hcl k o2 hk v (List.mem_of_getElem? hv)
        exact ⟨this.mono (by rw [hlen]; omega), v, hv, .id this s1⟩
      · have hkl := (List.getElem?_eq_some_iff.1 hk).1
        rw [hlen] at hkl
        have prm : ∀ o : AObj, (∀ v ∈ o.cells, isPrim v = true) → ∀ (i : Nat) (v : Value), o.cells[i]? = some v → Within (h ++ fgs xs ys).length v ∧ ∃ v', o.cells[i]? = some v' ∧ VRen s v v' := fun o ho i v hv => by
          have := ho v (List.mem_of_getElem? hv)
          exact ⟨.prim this, v, hv, .prim this⟩
        by_cases c2 : k = h.length
        · subst c2
          rw [List.getElem?_append_right (Nat.le_refl _), Nat.sub_self] at hk
          simp only [fgs, List.getElem?_cons_zero, Option.some.injEq] at hk
          subst hk
          exact ⟨_, by rw [s2]; exact oA, rfl, rfl, rfl, prm _ lst_prim⟩
        · have c3 : k = h.length + 1 := by omega
          subst c3
          rw [List.getElem?_append_right (by omega), show h.length + 1 - h.length = 1 by omega] at hk
          simp only [fgs, List.getElem?_cons_succ, List.getElem?_cons_zero, Option.some.injEq] at hk
          subst hk
          exact ⟨_, by rw [s3]; exact oB, rfl, rfl, rfl, prm _ lstF_prim⟩
    · have a := VRen.slice (s := s) (k := h.length) (off := 0) (ver := xs.length) (len := xs.length) (cap := xs.length)
      have b := VRen.slice (s := s) (k := h.length + 1) (off := 0) (ver := ys.length) (len := ys.length) (cap := ys.length)
      rw [s2] at a
      rw [s3] at b
      exact .tup3 a b (.prim rfl)
theorem retof2_of {P : Program} {f : FuncId} {args : List Value} {h : AHeap} {ok : Bool} {xs : List Int} {ys : List Nat}
    (t : Tri P f args h fun v h' => (ok = true ∧ ∃ kA kB, v = .tuple #[sl kA xs.length, sl kB ys.length, .bool true] ∧ Grown h h' ∧ h'[kA]? = some (lst xs) ∧ h'[kB]? = some (lstF ys) ∧ h.length ≤ kA ∧ h.length ≤ kB ∧ kA ≠ kB) ∨ (ok = false ∧ v = NL2 ∧ Grown h h')) :
    RetOG P f args h ok (VT2 xs.length ys.length) (fun _ => fgs xs ys) NL2 :=
  ⟨fun e => ret2f_of (t.mono fun v h' q => by
      rcases q with ⟨_, q⟩ | ⟨e2, _⟩
      · exact q
      · rw [e] at e2; cases e2),
   fun e => ret_of within_nl2 (t.mono fun v h' q => by
      rcases q with ⟨e2, _⟩ | ⟨_, q⟩
      · rw [e] at e2; cases e2
      · exact q)⟩
theorem RetG.toLF {P : Program} {K : Value → AHeap → Prop} {h : AHeap} {f : FuncId} {vs : List Value} {xs : List Int} {ys : List Nat} (r : RetG P f vs h (VT2 xs.length ys.length) (fun _ => fgs xs ys))
    (hK : ∀ k, k = h.length → ((h ++ [lst xs] ++ [lstF ys])[k]? = some (lst xs) ∧ (h ++ [lst xs] ++ [lstF ys])[k + 1]? = some (lstF ys)) → K (VT2 xs.length ys.length k) (h ++ [lst xs] ++ [lstF ys])) : Tri P f vs h K :=
  r.toG fun k hk => by
    have := hK k hk ⟨lk_prev (lk_last hk), lk_last (by simp [hk])⟩
    rwa [List.append_assoc] at this


/-! ## A list without one, element by element -/
/-! ## The knife, as the walks see it -/
def kOs (p q : Int) (xs : List Int) : List Int := (kS p q xs (p.toNat - 1)).os ++ [(kS p q xs (p.toNat - 1)).left.getD 0 0]
def kCs (p q : Int) (xs : List Int) : List Nat := (kS p q xs (p.toNat - 1)).cs ++ [fI q]
theorem kS_left {p q : Int} {xs : List Int} {t : Nat} : (kS p q xs (t + 1)).left = (kS p q xs t).left.eraseIdx (kB (kM p q xs (kS p q xs t).x) (kS p q xs t).left (kS p q xs t).left.length).1 := rfl
theorem kS_os {p q : Int} {xs : List Int} {t : Nat} : (kS p q xs (t + 1)).os = (kS p q xs t).os ++ [(kS p q xs t).left.getD (kB (kM p q xs (kS p q xs t).x) (kS p q xs t).left (kS p q xs t).left.length).1 0] := rfl
theorem kS_cs {p q : Int} {xs : List Int} {t : Nat} : (kS p q xs (t + 1)).cs = (kS p q xs t).cs ++ [(kB (kM p q xs (kS p q xs t).x) (kS p q xs t).left (kS p q xs t).left.length).2] := rfl
theorem kOs_len {p q : Int} {xs : List Int} {t : Nat} (h : (kS p q xs t).os.length = t) (ht : t = p.toNat - 1) : (kOs p q xs).length = t + 1 := by
  subst ht
  rw [kOs, List.length_append, h]; rfl
theorem kCs_len {p q : Int} {xs : List Int} {t : Nat} (h : (kS p q xs t).cs.length = t) (ht : t = p.toNat - 1) : (kCs p q xs).length = t + 1 := by
  subst ht
  rw [kCs, List.length_append, h]; rfl
theorem kS_zero {p q : Int} {xs : List Int} : kS p q xs 0 = ⟨cntL p.toNat, 0, [], []⟩ := rfl
theorem kB_y1 {f : Int → Nat} {zs : List Int} {k : Nat} (h : k = 0) : kB f zs (k + 1) = (k, f (zs.getD k 0)) := by rw [kB, h]; rfl
theorem kB_y2 {f : Int → Nat} {zs : List Int} {k : Nat} (h : ltB (f (zs.getD k 0)) (kB f zs k).2 = true) : kB f zs (k + 1) = (k, f (zs.getD k 0)) := by rw [kB, h, Bool.or_true]; rfl
theorem kB_n {f : Int → Nat} {zs : List Int} {k : Nat} (h : k ≠ 0) (h2 : ltB (f (zs.getD k 0)) (kB f zs k).2 = false) : kB f zs (k + 1) = kB f zs k := by rw [kB, h2, decide_eq_false h]; rfl
theorem kJ_pos {f : Int → Nat} {zs : List Int} {k : Nat} (h : k ≠ 0) : kJ f zs k = ((kB f zs k).1 : Int) := by rw [kJ, if_neg h]
theorem kJ_neg {f : Int → Nat} {zs : List Int} {k : Nat} (h : kJ f zs k < 0) : k = 0 := by
  by_cases c : k = 0
  · exact c
  · rw [kJ_pos c] at h; omega
theorem kJ_nn {f : Int → Nat} {zs : List Int} {k : Nat} (h : ¬ kJ f zs k < 0) : k ≠ 0 := by
  rintro rfl
  exact h (by rw [kJ, if_pos rfl]; decide)
theorem k_lb {p q : Int} {xs : List Int} (h : validC p q xs = true) : (kOs p q xs).length ≤ 6 ∧ (kCs p q xs).length ≤ 6 := by
  obtain ⟨hp, _⟩ := validC_get h
  have hi := kS_inv h (p.toNat - 1) (by omega)
  rw [kOs_len hi.ol rfl, kCs_len hi.cl rfl]
  omega
end Go.Am

namespace Go.Am
set_option linter.unusedSimpArgs false
set_option linter.unusedVariables false

abbrev Rec := Int × List Int
def recAt (rs : List Rec) (i : Nat) : Rec := rs.getD i (0, [])
/-- A slice value that reads as records. -/
def Recs (h : AHeap) (v : Value) (rs : List Rec) : Prop :=
  (v = .slice none 0 0 ∧ rs = []) ∨
  ∃ k off ver cap o, v = .slice (some ⟨k, off, some ver⟩) rs.length cap ∧ h[k]? = some o ∧ o.cells.length = ver ∧ o.esz = 2 ∧ rs.length ≤ cap ∧ off + cap * 2 = ver ∧
    ∀ (i : Nat) (r : Rec), rs[i]? = some r → ∃ u, o.cells[off + i * 2]? = some (i64 r.1) ∧ o.cells[off + i * 2 + 1]? = some u ∧ Ints h u r.2
/-- A pointer to a record. -/
def IsRec (h : AHeap) (p : Value) (r : Rec) : Prop :=
  ∃ k off ver o u, p = .pointer (some ⟨k, off, some ver⟩) ∧ h[k]? = some o ∧ o.cells.length = ver ∧ o.cells[off]? = some (i64 r.1) ∧ o.cells[off + 1]? = some u ∧ Ints h u r.2
theorem Recs.app {h : AHeap} {v : Value} {rs : List Rec} (hv : Recs h v rs) (g : List AObj) : Recs (h ++ g) v rs := by
  rcases hv with hv | ⟨k, off, ver, cap, o, h1, h2, h3, h4, h5, h6, h7⟩
  · exact .inl hv
  · exact .inr ⟨k, off, ver, cap, o, h1, lk_prev h2, h3, h4, h5, h6, fun i r hi => by
      obtain ⟨u, g0, g1, g2⟩ := h7 i r hi
      exact ⟨u, g0, g1, g2.app g⟩⟩
theorem IsRec.app {h : AHeap} {p : Value} {r : Rec} (hp : IsRec h p r) (g : List AObj) : IsRec (h ++ g) p r := by
  obtain ⟨k, off, ver, o, u, h1, h2, h3, h4, h5, h6⟩ := hp
  exact ⟨k, off, ver, o, u, h1, lk_prev h2, h3, h4, h5, h6.app g⟩
theorem Recs.within {h : AHeap} {v : Value} {rs : List Rec} (hv : Recs h v rs) : Within h.length v := by
  rcases hv with ⟨rfl, _⟩ | ⟨k, off, ver, cap, o, rfl, h2, _⟩
  · exact .prim rfl
  · exact .slice (List.getElem?_eq_some_iff.1 h2).1
theorem IsRec.within {h : AHeap} {p : Value} {r : Rec} (hp : IsRec h p r) : Within h.length p := by
  obtain ⟨k, off, ver, o, u, rfl, h2, _⟩ := hp
  exact .ptr (List.getElem?_eq_some_iff.1 h2).1
section
variable {P : Program} {K : Value → AHeap → Prop} {env : Env} {h : AHeap} {dst : Option Tmp} {ty : TypeId} {pos : String} {after : Array Edge} {guard : Option (Nat × Bool)}
end
section
variable {P : Program} {ops : Array Oper} {KE : Env → AHeap → Prop} {os : List Oper} {env : Env} {h : AHeap} {d : Option Tmp} {ty : TypeId} {pos : String} {af : Array Edge} {g : Option (Nat × Bool)}
end

section
variable {P : Program} {K : Value → AHeap → Prop} {env : Env} {h : AHeap} {dst : Option Tmp} {ty : TypeId} {pos : String} {after : Array Edge} {guard : Option (Nat × Bool)}
end
section
variable {P : Program} {ops : Array Oper} {KE : Env → AHeap → Prop} {os : List Oper} {env : Env} {h : AHeap} {d : Option Tmp} {ty : TypeId} {pos : String} {af : Array Edge} {g : Option (Nat × Bool)}
end

/-! ## Own records -/
def vrec : Nat → List Rec → List Value
  | _, [] => []
  | k, r :: rs => i64 r.1 :: sl k r.2.length :: vrec (k + 1) rs
theorem vrec_len : ∀ {k : Nat} {rs : List Rec}, (vrec k rs).length = rs.length * 2
  | _, [] => rfl
  | k, r :: rs => by simp [vrec, vrec_len (k := k + 1) (rs := rs)]; omega
theorem vrec_get : ∀ {k i : Nat} {rs : List Rec}, i < rs.length → (vrec k rs)[i * 2]? = some (i64 (recAt rs i).1) ∧ (vrec k rs)[i * 2 + 1]? = some (sl (k + i) (recAt rs i).2.length)
  | k, 0, r :: rs, _ => ⟨rfl, rfl⟩
  | k, i + 1, r :: rs, h => by
    have := vrec_get (k := k + 1) (i := i) (rs := rs) (by simpa using h)
    rw [vrec, show (i + 1) * 2 = i * 2 + 1 + 1 by omega, List.getElem?_cons_succ, List.getElem?_cons_succ, List.getElem?_cons_succ, List.getElem?_cons_succ, this.1, this.2]
    simp [recAt, Nat.add_assoc, Nat.add_comm 1]
/-- Records in new memory: the outer block at k, the lists behind it. -/
def rls (k : Nat) (rs : List Rec) : List AObj := ⟨vrec (k + 1) rs, true, 2⟩ :: rs.map fun r => lst r.2
@[simp] theorem rls_len {k : Nat} {rs : List Rec} : (rls k rs).length = rs.length + 1 := by simp [rls]
theorem ShG.rls {rs : List Rec} : ShG (fun k => rls k rs) := fun t n d ht => by
  refine ⟨by rw [rls_len, rls_len], fun i o hi => ?_⟩
  cases i with
  | zero =>
    have : o = ⟨vrec (n + 1) rs, true, 2⟩ := by simp [Am.rls] at hi; exact hi.symm
    subst this
    refine ⟨⟨vrec (n + d + 1) rs, true, 2⟩, rfl, by simp [vrec_len], rfl, rfl, fun j v hv => ?_⟩
    have hv' : (vrec (n + 1) rs)[j]? = some v := hv
    have hlt := (List.getElem?_eq_some_iff.1 hv').1
    rw [vrec_len] at hlt
    obtain ⟨c0, c1⟩ := vrec_get (k := n + 1) (i := j / 2) (rs := rs) (by omega)
    obtain ⟨d0, d1⟩ := vrec_get (k := n + d + 1) (i := j / 2) (rs := rs) (by omega)
    by_cases e : j % 2 = 0
    · rw [show j / 2 * 2 = j by omega] at c0 d0
      rw [hv', Option.some.injEq] at c0
      subst c0
      exact ⟨.prim rfl, _, d0, .prim rfl⟩
    · rw [show j / 2 * 2 + 1 = j by omega] at c1 d1
      rw [hv', Option.some.injEq] at c1
      subst c1
      refine ⟨.slice (by rw [rls_len]; omega), _, d1, ?_⟩
      have := VRen.slice (s := shf t d) (k := n + 1 + j / 2) (off := 0) (ver := (recAt rs (j / 2)).2.length) (len := (recAt rs (j / 2)).2.length) (cap := (recAt rs (j / 2)).2.length)
      rwa [show shf t d (n + 1 + j / 2) = n + d + 1 + j / 2 by rw [shf, if_neg (by omega)]; omega] at this
  | succ i =>
    have hi' : (rs.map fun r => lst r.2)[i]? = some o := by simpa [Am.rls] using hi
    refine ⟨o, by simpa [Am.rls] using hi', rfl, rfl, rfl, fun j v hv => ?_⟩
    simp only [List.getElem?_map, Option.map_eq_some_iff] at hi'
    obtain ⟨r, _, rfl⟩ := hi'
    have := lst_prim v (List.mem_of_getElem? hv)
    exact ⟨.prim this, v, hv, .prim this⟩
/-! ## Made, and filled -/
section
variable {P : Program} {K : Value → AHeap → Prop} {env : Env} {h : AHeap} {dst : Option Tmp} {ty : TypeId} {pos : String} {after : Array Edge} {guard : Option (Nat × Bool)}
end

/-! ## Marks -/
def markR : Int → List Rec → List Rec
  | _, [] => []
  | c, r :: rs => (c, upto (c + 1) r.2.length) :: markR (c + 1 + r.2.length) rs
theorem markR_len : ∀ {c : Int} {rs : List Rec}, (markR c rs).length = rs.length
  | _, [] => rfl
  | c, r :: rs => by simp [markR, markR_len]
section
variable {P : Program} {ops : Array Oper} {KE : Env → AHeap → Prop} {os : List Oper} {env : Env} {h : AHeap} {d : Option Tmp} {ty : TypeId} {pos : String} {af : Array Edge} {g : Option (Nat × Bool)}
end
section
variable {P : Program} {K : Value → AHeap → Prop} {env : Env} {h : AHeap} {dst : Option Tmp} {ty : TypeId} {pos : String} {after : Array Edge} {guard : Option (Nat × Bool)}
end

/-! ## Shares of each -/
end Go.Am

namespace Go.Am
set_option linter.unusedSimpArgs false
set_option linter.unusedVariables false

/-! ## Which goes first -/
def chB (own other : List Int) (i k : Int) : Bool :=
  if other.getD i.toNat 0 = 0 ∨ other.getD k.toNat 0 = 0 then decide (0 < other.getD i.toNat 0 ∧ other.getD k.toNat 0 = 0)
  else decide (own.getD i.toNat 0 * other.getD k.toNat 0 < own.getD k.toNat 0 * other.getD i.toNat 0)
/-- Ahead of: cheaper, or as cheap and ahead in the list. -/
def ahB (own other : List Int) (i k : Int) : Bool := chB own other i k || (!chB own other k i && decide (i < k))
def NN2 (own other : List Int) (i : Int) : Prop := 0 ≤ own.getD i.toNat 0 ∧ 0 ≤ other.getD i.toNat 0
theorem ch_asym {own other : List Int} {i k : Int} (h : chB own other i k = true) : chB own other k i = false := by
  unfold chB at h ⊢
  split at h
  · rename_i c
    rw [decide_eq_true_eq] at h
    rw [if_pos (Or.comm.1 c), decide_eq_false]
    omega
  · rename_i c
    rw [decide_eq_true_eq] at h
    rw [if_neg (fun e => c (Or.comm.1 e)), decide_eq_false]
    omega
theorem mul_tr {a b c x y z : Int} (hy : 0 < y) (hx : 0 < x) (hz : 0 < z) (h1 : a * y ≤ b * x) (h2 : b * z ≤ c * y) : a * z ≤ c * x := by
  have e1 : a * y * z ≤ b * x * z := Int.mul_le_mul_of_nonneg_right h1 (by omega)
  have e2 : b * z * x ≤ c * y * x := Int.mul_le_mul_of_nonneg_right h2 (by omega)
  have e3 : a * z * y ≤ c * x * y := by
    rw [Int.mul_right_comm a z y, Int.mul_right_comm c x y]
    rw [Int.mul_right_comm b x z] at e1
    exact Int.le_trans e1 e2
  exact Int.le_of_mul_le_mul_right e3 hy
/-- Not cheaper, told the other way: at most as dear. -/
theorem ch_le {own other : List Int} {i k : Int} (hi : NN2 own other i) (hk : NN2 own other k) : chB own other k i = false ↔ (other.getD k.toNat 0 = 0 ∨ (0 < other.getD i.toNat 0 ∧ 0 < other.getD k.toNat 0 ∧ own.getD i.toNat 0 * other.getD k.toNat 0 ≤ own.getD k.toNat 0 * other.getD i.toNat 0)) := by
  have h1 := hi.2
  have h2 := hk.2
  unfold chB
  split
  · rename_i c
    rw [decide_eq_false_iff_not]
    constructor
    · intro h; left; omega
    · intro h; omega
  · rename_i c
    rw [decide_eq_false_iff_not]
    constructor
    · intro h; right; exact ⟨by omega, by omega, by omega⟩
    · rintro (h | h)
      · omega
      · omega
theorem ch_le_tr {own other : List Int} {i k l : Int} (hi : NN2 own other i) (hk : NN2 own other k) (hl : NN2 own other l) (h1 : chB own other k i = false) (h2 : chB own other l k = false) : chB own other l i = false := by
  rw [ch_le hi hk] at h1
  rw [ch_le hk hl] at h2
  rw [ch_le hi hl]
  rcases h2 with h2 | ⟨h2, h3, h4⟩
  · exact .inl h2
  · rcases h1 with h1 | ⟨h1, h5, h6⟩
    · omega
    · exact .inr ⟨h1, h3, mul_tr h2 h1 h3 h6 h4⟩
theorem ah_tr {own other : List Int} {i k l : Int} (hi : NN2 own other i) (hk : NN2 own other k) (hl : NN2 own other l) (h1 : ahB own other i k = true) (h2 : ahB own other k l = true) : ahB own other i l = true := by
  have le1 : chB own other k i = false := by
    rw [ahB, Bool.or_eq_true] at h1
    rcases h1 with h | h
    · exact ch_asym h
    · simp at h; exact h.1
  have le2 : chB own other l k = false := by
    rw [ahB, Bool.or_eq_true] at h2
    rcases h2 with h | h
    · exact ch_asym h
    · simp at h; exact h.1
  have le3 := ch_le_tr hi hk hl le1 le2
  cases c : chB own other i l with
  | true => rw [ahB, c]; rfl
  | false =>
    have e1 := ch_le_tr hl hi hk c le1
    have e2 := ch_le_tr hk hl hi le2 c
    rw [ahB, c, le3]
    rw [ahB, e2] at h1
    rw [ahB, e1] at h2
    simp at h1 h2 ⊢
    omega
theorem ah_tot {own other : List Int} {i k : Int} (hne : i ≠ k) : ahB own other i k = !ahB own other k i := by
  cases c1 : chB own other i k with
  | true =>
    have c2 := ch_asym c1
    rw [ahB, ahB, c1, c2]; rfl
  | false =>
    cases c2 : chB own other k i with
    | true => rw [ahB, ahB, c1, c2]; rfl
    | false =>
      rw [ahB, ahB, c1, c2]
      by_cases h : i < k
      · simp [h]; omega
      · simp [h]; omega

/-! ## Order by insertion, in place -/
/-! ## The next that goes -/
def goB (ow own other : List Int) (fr : Int) : Nat → Int
  | 0 => -1
  | s + 1 => if ow.getD s 0 = fr ∧ (goB ow own other fr s < 0 ∨ chB own other (s : Int) (goB ow own other fr s) = true) then (s : Int) else goB ow own other fr s
theorem goB_inv {ow own other : List Int} {fr : Int} {n : Nat} (hnn : ∀ i : Nat, i < n → NN2 own other (i : Int)) : ∀ s, s ≤ n →
    (goB ow own other fr s = -1 ∧ ∀ i, i < s → ow.getD i 0 ≠ fr) ∨ (∃ b : Nat, b < s ∧ goB ow own other fr s = (b : Int) ∧ ow.getD b 0 = fr ∧ ∀ i : Nat, i < s → ow.getD i 0 = fr → i = b ∨ ahB own other (b : Int) (i : Int) = true)
  | 0, _ => .inl ⟨rfl, fun i hi => by omega⟩
  | s + 1, hs => by
    rcases goB_inv (ow := ow) (fr := fr) hnn s (by omega) with ⟨h1, h2⟩ | ⟨b, hb, h1, h2, h3⟩
    · by_cases c : ow.getD s 0 = fr
      · right
        refine ⟨s, by omega, ?_, c, fun i hi he => ?_⟩
        · rw [goB, if_pos ⟨c, .inl (by rw [h1]; decide)⟩]
        · by_cases e : i = s
          · exact .inl e
          · exact absurd he (h2 i (by omega))
      · left
        refine ⟨by rw [goB, if_neg (fun h => c h.1), h1], fun i hi => ?_⟩
        by_cases e : i = s
        · rw [e]; exact c
        · exact h2 i (by omega)
    · right
      by_cases c : ow.getD s 0 = fr ∧ (goB ow own other fr s < 0 ∨ chB own other (s : Int) (goB ow own other fr s) = true)
      · refine ⟨s, by omega, by rw [goB, if_pos c], c.1, fun i hi he => ?_⟩
        have hc : chB own other (s : Int) (b : Int) = true := by
          rcases c.2 with c2 | c2
          · rw [h1] at c2; omega
          · rwa [h1] at c2
        have hsb : ahB own other (s : Int) (b : Int) = true := by rw [ahB, hc]; rfl
        by_cases e : i = s
        · exact .inl e
        · rcases h3 i (by omega) he with rfl | h4
          · exact .inr hsb
          · exact .inr (ah_tr (hnn s (by omega)) (hnn b (by omega)) (hnn i (by omega)) hsb h4)
      · refine ⟨b, by omega, by rw [goB, if_neg c, h1], h2, fun i hi he => ?_⟩
        by_cases e : i = s
        · subst e
          right
          have hc : chB own other (i : Int) (b : Int) = false := by
            cases hh : chB own other (i : Int) (b : Int) with
            | false => rfl
            | true => exact absurd ⟨he, .inr (by rw [h1]; exact hh)⟩ c
          rw [ahB, hc, decide_eq_true (show (b : Int) < (i : Int) by omega)]
          simp
        · exact h3 i (by omega) he
theorem goB_min {ow own other : List Int} {fr : Int} {n b : Nat} (hnn : ∀ i : Nat, i < n → NN2 own other (i : Int)) (hb : b < n) (hf : ow.getD b 0 = fr) (hm : ∀ i : Nat, i < n → ow.getD i 0 = fr → i = b ∨ ahB own other (b : Int) (i : Int) = true) : goB ow own other fr n = (b : Int) := by
  rcases goB_inv (ow := ow) (fr := fr) hnn n (Nat.le_refl _) with ⟨_, h2⟩ | ⟨b2, hb2, h1, h2, h3⟩
  · exact absurd hf (h2 b hb)
  · rw [h1]
    rcases h3 b hb hf with e | h4
    · rw [e]
    · rcases hm b2 hb2 h2 with e | h5
      · rw [e]
      · exfalso
        by_cases e : b = b2
        · subst e
          rw [ahB] at h5
          have : chB own other (b : Int) (b : Int) = false := by
            cases hh : chB own other (b : Int) (b : Int) with
            | false => rfl
            | true => have := ch_asym hh; rw [hh] at this; cases this
          rw [this] at h5
          simp at h5
        · have := ah_tot (own := own) (other := other) (i := (b : Int)) (k := (b2 : Int)) (by omega)
          rw [h4, h5] at this
          cases this

end Go.Am

namespace Go.Am
set_option linter.unusedSimpArgs false
set_option linter.unusedVariables false
/-! ## Who owns what -/
def sumO (own l : List Int) : Int := (l.map fun k => own.getD k.toNat 0).sum
theorem sumO_bound {own : List Int} : ∀ {l : List Int}, (∀ k ∈ l, 0 ≤ own.getD k.toNat 0 ∧ own.getD k.toNat 0 ≤ 1000) → 0 ≤ sumO own l ∧ sumO own l ≤ 1000 * l.length
  | [], _ => by simp [sumO]
  | x :: l, h => by
    have h1 := h x (by simp)
    have h2 := sumO_bound (l := l) fun k hk => h k (by simp [hk])
    have e : sumO own (x :: l) = own.getD x.toNat 0 + sumO own l := by simp [sumO]
    rw [e, List.length_cons]
    omega
/-! ## The loop -/
structure SplO where
  os : List Int
  at' : Int
  p : Int
  q : Int
def spI (own other : List Int) (g : Int) : List Int → List Int → Int → Int → SplO
  | [], os, _, _ => ⟨os, -1, 0, 1⟩
  | k :: r, os, a, b => if a - b = 0 then ⟨os, -1, 0, 1⟩
    else if a - b < own.getD k.toNat 0 + other.getD k.toNat 0 then
      ⟨os, k, (((a - b).toNat : Nat) : Int) / (Nat.gcd (a - b).toNat (own.getD k.toNat 0 + other.getD k.toNat 0).toNat : Nat), (((own.getD k.toNat 0 + other.getD k.toNat 0).toNat : Nat) : Int) / (Nat.gcd (a - b).toNat (own.getD k.toNat 0 + other.getD k.toNat 0).toNat : Nat)⟩
    else spI own other g r (os.set k.toNat (1 - g)) (a - own.getD k.toNat 0) (b + other.getD k.toNat 0)
theorem spI_done {own other os : List Int} {g a b : Int} (h : a - b = 0) : ∀ {T}, spI own other g T os a b = ⟨os, -1, 0, 1⟩
  | [] => rfl
  | k :: r => by rw [spI, if_pos h]
structure SpInv (own other : List Int) (g : Int) (n : Nat) (T : List Int) (R : SplO) (t : Nat) (os : List Int) (a b : Int) : Prop where
  le : t ≤ T.length
  res : spI own other g (T.drop t) os a b = R
  len : os.length = n
  bit : g = 0 ∨ g = 1
  mem : ∀ i : Nat, i < n → (os.getD i 0 = g ↔ (i : Int) ∈ T.drop t)
  has : ∀ k ∈ T, 0 ≤ k ∧ k.toNat < n
  pw : T.Pairwise (fun x y => ahB own other x y = true)
  nod : T.Nodup
  tl : T.length ≤ 8
  sum : a = sumO own (T.drop t)
  ord : 0 ≤ b ∧ b ≤ a
theorem SpInv.bound {own other : List Int} {g : Int} {n : Nat} {T : List Int} {R : SplO} {t : Nat} {os : List Int} {a b : Int} (i : SpInv own other g n T R t os a b) (hb : ∀ j, j < n → 0 ≤ own.getD j 0 ∧ own.getD j 0 ≤ 1000) :
    0 ≤ b ∧ b ≤ a ∧ a ≤ 8000 := by
  have h1 := sumO_bound (own := own) (l := T.drop t) fun k hk => hb _ (i.has k (List.mem_of_mem_drop hk)).2
  have h2 : (T.drop t).length ≤ 8 := by rw [List.length_drop]; have := i.tl; omega
  have := i.ord
  have := i.sum
  omega
theorem SpInv.done {own other : List Int} {g : Int} {n : Nat} {T : List Int} {R : SplO} {t : Nat} {os : List Int} {a b : Int} (i : SpInv own other g n T R t os a b) (h : T.length ≤ t ∨ a ≤ b) : R = ⟨os, -1, 0, 1⟩ := by
  rw [← i.res]
  have ho := i.ord
  refine spI_done ?_
  rcases h with h | h
  · have hs := i.sum
    rw [List.drop_eq_nil_of_le h] at hs
    simp [sumO] at hs
    omega
  · omega
/-- The one that goes next. -/
theorem SpInv.go {own other : List Int} {g : Int} {n : Nat} {T : List Int} {R : SplO} {t : Nat} {os : List Int} {a b : Int} (i : SpInv own other g n T R t os a b) (ht : t < T.length) (hnn : ∀ j : Nat, j < n → NN2 own other (j : Int)) :
    goB os own other g n = T.getD t 0 := by
  have hd : T.drop t = T[t] :: T.drop (t + 1) := List.drop_eq_getElem_cons ht
  have he : T.getD t 0 = T[t] := by simp [List.getD, ht]
  obtain ⟨h0, h1⟩ := i.has T[t] (List.getElem_mem ht)
  have hp := i.pw.sublist (List.drop_sublist t T)
  rw [hd, List.pairwise_cons] at hp
  rw [he]
  generalize hk : T[t] = k at *
  obtain ⟨k, rfl⟩ := Int.eq_ofNat_of_zero_le h0
  rw [Int.toNat_natCast] at h1
  refine goB_min hnn h1 ((i.mem k h1).2 (by rw [hd]; simp)) fun j hj hf => ?_
  have := (i.mem j hj).1 hf
  rw [hd, List.mem_cons] at this
  rcases this with h | h
  · left; omega
  · exact .inr (hp.1 _ h)
theorem SpInv.next {own other : List Int} {g : Int} {n : Nat} {T : List Int} {R : SplO} {t : Nat} {os : List Int} {a b : Int} {k : Nat} (i : SpInv own other g n T R t os a b) (ht : t < T.length) (hk : T.getD t 0 = (k : Int)) (h1 : a - b ≠ 0) (h2 : ¬ a - b < own.getD k 0 + other.getD k 0)
    (ho : 0 ≤ other.getD k 0) : SpInv own other g n T R (t + 1) (os.set k (1 - g)) (a - own.getD k 0) (b + other.getD k 0) := by
  have hd : T.drop t = T[t] :: T.drop (t + 1) := List.drop_eq_getElem_cons ht
  have he : T.getD t 0 = T[t] := by simp [List.getD, ht]
  rw [he] at hk
  have hkn : k < n := by have := (i.has T[t] (List.getElem_mem ht)).2; rw [hk, Int.toNat_natCast] at this; exact this
  have hn : (T.drop t).Nodup := i.nod.sublist (List.drop_sublist t T)
  rw [hd, hk, List.nodup_cons] at hn
  have ho2 := i.ord
  refine ⟨by omega, ?_, by rw [List.length_set]; exact i.len, i.bit, fun j hj => ?_, i.has, i.pw, i.nod, i.tl, ?_, by omega⟩
  · rw [← i.res, hd, hk, spI, if_neg h1, Int.toNat_natCast, if_neg h2]
  · have hm := i.mem j hj
    rw [hd, hk, List.mem_cons] at hm
    have hb := i.bit
    by_cases e : k = j
    · subst e
      have : (os.set k (1 - g)).getD k 0 = 1 - g := by
        rw [List.getD_eq_getElem?_getD, List.getElem?_set_self (by rw [i.len]; exact hkn)]; rfl
      rw [this]
      constructor
      · intro h; omega
      · intro h; exact absurd h hn.1
    · have : (os.set k (1 - g)).getD j 0 = os.getD j 0 := by
        rw [List.getD_eq_getElem?_getD, List.getElem?_set_ne e, ← List.getD_eq_getElem?_getD]
      rw [this, hm]
      constructor
      · rintro (h | h)
        · omega
        · exact h
      · exact fun h => .inr h
  · have hs := i.sum
    rw [hd, hk] at hs
    have : sumO own ((k : Int) :: T.drop (t + 1)) = own.getD k 0 + sumO own (T.drop (t + 1)) := by simp [sumO]
    omega
end Go.Am

namespace Go.Am
set_option linter.unusedSimpArgs false
set_option linter.unusedVariables false
open Go.RowKit
/-! ## The order by insertion keeps what it orders -/
section
variable {P : Program} {env : Env} {h : AHeap} {dst : Option Tmp} {ty : TypeId} {pos : String} {after : Array Edge} {guard : Option (Nat × Bool)}
/-! ## Arrays -/
variable {K : Value → AHeap → Prop}
end
end Go.Am

namespace Go.Am
set_option linter.unusedSimpArgs false
set_option linter.unusedVariables false
theorem oneV2 {v w : Value} (h1 : oneCellA v = true) (h2 : oneCellA w = true) : (Value.agg #[v, w]).cells.toList.all oneCellA = true := by
  show [v, w].all oneCellA = true
  simp [h1, h2]
theorem SpInv.more {own other : List Int} {g : Int} {n : Nat} {T : List Int} {R : SplO} {t : Nat} {os : List Int} {a b : Int} (i : SpInv own other g n T R t os a b) (h : b < a) : t < T.length := by
  refine Nat.lt_of_not_le fun h2 => ?_
  have hs := i.sum
  rw [List.drop_eq_nil_of_le h2] at hs
  have := i.ord
  simp [sumO] at hs
  omega
theorem SpInv.thing {own other : List Int} {g : Int} {n : Nat} {T : List Int} {R : SplO} {t : Nat} {os : List Int} {a b : Int} (i : SpInv own other g n T R t os a b) (h : t < T.length) : ∃ k : Nat, k < n ∧ T.getD t 0 = (k : Int) := by
  have he : T.getD t 0 = T[t] := by simp [List.getD, h]
  obtain ⟨h0, h1⟩ := i.has T[t] (List.getElem_mem h)
  exact ⟨T[t].toNat, h1, by rw [he]; omega⟩
end Go.Am

namespace Go.Am
set_option linter.unusedSimpArgs false
set_option linter.unusedVariables false
open Ieee
theorem cut_lo {neg : Bool} {n d : Nat} (hd : d + 1 ≤ n.log2 + 2) : n ≤ Toward.even.cut neg n (d + 1) * 2 ^ (d + 1) + 2 ^ d := by
  rw [cut_parts hd]
  unfold cutE
  have h1 := Nat.div_add_mod n (2 ^ (d + 1))
  have hm := Nat.mod_lt n (Nat.two_pow_pos (d + 1))
  have h2 : 2 ^ (d + 1) = 2 * 2 ^ d := by rw [Nat.pow_succ, Nat.mul_comm]
  generalize hq : n / 2 ^ (d + 1) = q at *
  generalize hr : n % 2 ^ (d + 1) = r at *
  cases hb : (decide (2 ^ (d + 1) < 2 * r) || (2 ^ (d + 1) == 2 * r && q % 2 == 1))
  · have h3 : ¬ 2 ^ (d + 1) < 2 * r := by
      intro h
      rw [decide_eq_true h] at hb; simp at hb
    simp only [Bool.toNat_false, Nat.add_zero]
    rw [Nat.mul_comm q]; omega
  · simp only [Bool.toNat_true]
    rw [Nat.add_mul, Nat.one_mul, Nat.mul_comm q]
    omega
/-- What is kept of a number, with the last place of a format of F places: near it. -/
theorem cut_val {F N : Nat} {p : Int} (hN : N ≠ 0) (h0 : -300 ≤ p) (h1 : (F : Int) - 300 ≤ p + (N.log2 : Int)) :
    ∃ K, K = Toward.even.cut false (N <<< (p - (p + (N.log2 : Int) - F)).toNat) (p + (N.log2 : Int) - F - p).toNat ∧ 2 ^ F ≤ K ∧ K ≤ 2 ^ (F + 1) ∧
      K * 2 ^ (p + (N.log2 : Int) - F + 300).toNat * 2 ^ (F + 1) ≤ V N p * 2 ^ (F + 1) + V N p ∧ V N p * 2 ^ (F + 1) ≤ K * 2 ^ (p + (N.log2 : Int) - F + 300).toNat * 2 ^ (F + 1) + V N p := by
  have hlo := pow_log2 (m := N) hN
  have hhi := lt_log2 (n := N)
  refine ⟨_, rfl, ?_⟩
  by_cases c : N.log2 ≤ F
  · rw [show (p + (N.log2 : Int) - F - p).toNat = 0 by omega, show (p - (p + (N.log2 : Int) - F)).toNat = F - N.log2 by omega]
    have hcut : Toward.even.cut false (N <<< (F - N.log2)) 0 = N * 2 ^ (F - N.log2) := by
      rw [cut_parts (Nat.zero_le _), Nat.pow_zero, Nat.div_one, Nat.mod_one, Nat.shiftLeft_eq]
      unfold cutE; simp
    rw [hcut]
    have hk1 : 2 ^ F ≤ N * 2 ^ (F - N.log2) := by
      have := Nat.mul_le_mul_right (2 ^ (F - N.log2)) hlo
      rwa [← Nat.pow_add, show N.log2 + (F - N.log2) = F by omega] at this
    have hk2 : N * 2 ^ (F - N.log2) ≤ 2 ^ (F + 1) := by
      have := Nat.mul_le_mul_right (2 ^ (F - N.log2)) (Nat.le_of_lt hhi)
      rwa [← Nat.pow_add, show N.log2 + 1 + (F - N.log2) = F + 1 by omega] at this
    have hv : N * 2 ^ (F - N.log2) * 2 ^ (p + (N.log2 : Int) - F + 300).toNat = V N p := by
      unfold V
      rw [Nat.mul_assoc, ← Nat.pow_add, show F - N.log2 + (p + (N.log2 : Int) - F + 300).toNat = (p + 300).toNat by omega]
    rw [hv]
    exact ⟨hk1, hk2, Nat.le_add_right _ _, Nat.le_add_right _ _⟩
  · obtain ⟨e, he⟩ : ∃ e, N.log2 = F + 1 + e := ⟨N.log2 - F - 1, by omega⟩
    rw [show (p - (p + (N.log2 : Int) - F)).toNat = 0 by omega, Nat.shiftLeft_zero, show (p + (N.log2 : Int) - F - p).toNat = e + 1 by omega]
    have hh := cut_half (neg := false) (n := N) (d := e) (by omega)
    have hl := cut_lo (neg := false) (n := N) (d := e) (by omega)
    have hge := cut_ge (neg := false) (n := N) (d := e + 1) (M := 2 ^ F) (by omega) (by
      rw [← Nat.pow_add, show F + (e + 1) = N.log2 by omega]; exact hlo)
    have hle := cut_le (neg := false) (n := N) (b := e + 1) (f := F) (by omega)
    have hv : ∀ K, K * 2 ^ (p + (N.log2 : Int) - F + 300).toNat = K * 2 ^ (e + 1) * 2 ^ (p + 300).toNat := fun K => by
      rw [Nat.mul_assoc, ← Nat.pow_add, show (p + (N.log2 : Int) - F + 300).toNat = e + 1 + (p + 300).toNat by omega]
    rw [hv]
    generalize Toward.even.cut false N (e + 1) = K at *
    have h4 : 2 ^ e * 2 ^ (F + 1) ≤ N := by
      rw [← Nat.pow_add, show e + (F + 1) = N.log2 by omega]; exact hlo
    unfold V
    generalize 2 ^ (e + 1) = E1 at *
    generalize 2 ^ (p + 300).toNat = U at *
    have h5 := Nat.mul_le_mul_right (2 ^ (F + 1)) hh
    have h6 := Nat.mul_le_mul_right (2 ^ (F + 1)) hl
    rw [Nat.add_mul] at h5 h6
    generalize 2 ^ (F + 1) = T at *
    have h7 := Nat.mul_le_mul_right U (Nat.le_trans h5 (Nat.add_le_add_left h4 _))
    have h8 := Nat.mul_le_mul_right U (Nat.le_trans h6 (Nat.add_le_add_left h4 _))
    rw [Nat.add_mul] at h7 h8
    refine ⟨hge, hle, ?_, ?_⟩
    · rw [Nat.mul_right_comm, Nat.mul_right_comm N]; exact h7
    · rw [Nat.mul_right_comm, Nat.mul_right_comm (K * E1)]; exact h8
theorem V_le_pow {N : Nat} {p : Int} (h0 : -300 ≤ p) {e : Nat} (he : p + (N.log2 : Int) + 301 ≤ (e : Int)) : V N p ≤ 2 ^ e := by
  have hhi := lt_log2 (n := N)
  unfold V
  have h1 : N * 2 ^ (p + 300).toNat ≤ 2 ^ (N.log2 + 1) * 2 ^ (p + 300).toNat := Nat.mul_le_mul_right _ (Nat.le_of_lt hhi)
  rw [← Nat.pow_add] at h1
  exact Nat.le_trans h1 (pow2_le _ _ (by omega))
theorem log_of_V {N : Nat} {p : Int} (hN : N ≠ 0) (h0 : -300 ≤ p) {e : Nat} (h : V N p < 2 ^ e) : p + (N.log2 : Int) + 300 < (e : Int) := by
  have hlo := pow_log2 (m := N) hN
  unfold V at h
  have h1 : 2 ^ N.log2 * 2 ^ (p + 300).toNat ≤ N * 2 ^ (p + 300).toNat := Nat.mul_le_mul_right _ hlo
  rw [← Nat.pow_add] at h1
  have h2 := (Nat.pow_lt_pow_iff_right (a := 2) (by decide)).1 (Nat.lt_of_le_of_lt h1 h)
  omega
theorem near_zero {f : Format} {p : Int} : f.nearest false 0 p = f.word false 0 := by rw [Format.nearest, if_pos rfl]
theorem V_zero {p : Int} : V 0 p = 0 := by unfold V; exact Nat.zero_mul _
theorem zero_NV : NV 0 0 := ⟨0, -149, read_zero, V_zero⟩
theorem bound_pow {B e : Nat} (hB : B ≤ 1000000) (he : e = 320) : B * UU < 2 ^ e := by
  have h1 : B * UU ≤ 1000000 * UU := Nat.mul_le_mul_right _ hB
  have h2 : 1000000 * UU < 1048576 * UU := Nat.mul_lt_mul_of_pos_right (by decide) UU_pos
  have gen : ∀ a u : Nat, u = 20 + a → 1048576 * 2 ^ a = 2 ^ u := fun a u h => by rw [h, Nat.pow_add]
  have h3 : 1048576 * UU = 2 ^ e := by unfold UU; exact gen 300 e (by omega)
  omega
theorem le_AA {x e : Nat} (h : x ≤ 2 ^ e) (he : e ≤ 276) : x ≤ AA := by unfold AA; exact Nat.le_trans h (pow2_le e 276 he)
theorem err_abs {v W B T : Nat} (hT : T ≠ 0) (hB : W ≤ B * (T * AA)) (h1 : v * T ≤ W * T + W) (h2 : W * T ≤ v * T + W) : v ≤ W + B * AA ∧ W ≤ v + B * AA := by
  have e : B * (T * AA) = (B * AA) * T := by rw [Nat.mul_comm T, Nat.mul_assoc]
  rw [e] at hB
  have hp : 0 < T := by omega
  constructor
  · refine Nat.le_of_mul_le_mul_right (c := T) ?_ hp
    rw [Nat.add_mul]; omega
  · refine Nat.le_of_mul_le_mul_right (c := T) ?_ hp
    rw [Nat.add_mul]; omega
/-- A rounded number in single precision: at most B last places of 1 from what it rounds, where this is at most B. -/
theorem near_abs {N : Nat} {p : Int} {B : Nat} (h0 : -300 ≤ p) (hB : V N p ≤ B * UU) (hB1 : 1 ≤ B) (hB2 : B ≤ 1000000) : ∃ v, NV (single.nearest false N p) v ∧ v ≤ V N p + B * AA ∧ V N p ≤ v + B * AA := by
  by_cases hN : N = 0
  · subst hN
    rw [near_zero, V_zero]
    exact ⟨0, zero_NV, Nat.zero_le _, Nat.zero_le _⟩
  by_cases c : p + (N.log2 : Int) < -126
  · have hs : V N p ≤ AA := le_AA (e := (p + (N.log2 : Int) + 301).toNat) (V_le_pow h0 (by omega)) (by omega)
    obtain ⟨y, hy⟩ := rep_NV (D := 1) (by decide) (by decide)
    rw [Nat.one_mul] at hy
    obtain ⟨v, hv, hle⟩ := near_NV hy h0 hs
    have : 1 * AA ≤ B * AA := Nat.mul_le_mul_right _ hB1
    exact ⟨v, hv, by omega, by omega⟩
  · have hl := log_of_V hN h0 (Nat.lt_of_le_of_lt hB (bound_pow hB2 rfl))
    obtain ⟨K, hK, k1, k2, k3, k4⟩ := cut_val (F := 23) hN h0 (by omega)
    rw [near_at hN (by omega) (by omega)]
    obtain ⟨m, i, e, hv⟩ := read_rung (kept := K) (last := p + (N.log2 : Int) - 23) k1 k2 (by omega) (by omega)
    refine ⟨_, ⟨m, i, by rw [← e, hK]; rfl, rfl⟩, ?_⟩
    rw [hv]
    rw [UU_eq] at hB
    have h24 : (2 : Nat) ^ (23 + 1) = 16777216 := by decide
    rw [h24] at k3 k4
    exact err_abs (by decide) hB k3 k4
/-! ## Operations -/
theorem add_abs {x y a b B : Nat} (hx : NV x a) (hy : NV y b) (hB : a + b ≤ B * UU) (hB1 : 1 ≤ B) (hB2 : B ≤ 1000000) : ∃ v, NV (fAdd x y) v ∧ v ≤ a + b + B * AA ∧ a + b ≤ v + B * AA := by
  obtain ⟨g, p, e, h1, _, h2⟩ := add_at hx hy
  rw [e, ← h2]
  exact near_abs (by omega) (by rw [h2]; exact hB) hB1 hB2
theorem sub_abs {x y a b B : Nat} (hx : NV x a) (hy : NV y b) (hle : b ≤ a) (hB : a - b ≤ B * UU) (hB1 : 1 ≤ B) (hB2 : B ≤ 1000000) : ∃ v, NV (fSub x y) v ∧ v ≤ a - b + B * AA ∧ a - b ≤ v + B * AA := by
  obtain ⟨g, p, e, h1, h2⟩ := sub_at hx hy hle
  rw [e, ← h2]
  exact near_abs (by omega) (by rw [h2]; exact hB) hB1 hB2
/-- w times a number: w as a whole number. -/
theorem mul_absI {x y a w B : Nat} (hx : NV x (w * UU)) (hy : NV y a) (hB : w * a ≤ B * UU) (hB1 : 1 ≤ B) (hB2 : B ≤ 1000000) : ∃ v, NV (fMul x y) v ∧ v ≤ w * a + B * AA ∧ w * a ≤ v + B * AA := by
  obtain ⟨g, p, e, h1, h2⟩ := mul_at hx hy
  have h3 : V g p = w * a := by
    refine Nat.eq_of_mul_eq_mul_right UU_pos ?_
    rw [h2, Nat.mul_right_comm]
  rw [e, ← h3]
  exact near_abs (by omega) (by rw [h3]; exact hB) hB1 hB2
/-- A quotient, before it is rounded. -/
theorem quot_val {G ml mn more : Nat} {il jn P : Int} (hmn : mn ≠ 0) (hml : ml ≠ 0) (hG1 : 1 ≤ G) (hG : ml.log2 ≤ G) (hmore : G + mn.log2 - ml.log2 = more) (hP : P = il - jn - (more : Int) - 1) (hi : -300 ≤ il) (hj : -300 ≤ jn) (hPp : -300 ≤ P) :
    V (2 * ((ml <<< more) / mn) + ((ml <<< more) % mn != 0).toNat) P * V mn jn ≤ V ml il * UU + 2 ^ (P + 300).toNat * V mn jn ∧
    V ml il * UU ≤ V (2 * ((ml <<< more) / mn) + ((ml <<< more) % mn != 0).toNat) P * V mn jn + 2 ^ (P + 300).toNat * V mn jn ∧
    2 ^ (P + 300).toNat * 2 ^ G ≤ V (2 * ((ml <<< more) / mn) + ((ml <<< more) % mn != 0).toNat) P := by
  have hD : 2 * (ml <<< more) * 2 ^ (P + 300).toNat * 2 ^ (jn + 300).toNat = V ml il * UU := by
    unfold V UU
    rw [Nat.shiftLeft_eq, Nat.mul_comm 2, Nat.mul_assoc, Nat.mul_assoc, Nat.mul_assoc, Nat.mul_assoc ml]
    congr 1
    have gen : ∀ a b c d u : Nat, a + 1 + b + c = d + u → 2 ^ a * (2 * (2 ^ b * 2 ^ c)) = 2 ^ d * 2 ^ u := fun a b c d u h => by
      rw [← Nat.pow_add 2 d u, ← h, Nat.pow_add, Nat.pow_add, Nat.pow_succ, Nat.mul_assoc, Nat.mul_assoc]
    exact gen more (P + 300).toNat (jn + 300).toNat (il + 300).toNat 300 (by omega)
  have hlo : 2 ^ (G + mn.log2) ≤ ml <<< more := by
    rw [Nat.shiftLeft_eq]
    have := Nat.mul_le_mul_right (2 ^ more) (pow_log2 hml)
    rwa [← Nat.pow_add, show ml.log2 + more = G + mn.log2 by omega] at this
  have hdm := Nat.div_add_mod (ml <<< more) mn
  have hm := Nat.mod_lt (ml <<< more) (show 0 < mn by omega)
  have hb : ((ml <<< more) % mn != 0).toNat ≤ 1 := Bool.toNat_le _
  have hb0 : ((ml <<< more) % mn != 0).toNat = 0 → (ml <<< more) % mn = 0 := fun h => by
    cases e : (ml <<< more) % mn != 0
    · simpa using e
    · rw [e] at h; cases h
  have hq : 2 ^ G ≤ 2 * ((ml <<< more) / mn) := by
    have hh := lt_log2 (n := mn)
    have h3 : 2 ^ G < 2 * ((ml <<< more) / mn + 1) := by
      refine Nat.lt_of_mul_lt_mul_right (a := 2 ^ mn.log2) ?_
      rw [← Nat.pow_add]
      refine Nat.lt_of_le_of_lt hlo ?_
      have h5 : ml <<< more < mn * ((ml <<< more) / mn + 1) := by rw [Nat.mul_add, Nat.mul_one]; omega
      refine Nat.lt_of_lt_of_le h5 ?_
      rw [Nat.mul_comm, Nat.mul_right_comm, Nat.mul_comm (2 * 2 ^ mn.log2)]
      refine Nat.mul_le_mul_left _ ?_
      rw [Nat.pow_succ] at hh
      omega
    have h6 : 2 ^ G % 2 = 0 := by
      cases G with
      | zero => omega
      | succ G => rw [Nat.pow_succ]; omega
    omega
  generalize (ml <<< more) / mn = q at *
  generalize (ml <<< more) % mn = r at *
  generalize (r != 0).toNat = s at *
  generalize ml <<< more = D at *
  have hV : V (2 * q + s) P = (2 * q + s) * 2 ^ (P + 300).toNat := rfl
  have hN : V mn jn = mn * 2 ^ (jn + 300).toNat := rfl
  rw [hV, hN, ← hD]
  generalize 2 ^ (P + 300).toNat = u
  generalize 2 ^ (jn + 300).toNat = t
  have k1 : (2 * q + s) * mn ≤ 2 * D + mn := by
    rw [Nat.add_mul, Nat.mul_assoc, Nat.mul_comm q]
    have : s * mn ≤ 1 * mn := Nat.mul_le_mul_right _ hb
    omega
  have k2 : 2 * D ≤ (2 * q + s) * mn + mn := by
    rw [Nat.add_mul, Nat.mul_assoc, Nat.mul_comm q]
    by_cases h0 : s = 0
    · have := hb0 h0; omega
    · have h1 : s = 1 := by omega
      rw [h1, Nat.one_mul]; omega
  have k3 := Nat.mul_le_mul_right (u * t) k1
  have k4 := Nat.mul_le_mul_right (u * t) k2
  have a1 : (2 * q + s) * u * (mn * t) = (2 * q + s) * mn * (u * t) := by simp only [Nat.mul_assoc, Nat.mul_left_comm]
  have a2 : u * (mn * t) = mn * (u * t) := by simp only [Nat.mul_left_comm]
  have a3 : 2 * D * u * t = 2 * D * (u * t) := by simp only [Nat.mul_assoc]
  rw [a1, a2, a3]
  refine ⟨by rw [← Nat.add_mul]; exact k3, by rw [← Nat.add_mul]; exact k4, ?_⟩
  rw [Nat.mul_comm]
  exact Nat.mul_le_mul_right _ (by omega)
/-- A quotient by a whole number. -/
theorem div_abs {x n a w B : Nat} (hx : NV x a) (hn : ∃ m i, single.read n = .number false m i ∧ i ≤ 0 ∧ m ≠ 0 ∧ V m i = w * UU) (hw : 1 ≤ w) (hB : a ≤ w * (B * UU)) (hB1 : 1 ≤ B) (hB2 : B ≤ 500000) :
    ∃ v, NV (fDiv x n) v ∧ v * w ≤ a + w * (3 * B * AA) ∧ a ≤ v * w + w * (3 * B * AA) := by
  obtain ⟨ml, il, e1, rfl⟩ := hx
  obtain ⟨mn, jn, e2, hj0, hmn, hv⟩ := hn
  have h1 := s_num e1
  have h2 := s_num e2
  have hnl : mn.log2 ≤ 23 := log2_le hmn (by omega)
  generalize hmore : 25 + mn.log2 - ml.log2 = more
  have hq : single.div x n = some (single.nearest false (2 * ((ml <<< more) / mn) + ((ml <<< more) % mn != 0).toNat) (il - jn - (more : Int) - 1)) := by
    rw [Format.div, e1, e2]
    show (Datum.quotient 25 (.number false ml il) (.number false mn jn)).map single.write = _
    rw [Datum.quotient, if_neg hmn, hmore]; rfl
  rw [show fDiv x n = single.nearest false (2 * ((ml <<< more) / mn) + ((ml <<< more) % mn != 0).toNat) (il - jn - (more : Int) - 1) by rw [fDiv, hq]; rfl]
  by_cases h0 : ml = 0
  · subst h0
    rw [Nat.zero_shiftLeft, Nat.zero_div, Nat.zero_mod, V_zero]
    show ∃ v, NV (single.nearest false 0 _) v ∧ _
    rw [near_zero]
    exact ⟨0, zero_NV, by omega, by omega⟩
  have hll : ml.log2 ≤ 23 := log2_le h0 (by omega)
  generalize hP : il - jn - (more : Int) - 1 = P
  obtain ⟨k1, k2, k3⟩ := quot_val (G := 25) hmn h0 (by decide) (by omega) hmore hP.symm (by omega) (by omega) (by omega)
  rw [hv] at k1 k2
  generalize 2 * ((ml <<< more) / mn) + ((ml <<< more) % mn != 0).toNat = N at *
  generalize V ml il = a at *
  generalize hu : 2 ^ (P + 300).toNat = u at *
  have h25 : (2 : Nat) ^ 25 = 33554432 := by decide
  rw [h25] at k3
  have m1 : V N P * w ≤ a + u * w := by
    refine Nat.le_of_mul_le_mul_right (c := UU) ?_ UU_pos
    rw [Nat.add_mul, Nat.mul_assoc, Nat.mul_assoc]; exact k1
  have m2 : a ≤ V N P * w + u * w := by
    refine Nat.le_of_mul_le_mul_right (c := UU) ?_ UU_pos
    rw [Nat.add_mul, Nat.mul_assoc, Nat.mul_assoc]; exact k2
  have m3 : V N P ≤ B * UU + u := by
    refine Nat.le_of_mul_le_mul_right (c := w) ?_ hw
    rw [Nat.add_mul, Nat.mul_comm (B * UU)]
    omega
  have hUA := UU_eq
  have m4 : u ≤ B * AA := by
    have : B * UU = 16777216 * (B * AA) := by rw [hUA, Nat.mul_left_comm]
    omega
  obtain ⟨v, q1, q2, q3⟩ := near_abs (N := N) (p := P) (B := 2 * B) (by omega) (by rw [Nat.mul_assoc]; omega) (by omega) (by omega)
  have e2B : 2 * B * AA = 2 * (B * AA) := Nat.mul_assoc _ _ _
  have e3B : 3 * B * AA = 3 * (B * AA) := Nat.mul_assoc _ _ _
  rw [e2B] at q2 q3
  rw [e3B]
  have n1 := Nat.mul_le_mul_right w q2
  have n2 := Nat.mul_le_mul_right w q3
  have n3 : u * w ≤ B * AA * w := Nat.mul_le_mul_right w m4
  rw [Nat.add_mul] at n1 n2
  have e4 : w * (3 * (B * AA)) = 3 * (B * AA * w) := by rw [Nat.mul_comm w, Nat.mul_assoc]
  have e5 : 2 * (B * AA) * w = 2 * (B * AA * w) := Nat.mul_assoc _ _ _
  rw [e5] at n1 n2
  rw [e4]
  exact ⟨v, q1, by omega, by omega⟩
end Go.Am
