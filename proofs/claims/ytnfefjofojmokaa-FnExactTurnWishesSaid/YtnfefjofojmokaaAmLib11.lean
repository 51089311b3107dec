/-
  The abstract heap: plain laws of taking things in turn; lists of one number. General: no program is named.
-/
import Derived.Test.YtnfefjofojmokaaAmLib10
import Derived.Test.YtnfefjofojmokaaAmCopy
namespace Go.Am
set_option linter.unusedSimpArgs false
set_option linter.unusedVariables false
/-! ## Lists of one number, made by copying -/
def repF (c : Int) (n s : Nat) : List Int := List.replicate s c ++ List.replicate (n - s) 0
theorem repF_len {c : Int} {n s : Nat} (h : s ≤ n) : (repF c n s).length = n := by simp [repF]; omega
theorem repF_full {c : Int} {n : Nat} : repF c n n = List.replicate n c := by simp [repF]
theorem repF_first {c : Int} {n : Nat} (h : 1 ≤ n) : (List.replicate n 0).take 0 ++ [c].take (min [c].length n) ++ (List.replicate n 0).drop (0 + min [c].length n) = repF c n 1 := by
  have : min [c].length n = 1 := by simp; omega
  rw [this]; simp [repF]
theorem repF_part {c : Int} {n s : Nat} (h : s ≤ n) : part (repF c n s) 0 s = List.replicate s c := by
  rw [part, List.drop_zero, repF, Nat.sub_zero, List.take_append_of_le_length (by simp)]
  simp
theorem repF_step {c : Int} {n s : Nat} (hs : s ≤ n) : (repF c n s).take s ++ (List.replicate s c).take (min (List.replicate s c).length (n - s)) ++ (repF c n s).drop (s + min (List.replicate s c).length (n - s)) = repF c n (s + min s (n - s)) := by
  have h1 : (List.replicate s c).length = s := by simp
  rw [h1]
  obtain ⟨m, hm⟩ : ∃ m, m = min s (n - s) := ⟨_, rfl⟩
  rw [← hm]
  have h2 : (repF c n s).take s = List.replicate s c := by rw [repF, List.take_append_of_le_length (by simp)]; simp
  have h3 : (repF c n s).drop (s + m) = List.replicate (n - (s + m)) 0 := by
    rw [repF, List.drop_append]
    simp only [List.length_replicate, List.drop_replicate]
    rw [show s - (s + m) = 0 by omega, show s + m - s = m by omega, show n - s - m = n - (s + m) by omega]
    simp
  have h4 : (List.replicate s c).take m = List.replicate m c := by rw [List.take_replicate, show min m s = m by omega]
  rw [h2, h3, h4, repF, List.replicate_append_replicate]

theorem copy_rep {c : Int} {n s off d : Nat} {ys : List Int} (hs : s ≤ n) (e1 : off = s) (e2 : d = n - s) (e3 : ys = List.replicate s c) :
    (repF c n s).take off ++ ys.take (min ys.length d) ++ (repF c n s).drop (off + min ys.length d) = repF c n (s + min s (n - s)) := by
  subst e1 e2 e3; exact repF_step hs
theorem copy_first {c : Int} {n d : Nat} {xs : List Int} (h : 1 ≤ n) (e1 : d = n) (e2 : xs = List.replicate n 0) : xs.take 0 ++ [c].take (min [c].length d) ++ xs.drop (0 + min [c].length d) = repF c n 1 := by
  subst e1 e2; exact repF_first h
/-! ## Things in turn -/
def tkC (xs os : List Int) (q i b : Int) (t : Nat) : Bool := decide (os.getD t 0 < 0) && (decide (b < 0) || decide (xs.getD (i * q + b).toNat 0 < xs.getD (i * q + (t : Int)).toNat 0))
def tkS (xs os : List Int) (q i : Int) : Nat → Int
  | 0 => -1
  | t + 1 => if tkC xs os q i (tkS xs os q i t) t then (t : Int) else tkS xs os q i t
theorem tk_in {xs os : List Int} {q i : Int} {t : Nat} (h : tkC xs os q i (tkS xs os q i t) t = true) : tkS xs os q i (t + 1) = (t : Int) := by rw [tkS, if_pos h]
theorem tk_out {xs os : List Int} {q i : Int} {t : Nat} (h : tkC xs os q i (tkS xs os q i t) t = false) : tkS xs os q i (t + 1) = tkS xs os q i t := by rw [tkS, if_neg (by rw [h]; simp)]
theorem tk_1 {xs os : List Int} {q i b : Int} {t : Nat} (h1 : os.getD t 0 < 0) (h2 : b < 0) : tkC xs os q i b t = true := by rw [tkC, decide_eq_true h1, decide_eq_true h2]; rfl
theorem tk_2 {xs os : List Int} {q i b : Int} {t : Nat} (h1 : os.getD t 0 < 0) (h2 : xs.getD (i * q + b).toNat 0 < xs.getD (i * q + (t : Int)).toNat 0) : tkC xs os q i b t = true := by rw [tkC, decide_eq_true h1, decide_eq_true h2]; simp
theorem tk_3 {xs os : List Int} {q i b : Int} {t : Nat} (h1 : ¬ os.getD t 0 < 0) : tkC xs os q i b t = false := by rw [tkC, decide_eq_false h1]; rfl
theorem tk_4 {xs os : List Int} {q i b : Int} {t : Nat} (h2 : ¬ b < 0) (h3 : ¬ xs.getD (i * q + b).toNat 0 < xs.getD (i * q + (t : Int)).toNat 0) : tkC xs os q i b t = false := by rw [tkC, decide_eq_false h2, decide_eq_false h3]; simp
theorem tk_bnd {xs os : List Int} {q i : Int} : ∀ t : Nat, -1 ≤ tkS xs os q i t ∧ tkS xs os q i t < t
  | 0 => by simp [tkS]
  | t + 1 => by
    have := tk_bnd (xs := xs) (os := os) (q := q) (i := i) t
    rw [tkS]; split <;> omega
theorem tk_neg {xs os : List Int} {q i : Int} : ∀ t : Nat, (tkS xs os q i t < 0 ∧ ∀ k, k < t → ¬ os.getD k 0 < 0) ∨ (0 ≤ tkS xs os q i t ∧ os.getD (tkS xs os q i t).toNat 0 < 0)
  | 0 => .inl ⟨by simp [tkS], fun k hk => by omega⟩
  | t + 1 => by
    have hb := tk_bnd (xs := xs) (os := os) (q := q) (i := i) t
    by_cases c : tkC xs os q i (tkS xs os q i t) t = true
    · right
      rw [tk_in c]
      have : os.getD t 0 < 0 := by simp only [tkC, Bool.and_eq_true, decide_eq_true_eq] at c; exact c.1
      exact ⟨by omega, by simpa using this⟩
    · have c' : tkC xs os q i (tkS xs os q i t) t = false := by simpa using c
      rw [tk_out c']
      rcases tk_neg (xs := xs) (os := os) (q := q) (i := i) t with ⟨h1, h2⟩ | h
      · refine .inl ⟨h1, fun k hk => ?_⟩
        by_cases hkt : k < t
        · exact h2 k hkt
        · have : k = t := by omega
          subst this
          intro h3
          rw [tk_1 h3 h1] at c'; cases c'
      · exact .inr h

def plT (ord : List Int) (s : Nat) : Int := ord.getD ((s : Int) % (ord.length : Int)).toNat 0
def takeS (xs ord : List Int) (q : Int) : Nat → List Int
  | 0 => List.replicate q.toNat (-1)
  | s + 1 => (takeS xs ord q s).set (tkS xs (takeS xs ord q s) q (plT ord s) q.toNat).toNat (plT ord s)
theorem takeS_len {xs ord : List Int} {q : Int} : ∀ s, (takeS xs ord q s).length = q.toNat
  | 0 => by simp [takeS]
  | s + 1 => by rw [takeS, List.length_set, takeS_len s]
def okT (p q : Int) (xs ord : List Int) : Bool := validV p q xs && (decide (1 ≤ (ord.length : Int) ∧ (ord.length : Int) ≤ 8) && ord.all fun n => decide (0 ≤ n ∧ n ≤ p - 1))
theorem okT_get {p q : Int} {xs ord : List Int} (h : okT p q xs ord = true) : validV p q xs = true ∧ (1 ≤ ord.length ∧ ord.length ≤ 8) ∧ ∀ k, k < ord.length → 0 ≤ ord.getD k 0 ∧ ord.getD k 0 < p := by
  simp only [okT, Bool.and_eq_true, decide_eq_true_eq, List.all_eq_true] at h
  refine ⟨h.1, by omega, fun k hk => ?_⟩
  have := h.2.2 _ (List.getElem_mem hk)
  rw [getD_at hk]; omega
theorem mod_lt {s n : Nat} (h : 1 ≤ n) : 0 ≤ (s : Int) % (n : Int) ∧ (s : Int) % (n : Int) < n := ⟨Int.emod_nonneg _ (by omega), Int.emod_lt_of_pos _ (by omega)⟩
theorem plT_bnd {p q : Int} {xs ord : List Int} (h : okT p q xs ord = true) (s : Nat) : 0 ≤ plT ord s ∧ plT ord s < p := by
  obtain ⟨-, h1, h2⟩ := okT_get h
  have := mod_lt (s := s) (n := ord.length) h1.1
  exact h2 _ (by omega)

/-- How many things have no owner. -/
def freeN (os : List Int) : Nat := os.countP fun x => decide (x < 0)
theorem countP_set_le {l : List Int} {k : Nat} {x : Int} : freeN l ≤ freeN (l.set k x) + 1 := by
  induction l generalizing k with
  | nil => simp [freeN]
  | cons a l ih =>
    cases k with
    | zero => simp only [List.set_cons_zero, freeN, List.countP_cons]; split <;> split <;> omega
    | succ k =>
      have := ih (k := k)
      simp only [List.set_cons_succ, freeN, List.countP_cons] at this ⊢
      omega
theorem takeS_free {xs ord : List Int} {q : Int} : ∀ s, q.toNat ≤ freeN (takeS xs ord q s) + s
  | 0 => by simp [takeS, freeN, List.countP_replicate]
  | s + 1 => by
    have h1 := takeS_free (xs := xs) (ord := ord) (q := q) s
    have h2 := countP_set_le (l := takeS xs ord q s) (k := (tkS xs (takeS xs ord q s) q (plT ord s) q.toNat).toNat) (x := plT ord s)
    rw [takeS]
    omega
theorem free_pos {os : List Int} (h : 0 < freeN os) : ∃ k, k < os.length ∧ os.getD k 0 < 0 := by
  obtain ⟨x, hx, hp⟩ := List.countP_pos_iff.1 h
  obtain ⟨k, hk, rfl⟩ := List.getElem_of_mem hx
  exact ⟨k, hk, by rw [getD_at hk]; simpa using hp⟩
theorem take_best {xs ord : List Int} {q : Int} {s : Nat} (hs : s < q.toNat) : 0 ≤ tkS xs (takeS xs ord q s) q (plT ord s) q.toNat ∧ tkS xs (takeS xs ord q s) q (plT ord s) q.toNat < q := by
  have hb := tk_bnd (xs := xs) (os := takeS xs ord q s) (q := q) (i := plT ord s) q.toNat
  refine ⟨?_, by omega⟩
  rcases tk_neg (xs := xs) (os := takeS xs ord q s) (q := q) (i := plT ord s) q.toNat with ⟨_, h2⟩ | h
  · have h3 := takeS_free (xs := xs) (ord := ord) (q := q) s
    obtain ⟨k, hk, hk2⟩ := free_pos (os := takeS xs ord q s) (by omega)
    rw [takeS_len] at hk
    exact absurd hk2 (h2 k hk)
  · exact h.1
theorem okT_yes {p q : Int} {xs ord : List Int} (h1 : validV p q xs = true) (h2 : (decide (1 ≤ (ord.length : Int) ∧ (ord.length : Int) ≤ 8) && ord.all fun n => decide (0 ≤ n ∧ n ≤ p - 1)) = true) : okT p q xs ord = true := by rw [okT, h1, h2]; rfl
theorem okT_noV {p q : Int} {xs ord : List Int} (h1 : validV p q xs = false) : okT p q xs ord = false := by rw [okT, h1]; rfl
theorem okT_noM {p q : Int} {xs ord : List Int} (h2 : (decide (1 ≤ (ord.length : Int) ∧ (ord.length : Int) ≤ 8) && ord.all fun n => decide (0 ≤ n ∧ n ≤ p - 1)) = false) : okT p q xs ord = false := by rw [okT, h2, Bool.and_false]
theorem okT_noL {p q : Int} {xs ord : List Int} (h2 : ¬ (1 ≤ (ord.length : Int) ∧ (ord.length : Int) ≤ 8)) : okT p q xs ord = false := okT_noM (by rw [decide_eq_false h2]; rfl)
theorem okT_noA {p q : Int} {xs ord : List Int} {k : Nat} (hk : k < ord.length) (h2 : decide (0 ≤ ord.getD k 0 ∧ ord.getD k 0 ≤ p - 1) = false) : okT p q xs ord = false := okT_noM (by rw [all_false (p := fun n => decide (0 ≤ n ∧ n ≤ p - 1)) hk h2, Bool.and_false])
theorem neg_app {s : Nat} : List.replicate s (-1 : Int) ++ [-1] = List.replicate (s + 1) (-1) := by rw [List.replicate_succ']

section
variable {P : Program} {K : Value → AHeap → Prop} {env : Env} {h : AHeap} {dst : Option Tmp} {ty : TypeId} {pos : String} {after : Array Edge} {guard : Option (Nat × Bool)}
theorem o_sliceHiW {t e : TypeId} {x y2 : Operand} {v z : Value} {b : Nat} {xs : List Int} {k2 : IntKind} {r : Int} (hu : P.underlying t = some (.slice e)) (hi : InfoIs P e z 1 b)
    (hx : aeval env x = v) (hv : Ints h v xs) (hy2 : aeval env y2 = .int k2 r) (h0 : 0 < xs.length) (hlr : 0 ≤ r) (hr : r ≤ xs.length)
    (hK : ∀ w, Ints h w (part xs 0 r.toNat) → K w h) : AOp P ⟨dst, .slice t x none (some y2) none, ty, pos, after, guard⟩ K env h :=
  o_sliceHi hu hi hx hv hy2 h0 hlr hr (hK _ (hv.sub h0 (Nat.zero_le _) (by omega)))
theorem o_sliceLoW {t e : TypeId} {x y1 : Operand} {v z : Value} {b : Nat} {xs : List Int} {k1 : IntKind} {l : Int} (hu : P.underlying t = some (.slice e)) (hi : InfoIs P e z 1 b)
    (hx : aeval env x = v) (hv : Ints h v xs) (hy1 : aeval env y1 = .int k1 l) (h0 : 0 < xs.length) (hl : 0 ≤ l) (hlr : l ≤ xs.length)
    (hK : ∀ w, Ints h w (part xs l.toNat xs.length) → K w h) : AOp P ⟨dst, .slice t x (some y1) none none, ty, pos, after, guard⟩ K env h :=
  o_sliceLo hu hi hx hv hy1 h0 hl hlr (hK _ (hv.sub h0 (by omega) (Nat.le_refl _)))
end
section
variable {P : Program} {ops : Array Oper} {KE : Env → AHeap → Prop} {os : List Oper} {env : Env} {h : AHeap} {d : Option Tmp} {ty : TypeId} {pos : String} {af : Array Edge} {g : Option (Nat × Bool)}
theorem d_sliceHiW {t e : TypeId} {x y2 : Operand} {v z : Value} {b : Nat} {xs : List Int} {k2 : IntKind} {r : Int} (hw : wantedA ops env ⟨d, .slice t x none (some y2) none, ty, pos, af, g⟩ = some true) (hu : P.underlying t = some (.slice e)) (hi : InfoIs P e z 1 b)
    (hx : aeval env x = v) (hv : Ints h v xs) (hy2 : aeval env y2 = .int k2 r) (h0 : 0 < xs.length) (hlr : 0 ≤ r) (hr : r ≤ xs.length)
    (hK : ∀ w, Ints h w (part xs 0 r.toNat) → DRun P ops KE os (env.put d w) h) : DRun P ops KE (⟨d, .slice t x none (some y2) none, ty, pos, af, g⟩ :: os) env h :=
  d_do hw (o_sliceHi hu hi hx hv hy2 h0 hlr hr ⟨rfl, rfl⟩) (hv.sub h0 (Nat.zero_le _) (by omega)).within (hK _ (hv.sub h0 (Nat.zero_le _) (by omega)))
theorem d_sliceLoW {t e : TypeId} {x y1 : Operand} {v z : Value} {b : Nat} {xs : List Int} {k1 : IntKind} {l : Int} (hw : wantedA ops env ⟨d, .slice t x (some y1) none none, ty, pos, af, g⟩ = some true) (hu : P.underlying t = some (.slice e)) (hi : InfoIs P e z 1 b)
    (hx : aeval env x = v) (hv : Ints h v xs) (hy1 : aeval env y1 = .int k1 l) (h0 : 0 < xs.length) (hl : 0 ≤ l) (hlr : l ≤ xs.length)
    (hK : ∀ w, Ints h w (part xs l.toNat xs.length) → DRun P ops KE os (env.put d w) h) : DRun P ops KE (⟨d, .slice t x (some y1) none none, ty, pos, af, g⟩ :: os) env h :=
  d_do hw (o_sliceLo hu hi hx hv hy1 h0 hl hlr ⟨rfl, rfl⟩) (hv.sub h0 (by omega) (Nat.le_refl _)).within (hK _ (hv.sub h0 (by omega) (Nat.le_refl _)))
end
end Go.Am
