/-
  The abstract heap: what this claim needs of it. General: no program is named.
-/
import Derived.Test.YtfnopalingnilaaAmG2
import Derived.Laws.Entries
import Derived.Laws.FloatArith
import Derived.KernelRfl
namespace Go.Am
set_option linter.unusedSimpArgs false
set_option linter.unusedVariables false

/-- A slice value that reads as lists of integers. -/
def Lists (h : AHeap) (v : Value) (xss : List (List Int)) : Prop :=
  (v = .slice none 0 0 ∧ xss = []) ∨
  ∃ k off ver cap o, v = .slice (some ⟨k, off, some ver⟩) xss.length cap ∧ h[k]? = some o ∧ o.cells.length = ver ∧ o.esz = 1 ∧ xss.length ≤ cap ∧ off + cap = ver ∧
    ∀ (i : Nat) (xs : List Int), xss[i]? = some xs → ∃ u, o.cells[off + i]? = some u ∧ Ints h u xs

theorem Lists.app {h : AHeap} {v : Value} {xss : List (List Int)} (hv : Lists h v xss) (g : List AObj) : Lists (h ++ g) v xss := by
  rcases hv with hv | ⟨k, off, ver, cap, o, h1, h2, h3, h4, h5, h6, h7⟩
  · exact .inl hv
  · exact .inr ⟨k, off, ver, cap, o, h1, lk_prev h2, h3, h4, h5, h6, fun i xs hi => by
      obtain ⟨u, g1, g2⟩ := h7 i xs hi
      exact ⟨u, g1, g2.app g⟩⟩

theorem Lists.within {h : AHeap} {v : Value} {xss : List (List Int)} (hv : Lists h v xss) : Within h.length v := by
  rcases hv with ⟨rfl, _⟩ | ⟨k, off, ver, cap, o, rfl, h2, _⟩
  · exact .prim rfl
  · exact .slice (List.getElem?_eq_some_iff.1 h2).1

def rowAt (xss : List (List Int)) (i : Nat) : List Int := xss.getD i []
theorem rowAt_some {xss : List (List Int)} {i : Nat} (h : i < xss.length) : xss[i]? = some (rowAt xss i) := by
  simp [rowAt, List.getD_eq_getElem?_getD, List.getElem?_eq_getElem h]
section
variable {P : Program} {K : Value → AHeap → Prop} {env : Env} {h : AHeap} {dst : Option Tmp} {ty : TypeId} {pos : String} {after : Array Edge} {guard : Option (Nat × Bool)}

end

section
variable {P : Program} {ops : Array Oper} {KE : Env → AHeap → Prop} {os : List Oper} {env : Env} {h : AHeap} {d : Option Tmp} {ty : TypeId} {pos : String} {af : Array Edge} {g : Option (Nat × Bool)}
end

/-! ## Own lists of lists -/

/-- A block of one's own with any values. -/
def vls (us : List Value) : AObj := ⟨us, true, 1⟩

/-- Slices over rows that lie one behind the other. -/
def vrows : Nat → List (List Int) → List Value
  | _, [] => []
  | k, x :: xs => sl k x.length :: vrows (k + 1) xs
theorem vrows_len : ∀ {k : Nat} {xss : List (List Int)}, (vrows k xss).length = xss.length
  | _, [] => rfl
  | k, x :: xs => by simp [vrows, vrows_len (k := k + 1) (xss := xs)]
theorem vrows_get : ∀ {k i : Nat} {xss : List (List Int)}, i < xss.length → (vrows k xss)[i]? = some (sl (k + i) (rowAt xss i).length)
  | k, 0, x :: xs, _ => rfl
  | k, i + 1, x :: xs, h => by
    have := vrows_get (k := k + 1) (i := i) (xss := xs) (by simpa using h)
    rw [vrows, List.getElem?_cons_succ, this]
    simp [rowAt, Nat.add_assoc, Nat.add_comm 1]
/-- Lists in new memory: the outer block at k, the rows behind it. -/
def lls (k : Nat) (xss : List (List Int)) : List AObj := vls (vrows (k + 1) xss) :: xss.map lst
@[simp] theorem lls_len {k : Nat} {xss : List (List Int)} : (lls k xss).length = xss.length + 1 := by simp [lls]

theorem take_row {xss : List (List Int)} {s : Nat} (h : s < xss.length) : xss.take (s + 1) = xss.take s ++ [rowAt xss s] := by
  rw [List.take_succ_eq_append_getElem h]
  have := rowAt_some h
  rw [List.getElem?_eq_getElem h, Option.some.injEq] at this
  rw [this]
section
variable {P : Program} {K : Value → AHeap → Prop} {env : Env} {h : AHeap} {dst : Option Tmp} {ty : TypeId} {pos : String} {after : Array Edge} {guard : Option (Nat × Bool)}

end

/-- Marks of all rows. -/
def markL : Int → List (List Int) → List (List Int)
  | _, [] => []
  | c, x :: xs => upto c x.length :: markL (c + x.length) xs
def total : List (List Int) → Nat
  | [] => 0
  | x :: xs => x.length + total xs
@[simp] theorem markL_len : ∀ {c : Int} {xss : List (List Int)}, (markL c xss).length = xss.length
  | _, [] => rfl
  | c, x :: xs => by simp [markL, markL_len (c := c + x.length) (xss := xs)]
theorem total_app : ∀ {a b : List (List Int)}, total (a ++ b) = total a + total b
  | [], b => by simp [total]
  | x :: a, b => by simp [total, total_app (a := a) (b := b), Nat.add_assoc]
theorem total_take {xss : List (List Int)} {s : Nat} (h : s < xss.length) : total (xss.take (s + 1)) = total (xss.take s) + (rowAt xss s).length := by
  rw [take_row h, total_app]; simp [total]
theorem total_le {xss : List (List Int)} {s : Nat} : total (xss.take s) ≤ total xss := by
  have : total xss = total (xss.take s) + total (xss.drop s) := by rw [← total_app, List.take_append_drop]
  omega
theorem total_row {xss : List (List Int)} {s : Nat} (h : s < xss.length) : total (xss.take s) + (rowAt xss s).length ≤ total xss := by
  rw [← total_take h]; exact total_le
section
variable {P : Program} {K : Value → AHeap → Prop} {env : Env} {h : AHeap} {dst : Option Tmp} {ty : TypeId} {pos : String} {after : Array Edge} {guard : Option (Nat × Bool)}
end
section
variable {P : Program} {ops : Array Oper} {KE : Env → AHeap → Prop} {os : List Oper} {env : Env} {h : AHeap} {d : Option Tmp} {ty : TypeId} {pos : String} {af : Array Edge} {g : Option (Nat × Bool)}
end

/-! ## New blocks that lie one behind the other -/
def shf (t d j : Nat) : Nat := if j < t then j else j + d
def ShG (gs : Nat → List AObj) : Prop := ∀ t n d, t ≤ n → (gs (n + d)).length = (gs n).length ∧ ∀ (i : Nat) (o : AObj), (gs n)[i]? = some o →
  ∃ o1, (gs (n + d))[i]? = some o1 ∧ o.cells.length = o1.cells.length ∧ o.mine = o1.mine ∧ o.esz = o1.esz ∧
    ∀ (j : Nat) (v : Value), o.cells[j]? = some v → Within (n + (gs n).length) v ∧ ∃ v1, o1.cells[j]? = some v1 ∧ VRen (shf t d) v v1
theorem ShG.one {o : AObj} (ho : ∀ v ∈ o.cells, isPrim v = true) : ShG (fun _ => [o]) := fun t n d _ => ⟨rfl, fun i x hx => ⟨x, hx, rfl, rfl, rfl, fun j v hv => by
  have : x = o := by cases i <;> simp at hx; exact hx.symm
  subst this
  have := ho v (List.mem_of_getElem? hv)
  exact ⟨.prim this, v, hv, .prim this⟩⟩⟩
theorem ShG.app {gs1 gs2 : Nat → List AObj} {l : Nat} (h1 : ShG gs1) (h2 : ShG gs2) (hl : ∀ n, (gs1 n).length = l) : ShG (fun k => gs1 k ++ gs2 (k + l)) := fun t n d ht => by
  obtain ⟨a1, a2⟩ := h1 t n d ht
  obtain ⟨b1, b2⟩ := h2 t (n + l) d (by omega)
  have e : n + d + l = n + l + d := by omega
  refine ⟨by simp only [List.length_append, e, a1, b1], fun i o hi => ?_⟩
  by_cases c : i < l
  · rw [List.getElem?_append_left (by rw [hl]; exact c)] at hi
    obtain ⟨o1, q1, q2, q3, q4, q5⟩ := a2 i o hi
    refine ⟨o1, by rw [List.getElem?_append_left (by rw [hl]; exact c)]; exact q1, q2, q3, q4, fun j v hv => ?_⟩
    obtain ⟨r1, r2⟩ := q5 j v hv
    exact ⟨r1.mono (by simp only [List.length_append]; omega), r2⟩
  · rw [List.getElem?_append_right (by rw [hl]; omega), hl] at hi
    obtain ⟨o1, q1, q2, q3, q4, q5⟩ := b2 _ o hi
    refine ⟨o1, by rw [List.getElem?_append_right (by rw [hl]; omega), hl, e]; exact q1, q2, q3, q4, fun j v hv => ?_⟩
    obtain ⟨r1, r2⟩ := q5 j v hv
    exact ⟨r1.mono (by simp only [List.length_append, hl]; omega), r2⟩
theorem ShG.lls {xss : List (List Int)} : ShG (fun k => lls k xss) := fun t n d ht => by
  refine ⟨by rw [lls_len, lls_len], fun i o hi => ?_⟩
  cases i with
  | zero =>
    have : o = vls (vrows (n + 1) xss) := by simp [Am.lls] at hi; exact hi.symm
    subst this
    refine ⟨vls (vrows (n + d + 1) xss), rfl, by simp [vls, vrows_len], rfl, rfl, fun j v hv => ?_⟩
    have hv' : (vrows (n + 1) xss)[j]? = some v := hv
    have hlt := (List.getElem?_eq_some_iff.1 hv').1
    rw [vrows_len] at hlt
    rw [vrows_get hlt, Option.some.injEq] at hv'
    subst hv'
    refine ⟨.slice (by rw [lls_len]; omega), _, vrows_get hlt, ?_⟩
    have := VRen.slice (s := shf t d) (k := n + 1 + j) (off := 0) (ver := (rowAt xss j).length) (len := (rowAt xss j).length) (cap := (rowAt xss j).length)
    rwa [show shf t d (n + 1 + j) = n + d + 1 + j by rw [shf, if_neg (by omega)]; omega] at this
  | succ i =>
    have hi' : (xss.map lst)[i]? = some o := by simpa [Am.lls] using hi
    refine ⟨o, by simpa [Am.lls] using hi', rfl, rfl, rfl, fun j v hv => ?_⟩
    simp only [List.getElem?_map, Option.map_eq_some_iff] at hi'
    obtain ⟨xs, _, rfl⟩ := hi'
    have := lst_prim v (List.mem_of_getElem? hv)
    exact ⟨.prim this, v, hv, .prim this⟩

/-- Two lists of lists, one behind the other. -/
def lls2 (k : Nat) (xss yss : List (List Int)) : List AObj := lls k xss ++ lls (k + (xss.length + 1)) yss
abbrev ws2 (n m k : Nat) : Value := .agg #[sl k n, sl (k + (n + 1)) m]
@[simp] theorem lls2_len {k : Nat} {xss yss : List (List Int)} : (lls2 k xss yss).length = xss.length + yss.length + 2 := by simp [lls2, lls_len]; omega
/-! ## Sizes and bounds -/
def LB (xss : List (List Int)) : Prop := xss.length ≤ 1048576 ∧ total xss ≤ 1048576
theorem LB.row {xss : List (List Int)} (h : LB xss) (i : Nat) : (rowAt xss i).length ≤ 1048576 := by
  by_cases c : i < xss.length
  · have := total_row c
    have := h.2
    omega
  · have : rowAt xss i = [] := by rw [rowAt, List.getD_eq_getElem?_getD, List.getElem?_eq_none (by omega)]; rfl
    rw [this]; simp
theorem LB.len {xss : List (List Int)} (h : LB xss) : xss.length ≤ 1048576 := h.1
section
variable {P : Program} {ops : Array Oper} {KE : Env → AHeap → Prop} {os : List Oper} {env : Env} {h : AHeap} {d : Option Tmp} {ty : TypeId} {pos : String} {af : Array Edge} {g : Option (Nat × Bool)}
end
section
variable {P : Program} {ops : Array Oper} {KE : Env → AHeap → Prop} {os : List Oper} {env : Env} {h : AHeap} {d : Option Tmp} {ty : TypeId} {pos : String} {af : Array Edge} {g : Option (Nat × Bool)}
end
end Go.Am

namespace Go.Am
set_option linter.unusedSimpArgs false
set_option linter.unusedVariables false
/-! ## Places in a list -/
def idxI (xs : List Int) (x : Int) : Int := idxTo (fun y => decide (x = y)) xs xs.length
/-! ## Numbers that are there twice -/
def hasAt (xs : List Int) (s : Nat) : Bool := (part xs 0 s).contains (xs.getD s 0)
def inR (n : Int) (x : Int) : Bool := decide (0 ≤ x ∧ x ≤ n - 1)
def rowT (n : Int) (xs : List Int) : Nat → Bool
  | 0 => true
  | t + 1 => rowT n xs t && (inR n (xs.getD t 0) && !hasAt xs t)
def wishL (n : Int) (xs : List Int) : Bool := rowT n xs xs.length
end Go.Am

namespace Go.Am
set_option linter.unusedSimpArgs false
set_option linter.unusedVariables false
section
variable {P : Program} {K : Value → AHeap → Prop} {env : Env} {h : AHeap} {dst : Option Tmp} {ty : TypeId} {pos : String} {after : Array Edge} {guard : Option (Nat × Bool)}
end
/-! ## The best so far -/
section
variable (p q : Int) (xs : List Int) (F : List Int → Int)
end
section
variable {p q : Int} {xs : List Int} {F : List Int → Int}
end

/-! ## Parts have a bound -/
theorem within_func0 {n : Nat} {f : Fn} : Within n (.func f #[] #[]) := .func (fun i h => by simp at h) fun i h => by simp at h
/-! ## The heap while the best is sought -/
section
variable (h : AHeap) (BX FB : AObj) (p q : Int) (xs : List Int) (F : List Int → Int)
end
section
variable {h : AHeap} {BX FB : AObj} {p q : Int} {xs : List Int} {F : List Int → Int}
/-! ## The best by the reference -/
end
end Go.Am

namespace Go.Am
set_option linter.unusedSimpArgs false
set_option linter.unusedVariables false
section
variable {p q : Int} {xs : List Int} {F : List Int → Int}
end
end Go.Am

namespace Go.Am
set_option linter.unusedSimpArgs false
set_option linter.unusedVariables false
/-! ## Places -/
def plc (xs : List Int) (x : Int) : Int := if 0 ≤ idxI xs x then idxI xs x else xs.length
/-! ## Orders -/
/-! ## Lists without repetition -/
theorem pigeon : ∀ (n : Nat) (l : List Int), (∀ x ∈ l, 0 ≤ x ∧ x < n) → l.Nodup → l.length ≤ n
  | 0, [], _, _ => Nat.le_refl _
  | 0, x :: l, h, _ => by have := h x (by simp); omega
  | n + 1, l, h, hd => by
    have h1 := pigeon n (l.filter fun x => decide (x ≠ (n : Int))) (fun x hx => by
      simp only [List.mem_filter, decide_eq_true_eq] at hx
      have := h x hx.1
      omega) (hd.filter _)
    have h2 : l.length ≤ (l.filter fun x => decide (x ≠ (n : Int))).length + 1 := by
      clear h h1
      induction l with
      | nil => simp
      | cons a l ih =>
        have hc := List.nodup_cons.1 hd
        by_cases e : a = (n : Int)
        · have : l.filter (fun x => decide (x ≠ (n : Int))) = l := by
            rw [List.filter_eq_self]
            intro x hx
            simp only [decide_eq_true_eq]
            intro e2
            exact hc.1 (by rw [e, ← e2]; exact hx)
          rw [List.filter_cons_of_neg (by simp [e]), this]
          simp
        · rw [List.filter_cons_of_pos (by simp [e])]
          have := ih hc.2
          simp only [List.length_cons]; omega
    omega
/-! ## Friends -/
/-! ## Rooms -/
end Go.Am

namespace Go.Am
set_option linter.unusedSimpArgs false
set_option linter.unusedVariables false
section
variable {P : Program} {K : Value → AHeap → Prop} {env : Env} {h : AHeap} {dst : Option Tmp} {ty : TypeId} {pos : String} {after : Array Edge} {guard : Option (Nat × Bool)}
end
end Go.Am

namespace Go.Am
set_option linter.unusedSimpArgs false
set_option linter.unusedVariables false
def hrow (n : Int) (xss : List (List Int)) (s : Nat) : Bool := wishL n (rowAt xss s) && decide (((rowAt xss s).length : Int) = n)
def okH (xss : List (List Int)) : Bool := decide (1 ≤ (xss.length : Int) ∧ (xss.length : Int) ≤ 8) && (List.range xss.length).all (hrow xss.length xss)
/-! ## Turns -/
def freeB (L : List Bool) : Nat := L.countP id
/-! ## Lists of lists somewhere in a heap -/
section
variable {P : Program} {K : Value → AHeap → Prop} {env : Env} {h : AHeap} {dst : Option Tmp} {ty : TypeId} {pos : String} {after : Array Edge} {guard : Option (Nat × Bool)}
end
section
variable {P : Program} {ops : Array Oper} {KE : Env → AHeap → Prop} {os : List Oper} {env : Env} {h : AHeap} {d : Option Tmp} {ty : TypeId} {pos : String} {af : Array Edge} {g : Option (Nat × Bool)}
end
end Go.Am

namespace Go.Am
set_option linter.unusedSimpArgs false
set_option linter.unusedVariables false

section
variable {P : Program} {K : Value → AHeap → Prop} {env : Env} {h : AHeap} {dst : Option Tmp} {ty : TypeId} {pos : String} {after : Array Edge} {guard : Option (Nat × Bool)}
end

/-! ## Lists of lists whose rows lie anywhere -/
def rvals (r : Nat → Nat) (xss : List (List Int)) (s : Nat) : List Value := (List.range s).map fun i => sl (r i) (rowAt xss i).length
theorem rvals_succ {r : Nat → Nat} {xss : List (List Int)} {s : Nat} : rvals r xss (s + 1) = rvals r xss s ++ [sl (r s) (rowAt xss s).length] := by simp [rvals, List.range_succ]
theorem rvals_congr {r r' : Nat → Nat} {xss : List (List Int)} {s : Nat} (h : ∀ i, i < s → r i = r' i) : rvals r xss s = rvals r' xss s := by
  unfold rvals
  apply List.map_congr_left
  intro i hi
  rw [h i (List.mem_range.1 hi)]
structure OwnS (b : Nat) (H : AHeap) (kO : Nat) (xss : List (List Int)) (s : Nat) (r : Nat → Nat) : Prop where
  out : H[kO]? = some (vls (rvals r xss s))
  low : b ≤ kO
  row : ∀ i, i < s → b ≤ r i ∧ r i ≠ kO ∧ H[r i]? = some (lst (rowAt xss i))
  inj : ∀ i j, i < s → j < s → r i = r j → i = j
theorem owns_step {b kO s kR : Nat} {H : AHeap} {xss : List (List Int)} {r : Nat → Nat} (o : OwnS b H kO xss s r) (hb : b ≤ H.length) (hk : kR = H.length) {t : AObj} :
    OwnS b ((H ++ [lst (rowAt xss s)] ++ [t]).set kO (vls (rvals r xss s ++ [sl kR (rowAt xss s).length]))) kO xss (s + 1) (fun i => if i = s then kR else r i) := by
  subst hk
  have hlt := (List.getElem?_eq_some_iff.1 o.out).1
  have hold : ∀ k, k < H.length → k ≠ kO → ((H ++ [lst (rowAt xss s)] ++ [t]).set kO (vls (rvals r xss s ++ [sl H.length (rowAt xss s).length])))[k]? = H[k]? := fun k hk hne => by
    rw [List.getElem?_set_ne (Ne.symm hne), List.append_assoc, List.getElem?_append_left hk]
  have hnew : ((H ++ [lst (rowAt xss s)] ++ [t]).set kO (vls (rvals r xss s ++ [sl H.length (rowAt xss s).length])))[H.length]? = some (lst (rowAt xss s)) := by
    rw [List.getElem?_set_ne (by omega), List.append_assoc, List.getElem?_append_right (Nat.le_refl _)]; simp
  refine ⟨?_, o.low, fun i hi => ?_, fun i j hi hj => ?_⟩
  · rw [List.getElem?_set_self (by simp; omega), rvals_succ]
    simp only [if_true]
    rw [rvals_congr (r := fun i => if i = s then H.length else r i) (r' := r) (fun i hi => by rw [if_neg (by omega)])]
  · by_cases e : i = s
    · subst e
      simp only [if_true]
      exact ⟨hb, by omega, hnew⟩
    · obtain ⟨h1, h2, h3⟩ := o.row i (by omega)
      simp only [if_neg e]
      exact ⟨h1, h2, by rw [hold _ (List.getElem?_eq_some_iff.1 h3).1 h2]; exact h3⟩
  · have hri : ∀ i, i < s → r i < H.length := fun i hi => (List.getElem?_eq_some_iff.1 (o.row i hi).2.2).1
    intro he
    by_cases e1 : i = s <;> by_cases e2 : j = s
    · omega
    · simp only [e1, if_true, if_neg e2] at he
      have := hri j (by omega); omega
    · simp only [e2, if_true, if_neg e1] at he
      have := hri i (by omega); omega
    · simp only [if_neg e1, if_neg e2] at he
      exact o.inj i j (by omega) (by omega) he
theorem owns_push {b kO s : Nat} {H g : AHeap} {xss : List (List Int)} {r : Nat → Nat} (o : OwnS b H kO xss s r) : OwnS b (H ++ g) kO xss s r :=
  ⟨lk_prev o.out, o.low, fun i hi => ⟨(o.row i hi).1, (o.row i hi).2.1, lk_prev (o.row i hi).2.2⟩, o.inj⟩
section
variable {P : Program} {K : Value → AHeap → Prop} {env : Env} {h : AHeap} {dst : Option Tmp} {ty : TypeId} {pos : String} {after : Array Edge} {guard : Option (Nat × Bool)}
end

/-! ## Results with lists of lists, or none -/
/-! ## Marks of two lists of lists -/
end Go.Am

namespace Go.Am
set_option linter.unusedSimpArgs false
set_option linter.unusedVariables false
section
variable {P : Program} {K : Value → AHeap → Prop} {env : Env} {h : AHeap} {dst : Option Tmp} {ty : TypeId} {pos : String} {after : Array Edge} {guard : Option (Nat × Bool)}
end

/-! ## All numbers but one -/
abbrev slP (k m n : Nat) : Value := .slice (some ⟨k, 0, some n⟩) m n
theorem Ints.pre {h : AHeap} {k m n : Nat} {xs ys : List Int} (ho : h[k]? = some (lst (xs ++ ys))) (hm : xs.length = m) (hn : (xs ++ ys).length = n) : Ints h (slP k m n) xs := by
  subst hm hn
  exact .inr ⟨k, 0, _, _, lst (xs ++ ys), rfl, ho, by simp [lst], rfl, by simp, by simp, fun i z hz => by
    have hi := (List.getElem?_eq_some_iff.1 hz).1
    simp only [lst, List.map_append, Nat.zero_add]
    rw [List.getElem?_append_left (by simpa using hi)]
    simp [hz]⟩

/-! ## Games -/
abbrev gv (p q : Int) (n m k : Nat) : Value := .agg #[i64 p, i64 q, sl k n, sl (k + 1) m]
theorem Within.agg4 {n : Nat} {a b c d : Value} (h1 : Within n a) (h2 : Within n b) (h3 : Within n c) (h4 : Within n d) : Within n (.agg #[a, b, c, d]) :=
  .agg fun i q1 => by
    match i, q1 with
    | 0, _ => exact h1
    | 1, _ => exact h2
    | 2, _ => exact h3
    | 3, _ => exact h4
theorem VRen.agg4 {s : Nat → Nat} {a b c d a' b' c' d' : Value} (h1 : VRen s a a') (h2 : VRen s b b') (h3 : VRen s c c') (h4 : VRen s d d') : VRen s (.agg #[a, b, c, d]) (.agg #[a', b', c', d']) :=
  .agg rfl fun i q1 q2 => by
    match i, q1 with
    | 0, _ => exact h1
    | 1, _ => exact h2
    | 2, _ => exact h3
    | 3, _ => exact h4
abbrev gt (p q : Int) (n m k : Nat) : Value := .tuple #[gv p q n m k, .bool true]
section
variable {P : Program} {ops : Array Oper} {KE : Env → AHeap → Prop} {os : List Oper} {env : Env} {h : AHeap} {d : Option Tmp} {ty : TypeId} {pos : String} {af : Array Edge} {g : Option (Nat × Bool)}
end

/-! ## The grid of a part of a game -/
section
variable {P : Program} {K : Value → AHeap → Prop} {env : Env} {h : AHeap} {dst : Option Tmp} {ty : TypeId} {pos : String} {after : Array Edge} {guard : Option (Nat × Bool)}
end

/-! ## A game less a row or a column -/
end Go.Am

namespace Go.Am
set_option linter.unusedSimpArgs false
set_option linter.unusedVariables false

/-! ## Rounds of a map -/
/-! ## Parts, without bounds -/
/-! ## Who envies, who is free of it -/
/-! ## Turns until somebody is free -/
end Go.Am

namespace Go.Am
set_option linter.unusedSimpArgs false
set_option linter.unusedVariables false

/-! ## The ring in the walks -/
end Go.Am

namespace Go.Am
set_option linter.unusedSimpArgs false
set_option linter.unusedVariables false

/-! ## Who still has a house -/
def lftH (os : List Int) : List Bool := os.map fun x => decide (x < 0)
/-! ## One round -/
/-! ## How many are left -/
theorem getB_set {L : List Bool} {j k : Nat} (h : j ≠ k) : (L.set j false).getD k false = L.getD k false := by
  rw [List.getD_eq_getElem?_getD, List.getElem?_set, if_neg h, ← List.getD_eq_getElem?_getD]
/-! ## A ring is there -/
structure OkR (xss : List (List Int)) (os : List Int) : Prop where
  hH : okH xss = true
  hl : os.length = xss.length
  hr : 0 < freeB (lftH os)
/-! ## All rounds -/
/-! ## Rounds of envy, padded -/
end Go.Am

namespace Go.Am
set_option linter.unusedSimpArgs false
set_option linter.unusedVariables false
theorem lists_cells {h : AHeap} {v : Value} {xss : List (List Int)} (hv : Lists h v xss) : v.cells.toList = [v] := by
  rcases hv with ⟨rfl, _⟩ | ⟨k, off, ver, cap, o, rfl, _⟩ <;> rfl
end Go.Am

namespace Go.Am
set_option linter.unusedSimpArgs false
set_option linter.unusedVariables false

section
variable {P : Program} {K : Value → AHeap → Prop} {env : Env} {h : AHeap} {dst : Option Tmp} {ty : TypeId} {pos : String} {after : Array Edge} {guard : Option (Nat × Bool)}
end
section
variable {P : Program} {ops : Array Oper} {KE : Env → AHeap → Prop} {os : List Oper} {env : Env} {h : AHeap} {d : Option Tmp} {ty : TypeId} {pos : String} {af : Array Edge} {g : Option (Nat × Bool)}
end

/-! ## Sets -/
/-! ## Places in whole lists -/
/-! ## Who could do better -/
structure Blk where
  xss : List (List Int)
  ms : List Int
  ls : List Int
def Blk.who (B : Blk) (m : Nat) : Int := B.ls.getD (B.ls.length - (m + 1)) 0
def Blk.row (B : Blk) (m : Nat) : List Int := rowAt B.xss (B.who m).toNat
def Blk.has (B : Blk) (m : Nat) : Int := B.ms.getD (B.who m).toNat 0
def Blk.own (B : Blk) (m : Nat) : Nat := (plc (B.row m) (B.has m)).toNat
def takeT (T : Nat) (h : Int) : Nat := T ||| 2 ^ h.toNat
structure OkB (B : Blk) (n : Nat) : Prop where
  hF : okH B.xss = true
  hn : B.xss.length = n
  hm : wishL n B.ms = true
  hml : B.ms.length = n
  hls : ∀ x ∈ B.ls, 0 ≤ x ∧ x < (n : Int)
def RelB (n : Nat) (ls : List Int) (T : Nat) (F : List Bool) : Prop := F.length = n ∧ ∀ x : Int, 0 ≤ x → x < (n : Int) → F.getD x.toNat false = (decide (x ∈ ls) && !T.testBit x.toNat)
theorem take_bit {T j : Nat} {h : Int} : (takeT T h).testBit j = (T.testBit j || decide (h.toNat = j)) := by
  rw [takeT, Nat.testBit_or, Nat.testBit_two_pow]
theorem RelB.take {n : Nat} {ls : List Int} {T : Nat} {F : List Bool} {h : Int} (r : RelB n ls T F) (hh : 0 ≤ h ∧ h < (n : Int)) : RelB n ls (takeT T h) (F.set h.toNat false) := by
  refine ⟨by rw [List.length_set]; exact r.1, fun x h0 h1 => ?_⟩
  rw [take_bit]
  by_cases e : h.toNat = x.toNat
  · rw [e, decide_eq_true rfl, List.getD_eq_getElem?_getD, List.getElem?_set_self (by rw [r.1]; omega)]
    simp
  · rw [getB_set e, r.2 x h0 h1, decide_eq_false e, Bool.or_false]
/-! ## The walks -/
/-! ## The first set -/
section
variable {P : Program} {K : Value → AHeap → Prop} {env : Env} {h : AHeap} {dst : Option Tmp} {ty : TypeId} {pos : String} {after : Array Edge} {guard : Option (Nat × Bool)}
end
section
variable {P : Program} {ops : Array Oper} {KE : Env → AHeap → Prop} {os : List Oper} {env : Env} {h : AHeap} {d : Option Tmp} {ty : TypeId} {pos : String} {af : Array Edge} {g : Option (Nat × Bool)}
end
end Go.Am

namespace Go.Am
set_option linter.unusedSimpArgs false
set_option linter.unusedVariables false
open Ieee

/-! ## Operations -/
abbrev fl (x : Nat) : Value := .float .f32 x
theorem VRel.float {m : Map} {h : AHeap} {k : FloatKind} {x : Nat} {r : Value} (v : VRel m h (.float k x) r) : r = .float k x := by cases v; rfl

section
variable {P : Program} {K : Value → AHeap → Prop} {env : Env} {h : AHeap} {dst : Option Tmp} {ty : TypeId} {pos : String} {after : Array Edge} {guard : Option (Nat × Bool)}
end
section
variable {P : Program} {ops : Array Oper} {KE : Env → AHeap → Prop} {os : List Oper} {env : Env} {h : AHeap} {d : Option Tmp} {ty : TypeId} {pos : String} {af : Array Edge} {g : Option (Nat × Bool)}
end
end Go.Am

namespace Go.Am
set_option linter.unusedSimpArgs false
set_option linter.unusedVariables false
open Ieee

theorem s_read (x : Nat) : single.read x = (if x % 2147483648 < 8388608 then .number (x / 2147483648 % 2 == 1) (x % 2147483648) (-149)
    else if x % 2147483648 < 2139095040 then .number (x / 2147483648 % 2 == 1) (8388608 + x % 2147483648 % 8388608) (-149 + (x % 2147483648 / 8388608 - 1 : Nat))
    else if x % 2147483648 = 2139095040 then .infinity (x / 2147483648 % 2 == 1) else .nan (x / 2147483648 % 2 == 1) (x % 2147483648 - 2139095040)) := rfl
/-! ## What is written -/
theorem lt_log2 {n : Nat} : n < 2 ^ (n.log2 + 1) := Nat.lt_log2_self
theorem log2_le {n k : Nat} (hn : n ≠ 0) (h : n < 2 ^ (k + 1)) : n.log2 ≤ k := by
  have := (Nat.log2_lt hn).2 h
  omega
theorem cut_le {neg : Bool} {n b f : Nat} (h : n.log2 ≤ f + b) : Toward.even.cut neg n b ≤ 2 ^ (f + 1) := by
  have hg : n / (1 <<< min b (n.log2 + 2)) < 2 ^ (f + 1) := by
    rw [Nat.one_shiftLeft, Nat.div_lt_iff_lt_mul (Nat.two_pow_pos _), ← Nat.pow_add]
    exact Nat.lt_of_lt_of_le lt_log2 (Nat.pow_le_pow_right (by decide) (by omega))
  have : Toward.even.cut neg n b ≤ n / (1 <<< min b (n.log2 + 2)) + 1 := by
    unfold Toward.cut
    simp only
    generalize (decide (1 <<< min b (n.log2 + 2) < 2 * (n % 1 <<< min b (n.log2 + 2))) || _) = c
    cases c <;> simp
  omega
theorem log2_shl {m a : Nat} (hm : m ≠ 0) : (m <<< a).log2 ≤ m.log2 + a := by
  rw [Nat.shiftLeft_eq]
  refine log2_le (Nat.mul_ne_zero hm (Nat.pos_iff_ne_zero.1 (Nat.two_pow_pos _))) ?_
  rw [show m.log2 + a + 1 = (m.log2 + 1) + a by omega, Nat.pow_add]
  exact Nat.mul_lt_mul_of_pos_right lt_log2 (Nat.two_pow_pos _)
theorem pow23 : 8388608 = 2 ^ (22 + 1) := by decide
theorem near_rung (f : Format) (neg : Bool) (mag : Nat) (place : Int) : ∃ r, f.nearest neg mag place = f.word neg r ∧ r ≤ f.infRung ∧
    ∀ E : Nat, (mag = 0 ∨ place + (mag.log2 : Int) - f.fractionBits - f.leastPlace ≤ E) → r ≤ E * f.binade + 2 * f.binade := by
  unfold Format.nearest
  by_cases h0 : mag = 0
  · exact ⟨0, by rw [if_pos h0], Nat.zero_le _, fun _ _ => Nat.zero_le _⟩
  · rw [if_neg h0]
    refine ⟨_, rfl, Nat.min_le_right _ _, fun E hE => ?_⟩
    have hE := hE.resolve_left h0
    generalize hl : max (place + (mag.log2 : Int) - (f.fractionBits : Int)) f.leastPlace = last
    have hk : Toward.even.cut neg (mag <<< (place - last).toNat) (last - place).toNat ≤ 2 * f.binade := by
      have h1 := log2_shl (a := (place - last).toNat) h0
      have := cut_le (neg := neg) (n := mag <<< (place - last).toNat) (b := (last - place).toNat) (f := f.fractionBits) (by omega)
      rw [Nat.pow_succ, Nat.mul_comm] at this
      exact this
    refine Nat.le_trans (Nat.min_le_left _ _) (Nat.add_le_add (Nat.mul_le_mul_right _ ?_) hk)
    omega
theorem s_parts (neg : Bool) (r : Nat) (hr : r < 2147483648) : single.word neg r % 2147483648 = r ∧ (single.word neg r / 2147483648 % 2 == 1) = neg := by
  have e : single.word neg r = if neg then 2147483648 + r else r := rfl
  rw [e]
  cases neg
  · simp only [Bool.false_eq_true, if_false]
    exact ⟨by omega, by rw [show r / 2147483648 % 2 = 0 by omega]; rfl⟩
  · simp only [if_true]
    exact ⟨by omega, by rw [show (2147483648 + r) / 2147483648 % 2 = 1 by omega]; rfl⟩
theorem s_word (neg : Bool) (r : Nat) (hr : r < 2139095040) : ∃ m i, single.read (single.word neg r) = .number neg m i ∧ (m = 0 ∨ i + (m.log2 : Int) ≤ (r / 8388608 : Nat) - 127) := by
  have hw := s_parts neg r (by omega)
  rw [s_read, hw.1, hw.2]
  by_cases c : r < 8388608
  · rw [if_pos c]
    refine ⟨r, -149, rfl, ?_⟩
    by_cases h0 : r = 0
    · exact .inl h0
    · right
      have : r.log2 ≤ 22 := log2_le h0 (pow23 ▸ c)
      omega
  · rw [if_neg c, if_pos hr]
    refine ⟨_, _, rfl, .inr ?_⟩
    have : (8388608 + r % 8388608).log2 ≤ 23 := log2_le (by omega) (by omega)
    omega
theorem s_inf (neg : Bool) : single.read (single.word neg 2139095040) = .infinity neg := by
  have hw := s_parts neg 2139095040 (by omega)
  rw [s_read, hw.1, hw.2, if_neg (by omega), if_neg (by omega), if_pos rfl]
/-- A number between -2^(E+1) and 2^(E+1). -/
def Sm (E : Int) (x : Nat) : Prop := ∃ s m i, single.read x = .number s m i ∧ (m = 0 ∨ i + (m.log2 : Int) ≤ E)
def NN (x : Nat) : Prop := (single.read x).isNaN = false
def Ps (x : Nat) : Prop := (∃ m i, single.read x = .number false m i) ∨ single.read x = .infinity false
theorem Sm.mono {E E' : Int} {x : Nat} (h : Sm E x) (he : E ≤ E') : Sm E' x := by
  obtain ⟨s, m, i, h1, h2⟩ := h
  exact ⟨s, m, i, h1, by omega⟩
theorem Sm.nn {E : Int} {x : Nat} (h : Sm E x) : NN x := by obtain ⟨s, m, i, h1, _⟩ := h; rw [NN, h1]; rfl
theorem Ps.nn {x : Nat} (h : Ps x) : NN x := by
  rcases h with ⟨m, i, h⟩ | h <;> rw [NN, h] <;> rfl
theorem write_any (neg : Bool) (mag : Nat) (place : Int) : (∃ m i, single.read (single.nearest neg mag place) = .number neg m i) ∨ single.read (single.nearest neg mag place) = .infinity neg := by
  obtain ⟨r, e, hr, _⟩ := near_rung single neg mag place
  have hr : r ≤ 2139095040 := hr
  rw [e]
  by_cases c : r = 2139095040
  · rw [c]; exact .inr (s_inf neg)
  · obtain ⟨m, i, h3, _⟩ := s_word neg r (by omega)
    exact .inl ⟨m, i, h3⟩
/-! ## The operations -/
def fAdd (x y : Nat) : Nat := (single.add x y).getD 0
def fSub (x y : Nat) : Nat := (single.sub x y).getD 0
def fMul (x y : Nat) : Nat := (single.mul x y).getD 0
def fDiv (x y : Nat) : Nat := (single.div x y).getD 0
theorem mul_pos {x y m n : Nat} {i j : Int} (hx : single.read x = .number false m i) (hy : single.read y = .number false n j) : single.mul x y = some (fMul x y) ∧ Ps (fMul x y) := by
  have e : single.mul x y = some (single.nearest false (m * n) (i + j)) := by rw [Format.mul, hx, hy]; rfl
  refine ⟨by rw [fMul, e]; rfl, ?_⟩
  rw [fMul, e]
  exact write_any false (m * n) (i + j)
end Go.Am

namespace Go.Am
set_option linter.unusedSimpArgs false
set_option linter.unusedVariables false
open Ieee

/-! ## Small whole numbers -/
def fI (n : Int) : Nat := FloatKind.f32.nearest n
/-! ## Orders -/
abbrev ord (x y : Nat) : Option Ordering := single.order x y
def geB (x y : Nat) : Bool := ord x y == some .gt || ord x y == some .eq
def leB (x y : Nat) : Bool := ord x y == some .lt || ord x y == some .eq
def gtB (x y : Nat) : Bool := ord x y == some .gt
def ltB (x y : Nat) : Bool := ord x y == some .lt
/-- A place of a cake. -/
def plF (p : Int) (x : Nat) : Bool := geB x 0 && leB x (fI p)
def PlD (x : Nat) : Prop := ∃ s m i, single.read x = .number s m i ∧ (s = true → m = 0) ∧ (m = 0 ∨ i + (m.log2 : Int) ≤ 10)
theorem PlD.sm {x : Nat} (h : PlD x) : Sm 10 x := by obtain ⟨s, m, i, e, _, h⟩ := h; exact ⟨s, m, i, e, h⟩
theorem PlD.nn {x : Nat} (h : PlD x) : NN x := h.sm.nn
/-! ## A part of a piece -/
def cA (x : Nat) (k : Nat) : Nat := if gtB x (fI k) then x else fI k
def cB (y : Nat) (k : Nat) : Nat := if ltB y (fI ((k : Int) + 1)) then y else fI ((k : Int) + 1)
def cD (x y k : Nat) : Nat := fSub (cB y k) (cA x k)
def cSum (x y : Nat) (ws : List Int) : Nat → Nat
  | 0 => 0
  | k + 1 => if gtB (cD x y k) 0 then fAdd (cSum x y ws k) (fMul (fI (ws.getD k 0)) (cD x y k)) else cSum x y ws k
/-! ## In double precision -/
end Go.Am

namespace Go.Am
set_option linter.unusedSimpArgs false
set_option linter.unusedVariables false
open Ieee
section
variable {P : Program} {K : Value → AHeap → Prop} {env : Env} {h : AHeap} {dst : Option Tmp} {ty : TypeId} {pos : String} {after : Array Edge} {guard : Option (Nat × Bool)}
end
abbrev rowC (q i : Int) (xs : List Int) : List Int := part xs (i * q).toNat ((i + 1) * q).toNat
def cwK (p q i : Int) (xs : List Int) (x y : Nat) : Bool := (validC p q xs && decide (0 ≤ i ∧ i ≤ p - 1)) && (plF q x && (plF q y && !gtB x y))
variable {p q i : Int} {xs : List Int} {x y : Nat}
theorem cwK_yes (h1 : (validC p q xs && decide (0 ≤ i ∧ i ≤ p - 1)) = true) (h2 : plF q x = true) (h3 : plF q y = true) (h4 : gtB x y = false) : cwK p q i xs x y = true := by rw [cwK, h1, h2, h3, h4]; rfl
end Go.Am

namespace Go.Am
set_option linter.unusedSimpArgs false
set_option linter.unusedVariables false
open Ieee

/-! ## A number less itself -/
def finB (x : Nat) : Bool := match single.read x with | .number .. => true | _ => false
section
variable {P : Program} {K : Value → AHeap → Prop} {env : Env} {h : AHeap} {dst : Option Tmp} {ty : TypeId} {pos : String} {after : Array Edge} {guard : Option (Nat × Bool)}
end

/-! ## Marks -/
def mP (x : Nat) (ws : List Int) (k : Nat) : Nat := fMul (fI (ws.getD k 0)) (fSub (fI ((k : Int) + 1)) (cA x k))
def mLeft (x w : Nat) (ws : List Int) : Nat → Nat
  | 0 => w
  | k + 1 => if gtB (fI ((k : Int) + 1)) x then fSub (mLeft x w ws k) (mP x ws k) else mLeft x w ws k
def mHit (x w : Nat) (ws : List Int) (k : Nat) : Bool := gtB (fI ((k : Int) + 1)) x && (geB (mP x ws k) (mLeft x w ws k) && decide (0 < ws.getD k 0))
def mRes (x w : Nat) (ws : List Int) (k : Nat) : Nat := fAdd (cA x k) (fDiv (mLeft x w ws k) (fI (ws.getD k 0)))
def mHitI (x w : Nat) (ws : List Int) (z : Int) : Bool := mHit x w ws z.toNat
def mFir (x w : Nat) (ws : List Int) (n : Nat) : Int := idxTo (mHitI x w ws) (cntL n) n
def mAll (q : Int) (x w : Nat) (ws : List Int) : Nat := if 0 ≤ mFir x w ws q.toNat then mRes x w ws (mFir x w ws q.toNat).toNat else fI q
def cmK (p q i : Int) (xs : List Int) (x w : Nat) : Bool := (validC p q xs && decide (0 ≤ i ∧ i ≤ p - 1)) && (plF q x && (geB w 0 && finB w))
variable {p q i : Int} {xs : List Int} {x w : Nat}
theorem cmK_yes (h1 : (validC p q xs && decide (0 ≤ i ∧ i ≤ p - 1)) = true) (h2 : plF q x = true) (h3 : geB w 0 = true) (h4 : finB w = true) : cmK p q i xs x w = true := by rw [cmK, h1, h2, h3, h4]; rfl
end Go.Am

namespace Go.Am
set_option linter.unusedSimpArgs false
set_option linter.unusedVariables false
open Ieee

/-! ## Halves -/
/-! ## Rounded to at most -/
end Go.Am

namespace Go.Am
set_option linter.unusedSimpArgs false
set_option linter.unusedVariables false
open Ieee

/-! ## Numbers not below zero, and not too great -/
def NF (E : Int) (x : Nat) : Prop := ∃ m i, single.read x = .number false m i ∧ (m = 0 ∨ i + (m.log2 : Int) ≤ E)
theorem NF.sm {E : Int} {x : Nat} (h : NF E x) : Sm E x := by obtain ⟨m, i, e, b⟩ := h; exact ⟨false, m, i, e, b⟩
theorem NF.mono {E E' : Int} {x : Nat} (h : NF E x) (he : E ≤ E') : NF E' x := by obtain ⟨m, i, e, b⟩ := h; exact ⟨m, i, e, by omega⟩
theorem NF.fin {E : Int} {x : Nat} (h : NF E x) : finB x = true := by obtain ⟨m, i, e, b⟩ := h; rw [finB, e]
def NB (x : Nat) : Prop := ∃ m i, single.read x = .number false m i
def hf (x : Nat) : Nat := fDiv x 1073741824
/-! ## Whole numbers -/
end Go.Am

namespace Go.Am
set_option linter.unusedSimpArgs false
set_option linter.unusedVariables false
open Ieee
abbrev ccW (q : Int) (xs : List Int) : Nat := cSum 0 (fI q) (rowC q 0 xs) q.toNat
abbrev ccA (q : Int) (xs : List Int) : Nat := mAll q 0 (hf (ccW q xs)) (rowC q 0 xs)
structure CC (p q : Int) (xs : List Int) : Prop where
  w0 : (validC p q xs && decide ((0 : Int) ≤ 0 ∧ (0 : Int) ≤ p - 1)) = true
  w1 : (validC p q xs && decide ((0 : Int) ≤ 1 ∧ (1 : Int) ≤ p - 1)) = true
  h0 : plF q 0 = true
  h1 : plF q (fI q) = true
  h2 : plF q (ccA q xs) = true
  g1 : gtB 0 (fI q) = false
  g2 : gtB 0 (ccA q xs) = false
  g3 : gtB (ccA q xs) (fI q) = false
  f5 : floatBits .quo .f32 (ccW q xs) 1073741824 = some (hf (ccW q xs))
  f6 : floatBits .mul .f32 1056964608 (ccW q xs) = some (hf (ccW q xs))
  m1 : geB (hf (ccW q xs)) 0 = true
  m2 : finB (hf (ccW q xs)) = true
  nn : NN (ccA q xs)
section
variable {p q : Int} {xs : List Int}
theorem CC.k1 (c : CC p q xs) : cwK p q 0 xs 0 (fI q) = true := cwK_yes c.w0 c.h0 c.h1 c.g1
theorem CC.k2 (c : CC p q xs) : cmK p q 0 xs 0 (hf (ccW q xs)) = true := cmK_yes c.w0 c.h0 c.m1 c.m2
theorem CC.k3 (c : CC p q xs) : cwK p q 1 xs 0 (ccA q xs) = true := cwK_yes c.w1 c.h0 c.h2 c.g2
theorem CC.k4 (c : CC p q xs) : cwK p q 1 xs (ccA q xs) (fI q) = true := cwK_yes c.w1 c.h2 c.h1 c.g3
end
end Go.Am

namespace Go.Am
set_option linter.unusedSimpArgs false
set_option linter.unusedVariables false
def lstF (xs : List Nat) : AObj := ⟨xs.map fl, true, 1⟩
def Flts (h : AHeap) (v : Value) (xs : List Nat) : Prop :=
  (v = .slice none 0 0 ∧ xs = []) ∨
  ∃ k off ver cap o, v = .slice (some ⟨k, off, some ver⟩) xs.length cap ∧ h[k]? = some o ∧ o.cells.length = ver ∧ o.esz = 1 ∧ xs.length ≤ cap ∧ off + cap = ver ∧
    ∀ (i : Nat) (z : Nat), xs[i]? = some z → o.cells[off + i]? = some (fl z)
theorem Flts.app {h : AHeap} {v : Value} {xs : List Nat} (hv : Flts h v xs) (g : List AObj) : Flts (h ++ g) v xs := by
  rcases hv with hv | ⟨k, off, ver, cap, o, h1, h2, h3, h4, h5, h6, h7⟩
  · exact .inl hv
  · exact .inr ⟨k, off, ver, cap, o, h1, by rw [List.getElem?_append_left (List.getElem?_eq_some_iff.1 h2).1]; exact h2, h3, h4, h5, h6, h7⟩
theorem Flts.within {h : AHeap} {v : Value} {xs : List Nat} (hv : Flts h v xs) : Within h.length v := by
  rcases hv with ⟨rfl, _⟩ | ⟨k, off, ver, cap, o, rfl, h2, _⟩
  · exact .prim rfl
  · exact .slice (List.getElem?_eq_some_iff.1 h2).1
theorem Flts.own {h : AHeap} {k n : Nat} {xs : List Nat} (ho : h[k]? = some (lstF xs)) (hn : xs.length = n) : Flts h (sl k n) xs := by
  subst hn
  exact .inr ⟨k, 0, _, _, lstF xs, rfl, ho, by simp [lstF], rfl, Nat.le_refl _, by simp, fun i z hz => by simp [lstF, hz]⟩
section
variable {P : Program} {K : Value → AHeap → Prop} {env : Env} {h : AHeap} {dst : Option Tmp} {ty : TypeId} {pos : String} {after : Array Edge} {guard : Option (Nat × Bool)}
end
section
variable {P : Program} {K : Value → AHeap → Prop} {env : Env} {h : AHeap} {dst : Option Tmp} {ty : TypeId} {pos : String} {after : Array Edge} {guard : Option (Nat × Bool)}
end
section
variable {P : Program} {K : Value → AHeap → Prop} {env : Env} {h : AHeap} {dst : Option Tmp} {ty : TypeId} {pos : String} {after : Array Edge} {guard : Option (Nat × Bool)}
end
section
variable {P : Program} {ops : Array Oper} {KE : Env → AHeap → Prop} {os : List Oper} {env : Env} {h : AHeap} {d : Option Tmp} {op : Op} {ty : TypeId} {pos : String} {af : Array Edge} {g : Option (Nat × Bool)}
end
section
variable {P : Program} {ops : Array Oper} {KE : Env → AHeap → Prop} {os : List Oper} {env : Env} {h : AHeap} {d : Option Tmp} {ty : TypeId} {pos : String} {af : Array Edge} {g : Option (Nat × Bool)}
end
end Go.Am

namespace Go.Am
set_option linter.unusedSimpArgs false
set_option linter.unusedVariables false
open Ieee
/-! ## Values over one base -/
def V (m : Nat) (i : Int) : Nat := m * 2 ^ (i + 300).toNat
/-! ## Rounding, told more finely -/
end Go.Am

namespace Go.Am
set_option linter.unusedSimpArgs false
set_option linter.unusedVariables false
open Ieee
end Go.Am

namespace Go.Am
set_option linter.unusedSimpArgs false
set_option linter.unusedVariables false
open Ieee
end Go.Am

namespace Go.Am
set_option linter.unusedSimpArgs false
set_option linter.unusedVariables false

section
variable {P : Program} {K : Value → AHeap → Prop} {env : Env} {h : AHeap} {dst : Option Tmp} {ty : TypeId} {pos : String} {after : Array Edge} {guard : Option (Nat × Bool)}
end
/-- A cut list, as it reads. -/
theorem Ints.cut {h : AHeap} {k n L : Nat} {xs : List Int} (ho : h[k]? = some (lst xs)) (hn : xs.length = L) (hl : n ≤ L) : Ints h (.slice (some ⟨k, 0, some L⟩) n L) (xs.take n) := by
  subst hn
  have hlen : (xs.take n).length = n := by rw [List.length_take]; omega
  refine .inr ⟨k, 0, _, _, lst xs, by rw [hlen], ho, by simp [lst], rfl, by omega, by omega, fun i z hz => ?_⟩
  rw [List.getElem?_take] at hz
  split at hz
  · simp [lst, hz]
  · cases hz
end Go.Am

namespace Go.Am
set_option linter.unusedSimpArgs false
set_option linter.unusedVariables false
open Go.RowKit
end Go.Am

namespace Go.Am
set_option linter.unusedSimpArgs false
set_option linter.unusedVariables false

end Go.Am

namespace Go.Am
set_option linter.unusedSimpArgs false
set_option linter.unusedVariables false
section
variable {P : Program} {ops : Array Oper} {KE : Env → AHeap → Prop} {os : List Oper} {env : Env} {h : AHeap} {d : Option Tmp} {ty : TypeId} {pos : String} {af : Array Edge} {g : Option (Nat × Bool)}
end

/-! ## The state of the recursion -/
structure PlanS (h H : AHeap) (kO : Nat) (al : List (List Int)) (s : Nat) (r : Nat → Nat) (ss : List Int) (n : Nat) (m : Int) : Prop where
  own : OwnS h.length H kO al s r
  far : ∀ i, i < s → h.length + 7 ≤ r i
  len : ss.length = n
  bnd : ∀ x ∈ ss, 0 ≤ x ∧ x ≤ m
  sle : s ≤ al.length
theorem lk_far {X Y g : AHeap} {k : Nat} (e : X.length = Y.length) (hk : X.length ≤ k) : (X ++ g)[k]? = (Y ++ g)[k]? := by
  rw [List.getElem?_append_right hk, List.getElem?_append_right (by omega), e]
end Go.Am

namespace Go.Am
set_option linter.unusedSimpArgs false
set_option linter.unusedVariables false
end Go.Am

namespace Go.Am
set_option linter.unusedSimpArgs false
set_option linter.unusedVariables false
structure PlanT (h H : AHeap) (kO : Nat) (al : List (List Int)) (s : Nat) (r : Nat → Nat) : Prop where
  own : OwnS h.length H kO al s r
  far : ∀ i, i < s → h.length + 3 ≤ r i
  sle : s ≤ al.length
theorem getD_set_at {l : List Int} {i : Nat} {x : Int} (h : i < l.length) : (l.set i x).getD i 0 = x := by
  rw [getD_at (by simpa using h)]; simp
end Go.Am

namespace Go.Am
set_option linter.unusedSimpArgs false
set_option linter.unusedVariables false

/-! ## Appending to a cut list -/
section
variable {P : Program} {K : Value → AHeap → Prop} {env : Env} {h : AHeap} {dst : Option Tmp} {ty : TypeId} {pos : String} {after : Array Edge} {guard : Option (Nat × Bool)}
end
/-! ## Rows that are kept -/
structure RowG (b : Nat) (H : AHeap) (kO : Nat) (al : List (List Int)) (s : Nat) (r : Nat → Nat) (bad : Nat → Prop) : Prop where
  own : OwnS b H kO al s r
  far : ∀ i, i < s → ¬ bad (r i)
  sle : s ≤ al.length
theorem RowG.set {b : Nat} {H H' : AHeap} {kO k s : Nat} {al : List (List Int)} {r : Nat → Nat} {bad : Nat → Prop} {o : AObj} (p : RowG b H kO al s r bad) (hs : H.set k o = H') (hk : k ≠ kO) (hb : bad k) : RowG b H' kO al s r bad := by
  subst hs
  refine ⟨⟨by rw [List.getElem?_set_ne hk]; exact p.own.out, p.own.low, fun i hi => ?_, p.own.inj⟩, p.far, p.sle⟩
  obtain ⟨h1, h2, h3⟩ := p.own.row i hi
  exact ⟨h1, h2, by rw [List.getElem?_set_ne fun e => p.far i hi (by rw [← e]; exact hb)]; exact h3⟩
theorem RowG.push {b : Nat} {H g : AHeap} {kO s : Nat} {al : List (List Int)} {r : Nat → Nat} {bad : Nat → Prop} (p : RowG b H kO al s r bad) : RowG b (H ++ g) kO al s r bad := ⟨owns_push p.own, p.far, p.sle⟩
theorem RowG.lt {b : Nat} {H : AHeap} {kO s : Nat} {al : List (List Int)} {r : Nat → Nat} {bad : Nat → Prop} (p : RowG b H kO al s r bad) {i : Nat} (hi : i < s) : r i < H.length := (List.getElem?_eq_some_iff.1 (p.own.row i hi).2.2).1
theorem RowG.bad {b : Nat} {H : AHeap} {kO s : Nat} {al : List (List Int)} {r : Nat → Nat} {bad bad' : Nat → Prop} (p : RowG b H kO al s r bad) (h : ∀ j, j < H.length → ¬ bad j → ¬ bad' j) : RowG b H kO al s r bad' := ⟨p.own, fun i hi => h _ (p.lt hi) (p.far i hi), p.sle⟩
theorem RowG.add {b : Nat} {H H' : AHeap} {kO kR s : Nat} {al : List (List Int)} {r : Nat → Nat} {bad : Nat → Prop} {ss : List Int} {t : AObj} (p : RowG b H kO al s r bad) (hs : s < al.length) (hrow : rowAt al s = ss) (hb : b ≤ H.length) (hbad : ¬ bad kR) (hk : kR = H.length)
    (hH : (H ++ [lst ss] ++ [t]).set kO (vls (rvals r al s ++ [sl kR ss.length])) = H') : RowG b H' kO al (s + 1) (fun i => if i = s then kR else r i) bad := by
  subst hrow
  have := owns_step (t := t) p.own hb hk
  rw [hH] at this
  refine ⟨this, fun i hi => ?_, by omega⟩
  by_cases e : i = s
  · subst e; simp only [if_true]; exact hbad
  · simp only [if_neg e]; exact p.far i (by omega)
/-! ## Rings -/
/-! ## What is given -/
structure GivesOk (xss : List (List Int)) : Prop where
  n1 : 1 ≤ xss.length
  n8 : xss.length ≤ 8
  row : ∀ i, (rowAt xss i).length ≤ 8
  bnd : ∀ i, ∀ x ∈ rowAt xss i, 0 ≤ x ∧ x < (xss.length : Int)
section
variable {P : Program} {K : Value → AHeap → Prop} {env : Env} {h : AHeap} {dst : Option Tmp} {ty : TypeId} {pos : String} {after : Array Edge} {guard : Option (Nat × Bool)}
end
end Go.Am

namespace Go.Am
set_option linter.unusedSimpArgs false
set_option linter.unusedVariables false

/-! ## Two lists -/
/-! ## All orders, and the best of them -/
def wV (xs : List Int) (n i t : Int) : Int := xs.getD (i * n + t).toNat 0
def sumW6 (xs : List Int) (n : Int) (l : List Int) : Nat → Int
  | 0 => 0
  | s + 1 => sumW6 xs n l s + wV xs n s (l.getD s 0)
theorem wV_bnd {xs : List Int} (hb : xs.all (fun x => decide (0 ≤ x ∧ x ≤ 1000)) = true) {n i t : Int} : 0 ≤ wV xs n i t ∧ wV xs n i t ≤ 1000 := by
  unfold wV
  by_cases h : (i * n + t).toNat < xs.length
  · rw [getD_at h]
    exact of_decide_eq_true (List.all_eq_true.1 hb _ (List.getElem_mem _))
  · rw [List.getD_eq_getElem?_getD, List.getElem?_eq_none (by omega)]
    exact ⟨Int.le_refl _, by decide⟩
theorem sumW6_app {xs : List Int} {n : Int} {l m : List Int} : ∀ s : Nat, s ≤ l.length → sumW6 xs n (l ++ m) s = sumW6 xs n l s
  | 0, _ => rfl
  | s + 1, h => by
    rw [sumW6, sumW6, sumW6_app s (by omega), List.getD_eq_getElem?_getD, List.getElem?_append_left (by omega), ← List.getD_eq_getElem?_getD]
def permR (n : Nat) : Nat → List Int → List (List Int)
  | 0, t => [t]
  | d + 1, t => (List.range n).flatMap fun (k : Nat) => if t.contains (k : Int) then [] else permR n d (t ++ [(k : Int)])
abbrev BSt := Option (List Int) × Int
def stepB (f : List Int → Int) (st : BSt) (l : List Int) : BSt := match st.1 with
  | none => (some l, f l)
  | some _ => if st.2 < f l then (some l, f l) else st
def runB (f : List Int → Int) (st : BSt) (ls : List (List Int)) : BSt := ls.foldl (stepB f) st
theorem runB_app {f : List Int → Int} {st : BSt} {a b : List (List Int)} : runB f st (a ++ b) = runB f (runB f st a) b := List.foldl_append
theorem stepB_none {f : List Int → Int} {m : Int} {l : List Int} : stepB f (none, m) l = (some l, f l) := rfl
theorem stepB_yes {f : List Int → Int} {c l : List Int} {m : Int} (h : m < f l) : stepB f (some c, m) l = (some l, f l) := if_pos h
theorem stepB_no {f : List Int → Int} {c l : List Int} {m : Int} (h : ¬ m < f l) : stepB f (some c, m) l = (some c, m) := if_neg h
theorem stepB_two {f : List Int → Int} {st : BSt} {a b : List Int} : stepB f (stepB f st a) b = stepB f st (if f a < f b then b else a) := by
  obtain ⟨o, m⟩ := st
  cases o with
  | none =>
    rw [stepB_none, stepB_none]
    by_cases h2 : f a < f b
    · rw [stepB_yes h2, if_pos h2]
    · rw [stepB_no h2, if_neg h2]
  | some c =>
    by_cases h1 : m < f a
    · rw [stepB_yes h1]
      by_cases h2 : f a < f b
      · rw [stepB_yes h2, if_pos h2, stepB_yes (show m < f b by omega)]
      · rw [stepB_no h2, if_neg h2, stepB_yes h1]
    · rw [stepB_no h1]
      by_cases h2 : f a < f b
      · rw [if_pos h2]
      · rw [if_neg h2, stepB_no h1, stepB_no (show ¬ m < f b by omega)]
/-- The rooms with the greatest sum, by trying all for the next player. -/
def stepR (xs : List Int) (n : Nat) (g : List Int → List Int × Int) (t : List Int) (st : List Int × Int) (k : Nat) : List Int × Int :=
  if t.contains (k : Int) then st else if st.2 < (g (t ++ [(k : Int)])).2 + wV xs n t.length k then ((k : Int) :: (g (t ++ [(k : Int)])).1, (g (t ++ [(k : Int)])).2 + wV xs n t.length k) else st
def roomsR (xs : List Int) (n : Nat) : Nat → List Int → List Int × Int
  | 0, _ => ([], 0)
  | d + 1, t => (List.range n).foldl (stepR xs n (roomsR xs n d) t) ([], -1)
def roomsK (xs : List Int) (n d : Nat) (t : List Int) (k : Nat) : List Int × Int := (List.range k).foldl (stepR xs n (roomsR xs n d) t) ([], -1)
theorem roomsK_step {xs : List Int} {n d k : Nat} {t : List Int} : roomsK xs n d t (k + 1) = stepR xs n (roomsR xs n d) t (roomsK xs n d t k) k := by
  unfold roomsK
  rw [List.range_succ, List.foldl_append]; rfl
theorem roomsK_has {xs : List Int} {n d k : Nat} {t : List Int} (h : t.contains (k : Int) = true) : roomsK xs n d t (k + 1) = roomsK xs n d t k := by rw [roomsK_step, stepR, if_pos h]
theorem roomsK_new {xs : List Int} {n d k : Nat} {t : List Int} (h : t.contains (k : Int) = false) (c : (roomsK xs n d t k).2 < (roomsR xs n d (t ++ [(k : Int)])).2 + wV xs n t.length k) :
    roomsK xs n d t (k + 1) = ((k : Int) :: (roomsR xs n d (t ++ [(k : Int)])).1, (roomsR xs n d (t ++ [(k : Int)])).2 + wV xs n t.length k) := by rw [roomsK_step, stepR, if_neg (by rw [h]; decide), if_pos c]
theorem roomsK_old {xs : List Int} {n d k : Nat} {t : List Int} (h : t.contains (k : Int) = false) (c : ¬ (roomsK xs n d t k).2 < (roomsR xs n d (t ++ [(k : Int)])).2 + wV xs n t.length k) :
    roomsK xs n d t (k + 1) = roomsK xs n d t k := by rw [roomsK_step, stepR, if_neg (by rw [h]; decide), if_neg c]
theorem all_there : ∀ (n : Nat) (t : List Int), (∀ k, k < n → (k : Int) ∈ t) → n ≤ t.length
  | 0, _, _ => Nat.zero_le _
  | n + 1, t, h => by
    have h1 := h n (by omega)
    have h2 := all_there n (t.erase (n : Int)) fun k hk => (List.mem_erase_of_ne (by omega)).2 (h k (by omega))
    have h3 := List.length_pos_of_mem h1
    rw [List.length_erase_of_mem h1] at h2
    omega
theorem exists_free {n : Nat} {t : List Int} (ht : t.length < n) : ∃ k, k < n ∧ t.contains (k : Int) = false := by
  refine Classical.byContradiction fun hno => ?_
  have hall : ∀ k, k < n → (k : Int) ∈ t := fun k hk => by
    refine Classical.byContradiction fun hm => hno ⟨k, hk, ?_⟩
    rw [← Bool.not_eq_true, List.contains_iff_mem]
    exact hm
  exact absurd (all_there n t hall) (by omega)
def BestQ (xs : List Int) (n d : Nat) (t : List Int) (ls : List (List Int)) (q : List Int × Int) : Prop :=
  (∀ st, runB (fun l => sumW6 xs n l n) st ls = stepB (fun l => sumW6 xs n l n) st (t ++ q.1)) ∧ sumW6 xs n (t ++ q.1) n = sumW6 xs n t t.length + q.2 ∧ 0 ≤ q.2 ∧ q.1.length = d
theorem best_rooms {xs : List Int} (hb : xs.all (fun x => decide (0 ≤ x ∧ x ≤ 1000)) = true) {n : Nat} : ∀ (d : Nat) (t : List Int), t.length + d = n → BestQ xs n d t (permR n d t) (roomsR xs n d t)
  | 0, t, ht => by
    have e : t.length = n := by omega
    refine ⟨fun st => ?_, ?_, Int.le_refl _, rfl⟩
    · rw [show permR n 0 t = [t] from rfl, show (roomsR xs n 0 t).1 = [] from rfl, List.append_nil]; rfl
    · show sumW6 xs n (t ++ []) n = sumW6 xs n t t.length + 0
      rw [List.append_nil, e]; omega
  | d + 1, t, ht => by
    have hpre : ∀ k, k ≤ n → ((∀ j, j < k → t.contains (j : Int) = true) ∧ roomsK xs n d t k = ([], -1) ∧ ((List.range k).flatMap fun (k : Nat) => if t.contains (k : Int) then [] else permR n d (t ++ [(k : Int)])) = []) ∨
        BestQ xs n (d + 1) t ((List.range k).flatMap fun (k : Nat) => if t.contains (k : Int) then [] else permR n d (t ++ [(k : Int)])) (roomsK xs n d t k) := by
      intro k
      induction k with
      | zero => intro _; exact .inl ⟨fun j hj => absurd hj (by omega), rfl, rfl⟩
      | succ k ih =>
        intro hk
        have hfl : ((List.range (k + 1)).flatMap fun (k : Nat) => if t.contains (k : Int) then [] else permR n d (t ++ [(k : Int)])) = ((List.range k).flatMap fun (k : Nat) => if t.contains (k : Int) then [] else permR n d (t ++ [(k : Int)])) ++ (if t.contains (k : Int) then [] else permR n d (t ++ [(k : Int)])) := by
          rw [List.range_succ, List.flatMap_append, List.flatMap_cons, List.flatMap_nil, List.append_nil]
        rw [hfl]
        cases hc : t.contains (k : Int) with
        | true =>
          rw [roomsK_has hc, if_pos rfl, List.append_nil]
          rcases ih (by omega) with ⟨h1, h2, h3⟩ | h1
          · refine .inl ⟨fun j hj => ?_, h2, h3⟩
            by_cases e : j = k
            · subst e; exact hc
            · exact h1 j (by omega)
          · exact .inr h1
        | false =>
          rw [if_neg (by decide)]
          obtain ⟨q1, q2, q3, q4⟩ := best_rooms hb (n := n) d (t ++ [(k : Int)]) (by simp; omega)
          have e1 : (t ++ [(k : Int)]).length = t.length + 1 := by simp
          have e2 : sumW6 xs n (t ++ [(k : Int)]) (t ++ [(k : Int)]).length = sumW6 xs n t t.length + wV xs n t.length k := by
            rw [e1, sumW6, sumW6_app t.length (Nat.le_refl _), List.getD_eq_getElem?_getD, List.getElem?_append_right (Nat.le_refl _), Nat.sub_self]; rfl
          have hw := wV_bnd hb (n := n) (i := t.length) (t := k)
          have e3 : t ++ [(k : Int)] ++ (roomsR xs n d (t ++ [(k : Int)])).1 = t ++ ((k : Int) :: (roomsR xs n d (t ++ [(k : Int)])).1) := by simp
          rw [e2, e3] at q2
          rw [e3] at q1
          rcases ih (by omega) with ⟨h1, h2, h3⟩ | ⟨h1, h2, h3, h4⟩
          · rw [roomsK_new hc (by rw [h2]; show (-1 : Int) < _; omega), h3, List.nil_append]
            exact .inr ⟨q1, by rw [q2]; show _ = _ + ((roomsR xs n d (t ++ [(k : Int)])).2 + wV xs n t.length k); omega, by show 0 ≤ (roomsR xs n d (t ++ [(k : Int)])).2 + wV xs n t.length k; omega, by simp [q4]⟩
          · by_cases c : (roomsK xs n d t k).2 < (roomsR xs n d (t ++ [(k : Int)])).2 + wV xs n t.length k
            · rw [roomsK_new hc c]
              refine .inr ⟨fun st => ?_, by rw [q2]; show _ = _ + ((roomsR xs n d (t ++ [(k : Int)])).2 + wV xs n t.length k); omega, by show 0 ≤ (roomsR xs n d (t ++ [(k : Int)])).2 + wV xs n t.length k; omega, by simp [q4]⟩
              rw [runB_app, h1, q1, stepB_two, if_pos (by rw [h2, q2]; omega)]
            · rw [roomsK_old hc c]
              refine .inr ⟨fun st => ?_, h2, h3, h4⟩
              rw [runB_app, h1, q1, stepB_two, if_neg (by rw [h2, q2]; omega)]
    rcases hpre n (Nat.le_refl _) with ⟨h1, _, _⟩ | h1
    · obtain ⟨k, hk, hf⟩ := exists_free (n := n) (t := t) (by omega)
      rw [h1 k hk] at hf; cases hf
    · exact h1
end Go.Am

namespace Go.Am
set_option linter.unusedSimpArgs false
set_option linter.unusedVariables false
def fP (xs : List Int) (n : Nat) (l : List Int) : Int := sumW6 xs n l n
def rmL (xs : List Int) (n : Nat) : List Int := (roomsR xs n n []).1
def BestV (H : AHeap) (lo n : Nat) (bv : Value) (bo : Option (List Int)) : Prop :=
  (bo = none ∧ bv = .slice none 0 0) ∨ ∃ k bl, bo = some bl ∧ bv = sl k n ∧ lo ≤ k ∧ H[k]? = some (lst bl) ∧ bl.length = n
theorem BestV.push {H g : AHeap} {lo n : Nat} {bv : Value} {bo : Option (List Int)} (h : BestV H lo n bv bo) : BestV (H ++ g) lo n bv bo := by
  rcases h with h | ⟨k, bl, h1, h2, h3, h4, h5⟩
  · exact .inl h
  · exact .inr ⟨k, bl, h1, h2, h3, lk_prev h4, h5⟩
theorem BestV.far {X Y g : AHeap} {lo n : Nat} {bv : Value} {bo : Option (List Int)} (h : BestV (X ++ g) lo n bv bo) (e : X.length = Y.length) (hlo : X.length ≤ lo) : BestV (Y ++ g) lo n bv bo := by
  rcases h with h | ⟨k, bl, h1, h2, h3, h4, h5⟩
  · exact .inl h
  · exact .inr ⟨k, bl, h1, h2, h3, by rw [← lk_far e (by omega)]; exact h4, h5⟩
theorem best_end {xs : List Int} (hb : xs.all (fun x => decide (0 ≤ x ∧ x ≤ 1000)) = true) {n : Nat} : runB (fP xs n) (none, 0) (permR n (n - 0) []) = (some (rmL xs n), fP xs n (rmL xs n)) := by
  obtain ⟨h1, _⟩ := best_rooms hb (n := n) n [] (by simp)
  exact (h1 (none, 0)).trans rfl
theorem rooms_range {xs : List Int} {n : Nat} : ∀ (d : Nat) (t : List Int), ∀ y ∈ (roomsR xs n d t).1, 0 ≤ y ∧ y < (n : Int)
  | 0, _, y, hy => by cases hy
  | d + 1, t, y, hy => by
    have key : ∀ k, k ≤ n → ∀ y ∈ (roomsK xs n d t k).1, 0 ≤ y ∧ y < (n : Int) := by
      intro k
      induction k with
      | zero => intro _ y hy; cases hy
      | succ k ih =>
        intro hk y hy
        rw [roomsK_step, stepR] at hy
        split at hy
        · exact ih (by omega) y hy
        · split at hy
          · rcases List.mem_cons.1 hy with rfl | hy
            · omega
            · exact rooms_range d _ y hy
          · exact ih (by omega) y hy
    exact key n (Nat.le_refl _) y hy
theorem rooms_len {xs : List Int} (hb : xs.all (fun x => decide (0 ≤ x ∧ x ≤ 1000)) = true) {n d : Nat} {t : List Int} (h : t.length + d = n) : (roomsR xs n d t).1.length = d := (best_rooms hb d t h).2.2.2
theorem rmL_len {xs : List Int} (hb : xs.all (fun x => decide (0 ≤ x ∧ x ≤ 1000)) = true) {n : Nat} : (rmL xs n).length = n := rooms_len hb (by simp)
theorem rmL_bnd {xs : List Int} {n : Nat} : ∀ y ∈ rmL xs n, 0 ≤ y ∧ y < (n : Int) := rooms_range n []
theorem roomsR_end {xs : List Int} {n d : Nat} {t : List Int} : roomsR xs n (d + 1) t = roomsK xs n d t n := rfl

/-! ## Rents -/
structure RentOk (xs : List Int) (n : Nat) : Prop where
  n1 : 1 ≤ n
  n6 : n ≤ 6
  len : (xs.length : Int) = (n : Int) * (n : Int)
  bnd : xs.all (fun x => decide (0 ≤ x ∧ x ≤ 1000)) = true
end Go.Am

namespace Go.Am
set_option linter.unusedSimpArgs false
set_option linter.unusedVariables false
section
variable {P : Program} {K : Value → AHeap → Prop} {env : Env} {h : AHeap} {dst : Option Tmp} {ty : TypeId} {pos : String} {after : Array Edge} {guard : Option (Nat × Bool)}
end
end Go.Am

namespace Go.Am
set_option linter.unusedSimpArgs false
set_option linter.unusedVariables false
abbrev by8 (n : Int) : Value := .int .u8 n
def Byts (h : AHeap) (v : Value) (xs : List Int) : Prop :=
  (v = .slice none 0 0 ∧ xs = []) ∨
  ∃ k off ver cap o, v = .slice (some ⟨k, off, some ver⟩) xs.length cap ∧ h[k]? = some o ∧ o.cells.length = ver ∧ o.esz = 1 ∧ xs.length ≤ cap ∧ off + cap = ver ∧
    ∀ (i : Nat) (z : Int), xs[i]? = some z → o.cells[off + i]? = some (by8 z)
theorem Byts.app {h : AHeap} {v : Value} {xs : List Int} (hv : Byts h v xs) (g : List AObj) : Byts (h ++ g) v xs := by
  rcases hv with hv | ⟨k, off, ver, cap, o, h1, h2, h3, h4, h5, h6, h7⟩
  · exact .inl hv
  · exact .inr ⟨k, off, ver, cap, o, h1, by rw [List.getElem?_append_left (List.getElem?_eq_some_iff.1 h2).1]; exact h2, h3, h4, h5, h6, h7⟩
theorem Byts.within {h : AHeap} {v : Value} {xs : List Int} (hv : Byts h v xs) : Within h.length v := by
  rcases hv with ⟨rfl, _⟩ | ⟨k, off, ver, cap, o, rfl, h2, _⟩
  · exact .prim rfl
  · exact .slice (List.getElem?_eq_some_iff.1 h2).1
section
variable {P : Program} {K : Value → AHeap → Prop} {env : Env} {h : AHeap} {dst : Option Tmp} {ty : TypeId} {pos : String} {after : Array Edge} {guard : Option (Nat × Bool)}
end
section
variable {P : Program} {ops : Array Oper} {KE : Env → AHeap → Prop} {os : List Oper} {env : Env} {h : AHeap} {d : Option Tmp} {op : Op} {ty : TypeId} {pos : String} {af : Array Edge} {g : Option (Nat × Bool)}
end
def BB (bs : List Int) : Prop := ∀ b ∈ bs, 0 ≤ b ∧ b < 256
theorem BB.at {bs : List Int} (h : BB bs) (i : Nat) : 0 ≤ bs.getD i 0 ∧ bs.getD i 0 < 256 := by
  by_cases c : i < bs.length
  · rw [getD_at c]; exact h _ (List.getElem_mem _)
  · rw [List.getD_eq_getElem?_getD, List.getElem?_eq_none (by omega)]
    exact ⟨Int.le_refl _, by decide⟩
section
variable {P : Program} {K : Value → AHeap → Prop} {env : Env} {h : AHeap} {dst : Option Tmp} {ty : TypeId} {pos : String} {after : Array Edge} {guard : Option (Nat × Bool)}
end
def smallB (x : Int) : Bool := decide (-36 ≤ x ∧ x ≤ 36)
theorem awp_cut {P : Program} {n : Nat} {c : Code} {Q : Exit → Env → AHeap → Prop} {env : Env} {h : AHeap} (l : List (Tmp × Value)) (hs : Slots env l) (hK : ∀ env1, Slots env1 l → AWp P n c Q env1 h) : AWp P n c Q env h := hK env hs
end Go.Am

namespace Go.Am
set_option linter.unusedSimpArgs false
set_option linter.unusedVariables false
/-! ## Rows as functions -/
def fS (i : Nat) (f : Nat → Int) (s : Nat) : Int := if s.testBit i then f s - f (s - 2 ^ i) else f s
def fA (i : Nat) (f : Nat → Int) (s : Nat) : Int := if s.testBit i then f s + f (s - 2 ^ i) else f s
def allS (f : Nat → Int) : Nat → Nat → Int
  | 0 => f
  | k + 1 => fS k (allS f k)
def allA (f : Nat → Int) : Nat → Nat → Int
  | 0 => f
  | k + 1 => fA k (allA f k)
theorem bitf1 : ∀ s < 64, ∀ i < 6, s.testBit i = true → (s - 2 ^ i).testBit i = false := by decide +kernel
theorem bitf2b : ∀ s < 64, ∀ i < 6, ∀ j < 6, (!(s.testBit i) || decide (j = i) || ((s - 2 ^ i).testBit j == s.testBit j)) = true := by decide +kernel
theorem bitf2 (s : Nat) (hs : s < 64) (i : Nat) (hi : i < 6) (j : Nat) (hj : j < 6) (h : s.testBit i = true) (hne : j ≠ i) : (s - 2 ^ i).testBit j = s.testBit j := by
  have := bitf2b s hs i hi j hj
  rw [h, decide_eq_false hne] at this
  simpa using this
theorem bitf (s : Nat) (hs : s < 64) (i : Nat) (hi : i < 6) (h : s.testBit i = true) : (s - 2 ^ i).testBit i = false ∧ ∀ j < 6, j ≠ i → (s - 2 ^ i).testBit j = s.testBit j := ⟨bitf1 s hs i hi h, fun j hj hne => bitf2 s hs i hi j hj h hne⟩
theorem sub64 {s i : Nat} (hs : s < 64) : s - 2 ^ i < 64 := Nat.lt_of_le_of_lt (Nat.sub_le _ _) hs
theorem fS_yes {i s : Nat} {f : Nat → Int} (h : s.testBit i = true) : fS i f s = f s - f (s - 2 ^ i) := if_pos h
theorem fS_no {i s : Nat} {f : Nat → Int} (h : s.testBit i = false) : fS i f s = f s := if_neg (by rw [h]; decide)
theorem fA_yes {i s : Nat} {f : Nat → Int} (h : s.testBit i = true) : fA i f s = f s + f (s - 2 ^ i) := if_pos h
theorem fA_no {i s : Nat} {f : Nat → Int} (h : s.testBit i = false) : fA i f s = f s := if_neg (by rw [h]; decide)
theorem fA_congr {i s : Nat} {f g : Nat → Int} (hs : s < 64) (h : ∀ t, t < 64 → f t = g t) : fA i f s = fA i g s := by
  unfold fA
  rw [h s hs, h (s - 2 ^ i) (sub64 hs)]
theorem fAS_self {i s : Nat} {f : Nat → Int} (hs : s < 64) (hi : i < 6) : fA i (fS i f) s = f s := by
  cases h : s.testBit i with
  | true =>
    rw [fA_yes h, fS_yes h, fS_no (bitf s hs i hi h).1]; omega
  | false => rw [fA_no h, fS_no h]
theorem fAS_comm {i j s : Nat} {f : Nat → Int} (hs : s < 64) (hi : i < 6) (hj : j < 6) (hne : i ≠ j) : fA i (fS j f) s = fS j (fA i f) s := by
  cases h1 : s.testBit i with
  | false =>
    rw [fA_no h1]
    cases h2 : s.testBit j with
    | false => rw [fS_no h2, fS_no h2, fA_no h1]
    | true =>
      rw [fS_yes h2, fS_yes h2, fA_no h1, fA_no (((bitf s hs j hj h2).2 i hi hne).trans h1)]
  | true =>
    have h3 := (bitf s hs i hi h1).2 j hj (Ne.symm hne)
    rw [fA_yes h1]
    cases h2 : s.testBit j with
    | false => rw [fS_no h2, fS_no h2, fS_no (h3.trans h2), fA_yes h1]
    | true =>
      have h4 := (bitf s hs j hj h2).2 i hi hne
      rw [fS_yes h2, fS_yes h2, fS_yes (h3.trans h2), fA_yes h1, fA_yes (h4.trans h1), show s - 2 ^ i - 2 ^ j = s - 2 ^ j - 2 ^ i by omega]
      omega
theorem allA_comm {j : Nat} {f : Nat → Int} (hj : j < 6) : ∀ (k : Nat), k ≤ j → ∀ s, s < 64 → allA (fS j f) k s = fS j (allA f k) s
  | 0, _, _, _ => rfl
  | k + 1, hk, s, hs => by
    rw [allA, fA_congr hs fun t ht => allA_comm hj k (by omega) t ht, fAS_comm hs (by omega) hj (by omega)]; rfl
theorem allAS {f : Nat → Int} : ∀ (k : Nat), k ≤ 6 → ∀ s, s < 64 → allA (allS f k) k s = f s
  | 0, _, _, _ => rfl
  | k + 1, hk, s, hs => by
    rw [allA, fA_congr hs fun t ht => (show allA (allS f (k + 1)) k t = fS k (allA (allS f k) k) t from allA_comm (by omega) k (Nat.le_refl _) t ht), fAS_self hs (by omega)]
    exact allAS k (by omega) s hs
/-! ## Sums over subsets -/
def subL : Nat → Nat → List Nat
  | 0, s => [s]
  | k + 1, s => if s.testBit k then subL k (s - 2 ^ k) ++ subL k s else subL k s
def sumQ (f : Nat → Int) (l : List Nat) : Int := l.foldl (fun a t => a + f t) 0
theorem foldl_from {f : Nat → Int} : ∀ (l : List Nat) (a : Int), l.foldl (fun a t => a + f t) a = a + sumQ f l
  | [], a => by simp [sumQ]
  | x :: l, a => by
    rw [sumQ, List.foldl_cons, List.foldl_cons, foldl_from l, foldl_from l]; omega
theorem sumQ_app {f : Nat → Int} {a b : List Nat} : sumQ f (a ++ b) = sumQ f a + sumQ f b := by
  rw [sumQ, List.foldl_append, foldl_from]; rfl
theorem allA_sum {f : Nat → Int} : ∀ (k s : Nat), allA f k s = sumQ f (subL k s)
  | 0, s => by simp [allA, subL, sumQ]
  | k + 1, s => by
    rw [allA, subL]
    cases h : s.testBit k with
    | true => rw [fA_yes h, if_pos rfl, sumQ_app, allA_sum k s, allA_sum k (s - 2 ^ k)]; omega
    | false => rw [fA_no h, if_neg (by decide), allA_sum k s]
def subs (n s : Nat) : List Nat := (List.range n).filter fun t => decide (t &&& s = t)
theorem subL_all : ∀ k < 7, ∀ s < 2 ^ k, subL k s = subs (2 ^ k) s := by decide +kernel
def totS (f : Nat → Int) (s : Nat) : Nat → Int
  | 0 => 0
  | t + 1 => if t &&& s = t then totS f s t + f t else totS f s t
theorem totS_sum {f : Nat → Int} {s : Nat} : ∀ n, totS f s n = sumQ f (subs n s)
  | 0 => rfl
  | n + 1 => by
    rw [totS, subs, List.range_succ, List.filter_append, sumQ_app]
    by_cases c : n &&& s = n
    · rw [if_pos c, totS_sum n]
      simp [subs, sumQ, c]
    · rw [if_neg c, totS_sum n]
      simp [subs, sumQ, c]
theorem tot_back {f : Nat → Int} {k s : Nat} (hk : k ≤ 6) (hs : s < 2 ^ k) : totS (allS f k) s (2 ^ k) = f s := by
  have h64 : 2 ^ k ≤ 2 ^ 6 := Nat.pow_le_pow_right (by decide) hk
  rw [totS_sum, ← subL_all k (by omega) s hs, ← allA_sum, allAS k hk s (by omega)]
/-! ## Bounds -/
theorem allS_bnd {f : Nat → Int} {m : Int} (hf : ∀ t, t < 64 → -m ≤ f t ∧ f t ≤ m) : ∀ (k s : Nat), s < 64 → -(m * 2 ^ k) ≤ allS f k s ∧ allS f k s ≤ m * 2 ^ k
  | 0, s, hs => by have := hf s hs; simp only [allS, Int.pow_zero, Int.mul_one]; exact this
  | k + 1, s, hs => by
    have h1 := allS_bnd hf k s hs
    have h2 := allS_bnd hf k (s - 2 ^ k) (sub64 hs)
    have e : m * 2 ^ (k + 1) = m * 2 ^ k * 2 := by rw [Int.pow_succ, Int.mul_assoc]
    rw [e, allS]
    unfold fS
    split <;> omega
theorem allA_bnd {f : Nat → Int} {m : Int} (hf : ∀ t, t < 64 → -m ≤ f t ∧ f t ≤ m) : ∀ (k s : Nat), s < 64 → -(m * 2 ^ k) ≤ allA f k s ∧ allA f k s ≤ m * 2 ^ k
  | 0, s, hs => by have := hf s hs; simp only [allA, Int.pow_zero, Int.mul_one]; exact this
  | k + 1, s, hs => by
    have h1 := allA_bnd hf k s hs
    have h2 := allA_bnd hf k (s - 2 ^ k) (sub64 hs)
    have e : m * 2 ^ (k + 1) = m * 2 ^ k * 2 := by rw [Int.pow_succ, Int.mul_assoc]
    rw [e, allA]
    unfold fA
    split <;> omega
theorem allA_le {f g : Nat → Int} : ∀ (k s : Nat), (∀ t, t ≤ s → f t = g t) → allA f k s = allA g k s
  | 0, s, h => h s (Nat.le_refl _)
  | k + 1, s, h => by
    rw [allA, allA]
    unfold fA
    rw [allA_le k s h, allA_le k (s - 2 ^ k) fun t ht => h t (Nat.le_trans ht (Nat.sub_le _ _))]
/-! ## Rows as lists -/
theorem rowW_at {f : Int → Int → Int} {i : Nat} {l : List Int} (hl : l.length ≤ 64) (hi : i < 6) : ∀ s, s ≤ l.length → ∀ t, t < l.length →
    (rowW f i l s).getD t 0 = if t < s ∧ t.testBit i = true then f (l.getD t 0) (l.getD (t - 2 ^ i) 0) else l.getD t 0
  | 0, _, t, _ => by rw [rowW, if_neg (by omega)]
  | s + 1, hs, t, ht => by
    have ih := rowW_at (f := f) hl hi s (by omega)
    rw [rowW]
    cases h : s.testBit i with
    | true =>
      rw [if_pos rfl]
      have hge := (sub_bit s (by omega) i hi h).1
      have hp := Nat.two_pow_pos i
      by_cases e : t = s
      · subst e
        rw [if_pos ⟨by omega, h⟩, getD_set_at (by rw [rowW_len]; omega), ih t ht, if_neg (by omega), ih (t - 2 ^ i) (by omega), if_neg (by rw [(bitf t (by omega) i hi h).1]; simp)]
      · rw [getD_set (by rw [rowW_len]; omega), if_neg (fun e2 => e e2.symm), ih t ht]
        by_cases c : t < s ∧ t.testBit i = true
        · rw [if_pos c, if_pos ⟨by omega, c.2⟩]
        · rw [if_neg c, if_neg (by rintro ⟨h1, h2⟩; exact c ⟨by omega, h2⟩)]
    | false =>
      rw [if_neg (by decide), ih t ht]
      by_cases c : t < s ∧ t.testBit i = true
      · rw [if_pos c, if_pos ⟨by omega, c.2⟩]
      · rw [if_neg c, if_neg]
        rintro ⟨h1, h2⟩
        by_cases e : t = s
        · subst e; rw [h] at h2; cases h2
        · exact c ⟨by omega, h2⟩
theorem pow6 {k : Nat} (h : k ≤ 6) : (2 : Int) ^ k ≤ 64 ∧ 0 < (2 : Int) ^ k := by
  have h1 : 2 ^ k ≤ 2 ^ 6 := Nat.pow_le_pow_right (by decide) h
  have h2 := Nat.two_pow_pos k
  have e : ((2 ^ k : Nat) : Int) = 2 ^ k := by simp
  omega
theorem mul_pow_bnd {m : Int} {k : Nat} (hm : 0 ≤ m ∧ m ≤ 100000000) (hk : k ≤ 6) : 0 ≤ m * 2 ^ k ∧ m * 2 ^ k ≤ 6400000000 := by
  obtain ⟨h1, h2⟩ := pow6 hk
  have h3 : m * 2 ^ k ≤ 100000000 * 64 := Int.mul_le_mul hm.2 h1 (by omega) (by omega)
  exact ⟨Int.mul_nonneg hm.1 (by omega), by omega⟩
theorem allW_sub {xs : List Int} {m : Int} (hl : xs.length ≤ 64) (hm : 0 ≤ m ∧ m ≤ 100000000) (hb : ∀ t, t < 64 → -m ≤ atF xs t ∧ atF xs t ≤ m) : ∀ k, k ≤ 6 → ∀ t, t < xs.length → (allW subW xs k).getD t 0 = allS (atF xs) k t
  | 0, _, _, _ => rfl
  | k + 1, hk, t, ht => by
    have ih := allW_sub hl hm hb k (by omega)
    have hlen := allW_len (f := subW) (l := xs) k
    rw [allW, rowW_at (by omega) (by omega) xs.length (by omega) t (by omega), allS]
    cases h : t.testBit k with
    | true =>
      have hsl := Nat.sub_le t (2 ^ k)
      have b1 := allS_bnd hb k t (by omega)
      have b2 := allS_bnd hb k (t - 2 ^ k) (Nat.lt_of_le_of_lt hsl (by omega))
      have b3 := mul_pow_bnd hm (show k ≤ 6 by omega)
      rw [if_pos ⟨ht, rfl⟩, fS_yes h, ih t ht, ih (t - 2 ^ k) (Nat.lt_of_le_of_lt hsl ht), subW, wrap_id (by omega) (by omega)]
    | false => rw [if_neg (by simp), fS_no h, ih t ht]
theorem allW_add {xs : List Int} {m : Int} (hl : xs.length ≤ 64) (hm : 0 ≤ m ∧ m ≤ 100000000) (hb : ∀ t, t < 64 → -m ≤ atF xs t ∧ atF xs t ≤ m) : ∀ k, k ≤ 6 → ∀ t, t < xs.length → (allW addW xs k).getD t 0 = allA (atF xs) k t
  | 0, _, _, _ => rfl
  | k + 1, hk, t, ht => by
    have ih := allW_add hl hm hb k (by omega)
    have hlen := allW_len (f := addW) (l := xs) k
    rw [allW, rowW_at (by omega) (by omega) xs.length (by omega) t (by omega), allA]
    cases h : t.testBit k with
    | true =>
      have hsl := Nat.sub_le t (2 ^ k)
      have b1 := allA_bnd hb k t (by omega)
      have b2 := allA_bnd hb k (t - 2 ^ k) (Nat.lt_of_le_of_lt hsl (by omega))
      have b3 := mul_pow_bnd hm (show k ≤ 6 by omega)
      rw [if_pos ⟨ht, rfl⟩, fA_yes h, ih t ht, ih (t - 2 ^ k) (Nat.lt_of_le_of_lt hsl ht), addW, wrap_id (by omega) (by omega)]
    | false => rw [if_neg (by simp), fA_no h, ih t ht]
/-! ## Drawn worths -/
structure WOk (p : Int) (xs : List Int) : Prop where
  p6 : 1 ≤ p ∧ p ≤ 6
  len : xs.length = 2 ^ p.toNat
  zero : xs.getD 0 0 = 0
  small : xs.all smallB = true
theorem WOk.at {p : Int} {xs : List Int} (h : WOk p xs) (t : Nat) : -36 ≤ atF xs t ∧ atF xs t ≤ 36 := by
  unfold atF
  by_cases c : t < xs.length
  · rw [getD_at c]
    exact of_decide_eq_true (List.all_eq_true.1 h.small _ (List.getElem_mem _))
  · rw [List.getD_eq_getElem?_getD, List.getElem?_eq_none (by omega)]
    decide
theorem isW_any {m p : Int} {xs : List Int} (hp : 1 ≤ p ∧ p ≤ 6) (hl : xs.length = 2 ^ p.toNat) (h0 : xs.getD 0 0 = 0) (hb : ∀ t, t < xs.length → -m ≤ xs.getD t 0 ∧ xs.getD t 0 ≤ m) : isW m p xs = true := by
  obtain ⟨e, h2, h3⟩ := pow_nat hp
  refine (isW_yes (decide_eq_true hp) (by rw [hl]; exact e) h0 (List.all_eq_true.2 fun x hx => ?_)).symm
  obtain ⟨k, hk, rfl⟩ := List.getElem_of_mem hx
  have := hb k hk
  rw [getD_at hk] at this
  exact decide_eq_true this
theorem WOk.isW {p : Int} {xs : List Int} (h : WOk p xs) : isW 10000 p xs = true :=
  isW_any h.p6 h.len h.zero fun t _ => by have := h.at t; unfold atF at this; omega
theorem WOk.len64 {p : Int} {xs : List Int} (h : WOk p xs) : 2 ≤ xs.length ∧ xs.length ≤ 64 := by
  obtain ⟨e, h2, h3⟩ := pow_nat h.p6
  rw [h.len]; exact ⟨h2, h3⟩
theorem WOk.div_at {p : Int} {xs : List Int} (h : WOk p xs) {t : Nat} (ht : t < xs.length) : (allW subW xs p.toNat).getD t 0 = allS (atF xs) p.toNat t := by
  have := h.len64
  have hp := h.p6
  exact allW_sub (m := 36) (by omega) (by decide) (fun t _ => h.at t) p.toNat (by omega) t ht
theorem WOk.div_bnd {p : Int} {xs : List Int} (h : WOk p xs) (t : Nat) : -2304 ≤ (allW subW xs p.toNat).getD t 0 ∧ (allW subW xs p.toNat).getD t 0 ≤ 2304 := by
  have h1 := h.len64
  have hp := h.p6
  by_cases c : t < xs.length
  · rw [h.div_at c]
    have h2 := allS_bnd (m := 36) (fun t _ => h.at t) p.toNat t (by omega)
    have h3 := (pow6 (k := p.toNat) (by omega)).1
    omega
  · rw [List.getD_eq_getElem?_getD, List.getElem?_eq_none (by rw [allW_len]; omega)]
    decide
theorem ext_getD {a b : List Int} (hl : a.length = b.length) (h : ∀ t, t < a.length → a.getD t 0 = b.getD t 0) : a = b := by
  apply List.ext_getElem hl
  intro i h1 h2
  have := h i h1
  rwa [getD_at h1, getD_at h2] at this
theorem WOk.back {p : Int} {xs : List Int} (h : WOk p xs) : allW addW (allW subW xs p.toNat) p.toNat = xs := by
  have h1 := h.len64
  have hp := h.p6
  have hl : (allW subW xs p.toNat).length = xs.length := allW_len _
  refine ext_getD (by rw [allW_len, hl]) fun t ht => ?_
  rw [allW_len, hl] at ht
  rw [allW_add (m := 2304) (by omega) (by decide) (fun t _ => h.div_bnd t) p.toNat (by omega) t (by omega)]
  rw [allA_le (f := atF (allW subW xs p.toNat)) p.toNat t (g := allS (atF xs) p.toNat) fun u hu => h.div_at (by omega), allAS p.toNat (by omega) t (by omega)]; rfl
theorem totS_congr {f g : Nat → Int} {s : Nat} : ∀ n, (∀ t, t < n → f t = g t) → totS f s n = totS g s n
  | 0, _ => rfl
  | n + 1, h => by rw [totS, totS, totS_congr n fun t ht => h t (by omega), h n (by omega)]
theorem WOk.total {p : Int} {xs : List Int} (h : WOk p xs) {s : Nat} (hs : s < xs.length) : totS (atF (allW subW xs p.toNat)) s xs.length = xs.getD s 0 := by
  have hp := h.p6
  rw [totS_congr (f := atF (allW subW xs p.toNat)) xs.length (g := allS (atF xs) p.toNat) fun t ht => h.div_at ht]
  rw [h.len] at hs ⊢
  exact tot_back (by omega) hs
theorem mapR_at {f : Nat → Int} {p : Int} {s : Nat} (hs : s < 2 ^ p.toNat) : (mapR f p).getD s 0 = f s := by
  rw [getD_at (by rw [mapR_len]; exact hs)]
  simp
theorem oth_two {p : Int} {xs : List Int} (h : WOk p xs) {s : Nat} (hs : s < xs.length) : othF (mapR (othF xs) p) s = xs.getD s 0 := by
  have h1 := h.len64
  have hl := h.len
  rw [othF, mapR_len, mapR_at (by omega), mapR_at (by omega), othF, othF, hl]
  rw [show 2 ^ p.toNat - 1 - (2 ^ p.toNat - 1) = 0 by omega, show 2 ^ p.toNat - 1 - (2 ^ p.toNat - 1 - s) = s by omega, h.zero]
  omega
theorem WOk.twice {p : Int} {xs : List Int} (h : WOk p xs) : mapR (othF (mapR (othF xs) p)) p = xs := by
  refine ext_getD (by rw [mapR_len, h.len]) fun t ht => ?_
  rw [mapR_len] at ht
  rw [mapR_at ht, oth_two h (by rw [h.len]; exact ht)]
theorem WOk.out {p q : Int} {xs : List Int} (h : WOk p xs) (hp : 2 ≤ p) (hq : 0 ≤ q ∧ q < p) : (Am.isW 10000 p xs && decide (0 ≤ q ∧ q ≤ p - 1) && decide (2 ≤ p) && Am.isW 10000 (p - 1) (mapR (outF xs q) (p - 1))) = true := by
  have hp6 := h.p6
  rw [h.isW, decide_eq_true (show 0 ≤ q ∧ q ≤ p - 1 by omega), decide_eq_true hp, mapR_isW (by omega) (by
    have e : posO q.toNat 0 = 0 := by simp [posO, andn]
    unfold outF; rw [e]; exact h.zero) fun s => by have := h.at (posO q.toNat s); unfold atF at this; unfold outF; omega]; rfl
end Go.Am

namespace Go.Am
set_option linter.unusedSimpArgs false
set_option linter.unusedVariables false
/-! ## Orders of all rooms -/
structure PermN (n : Nat) (g : List Int) : Prop where
  len : g.length = n
  bnd : ∀ i, i < n → 0 ≤ g.getD i 0 ∧ g.getD i 0 < (n : Int)
  inj : ∀ i j, i < n → j < n → g.getD i 0 = g.getD j 0 → i = j
def tau (a b k : Nat) : Nat := if b = k then a else if a = k then b else k
def sw (g : List Int) (a b : Nat) : List Int := (g.set a (g.getD b 0)).set b (g.getD a 0)
theorem sw_at {g : List Int} {a b k : Nat} (ha : a < g.length) (hb : b < g.length) : (sw g a b).getD k 0 = g.getD (tau a b k) 0 := by
  unfold sw tau
  rw [getD_set (by rw [List.length_set]; exact hb), getD_set ha]
  by_cases h1 : b = k
  · rw [if_pos h1, if_pos h1]
  · rw [if_neg h1, if_neg h1]
    by_cases h2 : a = k
    · rw [if_pos h2, if_pos h2]
    · rw [if_neg h2, if_neg h2]
theorem tau_lt {a b k n : Nat} (ha : a < n) (hb : b < n) (hk : k < n) : tau a b k < n := by
  unfold tau; split
  · exact ha
  · split
    · exact hb
    · exact hk
theorem tau_inj {a b i j : Nat} (h : tau a b i = tau a b j) : i = j := by
  unfold tau at h
  repeat' split at h
  all_goals omega
theorem PermN.sw {n : Nat} {g : List Int} (p : PermN n g) {a b : Nat} (ha : a < n) (hb : b < n) : PermN n (sw g a b) := by
  have hl := p.len
  refine ⟨by simp [Am.sw, p.len], fun i hi => ?_, fun i j hi hj e => ?_⟩
  · rw [sw_at (by omega) (by omega)]; exact p.bnd _ (tau_lt ha hb hi)
  · rw [sw_at (by omega) (by omega), sw_at (by omega) (by omega)] at e
    exact tau_inj (p.inj _ _ (tau_lt ha hb hi) (tau_lt ha hb hj) e)
/-! ## The greatest sum -/
theorem runB_le {f : List Int → Int} : ∀ (ls : List (List Int)) (st : BSt), (st.1 ≠ none → st.2 ≤ (runB f st ls).2) ∧ ∀ l ∈ ls, f l ≤ (runB f st ls).2
  | [], st => ⟨fun _ => Int.le_refl _, fun l hl => by cases hl⟩
  | a :: ls, (o, m) => by
    have e : runB f (o, m) (a :: ls) = runB f (stepB f (o, m) a) ls := rfl
    rw [e]
    obtain ⟨h1, h2⟩ := runB_le (f := f) ls (stepB f (o, m) a)
    have h3 : (stepB f (o, m) a).1 ≠ none ∧ f a ≤ (stepB f (o, m) a).2 ∧ (o ≠ none → m ≤ (stepB f (o, m) a).2) := by
      cases o with
      | none => exact ⟨by simp [stepB], Int.le_refl _, fun h => absurd rfl h⟩
      | some c =>
        by_cases hc : m < f a
        · rw [stepB_yes hc]; exact ⟨by simp, Int.le_refl _, fun _ => Int.le_of_lt hc⟩
        · rw [stepB_no hc]; exact ⟨by simp, by show f a ≤ m; omega, fun _ => Int.le_refl _⟩
    have h4 := h1 h3.1
    refine ⟨fun ho => Int.le_trans (h3.2.2 ho) h4, fun l hl => ?_⟩
    rcases List.mem_cons.1 hl with rfl | hl
    · exact Int.le_trans h3.2.1 h4
    · exact h2 l hl
theorem permR_mem {n : Nat} : ∀ (d : Nat) (t u : List Int), u.length = d → (∀ i, i < d → 0 ≤ u.getD i 0 ∧ u.getD i 0 < (n : Int)) → (∀ i, i < d → (t ++ u.take i).contains (u.getD i 0) = false) → t ++ u ∈ permR n d t
  | 0, t, u, hl, _, _ => by
    have : u = [] := List.length_eq_zero_iff.1 hl
    subst this
    simp [permR]
  | d + 1, t, [], hl, _, _ => by simp at hl
  | d + 1, t, k :: u, hl, hb, hf => by
    have hk := hb 0 (by omega)
    have hc := hf 0 (by omega)
    simp only [List.getD_cons_zero, List.take_zero, List.append_nil] at hk hc
    obtain ⟨m, rfl⟩ := Int.eq_ofNat_of_zero_le hk.1
    rw [permR, List.mem_flatMap]
    refine ⟨m, List.mem_range.2 (by omega), ?_⟩
    rw [if_neg (by rw [hc]; decide)]
    have ih := permR_mem (n := n) d (t ++ [(m : Int)]) u (by simpa using hl) (fun i hi => by have := hb (i + 1) (by omega); simpa using this) (fun i hi => by
      have := hf (i + 1) (by omega)
      rw [List.take_succ_cons, List.getD_cons_succ] at this
      rwa [List.append_assoc, List.singleton_append])
    rwa [List.append_assoc, List.singleton_append] at ih
theorem PermN.mem {n : Nat} {g : List Int} (p : PermN n g) : g ∈ permR n n [] := by
  have h := permR_mem (n := n) n [] g p.len p.bnd fun i hi => by
    rw [List.nil_append, ← Bool.not_eq_true, List.contains_iff_mem]
    intro hm
    obtain ⟨k, hk, e⟩ := List.getElem_of_mem hm
    have hki : k < i := by rw [List.length_take] at hk; omega
    rw [List.getElem_take] at e
    have hl := p.len
    have := p.inj k i (by omega) hi (by rw [getD_at (by omega)]; exact e)
    omega
  rwa [List.nil_append] at h
theorem rm_most {xs : List Int} {n : Nat} (hb : xs.all (fun x => decide (0 ≤ x ∧ x ≤ 1000)) = true) {g : List Int} (p : PermN n g) : sumW6 xs n g n ≤ sumW6 xs n (rmL xs n) n := by
  have h := (runB_le (f := fP xs n) (permR n n []) (none, 0)).2 g p.mem
  have e := best_end hb (n := n)
  rw [Nat.sub_zero] at e
  rw [e] at h
  exact h
/-- Chosen rooms are free ones. -/
theorem rooms_free {xs : List Int} {n : Nat} (hb : xs.all (fun x => decide (0 ≤ x ∧ x ≤ 1000)) = true) : ∀ (d : Nat) (t : List Int), t.length + d = n → ∀ i, i < d → (t ++ (roomsR xs n d t).1.take i).contains ((roomsR xs n d t).1.getD i 0) = false
  | 0, _, _, i, hi => absurd hi (by omega)
  | d + 1, t, ht, i, hi => by
    have key : ∀ k, k ≤ n → (roomsK xs n d t k).1 = [] ∨ ∀ i, i < d + 1 → (t ++ (roomsK xs n d t k).1.take i).contains ((roomsK xs n d t k).1.getD i 0) = false := by
      intro k
      induction k with
      | zero => intro _; exact .inl rfl
      | succ k ih =>
        intro hk
        rw [roomsK_step, stepR]
        split
        · exact ih (by omega)
        · rename_i hc
          split
          · refine .inr fun i hi => ?_
            cases i with
            | zero =>
              simp only [List.take_zero, List.append_nil, List.getD_cons_zero]
              simpa using hc
            | succ i =>
              have h2 := rooms_free hb (n := n) d (t ++ [(k : Int)]) (by simp; omega) i (by omega)
              rw [List.append_assoc, List.singleton_append] at h2
              simpa using h2
          · exact ih (by omega)
    rw [roomsR_end]
    rcases key n (Nat.le_refl _) with h | h
    · have := rooms_len hb (n := n) (d := d + 1) (t := t) ht
      rw [roomsR_end, h] at this
      simp at this
    · exact h i hi
theorem rm_perm {xs : List Int} {n : Nat} (hb : xs.all (fun x => decide (0 ≤ x ∧ x ≤ 1000)) = true) : PermN n (rmL xs n) := by
  have hl := rmL_len hb (n := n)
  have hf := rooms_free hb (n := n) n [] (by simp)
  have lt : ∀ i j, i < j → j < n → (rmL xs n).getD i 0 ≠ (rmL xs n).getD j 0 := fun i j hij hj e => by
    have h1 := hf j hj
    rw [List.nil_append, ← Bool.not_eq_true, List.contains_iff_mem] at h1
    refine h1 ?_
    show (rmL xs n).getD j 0 ∈ (rmL xs n).take j
    rw [← e, getD_at (by omega)]
    refine List.mem_of_getElem? (i := i) ?_
    rw [List.getElem?_take, if_pos hij, List.getElem?_eq_getElem]
  refine ⟨hl, fun i hi => rmL_bnd _ (by rw [getD_at (by omega)]; exact List.getElem_mem _), fun i j hi hj e => ?_⟩
  by_cases h1 : i < j
  · exact absurd e (lt i j h1 hj)
  · by_cases h2 : j < i
    · exact absurd e.symm (lt j i h2 hi)
    · omega
/-! ## Rings do not pay -/
section
variable {xs : List Int} {n : Nat}
/-- What player i has of the room of player j. -/
def wR (xs : List Int) (n i j : Nat) : Int := wV xs n i ((rmL xs n).getD j 0)
/-- A way through players, its end first: each gets the room of the one before it. -/
def wayW (xs : List Int) (n : Nat) : List Nat → Int
  | [] => 0
  | [_] => 0
  | a :: b :: l => (wR xs n b a - wR xs n b b) + wayW xs n (b :: l)
theorem wayW_cut : ∀ (a : List Nat) (y : Nat) (b : List Nat), wayW xs n (a ++ y :: b) = wayW xs n (a ++ [y]) + wayW xs n (y :: b)
  | [], y, b => by simp [wayW]
  | [x], y, b => by simp [wayW]
  | x :: z :: a, y, b => by
    have := wayW_cut (z :: a) y b
    simp only [List.cons_append] at this ⊢
    rw [wayW, this, wayW]; omega
theorem sum_set : ∀ (s : Nat) {g : List Int} {u : Nat} {y : Int}, u < g.length → s ≤ g.length → sumW6 xs n (g.set u y) s = sumW6 xs n g s + if u < s then wV xs n u y - wV xs n u (g.getD u 0) else 0
  | 0, _, _, _, _, _ => by simp [sumW6]
  | s + 1, g, u, y, hu, hs => by
    rw [sumW6, sumW6, sum_set s hu (by omega), getD_set hu]
    by_cases h1 : u = s
    · subst h1
      rw [if_pos rfl, if_neg (by omega), if_pos (by omega)]; omega
    · rw [if_neg h1]
      by_cases h2 : u < s
      · rw [if_pos h2, if_pos (by omega)]; omega
      · rw [if_neg h2, if_neg (by omega)]; omega
theorem sum_sw {g : List Int} {a b : Nat} (hl : g.length = n) (ha : a < n) (hb : b < n) (hne : a ≠ b) :
    sumW6 xs n (sw g a b) n = sumW6 xs n g n - wV xs n a (g.getD a 0) - wV xs n b (g.getD b 0) + wV xs n a (g.getD b 0) + wV xs n b (g.getD a 0) := by
  unfold sw
  rw [sum_set n (by rw [List.length_set]; omega) (by rw [List.length_set]; omega), if_pos hb, sum_set n (by omega) (by omega), if_pos ha, getD_set (by omega), if_neg hne]
  omega
theorem ring_sw {x : Nat} (hx : x < n) : ∀ (l : List Nat) (prev : Nat) (g : List Int), PermN n g → g.getD x 0 = (rmL xs n).getD prev 0 → (∀ v ∈ l, v < n ∧ v ≠ x ∧ g.getD v 0 = (rmL xs n).getD v 0) → l.Nodup →
    ∃ g', PermN n g' ∧ sumW6 xs n g' n = sumW6 xs n g n + wayW xs n (prev :: (l ++ [x])) + wR xs n x x - wR xs n x prev
  | [], prev, g, p, h, _, _ => ⟨g, p, by simp only [List.nil_append, wayW]; omega⟩
  | v :: l, prev, g, p, h, hv, hd => by
    obtain ⟨h1, h2, h3⟩ := hv v (by simp)
    have hc := List.nodup_cons.1 hd
    have hl := p.len
    obtain ⟨g', p', e⟩ := ring_sw hx l v (sw g x v) (p.sw hx h1) (by rw [sw_at (by omega) (by omega), tau, if_neg h2, if_pos rfl, h3]) (fun u hu => by
      obtain ⟨k1, k2, k3⟩ := hv u (by simp [hu])
      refine ⟨k1, k2, ?_⟩
      rw [sw_at (by omega) (by omega), tau, if_neg (fun e => hc.1 (by rw [e]; exact hu)), if_neg (fun e => k2 e.symm)]; exact k3) hc.2
    refine ⟨g', p', ?_⟩
    rw [e, sum_sw hl hx h1 (Ne.symm h2), h, h3]
    simp only [List.cons_append, wayW]
    unfold wR
    omega
theorem ring_simple (hb : xs.all (fun x => decide (0 ≤ x ∧ x ≤ 1000)) = true) {x : Nat} {l : List Nat} (hx : x < n) (hl : ∀ v ∈ l, v < n) (hd : (x :: l).Nodup) : wayW xs n (x :: (l ++ [x])) ≤ 0 := by
  have hc := List.nodup_cons.1 hd
  obtain ⟨g', p', e⟩ := ring_sw (xs := xs) hx l x (rmL xs n) (rm_perm hb) rfl (fun v hv => ⟨hl v hv, fun e => hc.1 (by rw [← e]; exact hv), rfl⟩) hc.2
  have := rm_most hb p'
  omega
theorem dup_split : ∀ (l : List Nat), ¬ l.Nodup → ∃ a y b c, l = a ++ y :: (b ++ y :: c)
  | [], h => absurd List.nodup_nil h
  | x :: l, h => by
    by_cases hm : x ∈ l
    · obtain ⟨b, c, e⟩ := List.append_of_mem hm
      exact ⟨[], x, b, c, by rw [e]; rfl⟩
    · have h2 : ¬ l.Nodup := fun hn => h (List.nodup_cons.2 ⟨hm, hn⟩)
      obtain ⟨a, y, b, c, e⟩ := dup_split l h2
      exact ⟨x :: a, y, b, c, by rw [e]; rfl⟩
theorem ring_all (hb : xs.all (fun x => decide (0 ≤ x ∧ x ≤ 1000)) = true) : ∀ (m : Nat) (x : Nat) (l : List Nat), l.length ≤ m → x < n → (∀ v ∈ l, v < n) → wayW xs n (x :: (l ++ [x])) ≤ 0 := by
  intro m
  induction m with
  | zero =>
    intro x l hm hx _
    have : l = [] := List.length_eq_zero_iff.1 (by omega)
    subst this
    exact ring_simple hb hx (fun v hv => by cases hv) (by simp)
  | succ m ih =>
    intro x l hm hx hl
    by_cases hd : (x :: l).Nodup
    · exact ring_simple hb hx hl hd
    · obtain ⟨a, y, b, c, e⟩ := dup_split _ hd
      cases a with
      | nil =>
        simp only [List.nil_append, List.cons.injEq] at e
        obtain ⟨rfl, rfl⟩ := e
        simp only [List.length_append, List.length_cons] at hm
        have h1 := ih x b (by omega) hx fun v hv => hl v (by simp [hv])
        have h2 := ih x c (by omega) hx fun v hv => hl v (by simp [hv])
        have e2 : x :: ((b ++ x :: c) ++ [x]) = (x :: b) ++ x :: (c ++ [x]) := by simp
        rw [e2, wayW_cut, List.cons_append]
        omega
      | cons x' a =>
        simp only [List.cons_append, List.cons.injEq] at e
        obtain ⟨rfl, rfl⟩ := e
        have hlen : (a ++ y :: (b ++ y :: c)).length = a.length + b.length + c.length + 2 := by simp; omega
        have hy := hl y (by simp)
        have h1 := ih y b (by omega) hy fun v hv => hl v (by simp [hv])
        have h2 := ih x (a ++ y :: c) (by simp; omega) hx fun v hv => hl v (by
          simp only [List.mem_append, List.mem_cons] at hv ⊢
          rcases hv with h | h | h
          · exact .inl h
          · exact .inr (.inl h)
          · exact .inr (.inr (.inr (.inr h))))
        have e2 : x :: ((a ++ y :: (b ++ y :: c)) ++ [x]) = (x :: a) ++ y :: (b ++ y :: (c ++ [x])) := by simp
        have e3 : x :: ((a ++ y :: c) ++ [x]) = (x :: a) ++ y :: (c ++ [x]) := by simp
        rw [e3, wayW_cut] at h2
        rw [e2, wayW_cut, show y :: (b ++ y :: (c ++ [x])) = (y :: b) ++ y :: (c ++ [x]) by simp, wayW_cut (y :: b)]
        simp only [List.cons_append] at h1 h2 ⊢
        omega
/-- A way can be cut down to n players and pays as much. -/
theorem way_short (hb : xs.all (fun x => decide (0 ≤ x ∧ x ≤ 1000)) = true) : ∀ (m : Nat) (x : Nat) (l : List Nat), l.length ≤ m → x < n → (∀ v ∈ l, v < n) → ∃ l', (∀ v ∈ l', v < n) ∧ l'.length + 1 ≤ n ∧ wayW xs n (x :: l) ≤ wayW xs n (x :: l') := by
  intro m
  induction m with
  | zero =>
    intro x l hm hx _
    have : l = [] := List.length_eq_zero_iff.1 (by omega)
    subst this
    exact ⟨[], fun v hv => (by cases hv), by simp; omega, Int.le_refl _⟩
  | succ m ih =>
    intro x l hm hx hl
    by_cases hd : (x :: l).Nodup
    · refine ⟨l, hl, ?_, Int.le_refl _⟩
      have h1 := pigeon n ((x :: l).map fun (v : Nat) => (v : Int)) (fun z hz => by
        simp only [List.mem_map] at hz
        obtain ⟨v, hv, rfl⟩ := hz
        have : v < n := by
          rcases List.mem_cons.1 hv with rfl | h
          · exact hx
          · exact hl v h
        omega) (by
        unfold List.Nodup at hd ⊢
        rw [List.pairwise_map]
        exact hd.imp fun h e => h (by omega))
      simpa using h1
    · obtain ⟨a, y, b, c, e⟩ := dup_split _ hd
      cases a with
      | nil =>
        simp only [List.nil_append, List.cons.injEq] at e
        obtain ⟨rfl, rfl⟩ := e
        simp only [List.length_append, List.length_cons] at hm
        obtain ⟨l', k1, k2, k3⟩ := ih x c (by omega) hx fun v hv => hl v (by simp [hv])
        refine ⟨l', k1, k2, Int.le_trans ?_ k3⟩
        have h1 := ring_all hb b.length x b (Nat.le_refl _) hx fun v hv => hl v (by simp [hv])
        rw [show x :: (b ++ x :: c) = (x :: b) ++ x :: c by simp, wayW_cut, List.cons_append]
        omega
      | cons x' a =>
        simp only [List.cons_append, List.cons.injEq] at e
        obtain ⟨rfl, rfl⟩ := e
        have hlen : (a ++ y :: (b ++ y :: c)).length = a.length + b.length + c.length + 2 := by simp; omega
        have hy := hl y (by simp)
        obtain ⟨l', k1, k2, k3⟩ := ih x (a ++ y :: c) (by simp; omega) hx fun v hv => hl v (by
          simp only [List.mem_append, List.mem_cons] at hv ⊢
          rcases hv with h | h | h
          · exact .inl h
          · exact .inr (.inl h)
          · exact .inr (.inr (.inr (.inr h))))
        refine ⟨l', k1, k2, Int.le_trans ?_ k3⟩
        have h1 := ring_all hb b.length y b (Nat.le_refl _) hy fun v hv => hl v (by simp [hv])
        rw [show x :: (a ++ y :: (b ++ y :: c)) = (x :: a) ++ y :: (b ++ y :: c) by simp, wayW_cut, show x :: (a ++ y :: c) = (x :: a) ++ y :: c by simp, wayW_cut (x :: a) y c, show y :: (b ++ y :: c) = (y :: b) ++ y :: c by simp, wayW_cut (y :: b)]
        simp only [List.cons_append] at h1 ⊢
        omega
end
end Go.Am

namespace Go.Am
set_option linter.unusedSimpArgs false
set_option linter.unusedVariables false
section
variable {xs : List Int} {n : Nat}
def payR (xs : List Int) (n : Nat) (j : Int) : List Nat → Int
  | [] => 0
  | i :: l => (wV xs n i j - wR xs n i i) + wayW xs n (i :: l)
theorem wR_bnd (hb : xs.all (fun x => decide (0 ≤ x ∧ x ≤ 1000)) = true) (i j : Nat) : 0 ≤ wR xs n i j ∧ wR xs n i j ≤ 1000 := wV_bnd hb
theorem wayW_bnd (hb : xs.all (fun x => decide (0 ≤ x ∧ x ≤ 1000)) = true) : ∀ l : List Nat, wayW xs n l ≤ 1000 * l.length
  | [] => by simp [wayW]
  | [_] => by simp [wayW]
  | a :: b :: l => by
    have h1 := wR_bnd (n := n) hb b a
    have h2 := wR_bnd (n := n) hb b b
    have h3 := wayW_bnd hb (b :: l)
    rw [wayW]
    simp only [List.length_cons] at h3 ⊢
    omega
structure InvR (xs : List Int) (n : Nat) (r : List Int) : Prop where
  len : r.length = n
  nn : ∀ j, j < n → 0 ≤ r.getD j 0
  att : ∀ j, j < n → ∃ l, (∀ i ∈ l, i < n) ∧ r.getD j 0 = payR xs n j l
theorem InvR.bnd {r : List Int} (h : InvR xs n r) (ok : RentOk xs n) {j : Nat} (hj : j < n) : r.getD j 0 ≤ 7000 := by
  obtain ⟨l, h1, h2⟩ := h.att j hj
  have hn := ok.n6
  rw [h2]
  cases l with
  | nil => simp [payR]
  | cons i l =>
    obtain ⟨l', k1, k2, k3⟩ := way_short ok.bnd l.length i l (Nat.le_refl _) (h1 i (by simp)) fun v hv => h1 v (by simp [hv])
    have h3 := wayW_bnd (n := n) ok.bnd (i :: l')
    have h4 := wV_bnd ok.bnd (n := n) (i := i) (t := j)
    have h5 := wR_bnd (n := n) ok.bnd i i
    rw [payR]
    simp only [List.length_cons] at h3
    omega
/-! ## Prices -/
end
end Go.Am

namespace Go.Am
set_option linter.unusedSimpArgs false
set_option linter.unusedVariables false
def v12 (x : Int) : Bool := decide (0 ≤ x ∧ x ≤ 11)
structure VOk (n : Nat) (xs : List Int) : Prop where
  n1 : 1 ≤ n
  n6 : n ≤ 6
  len : (xs.length : Int) = (n : Int) * (n : Int)
  small : xs.all v12 = true
theorem VOk.all {n : Nat} {xs : List Int} (h : VOk n xs) : xs.all (fun x => decide (0 ≤ x ∧ x ≤ 1000)) = true := by
  refine List.all_eq_true.2 fun x hx => decide_eq_true ?_
  have := of_decide_eq_true (List.all_eq_true.1 h.small x hx)
  omega
theorem VOk.ok {n : Nat} {xs : List Int} (h : VOk n xs) : RentOk xs n := ⟨h.n1, h.n6, h.len, h.all⟩
theorem VOk.valid {n : Nat} {xs : List Int} (h : VOk n xs) : validV n n xs = true := by
  have h1 := h.n1
  have h6 := h.n6
  unfold validV
  rw [h.all, decide_eq_true (show 1 ≤ (n : Int) ∧ (n : Int) ≤ 6 by omega), decide_eq_true (show 1 ≤ (n : Int) ∧ (n : Int) ≤ 8 by omega), decide_eq_true h.len]; rfl
section
variable {n : Nat} {xs : List Int}
/-! ## Another order of rooms -/
end
end Go.Am

namespace Go.Am
set_option linter.unusedSimpArgs false
set_option linter.unusedVariables false
open Ieee
/-! ## A number made wide, whatever it is -/
section
variable {P : Program} {K : Value → AHeap → Prop} {env : Env} {h : AHeap} {dst : Option Tmp} {ty : TypeId} {pos : String} {after : Array Edge} {guard : Option (Nat × Bool)}
end
/-! ## Marks -/
/-! ## Ends of parts -/
section
variable {p q : Int} {xs os : List Int} {cs : List Nat}
end
/-! ## What each would rather have -/
section
variable {p q : Int} {xs : List Int} {bs es : List Nat}
end
section
variable {P : Program} {ops : Array Oper} {KE : Env → AHeap → Prop} {os : List Oper} {env : Env} {h : AHeap} {d : Option Tmp} {ty : TypeId} {pos : String} {af : Array Edge} {g : Option (Nat × Bool)}
end
end Go.Am

namespace Go.Am
set_option linter.unusedSimpArgs false
set_option linter.unusedVariables false
open Ieee
end Go.Am

namespace Go.Am
set_option linter.unusedSimpArgs false
set_option linter.unusedVariables false
open Ieee
/-! ## The knife that moves -/
abbrev kF (p q : Int) (xs : List Int) (i : Int) : Nat := cSum 0 (fI q) (rowC q i xs) q.toNat
abbrev kW (p q : Int) (xs : List Int) (i : Int) : Nat := fDiv (kF p q xs i) (fI p)
abbrev kM (p q : Int) (xs : List Int) (at_ : Nat) (i : Int) : Nat := mAll q at_ (kW p q xs i) (rowC q i xs)
structure KnOk (p q : Int) (xs : List Int) (x : Nat) (i : Int) : Prop where
  k1 : cwK p q i xs 0 (fI q) = true
  k2 : cmK p q i xs x (kW p q xs i) = true
  w0 : (validC p q xs && decide ((0 : Int) ≤ i ∧ i ≤ p - 1)) = true
  h0 : plF q 0 = true
  h1 : plF q (fI q) = true
  m2 : finB (kW p q xs i) = true
  f5 : floatBits .quo .f32 (kF p q xs i) (fI p) = some (kW p q xs i)
  hm : NB (kM p q xs x i) ∧ plF q (kM p q xs x i) = true
structure KState where
  left : List Int
  x : Nat
  os : List Int
  cs : List Nat
structure KInv (p q : Int) (s : KState) (t : Nat) : Prop where
  ll : (s.left.length : Int) = p - t
  lz : ∀ k, k < s.left.length → 0 ≤ s.left.getD k 0 ∧ s.left.getD k 0 ≤ p - 1
  xb : NB s.x
  xp : plF q s.x = true
  ol : s.os.length = t
  cl : s.cs.length = t
end Go.Am

namespace Go.Am
set_option linter.unusedSimpArgs false
set_option linter.unusedVariables false
open Go.RowKit
/-- A region of these operations, in each order, told of its acts. -/
def AWpA (P : Program) (n : Nat) (l : List Oper) (Q : Exit → Env → AHeap → Prop) (env : Env) (h : AHeap) : Prop :=
  ∀ m w a, Rel m h w → EnvRel m h n env a → wpAny P .any l.toArray (fun e a' w' => e = .normal ∧ ∃ m' env' h', Rel m' h' w' ∧ Step m h w m' h' w' ∧ EnvRel m' h' n env' a' ∧ Q e env' h') l.toArray.size (Array.replicate l.toArray.size false) a { w with drawn := w.drawn + 1 }
theorem awp_drawE0A {P : Program} {n : Nat} {l l0 T : List Oper} {A E : Oper} {dE : Tmp} {jE : Nat} {Q : Exit → Env → AHeap → Prop} {env : Env} {h : AHeap} 
    (hd : depOk l.toArray = true) (hsA : sinkBut l.toArray jE l0.length = true) (hsT : ((List.range T.length).all fun i => sinkAt l.toArray (l0.length + 1 + i)) = true) (hin : dstsIn n l = true) (hl : l = l0 ++ A :: T)
    (hE : l0[jE]? = some E) (hdE : E.dst = some dE) (hgA : A.guard = none) (hgE : E.guard = none) (hgT : (T.all fun o => o.guard.isNone) = true) (hAE : noSlot dE A = true) (hEE : noSlot dE E = true) (hneA : A.dst ≠ some dE)
    (hone : ((List.range l0.length).all fun j => (j == jE) || decide ((l0[j]?).bind (·.dst) ≠ some dE)) = true)
    (hr : DRun P l.toArray (fun env1 h1 => AOp P A (fun v h2 => AOp P E (fun v' h' => v' = env1 dE ∧ h' = h2) (env1.put A.dst v) h2 ∧ ARun P l.toArray (Q .normal) T (env1.put A.dst v) h2) env1 h1) l0 env h) : AWpA P n l Q env h := by
  intro m w a hrel he
  obtain ⟨V0, H0, rfl, hA, hst0⟩ := drun_run l0 env h hr
  generalize henv1 : dval (fun j => (l0[j]?).bind (·.dst)) V0 env (fun _ => true) l0.length = env1 at hA
  let V : Nat → Value := fun j => if j < l0.length then V0 j else undef
  let H : Nat → AHeap := fun j => if j ≤ l0.length then H0 j else H0 l0.length
  have hlen : l.length = l0.length + 1 + T.length := by rw [hl]; simp; omega
  have hsz : l.toArray.size = l0.length + 1 + T.length := by simp [hlen]
  have hH00 : H 0 = H0 0 := by simp [H]
  have hHj : ∀ j, l0.length ≤ j → H j = H0 l0.length := fun j hj => by
    by_cases e : j = l0.length
    · simp [H, e]
    · have : ¬ j ≤ l0.length := by omega
      simp [H, this]
  have oA : (l.toArray)[l0.length]? = some A := by rw [List.getElem?_toArray, hl]; simp
  have hjE : jE < l0.length := (List.getElem?_eq_some_iff.1 hE).1
  have oE : (l.toArray)[jE]? = some E := by rw [List.getElem?_toArray, hl, List.getElem?_append_left hjE]; exact hE
  have oT : ∀ (j : Nat) (o : Oper), T[j]? = some o → (l.toArray)[l0.length + 1 + j]? = some o := fun j o ho => by
    rw [List.getElem?_toArray, hl, List.getElem?_append_right (by omega), show l0.length + 1 + j - l0.length = j + 1 by omega, List.getElem?_cons_succ]; exact ho
  have hdst : ∀ j, j < l0.length → ((l.toArray)[j]?).bind (·.dst) = (l0[j]?).bind (·.dst) := fun j hj => by
    simp only [List.getElem?_toArray]; rw [hl, List.getElem?_append_left hj]
  have hdv : ∀ i, i ≤ l0.length → dval (fun j => ((l.toArray)[j]?).bind (·.dst)) V env (fun _ => true) i = dval (fun j => (l0[j]?).bind (·.dst)) V0 env (fun _ => true) i := fun i hi =>
    dval_congr i fun j hj => ⟨hdst j (by omega), by simp [V]; omega⟩
  have hdv1 : dval (fun j => ((l.toArray)[j]?).bind (·.dst)) V env (fun _ => true) l0.length = env1 := (hdv _ (Nat.le_refl _)).trans henv1
  have hrun : ∀ (i : Nat) (x : Oper), i < l0.length → (l.toArray)[i]? = some x → RunAt P l.toArray (fun j => ((l.toArray)[j]?).bind (·.dst)) V env H i x := fun i x hi hx => by
    have hx0 : l0[i]? = some x := by
      rw [List.getElem?_toArray, hl, List.getElem?_append_left hi] at hx; exact hx
    have := hst0 i x hx0
    unfold RunAt at this ⊢
    rw [hdv i (by omega)]
    have e1 : H i = H0 i := by simp [H]; omega
    have e2 : H (i + 1) = H0 (i + 1) := by simp [H]; omega
    have e3 : V i = V0 i := by simp [V, hi]
    rw [e1, e2, e3]; exact this
  have hst' : ∀ (i : Nat) (x : Oper), (l.toArray)[i]? = some x → ∃ g, H (i + 1) = H i ++ g ∧ (∀ y ∈ g, ∀ u ∈ y.cells, Within (H (i + 1)).length u) ∧ Within (H (i + 1)).length (V i) := fun i x hx => by
    by_cases hi : i < l0.length
    · obtain ⟨g, q1, q2, q3, _⟩ := hrun i x hi hx
      exact ⟨g, q1, q2, q3⟩
    · have e3 : V i = undef := by simp only [V, hi, if_false]
      exact ⟨[], by rw [hHj _ (by omega), hHj _ (by omega), List.append_nil], by simp, by rw [e3]; exact .tuple fun i h1 => by simp at h1⟩
  have hHN : H l.toArray.size = H0 l0.length := hHj _ (by omega)
  rw [← hH00] at hrel he ⊢
  have hsteps : ∀ j, j < l.toArray.size → ∃ g, H (j + 1) = H j ++ g := fun j hj => by
    obtain ⟨g, hg, _⟩ := hst' j _ (Array.getElem?_eq_getElem hj)
    exact ⟨g, hg⟩
  obtain ⟨g0, hg0⟩ := run_prefix hsteps 0 l.toArray.size (by omega) (Nat.le_refl _)
  have hH : ∀ {k : Nat}, k < (H 0).length → (H l.toArray.size)[k]? = (H 0)[k]? := fun {k} hk => by rw [hg0, List.getElem?_append_left hk]
  let m1 : Map := fun k => if k < (H 0).length then m k else none
  have hm1 : ∀ {k}, k < (H 0).length → m1 k = m k := fun {k} hk => by simp [m1, hk]
  have hm1' : ∀ {k l}, m1 k = some l → k < (H 0).length ∧ m k = some l := fun {k l} hk => by
    simp only [m1] at hk
    split at hk
    · exact ⟨‹_›, hk⟩
    · cases hk
  have ex : Ext m (H 0) m1 (H l.toArray.size) := fun k o hk => by
    have h1 := (List.getElem?_eq_some_iff.1 hk).1
    exact ⟨o, by rw [hH h1]; exact hk, Nat.le_refl _, rfl, rfl, fun l hl => ⟨l, by rw [hm1 h1]; exact hl, fun _ => rfl⟩⟩
  have hback : ∀ {k o l1}, (H l.toArray.size)[k]? = some o → m1 k = some l1 → (H 0)[k]? = some o ∧ m k = some l1 := fun {k o l1} hk hl => by
    obtain ⟨h1, h2⟩ := hm1' hl
    exact ⟨by rw [← hH h1]; exact hk, h2⟩
  have hcl : ∀ p, p ≤ l.toArray.size → Closed (H p) := fun p => by
    induction p with
    | zero => exact fun _ => hrel.closed
    | succ p ih =>
      intro hp k o hk u hu
      obtain ⟨g, hg, hcl, _⟩ := hst' p _ (Array.getElem?_eq_getElem (by omega))
      rw [hg] at hk
      rw [List.getElem?_append] at hk
      split at hk
      · exact (ih (by omega) k o hk u hu).mono (by rw [hg]; simp)
      · exact hcl o (List.mem_of_getElem? hk) u hu
  have inv0 : DInv n l.toArray V H env m w (Array.replicate l.toArray.size false) m1 a { w with drawn := w.drawn + 1 } := by
    refine ⟨⟨fun k o l1 hk hl hp => ?_, fun k1 k2 o1 o2 l1 l2 g1 g2 e1 e2 hne hm p1 p2 => ?_, hcl _ (Nat.le_refl _)⟩, fun k hk => ⟨fun l1 hl => by rw [hm1 hk]; exact hl, fun hn => by rw [hm1 hk]; exact hn⟩, fun k l1 hk hl => ?_,
      Nat.le_refl _, rfl, rfl, rfl, fun _ _ _ => rfl, fun k o l1 hk hl hp => ?_, ⟨he.size, he.defers, fun t => ?_⟩, by simp, fun i o hi hlj => ?_⟩
    · obtain ⟨q1, q2⟩ := hback hk hl
      obtain ⟨c, ty, fz, hb, hc, hm⟩ := hrel.holds k o l1 q1 q2 hp
      refine ⟨c, ty, fz, hb, fun j hj => ?_, hm⟩
      obtain ⟨r, r1, r2⟩ := hc j hj
      exact ⟨r, r1, r2.mono ex⟩
    · obtain ⟨q1, q2⟩ := hback g1 e1
      obtain ⟨q3, q4⟩ := hback g2 e2
      exact hrel.sep k1 k2 o1 o2 l1 l2 q1 q3 q2 q4 hne hm p1 p2
    · have := (hm1' hl).1; omega
    · obtain ⟨q1, q2⟩ := hback hk hl
      exact .inr ⟨k, o, l1, q1, q2, hp, rfl, fun hh => hh⟩
    · have : dval (fun j => ((l.toArray)[j]?).bind (·.dst)) V env (fun j => (Array.replicate l.toArray.size false).getD j false) l.toArray.size t = env t := by
        have h0 : ∀ N, dval (fun j => ((l.toArray)[j]?).bind (·.dst)) V env (fun j => (Array.replicate l.toArray.size false).getD j false) N = env := fun N => by
          induction N with
          | zero => rfl
          | succ N ih => simp only [dval]; rw [if_neg (by rw [getD_replicate_false]; simp), ih]
        rw [h0]
      rw [this]
      exact (he.vals t).mono ex
    · rw [getD_replicate_false] at hlj; cases hlj
  -- what is wanted at the end
  let G : Exit → Act → World → Prop := fun e a' w' => e = .normal ∧ ∃ m' env' h', Rel m' h' w' ∧ Step m (H 0) w m' h' w' ∧ EnvRel m' h' n env' a' ∧ Q e env' h'
  have hin' : dstsIn n l.toArray.toList = true := by simpa using hin
  have hsT' : ∀ j, j < T.length → sinkAt l.toArray (l0.length + 1 + j) = true := fun j hj => List.all_eq_true.1 hsT j (List.mem_range.2 hj)
  -- only what stands behind is left
  have phaseT : ∀ (T2 T1 : List Oper) (fuel : Nat) (listed : Array Bool) (env2 : Env) (m' : Map) (h2 : AHeap) (a' : Act) (w' : World), T = T1 ++ T2 → listed.size = l.toArray.size → left l.toArray.size listed ≤ fuel →
      (∀ i, i < l0.length + 1 + T1.length → listed.getD i false = true) → (∀ i, l0.length + 1 + T1.length ≤ i → listed.getD i false = false) →
      (∀ (i : Nat) (o : Oper), l.toArray[i]? = some o → listed.getD i false = true → ∀ e ∈ o.after, Region.binds .any e = true → listed.getD e.on false = true) →
      Rel m' h2 w' → Step m (H 0) w m' h2 w' → EnvRel m' h2 n env2 a' → ARun P l.toArray (Q .normal) T2 env2 h2 → wpAny P .any l.toArray G fuel listed a' w' := by
    intro T2
    induction T2 with
    | nil =>
      intro T1 fuel listed env2 m' h2 a' w' hTT hls hf hall hno hcl irel hst ienv har
      refine wpAny_done (fun j hj => hall j ?_) ⟨rfl, m', env2, h2, irel, hst, ienv, har⟩ fuel
      have : T.length = T1.length := by rw [hTT]; simp
      omega
    | cons o T2 ih =>
      intro T1 fuel listed env2 m' h2 a' w' hTT hls hf hall hno hcl irel hst ienv har
      have hT1 : T1.length < T.length := by rw [hTT]; simp
      have hoT : T[T1.length]? = some o := by rw [hTT]; simp
      have oo := oT _ _ hoT
      have hun : listed.getD (l0.length + 1 + T1.length) false = false := hno _ (Nat.le_refl _)
      have hgo : o.guard = none := by
        have := List.all_eq_true.1 hgT o (List.mem_of_getElem? hoT)
        simpa using this
      have hop : AOp P o (fun v h' => ARun P l.toArray (Q .normal) T2 (env2.put o.dst v) h') env2 h2 := by
        rcases har with ⟨_, q⟩ | ⟨q, _⟩
        · exact q
        · rw [wantedA_noguard hgo] at q; cases q
      cases fuel with
      | zero => exact absurd (left_pos (N := l.toArray.size) (by omega) hun) (by omega)
      | succ fuel =>
        refine ⟨fun hnil => absurd hnil (ready_some hls hd _ (by omega) hun), fun i hi => ?_⟩
        obtain ⟨q1, oi, q2, q3⟩ := mem_ready.1 hi
        have hlt := (Array.getElem?_eq_some_iff.1 q2).1
        have hiT : i = l0.length + 1 + T1.length := by
          refine Classical.byContradiction fun hx => ?_
          by_cases h7 : i < l0.length + 1 + T1.length
          · have h6 := hall i h7
            rw [getD_both q1] at h6; cases h6
          · have h5 := hsT' (i - (l0.length + 1)) (by omega)
            rw [show l0.length + 1 + (i - (l0.length + 1)) = i by omega] at h5
            have := sinkAt_all h5 hcl q2 q3 i (l0.length + 1 + T1.length) (by omega) (by omega)
            rw [hun] at this; cases this
        subst hiT
        rw [oo] at q2; cases q2
        have hset : (listed.setIfInBounds (l0.length + 1 + T1.length) true).getD (l0.length + 1 + T1.length) false = true := by
          have : l0.length + 1 + T1.length < listed.size := by rw [hls]; omega
          simp [Array.getD_eq_getD_getElem?, this]
        refine wpOp_of oo hin' hgo irel hst ienv hop fun u h1 m3 a3 w3 r3 s3 e3 hq => ih (T1 ++ [o]) fuel _ _ m3 h1 a3 w3 (by rw [hTT]; simp) (by rw [Array.size_setIfInBounds]; exact hls) ?_ (fun j hj => ?_) (fun j hj => ?_) (fun j x hx hl9 e he9 hb9 => ?_) r3 s3 e3 hq
        · have := left_lt hls (i := l0.length + 1 + T1.length) (by omega) hun
          omega
        · by_cases h9 : j = l0.length + 1 + T1.length
          · subst h9; exact hset
          · rw [getD_set_ne false (fun e => h9 e.symm)]
            refine hall j ?_
            simp at hj; omega
        · simp at hj
          rw [getD_set_ne false (by omega)]
          exact hno j (by omega)
        · by_cases h9 : e.on = l0.length + 1 + T1.length
          · rw [h9]; exact hset
          · rw [getD_set_ne false (fun e => h9 e.symm)]
            by_cases h8 : j = l0.length + 1 + T1.length
            · subst h8; rw [oo] at hx; cases hx; exact q3 e he9 hb9
            · rw [getD_set_ne false (fun e => h8 e.symm)] at hl9
              exact hcl j x hx hl9 e he9 hb9
  have hbut : ∀ listed : Array Bool, (∀ i, i < l0.length → i ≠ jE → listed.getD i false = true) → ∀ t, t ≠ dE → env1 t = dval (fun j => ((l.toArray)[j]?).bind (·.dst)) V env (fun j => listed.getD j false) l0.length t := fun listed hpre t ht => by
    rw [← hdv1]
    refine (dval_agree (q := fun _ => true) _ fun j hj hd9 => hpre j hj fun e => ?_).symm
    subst e
    simp only [oE, Option.bind_some, hdE, Option.some.injEq] at hd9
    exact ht hd9.symm
  have phaseA : ∀ (fuel : Nat) (listed : Array Bool) (m' : Map) (a' : Act) (w' : World), left l.toArray.size listed ≤ fuel + 1 → (∀ e ∈ A.after, Region.binds .any e = true → listed.getD e.on false = true) → (∀ i, l0.length ≤ i → listed.getD i false = false) →
      DInv n l.toArray V H env m w listed m' a' w' → wpOp P l.toArray G l0.length (wpAny P .any l.toArray G fuel (listed.setIfInBounds l0.length true)) a' w' := by
    intro fuel listed m' a' w' hf hrd hno inv
    have hunA := hno l0.length (Nat.le_refl _)
    have hpre := fun i hi hne => sinkBut_all hsA inv.closed oA hrd l0.length i (by omega) hi hne
    have irel := inv.rel
    rw [hHN] at irel
    have hstep : Step m (H 0) w m' (H0 l0.length) w' := by
      rw [← hHN]
      exact ⟨fun k x hk => by
        have h1 := (List.getElem?_eq_some_iff.1 hk).1
        obtain ⟨e1, e2⟩ := inv.ext0 k h1
        exact ⟨x, by rw [hH h1]; exact hk, Nat.le_refl _, rfl, rfl, fun l1 hl => ⟨l1, e1 l1 hl, fun _ => rfl⟩, e2⟩, inv.size, inv.os, inv.tape, inv.output, inv.frame, inv.own⟩
    have ienv := inv.env
    rw [hHN, hsz, dval_cut (k := l0.length) _ (by omega) (fun j hj _ => hno j hj)] at ienv
    have hleft := left_lt inv.lsize (i := l0.length) (by omega) hunA
    have hls : (listed.setIfInBounds l0.length true).size = l.toArray.size := by rw [Array.size_setIfInBounds]; exact inv.lsize
    have hset : (listed.setIfInBounds l0.length true).getD l0.length false = true := by
      have : l0.length < listed.size := by rw [inv.lsize]; omega
      simp [Array.getD_eq_getD_getElem?, this]
    have hclosed2 : ∀ (i : Nat) (o : Oper), l.toArray[i]? = some o → (listed.setIfInBounds l0.length true).getD i false = true → ∀ e ∈ o.after, Region.binds .any e = true → (listed.setIfInBounds l0.length true).getD e.on false = true := fun i o ho hl9 e he9 hb9 => by
      by_cases h9 : e.on = l0.length
      · rw [h9]; exact hset
      · rw [getD_set_ne false (fun e => h9 e.symm)]
        by_cases h8 : i = l0.length
        · subst h8; rw [oA] at ho; cases ho; exact hrd e he9 hb9
        · rw [getD_set_ne false (fun e => h8 e.symm)] at hl9
          exact inv.closed i o ho hl9 e he9 hb9
    have hno2 : ∀ i, l0.length + 1 ≤ i → (listed.setIfInBounds l0.length true).getD i false = false := fun i hi => by rw [getD_set_ne false (by omega)]; exact hno i (by omega)
    by_cases hM : listed.getD jE false = true
    · have e0 : dval (fun j => ((l.toArray)[j]?).bind (·.dst)) V env (fun j => listed.getD j false) l0.length = env1 := by
        rw [← hdv1]
        funext t
        refine dval_agree (q := fun _ => true) _ (fun j hj _ => ?_)
        by_cases h9 : j = jE
        · rw [h9]; exact hM
        · exact hpre j hj h9
      rw [e0] at ienv
      refine wpOp_of oA hin' hgA irel hstep ienv hA fun v h1 m3 a3 w3 r3 s3 e3 hq => ?_
      refine phaseT T [] fuel _ _ m3 h1 a3 w3 rfl hls (by omega) (fun i hi => ?_) (fun i hi => hno2 i (by simpa using hi)) hclosed2 r3 s3 e3 hq.2
      by_cases h9 : i = l0.length
      · subst h9; exact hset
      · rw [getD_set_ne false (fun e => h9 e.symm)]
        simp at hi
        by_cases h8 : i = jE
        · rw [h8]; exact hM
        · exact hpre i (by omega) h8
    · have hM' : listed.getD jE false = false := by simpa using hM
      have hag := hbut listed hpre
      generalize dval (fun j => ((l.toArray)[j]?).bind (·.dst)) V env (fun j => listed.getD j false) l0.length = envX at ienv hag
      refine wpOp_of oA hin' hgA irel hstep ienv (AOp.but hAE hag hA) fun v h1 m3 a3 w3 r3 s3 e3 hq => ?_
      have hunM : (listed.setIfInBounds l0.length true).getD jE false = false := by rw [getD_set_ne false (by omega)]; exact hM'
      cases fuel with
      | zero => exact absurd (left_pos (N := l.toArray.size) (by omega) hunM) (by omega)
      | succ fuel =>
        refine ⟨fun hnil => absurd hnil (ready_some hls hd _ (by omega) hunM), fun i hi => ?_⟩
        obtain ⟨q1, oi, q2, q3⟩ := mem_ready.1 hi
        have hlt := (Array.getElem?_eq_some_iff.1 q2).1
        have hiM : i = jE := by
          refine Classical.byContradiction fun hx => ?_
          by_cases h7 : l0.length + 1 ≤ i
          · have h5 := hsT' (i - (l0.length + 1)) (by omega)
            rw [show l0.length + 1 + (i - (l0.length + 1)) = i by omega] at h5
            have := sinkAt_all h5 hclosed2 q2 q3 i jE (by omega) (by omega)
            rw [hunM] at this; cases this
          · have h6 : (listed.setIfInBounds l0.length true).getD i false = true := by
              by_cases h9 : i = l0.length
              · subst h9; exact hset
              · rw [getD_set_ne false (fun e => h9 e.symm)]; exact hpre i (by omega) hx
            rw [getD_both q1] at h6; cases h6
        subst hiM
        have hag2 : ∀ t, t ≠ dE → (env1.put A.dst v) t = (envX.put A.dst v) t := fun t ht => by
          cases hAd : A.dst with
          | none => exact hag t ht
          | some da =>
            simp only [Env.put]
            by_cases c : t = da
            · simp only [c, if_true]
            · simp only [c, if_false]; exact hag t ht
        refine wpOp_of oE hin' hgE r3 s3 e3 (AOp.but hEE hag2 hq.1) fun v9 h9 m4 a4 w4 r4 s4 e4 hq4 => ?_
        obtain ⟨rfl, rfl⟩ := hq4
        have henvE : (envX.put A.dst v).put E.dst (env1 dE) = env1.put A.dst v := by
          funext t
          rw [hdE]
          by_cases c : t = dE
          · subst c
            cases hAd : A.dst with
            | none => simp only [Env.put, if_true]
            | some da =>
              simp only [Env.put, if_true]
              by_cases c2 : t = da
              · exact absurd (by rw [hAd, c2]) hneA
              · simp only [c2, if_false]
          · rw [hag2 t c]
            simp only [Env.put, c, if_false]
        rw [henvE] at e4
        have hleft2 := left_lt hls (i := i) (by omega) hunM
        have hsetM : ((listed.setIfInBounds l0.length true).setIfInBounds i true).getD i false = true := by
          have : i < (listed.setIfInBounds l0.length true).size := by rw [hls]; omega
          rw [Array.getD_eq_getD_getElem?, Array.getElem?_setIfInBounds_self_of_lt this]; rfl
        refine phaseT T [] fuel _ _ m4 h9 a4 w4 rfl (by rw [Array.size_setIfInBounds]; exact hls) (by omega) (fun j hj => ?_) (fun j hj => ?_) (fun j x hx hl9 e he9 hb9 => ?_) r4 s4 e4 hq.2
        · by_cases h9 : j = i
          · subst h9; exact hsetM
          · rw [getD_set_ne false (fun e => h9 e.symm)]
            by_cases h8 : j = l0.length
            · subst h8; exact hset
            · rw [getD_set_ne false (fun e => h8 e.symm)]
              simp at hj
              exact hpre j (by omega) h9
        · simp at hj
          rw [getD_set_ne false (by omega)]
          exact hno2 j (by omega)
        · by_cases h9 : e.on = i
          · rw [h9]; exact hsetM
          · rw [getD_set_ne false (fun e => h9 e.symm)]
            by_cases h8 : j = i
            · subst h8; rw [oE] at hx; cases hx; rw [oE] at q2; cases q2; exact q3 e he9 hb9
            · rw [getD_set_ne false (fun e => h8 e.symm)] at hl9
              exact hclosed2 j x hx hl9 e he9 hb9
  have main : ∀ (fuel : Nat) (listed : Array Bool) (m' : Map) (a' : Act) (w' : World), left l.toArray.size listed ≤ fuel → (∀ i, l0.length ≤ i → listed.getD i false = false) → DInv n l.toArray V H env m w listed m' a' w' →
      wpAny P .any l.toArray G fuel listed a' w' := by
    intro fuel
    induction fuel with
    | zero =>
      intro listed m' a' w' hf hno inv
      exact absurd (left_pos (N := l.toArray.size) (by omega) (hno l0.length (Nat.le_refl _))) (by omega)
    | succ fuel ih =>
      intro listed m' a' w' hf hno inv
      refine ⟨fun hnil => absurd hnil (ready_some inv.lsize hd _ (by omega) (hno l0.length (Nat.le_refl _))), fun i hi => ?_⟩
      obtain ⟨q1, oi, q2, q3⟩ := mem_ready.1 hi
      have hlt := (Array.getElem?_eq_some_iff.1 q2).1
      by_cases hiA : i = l0.length
      · subst hiA
        rw [oA] at q2; cases q2
        exact phaseA fuel listed m' a' w' hf q3 hno inv
      · by_cases hiT : l0.length + 1 ≤ i
        · have h5 := hsT' (i - (l0.length + 1)) (by omega)
          rw [show l0.length + 1 + (i - (l0.length + 1)) = i by omega] at h5
          have := sinkAt_all h5 inv.closed q2 q3 i l0.length (by omega) (by omega)
          rw [hno _ (Nat.le_refl _)] at this; cases this
        · refine inv.step hd hin' hst' hrel.closed (fun t => (he.vals t).within) q2 (hrun i oi (by omega) q2) (getD_both q1) q3 fun m2 a2 w2 inv2 => ih _ m2 a2 w2 ?_ (fun j hj => by rw [getD_set_ne false (by omega)]; exact hno j hj) inv2
          have := left_lt inv.lsize hlt (getD_both q1)
          omega
  refine main _ _ m1 a _ ?_ (fun i _ => getD_replicate_false _ _) inv0
  unfold left
  exact Nat.le_trans List.countP_le_length (by simp)


theorem awp_drawEA {P : Program} {n : Nat} {l l0 T : List Oper} {A E : Oper} {dE : Tmp} {Q : Exit → Env → AHeap → Prop} {env : Env} {h : AHeap} (jA jE : Nat) (ht : l.take jA = l0) (hdr : l.drop jA = A :: T)
    (hd : depOk l.toArray = true) (hsA : sinkBut l.toArray jE l0.length = true) (hsT : ((List.range T.length).all fun i => sinkAt l.toArray (l0.length + 1 + i)) = true) (hin : dstsIn n l = true)
    (hE : l0[jE]? = some E) (hdE : E.dst = some dE) (hgA : A.guard = none) (hgE : E.guard = none) (hgT : (T.all fun o => o.guard.isNone) = true) (hAE : noSlot dE A = true) (hEE : noSlot dE E = true) (hneA : decide (A.dst ≠ some dE) = true)
    (hone : ((List.range l0.length).all fun j => (j == jE) || decide ((l0[j]?).bind (·.dst) ≠ some dE)) = true)
    (hr : DRun P l.toArray (fun env1 h1 => AOp P A (fun v h2 => AOp P E (fun v' h' => v' = env1 dE ∧ h' = h2) (env1.put A.dst v) h2 ∧ ARun P l.toArray (Q .normal) T (env1.put A.dst v) h2) env1 h1) l0 env h) : AWpA P n l Q env h :=
  awp_drawE0A hd hsA hsT hin (by rw [← ht, ← hdr, List.take_append_drop]) hE hdE hgA hgE hgT hAE hEE (of_decide_eq_true hneA) hone hr

/-! ## Another order of the text -/
def relab (s : List Nat) (o : Oper) : Oper := ⟨o.dst, o.op, o.type, o.pos, (o.after.filter fun e => s.contains e.on).map fun e => ⟨s.idxOf e.on, e.ground⟩, o.guard⟩
def permL (l : List Oper) (s r : List Nat) : List Oper := r.filterMap fun i => (l[i]?).map (relab s)
def permOk (l : List Oper) (s : List Nat) : Bool := ((List.range s.length).all fun j => decide (s.getD j 0 < l.length) && s.idxOf (s.getD j 0) == j) && l.all fun o => o.guard.isNone && o.after.all fun e => decide (e.on < l.length)
theorem permL_get {l : List Oper} {s : List Nat} : ∀ {r : List Nat} (_ : ∀ i ∈ r, i < l.length) (j : Nat), (permL l s r)[j]? = (r[j]?).bind fun i => (l[i]?).map (relab s)
  | [], _, j => by simp [permL]
  | i :: r, h, j => by
    have hi := h i (by simp)
    have e : permL l s (i :: r) = relab s l[i] :: permL l s r := by simp [permL, List.filterMap_cons, List.getElem?_eq_getElem hi]
    rw [e]
    cases j with
    | zero => simp [List.getElem?_eq_getElem hi]
    | succ j => simpa using permL_get (r := r) (fun i hi => h i (by simp [hi])) j
theorem wpOp_relab {P : Program} {ops ops' : Array Oper} {Q : Exit → Act → World → Prop} {i j : Nat} {o : Oper} {s : List Nat} (hi : ops[i]? = some o) (hj : ops'[j]? = some (relab s o)) (hg : o.guard = none) {K : Act → World → Prop} {a : Act} {w : World}
    (h : wpOp P ops' Q j K a w) : wpOp P ops Q i K a w := by
  unfold wpOp at h ⊢
  simp only [hi]
  simp only [hj] at h
  have w1 : Region.wanted o (yielded ops a.tmps) = true := by unfold Region.wanted; rw [hg]
  have w2 : Region.wanted (relab s o) (yielded ops' a.tmps) = true := by unfold Region.wanted relab; simp only [hg]
  rw [if_pos w1]
  rw [if_pos w2] at h
  have e : execOp a.eval (relab s o) = execOp a.eval o := by obtain ⟨d, op, ty, ps, af, g⟩ := o; cases op <;> rfl
  rcases h with h | ⟨h, h2⟩
  · refine .inl ?_
    unfold Oper.wp at h ⊢
    rw [e] at h
    exact h
  · refine .inr ⟨?_, h2⟩
    unfold Oper.asks at h ⊢
    rw [e] at h
    exact h
theorem wpAny_perm {P : Program} {l : List Oper} {s : List Nat} {Q : Exit → Act → World → Prop} (hok : permOk l s = true) : ∀ (fuel : Nat) (listed listed' : Array Bool) (a : Act) (w : World), listed.size = l.length → listed'.size = s.length →
    (∀ j, j < s.length → listed'.getD j false = listed.getD (s.getD j 0) false) → (∀ i, i < l.length → i ∉ s → listed.getD i false = true) →
    wpAny P .any (permL l s s).toArray Q fuel listed' a w → wpAny P .any l.toArray Q fuel listed a w := by
  rw [permOk, Bool.and_eq_true] at hok
  have h1 : ∀ j, j < s.length → s.getD j 0 < l.length ∧ s.idxOf (s.getD j 0) = j := fun j hj => by
    have := List.all_eq_true.1 hok.1 j (List.mem_range.2 hj)
    simpa using this
  have h2 : ∀ o ∈ l, o.guard = none ∧ ∀ e ∈ o.after, e.on < l.length := fun o ho => by
    have := List.all_eq_true.1 hok.2 o ho
    rw [Bool.and_eq_true] at this
    refine ⟨by simpa using this.1, fun e he => ?_⟩
    have := Array.all_eq_true'.1 this.2 e he
    simpa using this
  have hmem : ∀ i ∈ s, i < l.length := fun i hi => by
    obtain ⟨j, hj, e⟩ := List.getElem_of_mem hi
    have := (h1 j hj).1
    rwa [show s.getD j 0 = s[j] by simp [List.getD, hj], e] at this
  have hat : ∀ i, i ∈ s → s.idxOf i < s.length ∧ s.getD (s.idxOf i) 0 = i := fun i hi => by
    obtain ⟨j, hj, e⟩ := List.getElem_of_mem hi
    have h3 := h1 j hj
    rw [show s.getD j 0 = s[j] by simp [List.getD, hj], e] at h3
    rw [h3.2]
    exact ⟨hj, by rw [show s.getD j 0 = s[j] by simp [List.getD, hj], e]⟩
  have hget : ∀ j, j < s.length → ∀ o, l[s.getD j 0]? = some o → (permL l s s).toArray[j]? = some (relab s o) := fun j hj o ho => by
    rw [List.getElem?_toArray, permL_get hmem, List.getElem?_eq_getElem hj]
    rw [show s.getD j 0 = s[j] by simp [List.getD, hj]] at ho
    simp [ho]
  -- what is ready here is ready there
  have there : ∀ (listed listed' : Array Bool), listed.size = l.length → listed'.size = s.length → (∀ j, j < s.length → listed'.getD j false = listed.getD (s.getD j 0) false) → (∀ i, i < l.length → i ∉ s → listed.getD i false = true) →
      (∀ i, i ∈ Region.ready .any l.toArray listed → i ∈ s ∧ s.idxOf i ∈ Region.ready .any (permL l s s).toArray listed') ∧ (∀ j, j ∈ Region.ready .any (permL l s s).toArray listed' → s.getD j 0 ∈ Region.ready .any l.toArray listed) := by
    intro listed listed' hls hls' hA hB
    have both : ∀ (x : Array Bool) (N i : Nat), x.size = N → i < N → x.getD i true = x.getD i false := fun x N i hx hi => by
      have : i < x.size := by omega
      simp [Array.getD_eq_getD_getElem?, this]
    constructor
    · intro i hi
      obtain ⟨q1, o, q2, q3⟩ := mem_ready.1 hi
      have hil : i < l.length := by have := (Array.getElem?_eq_some_iff.1 q2).1; simpa using this
      rw [List.getElem?_toArray] at q2
      have his : i ∈ s := Classical.byContradiction fun hx => by
        have := hB i hil hx
        rw [both listed _ i hls hil, this] at q1; cases q1
      obtain ⟨a1, a2⟩ := hat i his
      refine ⟨his, mem_ready.2 ⟨?_, relab s o, hget _ a1 o (by rw [a2]; exact q2), fun e he hb => ?_⟩⟩
      · rw [both listed' _ _ hls' a1, hA _ a1, a2, ← both listed _ i hls hil]; exact q1
      · simp only [relab, Array.mem_map, Array.mem_filter] at he
        obtain ⟨e0, ⟨m1, m2⟩, rfl⟩ := he
        have m3 : e0.on ∈ s := by simpa using m2
        obtain ⟨b1, b2⟩ := hat _ m3
        show listed'.getD (s.idxOf e0.on) false = true
        rw [hA _ b1, b2]
        exact q3 e0 m1 hb
    · intro j hj
      obtain ⟨q1, o', q2, q3⟩ := mem_ready.1 hj
      have hjl : j < s.length := by
        refine Classical.byContradiction fun hx => ?_
        have : listed'.getD j true = true := by
          have : ¬ j < listed'.size := by omega
          simp [Array.getD_eq_getD_getElem?, this]
        rw [this] at q1; cases q1
      obtain ⟨c1, c2⟩ := h1 j hjl
      have ho : l[s.getD j 0]? = some l[s.getD j 0] := List.getElem?_eq_getElem c1
      rw [hget j hjl _ ho] at q2
      cases q2
      refine mem_ready.2 ⟨?_, _, by rw [List.getElem?_toArray]; exact ho, fun e he hb => ?_⟩
      · rw [both listed _ _ hls c1, ← hA j hjl, ← both listed' _ _ hls' hjl]; exact q1
      · by_cases hx : e.on ∈ s
        · obtain ⟨b1, b2⟩ := hat _ hx
          have := q3 ⟨s.idxOf e.on, e.ground⟩ (by simp only [relab, Array.mem_map, Array.mem_filter]; exact ⟨e, ⟨he, by simpa using hx⟩, rfl⟩) hb
          rw [← b2, ← hA _ b1]; exact this
        · exact hB _ ((h2 _ (List.getElem_mem c1)).2 e he) hx
  intro fuel
  induction fuel with
  | zero =>
    intro listed listed' a w hls hls' hA hB h
    refine ⟨?_, h.2⟩
    refine List.eq_nil_iff_forall_not_mem.2 fun i hi => ?_
    have := ((there listed listed' hls hls' hA hB).1 i hi).2
    rw [h.1] at this; cases this
  | succ fuel ih =>
    intro listed listed' a w hls hls' hA hB h
    obtain ⟨t1, t2⟩ := there listed listed' hls hls' hA hB
    refine ⟨fun hn => h.1 (List.eq_nil_iff_forall_not_mem.2 fun j hj => ?_), fun i hi => ?_⟩
    · have := t2 j hj
      rw [hn] at this; cases this
    · obtain ⟨his, hr⟩ := t1 i hi
      obtain ⟨a1, a2⟩ := hat i his
      have hil := hmem i his
      have ho : l[i]? = some l[i] := List.getElem?_eq_getElem hil
      refine wpOp_relab (s := s) (by rw [List.getElem?_toArray]; exact ho) (hget _ a1 _ (by rw [a2]; exact ho)) (h2 _ (List.getElem_mem hil)).1 (wpOp_mono (fun a1' w1' hk => ih _ _ _ _ (by rw [Array.size_setIfInBounds]; exact hls) (by rw [Array.size_setIfInBounds]; exact hls') (fun j hj => ?_) (fun i2 hi2 hx => ?_) hk) (h.2 _ hr))
      · by_cases e : j = s.idxOf i
        · subst e
          rw [a2]
          have z1 : s.idxOf i < listed'.size := by omega
          have z2 : i < listed.size := by omega
          simp [Array.getD_eq_getD_getElem?, z1, z2]
        · have e2 : i ≠ s.getD j 0 := fun e3 => by
            have := (h1 j hj).2
            rw [← e3] at this
            exact e this.symm
          rw [getD_set_ne false (fun e3 => e e3.symm), getD_set_ne false e2]
          exact hA j hj
      · have e2 : i ≠ i2 := fun e3 => hx (e3 ▸ his)
        rw [getD_set_ne false e2]
        exact hB i2 hi2 hx
end Go.Am

namespace Go.Am
set_option linter.unusedSimpArgs false
set_option linter.unusedVariables false
section
variable {P : Program} {K : Value → AHeap → Prop} {env : Env} {h : AHeap} {dst : Option Tmp} {ty : TypeId} {pos : String} {after : Array Edge} {guard : Option (Nat × Bool)}
end

/-! ## A list of numbers and one of floats -/
/-! ## A list without one, element by element -/
/-! ## The knife, as the walks see it -/
end Go.Am
