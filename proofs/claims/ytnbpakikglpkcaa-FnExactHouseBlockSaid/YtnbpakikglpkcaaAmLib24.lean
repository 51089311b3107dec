/-
  The abstract heap: plain laws of sets of houses that could do better; bytes of a text; calls of values in drawn regions. General: no program is named.
-/
import Derived.Test.YtnbpakikglpkcaaAmLib23
namespace Go.Am
set_option linter.unusedSimpArgs false
set_option linter.unusedVariables false

section
variable {P : Program} {K : Value → AHeap → Prop} {env : Env} {h : AHeap} {dst : Option Tmp} {ty : TypeId} {pos : String} {after : Array Edge} {guard : Option (Nat × Bool)}
theorem o_indexS {t : TypeId} {x y : Operand} {k : IntKind} {i : Nat} {s : ByteArray} {b : Nat} (ht : P.underlying t = some .string) (hx : aeval env x = .string s) (hy : aeval env y = .int k (i : Int)) (hb : (s[i]?.map UInt8.toNat) = some b) (hK : K (.int .u8 (b : Int)) h) :
    AOp P ⟨dst, .index t x y, ty, pos, after, guard⟩ K env h :=
  .of_pure _ (fun m w a _ ho => by
    have h1 := ho x (by simp [Op.operands])
    have h2 := ho y (by simp [Op.operands])
    rw [hx] at h1
    rw [hy] at h2
    obtain ⟨c, hc, rfl⟩ := Option.map_eq_some_iff.1 hb
    have e1 : a.eval x = .string s := by
      generalize a.eval x = r at h1
      cases h1 with
      | prim hp => rfl
    have hi : (0 : Int) ≤ (i : Int) := by omega
    refine ⟨.int .u8 (c.toNat : Int), ?_, .prim rfl⟩
    simp [execOp, e1, h2.int, Instr.index, asIntOf, run_underlying ht, hi, hc]) hK
end
section
variable {P : Program} {ops : Array Oper} {KE : Env → AHeap → Prop} {os : List Oper} {env : Env} {h : AHeap} {d : Option Tmp} {ty : TypeId} {pos : String} {af : Array Edge} {g : Option (Nat × Bool)}
theorem d_callVB {fo : Operand} {f : FuncId} {xs : Array Operand} {ats : Array TypeId} {first cap : Array Value} {vs ws : List Value} {b : Bool} (hw : wantedA ops env ⟨d, .call { callee := .value fo, args := xs, argTypes := ats }, ty, pos, af, g⟩ = some true)
    (hf : aeval env fo = .func (.func f) first cap) (hv : xs.toList.map (aeval env) = vs) (hws : first.toList ++ vs ++ cap.toList = ws) (r : Ret P f ws h (.bool b) h)
    (ht : b = true → DRun P ops KE os (env.put d (.bool true)) h) (hn : b = false → DRun P ops KE os (env.put d (.bool false)) h) :
    DRun P ops KE (⟨d, .call { callee := .value fo, args := xs, argTypes := ats }, ty, pos, af, g⟩ :: os) env h := by
  cases b
  · exact d_do hw (o_callV hf hv hws (r.to ⟨rfl, rfl⟩)) (.prim rfl) (hn rfl)
  · exact d_do hw (o_callV hf hv hws (r.to ⟨rfl, rfl⟩)) (.prim rfl) (ht rfl)
end

/-! ## Sets -/
def lenB (s : Nat) : Nat := if s = 0 then 0 else s.log2 + 1
def memL (s m : Nat) : List Int := (cntL m).filter fun x => s.testBit x.toNat
theorem mem_yes {s m : Nat} (h : s.testBit m = true) : memL s m ++ [(m : Int)] = memL s (m + 1) := by
  rw [memL, memL, cntL_step, List.filter_append, List.filter_cons_of_pos (by exact h), List.filter_nil]
theorem mem_no {s m : Nat} (h : s.testBit m = false) : memL s m = memL s (m + 1) := by
  rw [memL, memL, cntL_step, List.filter_append, List.filter_cons_of_neg (by rw [show ((m : Int)).toNat = m from rfl, h]; decide), List.filter_nil, List.append_nil]
theorem memL_len {s m : Nat} : (memL s m).length ≤ m := by
  have := List.length_filter_le (fun x : Int => s.testBit x.toNat) (cntL m)
  rw [cntL_len] at this
  exact this
theorem memL_mem {s m : Nat} {x : Int} : x ∈ memL s m ↔ (0 ≤ x ∧ x < (m : Int)) ∧ s.testBit x.toNat = true := by
  rw [memL, List.mem_filter]
  constructor
  · rintro ⟨h1, h2⟩
    obtain ⟨k, hk, rfl⟩ := List.mem_map.1 h1
    have := List.mem_range.1 hk
    exact ⟨by omega, h2⟩
  · rintro ⟨h1, h2⟩
    exact ⟨List.mem_map.2 ⟨x.toNat, List.mem_range.2 (by omega), by omega⟩, h2⟩
theorem memL_more {s : Nat} : ∀ (d m : Nat), s < 2 ^ m → memL s (m + d) = memL s m
  | 0, _, _ => rfl
  | d + 1, m, h => by
    rw [← memL_more d m h]
    have : s.testBit (m + d) = false := Nat.testBit_lt_two_pow (Nat.lt_of_lt_of_le h (Nat.pow_le_pow_right (by omega) (by omega)))
    exact (mem_no this).symm
theorem lenB_lt {s : Nat} : s < 2 ^ lenB s := by
  unfold lenB
  split
  · subst_vars; decide
  · exact Nat.lt_log2_self
theorem lenB_le {s n : Nat} (h : s < 2 ^ n) : lenB s ≤ n := by
  unfold lenB
  split
  · omega
  · rename_i h0
    have := (Nat.log2_lt h0).2 h
    omega
theorem memL_lenB {s n : Nat} (h : s < 2 ^ n) : memL s (lenB s) = memL s n := by
  have h1 := memL_more (s := s) (n - lenB s) (lenB s) lenB_lt
  rw [show lenB s + (n - lenB s) = n by have := lenB_le h; omega] at h1
  exact h1.symm
/-! ## Places in whole lists -/
theorem plc_bnd {n : Nat} {xs : List Int} {x : Int} (hw : wishL n xs = true) (hl : xs.length = n) (hx : 0 ≤ x ∧ x < n) : 0 ≤ plc xs x ∧ plc xs x < n ∧ xs.getD (plc xs x).toNat 0 = x := by
  obtain ⟨t, ht, e⟩ := all_in (k := x) hw hl hx
  obtain ⟨a, ha, h1, h2, _⟩ := idxI_get (xs := xs) (x := x) (by rw [← e, getD_at ht]; exact List.getElem_mem ht)
  rw [plc, if_pos (by omega), h2]
  exact ⟨by omega, by omega, h1⟩
theorem plc_here {n : Nat} {xs : List Int} {t : Nat} (hw : wishL n xs = true) (ht : t < xs.length) : plc xs (xs.getD t 0) = (t : Int) := by
  obtain ⟨a, ha, h1, h2, _⟩ := idxI_get (xs := xs) (x := xs.getD t 0) (by rw [getD_at ht]; exact List.getElem_mem ht)
  have hd := (dist_of hw).2
  have : a = t := by
    rcases Nat.lt_trichotomy a t with c | c | c
    · exact absurd h1 (hd a t c ht)
    · exact c
    · exact absurd h1.symm (hd t a c ha)
  rw [plc, if_pos (by omega), h2, this]

/-! ## Who could do better -/
structure Blk where
  xss : List (List Int)
  ms : List Int
  ls : List Int
def Blk.who (B : Blk) (m : Nat) : Int := B.ls.getD (B.ls.length - (m + 1)) 0
def Blk.row (B : Blk) (m : Nat) : List Int := rowAt B.xss (B.who m).toNat
def Blk.has (B : Blk) (m : Nat) : Int := B.ms.getD (B.who m).toNat 0
def Blk.own (B : Blk) (m : Nat) : Nat := (plc (B.row m) (B.has m)).toNat
def takeT (T : Nat) (h : Int) : Nat := T ||| 2 ^ h.toNat
def putB (B : Blk) : Nat → Nat → Bool → Bool
  | 0, _, b => b
  | m + 1, T, b => B.ls.any fun h => !T.testBit h.toNat && (!dearB (B.row m) (B.has m) h && putB B m (takeT T h) (b || decide (h ≠ B.has m)))
def putH (B : Blk) (m T : Nat) (b : Bool) (h : Int) : Bool := !T.testBit h.toNat && (!dearB (B.row m) (B.has m) h && putB B m (takeT T h) (b || decide (h ≠ B.has m)))
def betB (B : Blk) : Nat → List Bool → Bool → Bool
  | 0, _, b => b
  | m + 1, F, b => (List.range (B.own m + 1)).any fun t => F.getD ((B.row m).getD t 0).toNat false && betB B m (F.set ((B.row m).getD t 0).toNat false) (b || decide (t < B.own m))
def betH (B : Blk) (m : Nat) (F : List Bool) (b : Bool) (t : Nat) : Bool := F.getD ((B.row m).getD t 0).toNat false && betB B m (F.set ((B.row m).getD t 0).toNat false) (b || decide (t < B.own m))
structure OkB (B : Blk) (n : Nat) : Prop where
  hF : okH B.xss = true
  hn : B.xss.length = n
  hm : wishL n B.ms = true
  hml : B.ms.length = n
  hls : ∀ x ∈ B.ls, 0 ≤ x ∧ x < (n : Int)
theorem OkB.who_bnd {B : Blk} {n m : Nat} (h : OkB B n) (hm : m < B.ls.length) : 0 ≤ B.who m ∧ B.who m < (n : Int) := by
  have hk : B.ls.length - (m + 1) < B.ls.length := by omega
  rw [Blk.who, getD_at hk]; exact h.hls _ (List.getElem_mem hk)
theorem OkB.row_ok {B : Blk} {n m : Nat} (h : OkB B n) (hm : m < B.ls.length) : wishL n (B.row m) = true ∧ (B.row m).length = n := by
  have hb := h.who_bnd hm
  have := (okH_get h.hF).2 (B.who m).toNat (by rw [h.hn]; omega)
  rw [h.hn] at this
  exact this
theorem OkB.has_bnd {B : Blk} {n m : Nat} (h : OkB B n) (hm : m < B.ls.length) : 0 ≤ B.has m ∧ B.has m < (n : Int) := by
  have hb := h.who_bnd hm
  have := (dist_of h.hm).1 (B.who m).toNat (by rw [h.hml]; omega)
  exact this
theorem OkB.own_bnd {B : Blk} {n m : Nat} (h : OkB B n) (hm : m < B.ls.length) : plc (B.row m) (B.has m) = (B.own m : Int) ∧ B.own m < n ∧ (B.row m).getD (B.own m) 0 = B.has m := by
  have hr := h.row_ok hm
  have := plc_bnd (xs := B.row m) hr.1 hr.2 (h.has_bnd hm)
  refine ⟨?_, ?_, this.2.2⟩
  · rw [Blk.own]; omega
  · rw [Blk.own]; omega
def RelB (n : Nat) (ls : List Int) (T : Nat) (F : List Bool) : Prop := F.length = n ∧ ∀ x : Int, 0 ≤ x → x < (n : Int) → F.getD x.toNat false = (decide (x ∈ ls) && !T.testBit x.toNat)
theorem take_bit {T j : Nat} {h : Int} : (takeT T h).testBit j = (T.testBit j || decide (h.toNat = j)) := by
  rw [takeT, Nat.testBit_or, Nat.testBit_two_pow]
theorem RelB.take {n : Nat} {ls : List Int} {T : Nat} {F : List Bool} {h : Int} (r : RelB n ls T F) (hh : 0 ≤ h ∧ h < (n : Int)) : RelB n ls (takeT T h) (F.set h.toNat false) := by
  refine ⟨by rw [List.length_set]; exact r.1, fun x h0 h1 => ?_⟩
  rw [take_bit]
  by_cases e : h.toNat = x.toNat
  · rw [e, decide_eq_true rfl, List.getD_eq_getElem?_getD, List.getElem?_set_self (by rw [r.1]; omega)]
    simp
  · rw [getB_set e, r.2 x h0 h1, decide_eq_false e, Bool.or_false]
theorem put_bet {B : Blk} {n : Nat} (hB : OkB B n) : ∀ (m T : Nat) (F : List Bool) (b : Bool), m ≤ B.ls.length → RelB n B.ls T F → putB B m T b = betB B m F b
  | 0, _, _, _, _, _ => rfl
  | m + 1, T, F, b, hm, r => by
    have hrow := hB.row_ok (m := m) (by omega)
    have hown := hB.own_bnd (m := m) (by omega)
    have hd := (dist_of hrow.1).1
    have key : putB B (m + 1) T b = true ↔ betB B (m + 1) F b = true := by
      rw [putB, betB, List.any_eq_true, List.any_eq_true]
      constructor
      · rintro ⟨h, hl, hh⟩
        simp only [Bool.and_eq_true, Bool.not_eq_true'] at hh
        obtain ⟨h1, h2, h3⟩ := hh
        have hb := hB.hls h hl
        have hp := plc_bnd (xs := B.row m) hrow.1 hrow.2 hb
        rw [dearB] at h2
        have h2 := of_decide_eq_false h2
        refine ⟨(plc (B.row m) h).toNat, List.mem_range.2 (by omega), ?_⟩
        rw [hp.2.2, Bool.and_eq_true]
        refine ⟨by rw [r.2 h hb.1 hb.2, h1, decide_eq_true hl]; rfl, ?_⟩
        rw [← put_bet hB m (takeT T h) (F.set h.toNat false) _ (by omega) (r.take hb), ← h3]
        congr 2
        by_cases e : h = B.has m
        · rw [e, decide_eq_false (by omega), decide_eq_false (by simp)]
        · rw [decide_eq_true (show h ≠ B.has m from e), decide_eq_true]
          rcases Nat.lt_or_ge (plc (B.row m) h).toNat (B.own m) with c | c
          · exact c
          · exfalso
            have : (plc (B.row m) h).toNat = B.own m := by omega
            apply e
            rw [← hp.2.2, this, hown.2.2]
      · rintro ⟨t, ht, hh⟩
        have ht := List.mem_range.1 ht
        rw [Bool.and_eq_true] at hh
        obtain ⟨h1, h2⟩ := hh
        have htl : t < (B.row m).length := by rw [hrow.2]; omega
        have hb := hd t htl
        rw [r.2 _ hb.1 hb.2, Bool.and_eq_true, Bool.not_eq_true'] at h1
        have hpl := plc_here hrow.1 htl
        refine ⟨(B.row m).getD t 0, of_decide_eq_true h1.1, ?_⟩
        rw [h1.2, dearB, hpl, decide_eq_false (by omega)]
        simp only [Bool.not_false, Bool.true_and]
        rw [put_bet hB m _ (F.set ((B.row m).getD t 0).toNat false) _ (by omega) (r.take hb), ← h2]
        congr 2
        by_cases e : t = B.own m
        · subst e
          rw [hown.2.2, decide_eq_false (by simp), decide_eq_false (by omega)]
        · rw [decide_eq_true (show t < B.own m by omega), decide_eq_true]
          intro e2
          apply e
          have : plc (B.row m) ((B.row m).getD t 0) = plc (B.row m) (B.has m) := by rw [e2]
          omega
    cases h1 : putB B (m + 1) T b <;> cases h2 : betB B (m + 1) F b <;> simp_all

/-! ## The walks -/
theorem any_step {f : Int → Bool} {ls : List Int} {t : Nat} (ht : t < ls.length) (h : (ls.take t).any f = false) (hf : f (ls.getD t 0) = false) : (ls.take (t + 1)).any f = false := by
  rw [List.take_succ_eq_append_getElem ht, List.any_append, h, List.any_cons, ← getD_at ht, hf]; rfl
theorem any_hit {f : Int → Bool} {ls : List Int} {t : Nat} (ht : t < ls.length) (hf : f (ls.getD t 0) = true) : ls.any f = true :=
  List.any_eq_true.2 ⟨_, List.getElem_mem ht, by rw [← getD_at ht]; exact hf⟩
theorem rany_step {f : Nat → Bool} {t : Nat} (h : (List.range t).any f = false) (hf : f t = false) : (List.range (t + 1)).any f = false := by
  rw [List.range_succ, List.any_append, h, List.any_cons, hf]; rfl
theorem rany_hit {f : Nat → Bool} {t n : Nat} (ht : t < n) (hf : f t = true) : (List.range n).any f = true := List.any_eq_true.2 ⟨t, List.mem_range.2 ht, hf⟩
theorem putB_succ {B : Blk} {m T : Nat} {b : Bool} : putB B (m + 1) T b = B.ls.any (putH B m T b) := rfl
theorem betB_succ {B : Blk} {m : Nat} {F : List Bool} {b : Bool} : betB B (m + 1) F b = (List.range (B.own m + 1)).any (betH B m F b) := rfl
theorem putH_1 {B : Blk} {m T : Nat} {b : Bool} {h : Int} (c : T.testBit h.toNat = true) : putH B m T b h = false := by rw [putH, c]; rfl
theorem putH_2 {B : Blk} {m T : Nat} {b : Bool} {h : Int} (c : dearB (B.row m) (B.has m) h = true) : putH B m T b h = false := by rw [putH, c]; simp
theorem putH_3 {B : Blk} {m T : Nat} {b c : Bool} {h : Int} (c1 : T.testBit h.toNat = false) (c2 : dearB (B.row m) (B.has m) h = false) (c3 : putB B m (takeT T h) (b || decide (h ≠ B.has m)) = c) : putH B m T b h = c := by rw [putH, c1, c2, c3]; simp
theorem betH_1 {B : Blk} {m : Nat} {F : List Bool} {b : Bool} {t : Nat} (c : F.getD ((B.row m).getD t 0).toNat false = false) : betH B m F b t = false := by rw [betH, c]; rfl
theorem betH_3 {B : Blk} {m : Nat} {F : List Bool} {b c : Bool} {t : Nat} (c1 : F.getD ((B.row m).getD t 0).toNat false = true) (c3 : betB B m (F.set ((B.row m).getD t 0).toNat false) (b || decide (t < B.own m)) = c) : betH B m F b t = c := by rw [betH, c1, c3]; simp
theorem set_back {F : List Bool} {j : Nat} (h : F.getD j false = true) : (F.set j false).set j true = F := by
  rw [List.set_set]
  refine List.ext_getElem (by simp) fun k h1 h2 => ?_
  rw [List.getElem_set]
  split
  · subst_vars
    rw [List.getD_eq_getElem?_getD, List.getElem?_eq_getElem h2] at h
    exact h.symm
  · rfl

/-! ## The first set -/
def goodS (xss : List (List Int)) (ms : List Int) (x : Int) : Bool := putB ⟨xss, ms, memL x.toNat xss.length⟩ (memL x.toNat xss.length).length 0 false
def firS (xss : List (List Int)) (ms : List Int) : Int := idxTo (goodS xss ms) (cntL (2 ^ xss.length)) (2 ^ xss.length)
def blkV (xss : List (List Int)) (ms : List Int) : Bool := turnV xss ms && decide (0 ≤ firS xss ms)
def blkL (xss : List (List Int)) (ms : List Int) : List Int := memL (firS xss ms).toNat xss.length
theorem fir_one {xss : List (List Int)} {ms : List Int} : idxTo (goodS xss ms) (cntL (2 ^ xss.length)) 1 = -1 := by
  have hp := Nat.two_pow_pos xss.length
  refine idxTo_none (s := 0) rfl ?_
  rw [cntL_get hp]
  have : memL ((0 : Nat) : Int).toNat xss.length = [] := by
    rw [List.eq_nil_iff_forall_not_mem]
    intro x hx
    have := (memL_mem.1 hx).2
    simp at this
  rw [goodS, this]; rfl
def freeF (s n : Nat) : Nat → List Bool
  | 0 => List.replicate n false
  | t + 1 => if s.testBit t then (freeF s n t).set t true else freeF s n t
theorem freeF_len {s n : Nat} : ∀ t, (freeF s n t).length = n
  | 0 => by simp [freeF]
  | t + 1 => by
    rw [freeF]
    split
    · rw [List.length_set, freeF_len t]
    · exact freeF_len t
theorem freeF_get {s n j : Nat} (hj : j < n) : ∀ t, t ≤ n → (freeF s n t).getD j false = (decide (j < t) && s.testBit j)
  | 0, _ => by
    rw [freeF, List.getD_eq_getElem?_getD, List.getElem?_replicate, if_pos hj]; simp
  | t + 1, ht => by
    have ih := freeF_get (s := s) hj t (by omega)
    rw [freeF]
    by_cases e : t = j
    · subst e
      split
      · rename_i hb
        rw [List.getD_eq_getElem?_getD, List.getElem?_set_self (by rw [freeF_len]; omega), hb]; simp
      · rename_i hb
        rw [ih]; simp at hb; simp [hb]
    · have e2 : decide (j < t + 1) = decide (j < t) := by
        by_cases c : j < t
        · rw [decide_eq_true c, decide_eq_true (by omega)]
        · rw [decide_eq_false c, decide_eq_false (by omega)]
      split
      · rw [List.getD_eq_getElem?_getD, List.getElem?_set, if_neg e, ← List.getD_eq_getElem?_getD, ih, e2]
      · rw [ih, e2]
theorem rel_start {s n : Nat} : RelB n (memL s n) 0 (freeF s n n) := by
  refine ⟨freeF_len n, fun x h0 h1 => ?_⟩
  rw [freeF_get (by omega) n (Nat.le_refl _), decide_eq_true (by omega), Nat.zero_testBit]
  by_cases c : s.testBit x.toNat = true
  · rw [c, decide_eq_true (memL_mem.2 ⟨⟨h0, h1⟩, c⟩)]; rfl
  · rw [Bool.not_eq_true] at c
    rw [c, decide_eq_false]
    · rfl
    · intro hm
      have := (memL_mem.1 hm).2
      rw [c] at this; cases this
theorem ok_blk {xss : List (List Int)} {ms : List Int} {s : Nat} (h : turnV xss ms = true) : OkB ⟨xss, ms, memL s xss.length⟩ xss.length := by
  have hg := turnV_get h
  exact ⟨hg.1, rfl, hg.2.2, by have h9 := hg.2.1; show ms.length = xss.length; omega, fun x hx => (memL_mem.1 hx).1⟩
theorem good_bet {xss : List (List Int)} {ms : List Int} {s : Nat} (h : turnV xss ms = true) : goodS xss ms (s : Int) = betB ⟨xss, ms, memL s xss.length⟩ (memL s xss.length).length (freeF s xss.length xss.length) false :=
  put_bet (ok_blk h) _ _ _ _ (Nat.le_refl _) rel_start
theorem pow8 {n : Nat} (h : n ≤ 8) : 1 ≤ 2 ^ n ∧ 2 ^ n ≤ 256 := ⟨Nat.one_le_two_pow, Nat.le_trans (Nat.pow_le_pow_right (by omega) h) (by decide)⟩
theorem take_lt {T : Nat} {h : Int} (hT : T < 256) (hh : h.toNat < 8) : takeT T h < 256 := by
  have h2 : 2 ^ h.toNat < 2 ^ 8 := Nat.pow_lt_pow_right (by decide) hh
  exact Nat.or_lt_two_pow (n := 8) hT h2
theorem two_le {j : Nat} (h : j < 8) : 2 ^ j ≤ 128 := Nat.pow_le_pow_right (n := 2) (by decide) (show j ≤ 7 by omega)
theorem any_all {f : Int → Bool} {ls : List Int} {t : Nat} (ht : t = ls.length) (h : (ls.take t).any f = false) : ls.any f = false := by
  subst ht; rwa [List.take_length] at h
theorem blk_no1 {xss : List (List Int)} {ms : List Int} (h : turnV xss ms = false) : blkV xss ms = false := by rw [blkV, h]; rfl
theorem blk_no2 {xss : List (List Int)} {ms : List Int} (h : firS xss ms = -1) : blkV xss ms = false := by rw [blkV, h]; simp
theorem blk_yes {xss : List (List Int)} {ms : List Int} {s : Nat} (h : turnV xss ms = true) (hs : firS xss ms = (s : Int)) : blkV xss ms = true := by rw [blkV, h, hs, decide_eq_true (by omega)]; rfl
theorem good_at {xss : List (List Int)} {ms : List Int} {s : Nat} {b : Bool} (hs : s < 2 ^ xss.length) (h : goodS xss ms (s : Int) = b) : goodS xss ms ((cntL (2 ^ xss.length)).getD s 0) = b := by rw [cntL_get hs]; exact h
theorem free_yes {s n t : Nat} (h : s.testBit t = true) : (freeF s n t).set t true = freeF s n (t + 1) := by rw [freeF, if_pos h]
theorem free_no {s n t : Nat} (h : s.testBit t = false) : freeF s n t = freeF s n (t + 1) := by rw [freeF, h]; rfl
theorem blk_get {xss : List (List Int)} {ms : List Int} (h : blkV xss ms = true) : turnV xss ms = true := by
  rw [blkV, Bool.and_eq_true] at h; exact h.1
theorem tab_of {a : ByteArray} (key : ((List.range 256).all fun s => decide ((a[s]?.map UInt8.toNat) = some (lenB s))) = true) {s : Nat} (hs : s < 256) : a[s]?.map UInt8.toNat = some (lenB s) :=
  of_decide_eq_true (List.all_eq_true.1 key s (List.mem_range.2 hs))

end Go.Am
