/-
  The abstract heap: what this claim needs of it. General: no program is named.
-/
import Derived.Orders
import Derived.Tactics
import Derived.Laws.World
import Derived.Laws.NewBlocks
import Derived.Laws.Entries
import Derived.Laws.Small
import Derived.Below
import Derived.Laws.AppendOwn
import Derived.Laws.MakeOwn
namespace Go.Am
set_option linter.unusedSimpArgs false
set_option linter.unusedVariables false

/-- A block of the abstract heap. 'mine': it is one's own (no other abstract block lies in its real block); 'esz': cells per element of a slice. -/
structure AObj where
  cells : List Value
  mine : Bool
  esz : Nat

/-- Where an abstract block lies: real block, first cell, end of the real row. -/
structure Loc where
  block : Nat
  base : Nat
  rcap : Nat

abbrev AHeap := List AObj
abbrev Map := Nat → Option Loc

def isPrim : Value → Bool
  | .bool _ | .int .. | .float .. | .complex .. | .string _ | .nilFunc | .nilIface => true
  | .pointer none => true
  | .slice none 0 0 => true
  | .map none | .chan none => true
  | _ => false

/-- What a value may be that is chosen freely: a number that is none, or a pair with such a one. -/
def Anyw (q b : Nat) (r : Value) : Prop :=
  match q with
  | 0 => ∃ a, r = .complex .f32 a b ∧ (Ieee.single.read a).isNaN = true
  | 1 => ∃ a, r = .complex .f32 b a ∧ (Ieee.single.read a).isNaN = true
  | 2 => ∃ a, r = .complex .f64 a b ∧ (Ieee.double.read a).isNaN = true
  | _ => ∃ a, r = .complex .f64 b a ∧ (Ieee.double.read a).isNaN = true
def Anyv (c : Nat) (r : Value) : Prop :=
  match c with
  | 0 => ∃ b, r = .float .f64 b ∧ (Ieee.double.read b).isNaN = true
  | 1 => ∃ b, r = .float .f32 b ∧ (Ieee.single.read b).isNaN = true
  | 2 => ∃ a b, r = .complex .f32 a b ∧ (Ieee.single.read a).isNaN = true ∧ (Ieee.single.read b).isNaN = true
  | 3 => ∃ a b, r = .complex .f64 a b ∧ (Ieee.double.read a).isNaN = true ∧ (Ieee.double.read b).isNaN = true
  | c + 4 => Anyw (c % 4) (c / 4) r
theorem Anyw.num {q b : Nat} {r : Value} (h : Anyw q b r) : ∃ k a b, r = .complex k a b := by
  match q, h with
  | 0, ⟨a, e, _⟩ => exact ⟨_, _, _, e⟩
  | 1, ⟨a, e, _⟩ => exact ⟨_, _, _, e⟩
  | 2, ⟨a, e, _⟩ => exact ⟨_, _, _, e⟩
  | _ + 3, ⟨a, e, _⟩ => exact ⟨_, _, _, e⟩
theorem Anyv.num {c : Nat} {r : Value} (h : Anyv c r) : (∃ k b, r = .float k b) ∨ ∃ k a b, r = .complex k a b := by
  match c, h with
  | 0, ⟨b, e, _⟩ => exact .inl ⟨_, _, e⟩
  | 1, ⟨b, e, _⟩ => exact .inl ⟨_, _, e⟩
  | 2, ⟨a, b, e, _⟩ => exact .inr ⟨_, _, _, e⟩
  | 3, ⟨a, b, e, _⟩ => exact .inr ⟨_, _, _, e⟩
  | c + 4, h => exact .inr (Anyw.num (show Anyw (c % 4) (c / 4) r from h))
def SliceAt (o : AObj) (l : Loc) (off len cap : Nat) (r : Value) : Prop :=
  ∃ a cap', r = .slice a len cap' ∧ len ≤ cap ∧ cap ≤ cap' ∧ off + cap * o.esz = o.cells.length ∧
    (off < o.cells.length → a = some ⟨l.block, l.base + off, none⟩) ∧
    (o.mine = true → (0 < o.cells.length → off + cap' * o.esz = l.rcap) ∧ (o.cells.length = 0 → cap' = 0))

/-- The abstract value stands for the real one. A reference bears the length of its block: if the block has grown since, nothing is said of it. -/
inductive VRel (m : Map) (h : AHeap) : Value → Value → Prop
  | prim {v : Value} (hp : isPrim v = true) : VRel m h v v
  | ptr {k off ver : Nat} {o : AObj} {r : Value} (ho : h[k]? = some o) (hv : ver ≤ o.cells.length) (hs : ∃ a, r = .pointer (some a))
      (hr : ver = o.cells.length → ∃ l, m k = some l ∧ r = .pointer (some ⟨l.block, l.base + off, none⟩)) :
      VRel m h (.pointer (some ⟨k, off, some ver⟩)) r
  | slice {k off ver len cap : Nat} {o : AObj} {r : Value} (ho : h[k]? = some o) (hv : ver ≤ o.cells.length) (hs : ∃ a n c, r = .slice a n c)
      (hr : ver = o.cells.length → ∃ l, m k = some l ∧ SliceAt o l off len cap r) : VRel m h (.slice (some ⟨k, off, some ver⟩) len cap) r
  | agg {a b : Array Value} (hs : a.size = b.size) (hc : ∀ i (h1 : i < a.size) (h2 : i < b.size), VRel m h a[i] b[i]) : VRel m h (.agg a) (.agg b)
  | tuple {a b : Array Value} (hs : a.size = b.size) (hc : ∀ i (h1 : i < a.size) (h2 : i < b.size), VRel m h a[i] b[i]) : VRel m h (.tuple a) (.tuple b)
  | func {fn : Fn} {a b c d : Array Value} (hs : a.size = b.size) (ht : c.size = d.size)
      (hc : ∀ i (h1 : i < a.size) (h2 : i < b.size), VRel m h a[i] b[i]) (hd : ∀ i (h1 : i < c.size) (h2 : i < d.size), VRel m h c[i] d[i]) :
      VRel m h (.func fn a c) (.func fn b d)
  | iface {t : TypeId} {v r : Value} (hv : VRel m h v r) : VRel m h (.iface t v) (.iface t r)
  | any {c : Nat} {r : Value} (hr : Anyv c r) : VRel m h (.map (some c)) r

/-- Only numbers below n. -/
inductive Within (n : Nat) : Value → Prop
  | prim {v : Value} (hp : isPrim v = true) : Within n v
  | ptr {k off ver : Nat} (hk : k < n) : Within n (.pointer (some ⟨k, off, some ver⟩))
  | slice {k off ver len cap : Nat} (hk : k < n) : Within n (.slice (some ⟨k, off, some ver⟩) len cap)
  | agg {a : Array Value} (hc : ∀ i (h1 : i < a.size), Within n a[i]) : Within n (.agg a)
  | tuple {a : Array Value} (hc : ∀ i (h1 : i < a.size), Within n a[i]) : Within n (.tuple a)
  | func {fn : Fn} {a c : Array Value} (hc : ∀ i (h1 : i < a.size), Within n a[i]) (hd : ∀ i (h1 : i < c.size), Within n c[i]) : Within n (.func fn a c)
  | iface {t : TypeId} {v : Value} (hv : Within n v) : Within n (.iface t v)
  | any {c : Nat} : Within n (.map (some c))

theorem Within.mono {n n' : Nat} {v : Value} (h : Within n v) (hn : n ≤ n') : Within n' v := by
  induction h with
  | prim hp => exact .prim hp
  | ptr hk => exact .ptr (by omega)
  | slice hk => exact .slice (by omega)
  | agg _ ih => exact .agg ih
  | tuple _ ih => exact .tuple ih
  | func _ _ i1 i2 => exact .func i1 i2
  | iface _ ih => exact .iface ih
  | any => exact .any

theorem VRel.within {m h} {v r : Value} (hv : VRel m h v r) : Within h.length v := by
  induction hv with
  | prim hp => exact .prim hp
  | ptr ho _ _ _ => exact .ptr (List.getElem?_eq_some_iff.1 ho).1
  | slice ho _ _ _ => exact .slice (List.getElem?_eq_some_iff.1 ho).1
  | agg hs _ ih => exact .agg fun i h1 => ih i h1 (by omega)
  | tuple hs _ ih => exact .tuple fun i h1 => ih i h1 (by omega)
  | func hs ht _ _ i1 i2 => exact .func (fun i h1 => i1 i h1 (by omega)) (fun i h1 => i2 i h1 (by omega))
  | iface _ ih => exact .iface ih
  | any _ => exact .any

def Holds (m : Map) (h : AHeap) (o : AObj) (l : Loc) (w : World) : Prop :=
  0 < o.cells.length → ∃ c ty fz, w.heap[l.block]? = some (.cells c ty fz) ∧
    (∀ i (hi : i < o.cells.length), ∃ r, c[l.base + i]? = some r ∧ VRel m h o.cells[i] r) ∧
    (o.mine = true → l.base = 0 ∧ fz = (0, 0) ∧ c.size = l.rcap)

structure Rel (m : Map) (h : AHeap) (w : World) : Prop where
  holds : ∀ (k : Nat) (o : AObj) (l : Loc), h[k]? = some o → m k = some l → Holds m h o l w
  sep : ∀ (k1 k2 : Nat) (o1 o2 : AObj) (l1 l2 : Loc), h[k1]? = some o1 → h[k2]? = some o2 → m k1 = some l1 → m k2 = some l2 → k1 ≠ k2 → o1.mine = true →
    0 < o1.cells.length → 0 < o2.cells.length → l1.block ≠ l2.block
  closed : ∀ (k : Nat) (o : AObj), h[k]? = some o → ∀ v ∈ o.cells, Within h.length v

structure Step (m : Map) (h : AHeap) (w : World) (m' : Map) (h' : AHeap) (w' : World) : Prop where
  ext : ∀ (k : Nat) (o : AObj), h[k]? = some o → ∃ o', h'[k]? = some o' ∧ o.cells.length ≤ o'.cells.length ∧ o'.mine = o.mine ∧ o'.esz = o.esz ∧
    (∀ l, m k = some l → ∃ l', m' k = some l' ∧ (o'.cells.length = o.cells.length → l' = l)) ∧ (m k = none → m' k = none)
  size : w.heap.size ≤ w'.heap.size
  os : w'.os = w.os
  tape : w'.tape = w.tape
  output : w'.output = w.output
  frame : ∀ b, b < w.heap.size → (∀ (k : Nat) (o : AObj) (l : Loc), h[k]? = some o → m k = some l → o.mine = true → 0 < o.cells.length → l.block ≠ b) → w'.heap[b]? = w.heap[b]?
  own : ∀ (k : Nat) (o : AObj) (l : Loc), h'[k]? = some o → m' k = some l → 0 < o.cells.length →
    w.heap.size ≤ l.block ∨ ∃ k0 o0 l0, h[k0]? = some o0 ∧ m k0 = some l0 ∧ 0 < o0.cells.length ∧ l0.block = l.block ∧ (o.mine = true → o0.mine = true)

/-- What grows. -/
def Ext (m : Map) (h : AHeap) (m' : Map) (h' : AHeap) : Prop :=
  ∀ (k : Nat) (o : AObj), h[k]? = some o → ∃ o', h'[k]? = some o' ∧ o.cells.length ≤ o'.cells.length ∧ o'.mine = o.mine ∧ o'.esz = o.esz ∧
    (∀ l, m k = some l → ∃ l', m' k = some l' ∧ (o'.cells.length = o.cells.length → l' = l))

theorem Step.toExt {m h w m' h' w'} (s : Step m h w m' h' w') : Ext m h m' h' := fun k o ho => by
  obtain ⟨o', h1, h2, h3, h4, h5, _⟩ := s.ext k o ho
  exact ⟨o', h1, h2, h3, h4, h5⟩

theorem VRel.mono {m h m' h'} {v r : Value} (hv : VRel m h v r) (e : Ext m h m' h') : VRel m' h' v r := by
  induction hv with
  | prim hp => exact .prim hp
  | @ptr k off ver o r ho hv hs hr =>
    obtain ⟨o', h1, h2, h3, h4, h5⟩ := e _ _ ho
    refine .ptr h1 (Nat.le_trans hv h2) hs fun hq => ?_
    have hq' : ver = o.cells.length := by omega
    obtain ⟨l, hl, he⟩ := hr hq'
    obtain ⟨l', hl', hx⟩ := h5 l hl
    have := hx (by omega)
    subst this
    exact ⟨_, hl', he⟩
  | @slice k off ver len cap o r ho hv hs hr =>
    obtain ⟨o', h1, h2, h3, h4, h5⟩ := e _ _ ho
    refine .slice h1 (Nat.le_trans hv h2) hs fun hq => ?_
    have hq' : ver = o.cells.length := by omega
    obtain ⟨l, hl, a, cap', he, c1, c2, c3, c4, c5⟩ := hr hq'
    obtain ⟨l', hl', hx⟩ := h5 l hl
    have := hx (by omega)
    subst this
    refine ⟨_, hl', a, cap', he, c1, c2, by rw [h4]; omega, fun hlt => c4 (by omega), fun hm => ?_⟩
    rw [h3] at hm
    obtain ⟨d1, d2⟩ := c5 hm
    exact ⟨fun hlt => by rw [h4]; exact d1 (by omega), fun hz => d2 (by omega)⟩
  | agg hs _ ih => exact .agg hs ih
  | tuple hs _ ih => exact .tuple hs ih
  | func hs ht _ _ ih1 ih2 => exact .func hs ht ih1 ih2
  | iface _ ih => exact .iface ih
  | any hr => exact .any hr

theorem Ext.refl (m : Map) (h : AHeap) : Ext m h m h := fun _ o ho => ⟨o, ho, Nat.le_refl _, rfl, rfl, fun l hl => ⟨l, hl, fun _ => rfl⟩⟩

theorem Step.refl {m : Map} {h : AHeap} {w : World} : Step m h w m h w where
  ext := fun _ o ho => ⟨o, ho, Nat.le_refl _, rfl, rfl, fun l hl => ⟨l, hl, fun _ => rfl⟩, id⟩
  size := Nat.le_refl _
  os := rfl
  tape := rfl
  output := rfl
  frame := fun _ _ _ => rfl
  own := fun k o l ho hl hp => .inr ⟨k, o, l, ho, hl, hp, rfl, id⟩

theorem Step.trans {m h w m1 h1 w1 m2 h2 w2} (a : Step m h w m1 h1 w1) (b : Step m1 h1 w1 m2 h2 w2) : Step m h w m2 h2 w2 where
  ext := fun k o ho => by
    obtain ⟨o1, p1, p2, p3, p4, p5, p6⟩ := a.ext k o ho
    obtain ⟨o2, q1, q2, q3, q4, q5, q6⟩ := b.ext k o1 p1
    refine ⟨o2, q1, Nat.le_trans p2 q2, q3.trans p3, q4.trans p4, fun l hl => ?_, fun hn => q6 (p6 hn)⟩
    obtain ⟨l1, hl1, e1⟩ := p5 l hl
    obtain ⟨l2, hl2, e2⟩ := q5 l1 hl1
    exact ⟨l2, hl2, fun hq => (e2 (by omega)).trans (e1 (by omega))⟩
  size := Nat.le_trans a.size b.size
  os := b.os.trans a.os
  tape := b.tape.trans a.tape
  output := b.output.trans a.output
  frame := fun c hc hno => by
    rw [b.frame c (Nat.lt_of_lt_of_le hc a.size) fun k o l ho hl hm hp he => ?_, a.frame c hc hno]
    rcases a.own k o l ho hl hp with hge | ⟨k0, o0, l0, h0, hl0, hp0, heq, hm0⟩
    · omega
    · exact hno k0 o0 l0 h0 hl0 (hm0 hm) hp0 (heq.trans he)
  own := fun k o l ho hl hp => by
    rcases b.own k o l ho hl hp with hge | ⟨k1, o1, l1, h1, hl1, hp1, heq, hm1⟩
    · exact .inl (Nat.le_trans a.size hge)
    · rcases a.own k1 o1 l1 h1 hl1 hp1 with hge | ⟨k0, o0, l0, h0, hl0, hp0, heq0, hm0⟩
      · exact .inl (by omega)
      · exact .inr ⟨k0, o0, l0, h0, hl0, hp0, heq0.trans heq, fun hm => hm0 (hm1 hm)⟩

/-! ## Frames -/

abbrev Env := Nat → Value

def Env.put (env : Env) (dst : Option Tmp) (v : Value) : Env :=
  match dst with
  | some d => fun t => if t = d then v else env t
  | none => env

def aeval (env : Env) : Operand → Value
  | .tmp t => env t
  | .const v => v
  | .global g => .pointer (some ⟨g, 0, none⟩)
  | .func f => .func (.func f) #[] #[]

structure EnvRel (m : Map) (h : AHeap) (n : Nat) (env : Env) (a : Act) : Prop where
  size : a.tmps.size = n
  defers : a.defers = []
  vals : ∀ t, VRel m h (env t) (a.tmps.getD t undef)

theorem EnvRel.mono {m h m' h' n env a} (e : EnvRel m h n env a) (x : Ext m h m' h') : EnvRel m' h' n env a :=
  ⟨e.size, e.defers, fun t => (e.vals t).mono x⟩

theorem VRel.undef (m : Map) (h : AHeap) : VRel m h undef undef := .tuple rfl fun i h1 _ => by simp at h1

theorem EnvRel.put {m h n env a} (e : EnvRel m h n env a) {dst : Option Tmp} (hd : ∀ d, dst = some d → d < n) {v r : Value} (hv : VRel m h v r) :
    EnvRel m h n (env.put dst v) (a.put dst r) := by
  cases dst with
  | none => exact e
  | some d =>
    have hdn := hd d rfl
    have hs := e.size
    refine ⟨by simp [Act.put, e.size], by simp [Act.put, e.defers], fun t => ?_⟩
    by_cases ht : t = d
    · subst ht
      simpa [Env.put, Act.put, Array.getD_eq_getD_getElem?, Array.getElem?_setIfInBounds, hs, hdn] using hv
    · have := e.vals t
      simpa [Env.put, Act.put, ht, Array.getD_eq_getD_getElem?, Array.getElem?_setIfInBounds, Ne.symm ht] using this

/-- A constant of the text: no reference in it. -/
def isConst : Value → Bool
  | .agg cs => cs.toList.all isPrim
  | .tuple cs => cs.toList.all isPrim
  | v => isPrim v

theorem VRel.const (m : Map) (h : AHeap) {v : Value} (hc : isConst v = true) : VRel m h v v := by
  unfold isConst at hc
  split at hc
  · exact .agg rfl fun i h1 _ => .prim (List.all_eq_true.1 hc _ (by simp))
  · exact .tuple rfl fun i h1 _ => .prim (List.all_eq_true.1 hc _ (by simp))
  · exact .prim hc

/-! ## Contracts -/

def VRels (m : Map) (h : AHeap) (vs : List Value) (rs : Array Value) : Prop :=
  vs.length = rs.size ∧ ∀ (i : Nat) (v r : Value), vs[i]? = some v → rs[i]? = some r → VRel m h v r

def callB (P : Program) (f : FuncId) : Bool :=
  match P.funcs[f]? with
  | some fn => !(fn.name == "runtime.NumGoroutine") && fn.body.isSome
  | none => false

/-- The contract of a function over abstract heaps. -/
def Tri (P : Program) (f : FuncId) (args : List Value) (h : AHeap) (R : Value → AHeap → Prop) : Prop :=
  callB P f = true ∧ ∀ m w rs, Rel m h w → VRels m h args rs → Calls P f rs w fun e w' =>
    ∃ v r m' h', e = .returned r ∧ Rel m' h' w' ∧ Step m h w m' h' w' ∧ VRel m' h' v r ∧ R v h'

theorem Tri.mono {P f args h} {R R' : Value → AHeap → Prop} (t : Tri P f args h R) (hr : ∀ v h', R v h' → R' v h') : Tri P f args h R' :=
  ⟨t.1, fun m w rs hrel hvs => (t.2 m w rs hrel hvs).mono fun _ _ ⟨v, r, m', h', p1, p2, p3, p4, p5⟩ => ⟨v, r, m', h', p1, p2, p3, p4, hr _ _ p5⟩⟩

/-- The abstract wp of a piece of code. -/
def AWp (P : Program) (n : Nat) (c : Code) (Q : Exit → Env → AHeap → Prop) (env : Env) (h : AHeap) : Prop :=
  ∀ m w a, Rel m h w → EnvRel m h n env a → c.wp P (fun e a' w' =>
    ∃ m' env' h', Rel m' h' w' ∧ Step m h w m' h' w' ∧ EnvRel m' h' n env' a' ∧ Q e env' h') a w

theorem AWp.mono {P n c} {Q Q' : Exit → Env → AHeap → Prop} {env h} (a : AWp P n c Q env h) (hq : ∀ e env h, Q e env h → Q' e env h) : AWp P n c Q' env h :=
  fun m w x hr he => wp_mono (a m w x hr he) fun _ _ _ ⟨m', env', h', p1, p2, p3, p4⟩ => ⟨m', env', h', p1, p2, p3, hq _ _ _ p4⟩

def AThen (K : Env → AHeap → Prop) (Q : Exit → Env → AHeap → Prop) : Exit → Env → AHeap → Prop
  | .normal, env, h => K env h
  | e, env, h => Q e env h

def ABlock (id : Nat) (Q : Exit → Env → AHeap → Prop) : Exit → Env → AHeap → Prop
  | .exit id', env, h => if id' = id then Q .normal env h else Q (.exit id') env h
  | e, env, h => Q e env h

section rules
variable {P : Program} {n : Nat} {Q : Exit → Env → AHeap → Prop} {env : Env} {h : AHeap}

theorem awp_skip (hq : Q .normal env h) : AWp P n .skip Q env h :=
  fun m _ _ hr he => wp_skip ⟨m, env, h, hr, Step.refl, he, hq⟩
theorem awp_exit {id : Nat} (hq : Q (.exit id) env h) : AWp P n (.exit id) Q env h :=
  fun m _ _ hr he => wp_exit ⟨m, env, h, hr, Step.refl, he, hq⟩
theorem awp_ret (hq : Q .ret env h) : AWp P n .ret Q env h :=
  fun m _ _ hr he => wp_ret ⟨m, env, h, hr, Step.refl, he, hq⟩

theorem awp_seq {x y : Code} (hx : AWp P n x (AThen (AWp P n y Q) Q) env h) : AWp P n (.seq x y) Q env h := by
  intro m w a hr he
  refine wp_seq (wp_mono (hx m w a hr he) ?_)
  rintro e a1 w1 ⟨m1, env1, h1, r1, s1, e1, q1⟩
  cases e with
  | normal =>
    refine wp_mono (q1 m1 w1 a1 r1 e1) ?_
    rintro e2 a2 w2 ⟨m2, env2, h2, r2, s2, e2', q2⟩
    exact ⟨m2, env2, h2, r2, s1.trans s2, e2', q2⟩
  | _ => exact ⟨m1, env1, h1, r1, s1, e1, q1⟩

theorem awp_block {id : Nat} {c : Code} (hc : AWp P n c (ABlock id Q) env h) : AWp P n (.block id c) Q env h := by
  intro m w a hr he
  refine wp_block (wp_mono (hc m w a hr he) ?_)
  rintro e a1 w1 ⟨m1, env1, h1, r1, s1, e1, q1⟩
  cases e with
  | exit id' =>
    simp only [ABlock] at q1
    simp only [Exit.inBlock]
    split <;> rename_i hid <;> simp only [hid, if_true, if_false] at q1
    · exact ⟨m1, env1, h1, r1, s1, e1, q1⟩
    · exact ⟨m1, env1, h1, r1, s1, e1, by simpa [hid] using q1⟩
  | _ => exact ⟨m1, env1, h1, r1, s1, e1, q1⟩

theorem VRel.bool {m h} {b : Bool} {r : Value} (hv : VRel m h (.bool b) r) : r = .bool b := by cases hv; rfl
theorem VRel.int {m h} {k : IntKind} {z : Int} {r : Value} (hv : VRel m h (.int k z) r) : r = .int k z := by cases hv; rfl

theorem EnvRel.eval {m a} (he : EnvRel m h n env a) (x : Operand) (hx : ∀ v, x = .const v → isConst v = true) (hg : ∀ g, x ≠ .global g) :
    VRel m h (aeval env x) (a.eval x) := by
  cases x with
  | tmp t => exact he.vals t
  | const v => exact .const _ _ (hx v rfl)
  | global g => exact absurd rfl (hg g)
  | func f => exact .func rfl rfl (fun i h1 _ => by simp at h1) (fun i h1 _ => by simp at h1)

theorem awp_cond {t : Tmp} {x y : Code} {b : Bool} (hc : env t = .bool b) (hx : AWp P n (if b then x else y) Q env h) : AWp P n (.cond (.tmp t) x y) Q env h := by
  intro m w a hr he
  have hv := he.vals t
  rw [hc] at hv
  exact wp_cond (t := b) (by simpa [Act.eval] using hv.bool) (hx m w a hr he)

/-- A loop: 'S' over a state that falls. -/
theorem awp_loop {c : Code} {σ : Type} (I : σ → Env → AHeap → Prop) (μ : σ → Nat) (s : σ) (h0 : I s env h)
    (round : ∀ s env h, I s env h → AWp P n c (AThen (fun env' h' => ∃ s', I s' env' h' ∧ μ s' < μ s) Q) env h) : AWp P n (.loop c) Q env h := by
  intro m w a hr he b k cs
  have key : ∀ N s env1 h1 m1 w1 a1, μ s = N → I s env1 h1 → Rel m1 h1 w1 → Step m h w m1 h1 w1 → EnvRel m1 h1 n env1 a1 →
      ∃ e a' w', (∃ m' env' h', Rel m' h' w' ∧ Step m h w m' h' w' ∧ EnvRel m' h' n env' a' ∧ Q e env' h') ∧
        Arrives P (lone (b.at a1 (.code c :: .inLoop c :: k)) cs w1) b k cs e a' w' := by
    intro N
    induction N using Nat.strongRecOn with
    | _ N ih =>
      intro s env1 h1 m1 w1 a1 hn hI hr1 hs1 he1
      obtain ⟨e, a2, w2, ⟨m2, env2, h2, r2, s2, e2, q2⟩, harr⟩ := round s env1 h1 hI m1 w1 a1 hr1 he1 b (.inLoop c :: k) cs
      cases e with
      | normal =>
        obtain ⟨s', hI', hlt⟩ := q2
        obtain ⟨e3, a3, w3, hq3, harr3⟩ := ih (μ s') (hn ▸ hlt) s' env2 h2 m2 w2 a2 rfl hI' r2 (hs1.trans s2) e2
        exact ⟨e3, a3, w3, hq3, .of_steps (Steps.trans harr (.one step_inLoop)) harr3⟩
      | exit id => exact ⟨_, a2, w2, ⟨m2, env2, h2, r2, hs1.trans s2, e2, q2⟩, .pass (x := .inLoop c) rfl (fun _ _ => .inl (by simp)) harr⟩
      | goto l => exact ⟨_, a2, w2, ⟨m2, env2, h2, r2, hs1.trans s2, e2, q2⟩, .pass (x := .inLoop c) rfl (fun _ _ => .inl (by simp)) harr⟩
      | ret => exact ⟨_, a2, w2, ⟨m2, env2, h2, r2, hs1.trans s2, e2, q2⟩, .pass (x := .inLoop c) rfl (fun _ _ => .inl (by simp)) harr⟩
      | panic ch => exact ⟨_, a2, w2, ⟨m2, env2, h2, r2, hs1.trans s2, e2, q2⟩, .pass (x := .inLoop c) rfl (fun _ _ => .inl (by simp)) harr⟩
      | outgrown => exact ⟨_, a2, w2, ⟨m2, env2, h2, r2, hs1.trans s2, e2, q2⟩, .pass (x := .inLoop c) rfl (fun _ _ => .inl (by simp)) harr⟩
  obtain ⟨e, a', w', hq, harr⟩ := key _ s env h m w a rfl h0 hr (Step.refl) he
  exact ⟨e, a', w', hq, .of_steps (.one step_loop) harr⟩

end rules
end Go.Am

namespace Go.Am
set_option linter.unusedSimpArgs false
set_option linter.unusedVariables false

def okX : Operand → Bool
  | .tmp _ => true
  | .const v => isConst v
  | .func _ => true
  | .global _ => false

/-- The operation's operands stand for one another. -/
def OpsRel (m : Map) (h : AHeap) (env : Env) (a : Act) (o : Oper) : Prop :=
  ∀ x, x ∈ o.op.operands.toList → VRel m h (aeval env x) (a.eval x)

/-- What one operation gives. -/
def AOp (P : Program) (o : Oper) (K : Value → AHeap → Prop) (env : Env) (h : AHeap) : Prop :=
  ∀ m w a, Rel m h w → OpsRel m h env a o → o.wp P a w (fun a' w' =>
    ∃ v r m' h', a' = a.put o.dst r ∧ Rel m' h' w' ∧ Step m h w m' h' w' ∧ VRel m' h' v r ∧ K v h') (fun _ _ _ => False)

def wantedA (ops : Array Oper) (env : Env) (o : Oper) : Option Bool :=
  match o.guard with
  | none => some true
  | some (j, want) =>
    match (ops[j]?).bind (·.dst) with
    | none => some false
    | some d =>
      match env d with
      | .bool b => some (b == want)
      | .tuple _ => some false
      | _ => none

theorem wantedA_spec {m h n env a} {ops : Array Oper} {o : Oper} {b : Bool} (he : EnvRel m h n env a) (hw : wantedA ops env o = some b) :
    Region.wanted o (yielded ops a.tmps) = b := by
  unfold wantedA at hw
  unfold Region.wanted
  split at hw <;> rename_i hg <;> simp only [hg]
  · simpa using hw
  · rename_i j want
    unfold yielded
    split at hw <;> rename_i hd <;> simp only [hd]
    · simp only [Option.bind_none, Option.some.injEq] at hw ⊢; subst hw; rfl
    · rename_i d
      have hv := he.vals d
      have hq : ∀ r, a.tmps.getD d undef = r → (∀ x, r ≠ .bool x) → (match a.tmps[d]? with | some (Value.bool b) => some b | _ => none) = none := by
        intro r hr hx
        cases ht : a.tmps[d]? with
        | none => rfl
        | some y =>
          have : a.tmps.getD d undef = y := by simp [Array.getD_eq_getD_getElem?, ht]
          rw [this] at hr; subst hr
          cases y <;> first | rfl | exact absurd rfl (hx _)
      simp only [Option.bind_some]
      split at hw <;> rename_i he
      · rename_i x
        rw [he] at hv
        have hb := hv.bool
        cases ht : a.tmps[d]? with
        | none => simp [Array.getD_eq_getD_getElem?, ht, undef] at hb
        | some y =>
          have : y = .bool x := by simpa [Array.getD_eq_getD_getElem?, ht] using hb
          subst this
          simp only [Option.some.injEq] at hw
          subst hw
          cases x <;> cases want <;> rfl
      · rw [he] at hv
        have hn := hq _ rfl (by intro x hx; rw [hx] at hv; cases hv)
        simp only [Option.some.injEq] at hw; subst hw
        cases ht : a.tmps[d]? with
        | none => rfl
        | some y => rw [ht] at hn; cases y <;> first | rfl | (simp at hn)
      · cases hw

/-- A region's operations, one behind the other. -/
def ARun (P : Program) (ops : Array Oper) (K : Env → AHeap → Prop) : List Oper → Env → AHeap → Prop
  | [], env, h => K env h
  | o :: os, env, h =>
    (wantedA ops env o = some true ∧ AOp P o (fun v h' => ARun P ops K os (env.put o.dst v) h') env h) ∨
    (wantedA ops env o = some false ∧ ARun P ops K os (env.put o.dst undef) h)

theorem Oper.wp_mono2 {P : Program} {o : Oper} {a : Act} {w : World} {K K' : Act → World → Prop} {Q : Exit → Act → World → Prop}
    (h : ∀ a w, K a w → K' a w) (hh : o.wp P a w K (fun _ _ _ => False)) : o.wp P a w K' Q := by
  unfold Oper.wp at *
  generalize (execOp a.eval o).run P w = r at *
  cases r with
  | ok n w' =>
    cases n <;> simp only [Oper.upon] at hh ⊢ <;>
      first
        | exact h _ _ hh
        | exact Calls.mono hh (fun e w'' he => by
            cases e <;> first
              | exact h _ _ he
              | exact he.elim
              | (obtain ⟨_, _, hf⟩ := he; exact hf.elim))
        | exact Rows.mono hh (fun _ _ he => h _ _ he)
  | halt x w' => cases x <;> simp only [Oper.upon] at hh ⊢

def dstsIn (n : Nat) (ops : List Oper) : Bool := ops.all fun o =>
  (match o.dst with | some d => decide (d < n) | none => true) && o.op.operands.toList.all okX

theorem EnvRel.ops {m h n env a} {o : Oper} (he : EnvRel m h n env a) (hx : o.op.operands.toList.all okX = true) : OpsRel m h env a o := by
  intro x hm
  have := List.all_eq_true.1 hx x hm
  exact he.eval x (fun v hv => by subst hv; exact this) (fun g hg => by subst hg; cases this)

theorem arun_sound {P : Program} {n : Nat} {ops : Array Oper} {Q : Exit → Env → AHeap → Prop} {m0 h0 w0} :
    ∀ (l : List Oper) (env : Env) (h : AHeap) (m : Map) (w : World) (a : Act), dstsIn n l = true → ARun P ops (Q .normal) l env h →
      Rel m h w → Step m0 h0 w0 m h w → EnvRel m h n env a →
      wpList P ops (fun e a' w' => ∃ m' env' h', Rel m' h' w' ∧ Step m0 h0 w0 m' h' w' ∧ EnvRel m' h' n env' a' ∧ Q e env' h') l a w
  | [], env, h, m, w, a, _, hq, hr, hs, he => wpList_nil ⟨m, env, h, hr, hs, he, hq⟩
  | o :: os, env, h, m, w, a, hd, hq, hr, hs, he => by
    simp only [dstsIn, List.all_cons, Bool.and_eq_true] at hd
    obtain ⟨⟨hd1, hd2⟩, hd3⟩ := hd
    have hdst : ∀ d, o.dst = some d → d < n := fun d hx => by simpa [hx] using hd1
    rcases hq with ⟨hw, hq⟩ | ⟨hw, hq⟩
    · have hw' := wantedA_spec he hw
      simp only [wpList, hw', if_true]
      refine .inl (Oper.wp_mono2 ?_ (hq m w a hr (he.ops hd2)))
      rintro a1 w1 ⟨v, r, m1, h1, rfl, r1, s1, v1, k1⟩
      exact arun_sound os _ _ m1 w1 _ hd3 k1 r1 (hs.trans s1) ((he.mono s1.toExt).put hdst v1)
    · have hw' := wantedA_spec he hw
      simp only [wpList, hw', Bool.false_eq_true, if_false]
      exact arun_sound os _ _ m w _ hd3 hq hr hs (he.put hdst (.undef m h))

theorem awp_region {P : Program} {n id : Nat} {l : List Oper} {Q : Exit → Env → AHeap → Prop} {env : Env} {h : AHeap} (hd : dstsIn n l = true)
    (hr : ARun P l.toArray (Q .normal) l env h) : AWp P n (.region id l.toArray false) Q env h :=
  fun _ _ _ r e => wp_region_lit (arun_sound l env h _ _ _ hd hr r Step.refl e)

section
variable {P : Program} {ops : Array Oper} {K : Env → AHeap → Prop} {o : Oper} {os : List Oper} {env : Env} {h : AHeap}
end

/-! ## The operations -/

theorem AOp.of_run {P : Program} {o : Oper} {K : Value → AHeap → Prop} {env : Env} {h : AHeap}
    (H : ∀ m w a, Rel m h w → OpsRel m h env a o → ∃ v r m' h' w', (execOp a.eval o).run P w = .ok (.value r) w' ∧
      Rel m' h' w' ∧ Step m h w m' h' w' ∧ VRel m' h' v r ∧ K v h') : AOp P o K env h := by
  intro m w a hr ho
  obtain ⟨v, r, m', h', w', hrun, p1, p2, p3, p4⟩ := H m w a hr ho
  unfold Oper.wp
  rw [hrun]
  exact ⟨v, r, m', h', rfl, p1, p2, p3, p4⟩

theorem AOp.of_pure {P : Program} {o : Oper} {K : Value → AHeap → Prop} {env : Env} {h : AHeap} (v : Value)
    (H : ∀ m w a, Rel m h w → OpsRel m h env a o → ∃ r, (execOp a.eval o).run P w = .ok (.value r) w ∧ VRel m h v r) (hK : K v h) : AOp P o K env h :=
  AOp.of_run fun m w a hr ho => by
    obtain ⟨r, hrun, hv⟩ := H m w a hr ho
    exact ⟨v, r, m, h, w, hrun, hr, Step.refl, hv, hK⟩

section
variable {P : Program} {K : Value → AHeap → Prop} {env : Env} {h : AHeap} {dst : Option Tmp} {ty : TypeId} {pos : String} {after : Array Edge} {guard : Option (Nat × Bool)}

theorem aop_move {x : Operand} (hK : K (aeval env x) h) : AOp P ⟨dst, .move x, ty, pos, after, guard⟩ K env h :=
  .of_pure _ (fun m w a _ ho => ⟨a.eval x, by simp [execOp], ho x (by simp [Op.operands])⟩) hK

theorem aop_assign {x : Operand} (hK : K (aeval env x) h) : AOp P ⟨dst, .assign x, ty, pos, after, guard⟩ K env h :=
  .of_pure _ (fun m w a _ ho => ⟨a.eval x, by simp [execOp], ho x (by simp [Op.operands])⟩) hK

theorem aop_pick {c x y : Operand} {b : Bool} (hc : aeval env c = .bool b) (hK : K (if b then aeval env x else aeval env y) h) :
    AOp P ⟨dst, .pick c x y, ty, pos, after, guard⟩ K env h :=
  .of_pure _ (fun m w a _ ho => by
    have hv := ho c (by simp [Op.operands])
    rw [hc] at hv
    refine ⟨if b then a.eval x else a.eval y, by simp [execOp, hv.bool, asBool], ?_⟩
    cases b
    · exact ho y (by simp [Op.operands])
    · exact ho x (by simp [Op.operands])) hK

def binInt (op : BinOp) (k : IntKind) (p q : Int) : Option Value :=
  match op with
  | .add => some (.int k (k.wrap (p + q)))
  | .sub => some (.int k (k.wrap (p - q)))
  | .mul => some (.int k (k.wrap (p * q)))
  | .quo => if q = 0 then none else some (.int k (k.wrap (p.tdiv q)))
  | .rem => if q = 0 then none else some (.int k (p.tmod q))
  | .and => some (.int k (bits .and k p q))
  | .or => some (.int k (bits .or k p q))
  | .xor => some (.int k (bits .xor k p q))
  | .andNot => some (.int k (bits .andNot k p q))
  | .eql => some (.bool (p == q))
  | .neq => some (.bool (p != q))
  | .lss => some (.bool (decide (p < q)))
  | .leq => some (.bool (decide (p ≤ q)))
  | .gtr => some (.bool (decide (p > q)))
  | .geq => some (.bool (decide (p ≥ q)))
  | _ => none

theorem run_binInt {op : BinOp} {t : TypeId} {k : IntKind} {p q : Int} {v : Value} (hv : binInt op k p q = some v) (w : World) :
    (binOp op t (.int k p) (.int k q)).run P w = .ok v w := by
  cases op <;> simp only [binInt, Option.some.injEq, reduceCtorEq] at hv <;>
    first
      | (subst hv; simp [binOp, Op.intArith, Op.intCmp, Op.intBits, bits]; done)
      | (split at hv <;> simp only [Option.some.injEq, reduceCtorEq] at hv; subst hv; simp [binOp, Op.intDiv, *])

theorem VRel.of_binInt {m : Map} {op : BinOp} {k : IntKind} {p q : Int} {v : Value} (hv : binInt op k p q = some v) : VRel m h v v := by
  cases op <;> simp only [binInt, Option.some.injEq, reduceCtorEq] at hv <;>
    first
      | (subst hv; exact .prim rfl)
      | (split at hv <;> simp only [Option.some.injEq, reduceCtorEq] at hv; subst hv; exact .prim rfl)

theorem aop_bin {op : BinOp} {t yt : TypeId} {x y : Operand} {k : IntKind} {p q : Int} {v : Value} (hx : aeval env x = .int k p) (hy : aeval env y = .int k q)
    (hv : binInt op k p q = some v) (hK : K v h) : AOp P ⟨dst, .binOp op t x y yt, ty, pos, after, guard⟩ K env h :=
  .of_pure v (fun m w a _ ho => by
    have h1 := ho x (by simp [Op.operands])
    have h2 := ho y (by simp [Op.operands])
    rw [hx] at h1; rw [hy] at h2
    refine ⟨v, ?_, .of_binInt hv⟩
    simp [execOp, h1.int, h2.int, eqGuard_at_int, run_binInt hv]) hK

theorem aop_shift {op : BinOp} {t yt : TypeId} {x y : Operand} {k ky : IntKind} {p q : Int} {z : Int} (hx : aeval env x = .int k p) (hy : aeval env y = .int ky q)
    (hq : 0 ≤ q) (hv : (op = .shl ∧ z = k.wrap (p * 2 ^ (min q.toNat k.bits))) ∨ (op = .shr ∧ z = p.fdiv (2 ^ (min q.toNat k.bits))))
    (hK : K (.int k z) h) : AOp P ⟨dst, .binOp op t x y yt, ty, pos, after, guard⟩ K env h :=
  .of_pure (.int k z) (fun m w a _ ho => by
    have h1 := ho x (by simp [Op.operands])
    have h2 := ho y (by simp [Op.operands])
    rw [hx] at h1; rw [hy] at h2
    have hq' : ¬ q < 0 := by omega
    refine ⟨.int k z, ?_, .prim rfl⟩
    rcases hv with ⟨rfl, rfl⟩ | ⟨rfl, rfl⟩ <;>
      simp [execOp, h1.int, h2.int, eqGuard_at_int, binOp, Op.shift, hq']) hK

theorem aop_not {t : TypeId} {x : Operand} {b : Bool} (hx : aeval env x = .bool b) (hK : K (.bool (!b)) h) : AOp P ⟨dst, .unOp .not t x, ty, pos, after, guard⟩ K env h :=
  .of_pure _ (fun m w a _ ho => by
    have h1 := ho x (by simp [Op.operands])
    rw [hx] at h1
    exact ⟨.bool (!b), by simp [execOp, h1.bool, Op.unary], .prim rfl⟩) hK

theorem aop_conv_int {src d : TypeId} {x : Operand} {k kd : IntKind} {p : Int} {sd : TypeDesc} (hs : P.underlying src = some sd) (hd : P.underlying d = some (.int kd))
    (hx : aeval env x = .int k p) (hK : K (.int kd (kd.wrap p)) h) : AOp P ⟨dst, .convert src d x, ty, pos, after, guard⟩ K env h :=
  .of_pure _ (fun m w a _ ho => by
    have h1 := ho x (by simp [Op.operands])
    rw [hx] at h1
    exact ⟨.int kd (kd.wrap p), by simp [execOp, h1.int, convert, run_underlying hs, run_underlying hd, Conv.intToInt], .prim rfl⟩) hK

theorem aop_nilCheck {x : Operand} {ad : Addr} (hx : aeval env x = .pointer (some ad)) (hK : K (aeval env x) h) : AOp P ⟨dst, .nilCheck x, ty, pos, after, guard⟩ K env h :=
  .of_pure _ (fun m w a _ ho => by
    have h1 := ho x (by simp [Op.operands])
    refine ⟨a.eval x, ?_, h1⟩
    rw [hx] at h1
    obtain ⟨b, hb⟩ : ∃ b, a.eval x = .pointer (some b) := by
      generalize a.eval x = r at h1
      cases h1 with
      | prim hp => simp [isPrim] at hp
      | ptr _ _ hs _ => exact hs
    simp [execOp, hb]) hK

theorem aop_extract {x : Operand} {i : Nat} {vs : Array Value} {v : Value} (hx : aeval env x = .tuple vs) (hv : vs[i]? = some v) (hK : K v h) :
    AOp P ⟨dst, .extract x i, ty, pos, after, guard⟩ K env h :=
  .of_pure _ (fun m w a _ ho => by
    have h1 := ho x (by simp [Op.operands])
    rw [hx] at h1
    obtain ⟨hi, hvi⟩ := Array.getElem?_eq_some_iff.1 hv
    obtain ⟨b, hb, hs, hc⟩ : ∃ b : Array Value, a.eval x = .tuple b ∧ vs.size = b.size ∧ ∀ i (h1 : i < vs.size) (h2 : i < b.size), VRel m h vs[i] b[i] := by
      generalize a.eval x = r at h1
      cases h1 with
      | prim hp => simp [isPrim] at hp
      | tuple hs hc => exact ⟨_, rfl, hs, hc⟩
    have hb' : b[i]? = some (b[i]'(by omega)) := Array.getElem?_eq_getElem _
    exact ⟨b[i]'(by omega), by simp [execOp, hb, Instr.extract, hb'], hvi ▸ hc i hi (by omega)⟩) hK

end
end Go.Am

namespace Go.Am
set_option linter.unusedSimpArgs false
set_option linter.unusedVariables false
open Go.RowKit

theorem Rel.block_lt {m h w} (hr : Rel m h w) {k : Nat} {o : AObj} {l : Loc} (ho : h[k]? = some o) (hl : m k = some l) (hp : 0 < o.cells.length) : l.block < w.heap.size := by
  obtain ⟨c, ty, fz, hb, _⟩ := hr.holds k o l ho hl hp
  exact (Array.getElem?_eq_some_iff.1 hb).1

theorem lookup_push {h : AHeap} {k : Nat} {o x : AObj} (hk : (h ++ [o])[k]? = some x) : (k < h.length ∧ h[k]? = some x) ∨ (k = h.length ∧ x = o) := by
  rw [List.getElem?_append] at hk
  split at hk
  · exact .inl ⟨‹_›, hk⟩
  · rename_i hge
    have : k - h.length = 0 := by
      rcases Nat.lt_or_ge (k - h.length) 1 with h1 | h1
      · omega
      · rw [List.getElem?_eq_none (by simpa using h1)] at hk; cases hk
    rw [this] at hk
    exact .inr ⟨by omega, by simpa using hk.symm⟩

def Map.push (m : Map) (k : Nat) (l : Loc) : Map := fun i => if i = k then some l else m i

/-- A new block of the call's own. -/
theorem Rel.push {m h w} (hr : Rel m h w) {c : Array Value} {ty : TypeId} {o : AObj} (hs : o.cells.length ≤ c.size)
    (hv : ∀ i (hi : i < o.cells.length), ∃ r, c[i]? = some r ∧ VRel m h o.cells[i] r) :
    Rel (m.push h.length ⟨w.heap.size, 0, c.size⟩) (h ++ [o]) (w.alloc (.cells c ty)) ∧
    Step m h w (m.push h.length ⟨w.heap.size, 0, c.size⟩) (h ++ [o]) (w.alloc (.cells c ty)) := by
  have old : ∀ {k x}, h[k]? = some x → k < h.length ∧ (h ++ [o])[k]? = some x := fun {k x} hk => by
    have hlt := (List.getElem?_eq_some_iff.1 hk).1
    exact ⟨hlt, by rw [List.getElem?_append_left hlt]; exact hk⟩
  have mold : ∀ {k}, k < h.length → m.push h.length ⟨w.heap.size, 0, c.size⟩ k = m k := fun {k} hk => by
    simp [Map.push, Nat.ne_of_lt hk]
  have mnew : m.push h.length ⟨w.heap.size, 0, c.size⟩ h.length = some ⟨w.heap.size, 0, c.size⟩ := by simp [Map.push]
  have ex : Ext m h (m.push h.length ⟨w.heap.size, 0, c.size⟩) (h ++ [o]) := fun k x hk => by
    obtain ⟨h1, h2⟩ := old hk
    exact ⟨x, h2, Nat.le_refl _, rfl, rfl, fun l hl => ⟨l, by rw [mold h1]; exact hl, fun _ => rfl⟩⟩
  have hblk : ∀ b, b < w.heap.size → (w.alloc (.cells c ty)).heap[b]? = w.heap[b]? := fun b hb => Below.heap_alloc _ _ _ hb
  have hnew : (w.alloc (.cells c ty)).heap[w.heap.size]? = some (.cells c ty) := by
    show (w.heap.push _)[w.heap.size]? = _
    simp
  refine ⟨⟨?_, ?_, ?_⟩, ⟨?_, by simp, rfl, rfl, rfl, fun b hb _ => hblk b hb, ?_⟩⟩
  · intro k x l hk hl hp
    rcases lookup_push hk with ⟨h1, h2⟩ | ⟨rfl, rfl⟩
    · rw [mold h1] at hl
      obtain ⟨c0, ty0, fz, hb, hc, hm⟩ := hr.holds k x l h2 hl hp
      refine ⟨c0, ty0, fz, by rw [hblk _ (hr.block_lt h2 hl hp)]; exact hb, fun i hi => ?_, hm⟩
      obtain ⟨r, hr1, hr2⟩ := hc i hi
      exact ⟨r, hr1, hr2.mono ex⟩
    · rw [mnew] at hl
      cases hl
      refine ⟨c, ty, (0, 0), hnew, fun i hi => ?_, fun _ => ⟨rfl, rfl, rfl⟩⟩
      obtain ⟨r, hr1, hr2⟩ := hv i hi
      exact ⟨r, by simpa using hr1, hr2.mono ex⟩
  · intro k1 k2 o1 o2 l1 l2 g1 g2 e1 e2 hne hm p1 p2
    rcases lookup_push g1 with ⟨a1, b1⟩ | ⟨rfl, rfl⟩ <;> rcases lookup_push g2 with ⟨a2, b2⟩ | ⟨a2, b2⟩
    · rw [mold a1] at e1; rw [mold a2] at e2
      exact hr.sep k1 k2 o1 o2 l1 l2 b1 b2 e1 e2 hne hm p1 p2
    · subst a2 b2
      rw [mold a1] at e1; rw [mnew] at e2; cases e2
      exact Nat.ne_of_lt (hr.block_lt b1 e1 p1)
    · rw [mold a2] at e2; rw [mnew] at e1; cases e1
      exact Nat.ne_of_gt (hr.block_lt b2 e2 p2)
    · exact absurd a2.symm hne
  · intro k x hk v hx
    rcases lookup_push hk with ⟨h1, h2⟩ | ⟨rfl, rfl⟩
    · exact (hr.closed k x h2 v hx).mono (by simp)
    · obtain ⟨i, hi, rfl⟩ := List.getElem_of_mem hx
      obtain ⟨r, _, hr2⟩ := hv i hi
      exact (hr2.mono ex).within
  · intro k x hk
    obtain ⟨h1, h2⟩ := old hk
    exact ⟨x, h2, Nat.le_refl _, rfl, rfl, fun l hl => ⟨l, by rw [mold h1]; exact hl, fun _ => rfl⟩, fun hn => by rw [mold h1]; exact hn⟩
  · intro k x l hk hl hp
    rcases lookup_push hk with ⟨h1, h2⟩ | ⟨rfl, rfl⟩
    · rw [mold h1] at hl
      exact .inr ⟨k, x, l, h2, hl, hp, rfl, id⟩
    · rw [mnew] at hl; cases hl
      exact .inl (Nat.le_refl _)

theorem lookup_set {h : AHeap} {k j : Nat} {o x : AObj} (hj : (h.set k o)[j]? = some x) (hk : k < h.length) : (j = k ∧ x = o) ∨ (j ≠ k ∧ h[j]? = some x) := by
  rw [List.getElem?_set] at hj
  split at hj
  · rename_i e
    simp only [Option.some.injEq] at hj
    exact .inl ⟨e.symm, hj.symm⟩
  · rename_i e
    exact .inr ⟨fun h => e h.symm, hj⟩

/-- A block of one's own gets other contents, where it lies ('w'' with the same row of the same size, 'c'') or in a new block (it grows). -/
theorem Rel.rewrite {m h w} (hr : Rel m h w) {k : Nat} {o : AObj} {l l' : Loc} (ho : h[k]? = some o) (hm : o.mine = true) (hl : m k = some l)
    {cs : List Value} {w' : World} {c' : Array Value} {ty : TypeId} (hlen : o.cells.length ≤ cs.length)
    (hw : w'.heap[l'.block]? = some (.cells c' ty)) (hbase : l'.base = 0) (hcap : c'.size = l'.rcap)
    (hplace : (l' = l ∧ 0 < o.cells.length) ∨ (o.cells.length < cs.length ∧ w.heap.size ≤ l'.block))
    (hsize : w.heap.size ≤ w'.heap.size) (hos : w'.os = w.os) (htape : w'.tape = w.tape) (hout : w'.output = w.output)
    (hrest : ∀ b, b < w.heap.size → b ≠ l'.block → w'.heap[b]? = w.heap[b]?)
    (hv : ∀ i (hi : i < cs.length), ∃ r, c'[i]? = some r ∧ VRel m h cs[i] r) :
    Rel (m.push k l') (h.set k ⟨cs, true, o.esz⟩) w' ∧ Step m h w (m.push k l') (h.set k ⟨cs, true, o.esz⟩) w' := by
  have hk := (List.getElem?_eq_some_iff.1 ho).1
  have hnew : (h.set k ⟨cs, true, o.esz⟩)[k]? = some ⟨cs, true, o.esz⟩ := by simp [hk]
  have mk : m.push k l' k = some l' := by simp [Map.push]
  have mo : ∀ {j}, j ≠ k → m.push k l' j = m j := fun {j} hj => by simp [Map.push, hj]
  have hother : ∀ {j x}, j ≠ k → h[j]? = some x → (h.set k ⟨cs, true, o.esz⟩)[j]? = some x := fun {j x} hj hx => by
    rw [List.getElem?_set_ne (fun e => hj e.symm)]; exact hx
  have ex : ∀ (j : Nat) (x : AObj), h[j]? = some x → ∃ o', (h.set k ⟨cs, true, o.esz⟩)[j]? = some o' ∧ x.cells.length ≤ o'.cells.length ∧ o'.mine = x.mine ∧ o'.esz = x.esz ∧
      (∀ l1, m j = some l1 → ∃ l2, m.push k l' j = some l2 ∧ (o'.cells.length = x.cells.length → l2 = l1)) := fun j x hj => by
    by_cases e : j = k
    · subst e
      rw [ho] at hj; cases hj
      refine ⟨_, hnew, hlen, hm.symm, rfl, fun l1 h1 => ⟨l', mk, fun hq => ?_⟩⟩
      rw [hl] at h1; cases h1
      rcases hplace with ⟨h1, _⟩ | ⟨h1, _⟩
      · exact h1
      · simp only at hq; omega
    · exact ⟨x, hother e hj, Nat.le_refl _, rfl, rfl, fun l1 h1 => ⟨l1, by rw [mo e]; exact h1, fun _ => rfl⟩⟩
  have hblk : ∀ {j x lj}, j ≠ k → h[j]? = some x → m j = some lj → 0 < x.cells.length → lj.block ≠ l'.block := fun {j x lj} hj hx hlj hp => by
    rcases hplace with ⟨h1, h2⟩ | ⟨_, h2⟩
    · subst h1
      exact (hr.sep k j o x _ lj ho hx hl hlj (Ne.symm hj) hm h2 hp).symm
    · have := hr.block_lt hx hlj hp; omega
  refine ⟨⟨?_, ?_, ?_⟩, ⟨?_, hsize, hos, htape, hout, ?_, ?_⟩⟩
  · intro j x lj hj hlj hp
    rcases lookup_set hj hk with ⟨rfl, rfl⟩ | ⟨e, hx⟩
    · rw [mk] at hlj; cases hlj
      refine ⟨c', ty, (0, 0), hw, fun i hi => ?_, fun _ => ⟨hbase, rfl, hcap⟩⟩
      obtain ⟨r, h1, h2⟩ := hv i hi
      exact ⟨r, by rw [hbase, Nat.zero_add]; exact h1, h2.mono ex⟩
    · rw [mo e] at hlj
      obtain ⟨c0, ty0, fz, hb, hc, hm0⟩ := hr.holds j x lj hx hlj hp
      refine ⟨c0, ty0, fz, by rw [hrest _ (hr.block_lt hx hlj hp) (hblk e hx hlj hp)]; exact hb, fun i hi => ?_, hm0⟩
      obtain ⟨r, h1, h2⟩ := hc i hi
      exact ⟨r, h1, h2.mono ex⟩
  · intro k1 k2 o1 o2 l1 l2 g1 g2 e1 e2 hne hm1 p1 p2
    rcases lookup_set g1 hk with ⟨a1, b1⟩ | ⟨a1, b1⟩ <;> rcases lookup_set g2 hk with ⟨a2, b2⟩ | ⟨a2, b2⟩
    · exact absurd (a1.trans a2.symm) hne
    · subst a1 b1
      rw [mk] at e1; cases e1; rw [mo a2] at e2
      exact (hblk a2 b2 e2 p2).symm
    · subst a2 b2
      rw [mk] at e2; cases e2; rw [mo a1] at e1
      exact hblk a1 b1 e1 p1
    · rw [mo a1] at e1; rw [mo a2] at e2
      exact hr.sep k1 k2 o1 o2 l1 l2 b1 b2 e1 e2 hne hm1 p1 p2
  · intro j x hj v hx
    rcases lookup_set hj hk with ⟨rfl, rfl⟩ | ⟨e, hx0⟩
    · obtain ⟨i, hi, rfl⟩ := List.getElem_of_mem hx
      obtain ⟨r, _, h2⟩ := hv i hi
      exact (h2.mono ex).within
    · exact (hr.closed j x hx0 v hx).mono (by simp)
  · intro j x hj
    obtain ⟨o', q1, q2, q3, q4, q5⟩ := ex j x hj
    refine ⟨o', q1, q2, q3, q4, q5, fun hn => ?_⟩
    have : j ≠ k := fun e => by subst e; rw [hl] at hn; cases hn
    rw [mo this]; exact hn
  · intro b hb hno
    by_cases e : b = l'.block
    · rcases hplace with ⟨h1, h2⟩ | ⟨_, h2⟩
      · subst h1
        exact absurd e.symm (hno k o _ ho hl hm h2)
      · omega
    · exact hrest b hb e
  · intro j x lj hj hlj hp
    rcases lookup_set hj hk with ⟨rfl, rfl⟩ | ⟨e, hx⟩
    · rw [mk] at hlj; cases hlj
      rcases hplace with ⟨h1, h2⟩ | ⟨_, h2⟩
      · subst h1
        exact .inr ⟨_, o, _, ho, hl, h2, rfl, fun _ => hm⟩
      · exact .inl h2
    · rw [mo e] at hlj
      exact .inr ⟨j, x, lj, hx, hlj, hp, rfl, id⟩

end Go.Am

namespace Go.Am
set_option linter.unusedSimpArgs false
set_option linter.unusedVariables false
open Go.RowKit

theorem VRel.pointer_inv {m h} {k off ver : Nat} {r : Value} (hv : VRel m h (.pointer (some ⟨k, off, some ver⟩)) r) {o : AObj} (ho : h[k]? = some o) (hver : o.cells.length = ver) :
    ∃ l, m k = some l ∧ r = .pointer (some ⟨l.block, l.base + off, none⟩) := by
  cases hv with
  | prim hp => simp [isPrim] at hp
  | ptr ho' _ _ hr =>
    rw [ho] at ho'; cases ho'
    exact hr hver.symm

theorem VRel.slice_inv {m h} {k off ver len cap : Nat} {r : Value} (hv : VRel m h (.slice (some ⟨k, off, some ver⟩) len cap) r) {o : AObj} (ho : h[k]? = some o) (hver : o.cells.length = ver) :
    ∃ l, m k = some l ∧ SliceAt o l off len cap r := by
  cases hv with
  | prim hp => simp [isPrim] at hp
  | slice ho' _ _ hr =>
    rw [ho] at ho'; cases ho'
    exact hr hver.symm

theorem VRel.nil_inv {m h} {r : Value} (hv : VRel m h (.slice none 0 0) r) : r = .slice none 0 0 := by
  cases hv; rfl

theorem VRel.cells {m h} {v r : Value} (hv : VRel m h v r) : v.cells.size = r.cells.size ∧ ∀ i (h1 : i < v.cells.size) (h2 : i < r.cells.size), VRel m h v.cells[i] r.cells[i] := by
  have one : ∀ {v r : Value}, v.cells = #[v] → r.cells = #[r] → VRel m h v r → v.cells.size = r.cells.size ∧ ∀ i (h1 : i < v.cells.size) (h2 : i < r.cells.size), VRel m h v.cells[i] r.cells[i] := by
    intro v r e1 e2 hv
    refine ⟨by rw [e1, e2]; rfl, fun i h1 h2 => ?_⟩
    have hi : i = 0 := by rw [e1] at h1; simpa using h1
    subst hi
    simpa [e1, e2] using hv
  cases hv with
  | agg hs hc => exact ⟨hs, hc⟩
  | prim hp =>
    cases v <;> first | exact one rfl rfl (.prim hp) | (simp [isPrim] at hp)
  | ptr a b c d => obtain ⟨x, rfl⟩ := c; exact one rfl rfl (.ptr a b ⟨_, rfl⟩ d)
  | slice a b c d => obtain ⟨x, y, z, rfl⟩ := c; exact one rfl rfl (.slice a b ⟨_, _, _, rfl⟩ d)
  | tuple hs hc => exact one rfl rfl (.tuple hs hc)
  | func a b c d => exact one rfl rfl (.func a b c d)
  | iface a => exact one rfl rfl (.iface a)
  | any a => rcases a.num with ⟨k, b, rfl⟩ | ⟨k, x, b, rfl⟩ <;> exact one rfl rfl (.any a)

def oneCellA : Value → Bool
  | .agg _ | .tuple _ => false
  | _ => true

theorem VRel.oneCell {m h} {v r : Value} (hv : VRel m h v r) (h1 : oneCellA v = true) : r.oneCell' = true ∧ r.cells = #[r] := by
  cases hv with
  | agg hs hc => simp [oneCellA] at h1
  | prim hp => cases v <;> first | exact ⟨rfl, rfl⟩ | (simp [isPrim] at hp)
  | ptr a b c d => obtain ⟨x, rfl⟩ := c; exact ⟨rfl, rfl⟩
  | slice a b c d => obtain ⟨x, y, z, rfl⟩ := c; exact ⟨rfl, rfl⟩
  | tuple hs hc => simp [oneCellA] at h1
  | func a b c d => exact ⟨rfl, rfl⟩
  | iface a => exact ⟨rfl, rfl⟩
  | any a => rcases a.num with ⟨k, b, rfl⟩ | ⟨k, x, b, rfl⟩ <;> exact ⟨rfl, rfl⟩

theorem cell_at {w : World} {b i : Nat} {c : Array Value} {ty : TypeId} {fz : Nat × Nat} (hb : w.heap[b]? = some (.cells c ty fz)) : w.cell? ⟨b, i, none⟩ = c[i]? := by
  simp [World.cell?, hb]

theorem Rel.cell {m h w} (hr : Rel m h w) {k : Nat} {o : AObj} {l : Loc} (ho : h[k]? = some o) (hl : m k = some l) {i : Nat} {v : Value} (hi : o.cells[i]? = some v) :
    ∃ r, w.cell? ⟨l.block, l.base + i, none⟩ = some r ∧ VRel m h v r := by
  obtain ⟨hlt, rfl⟩ := List.getElem?_eq_some_iff.1 hi
  obtain ⟨c, ty, fz, hb, hc, _⟩ := hr.holds k o l ho hl (by omega)
  obtain ⟨r, h1, h2⟩ := hc i hlt
  exact ⟨r, by rw [cell_at hb]; exact h1, h2⟩

theorem Rel.drew {m h w} (hr : Rel m h w) : Rel m h w.drew := ⟨hr.holds, hr.sep, hr.closed⟩
theorem Step.drew {m h w m' h' w'} (s : Step m h w.drew m' h' w') : Step m h w m' h' w' := ⟨s.ext, s.size, s.os, s.tape, s.output, s.frame, s.own⟩

def aggD : TypeDesc → Bool
  | .struct _ | .array _ _ => true
  | _ => false

theorem run_isAgg {P : Program} {t : TypeId} {d : TypeDesc} (hu : P.underlying t = some d) (w : World) : (isAgg t).run P w = .ok (aggD d) w := by
  simp only [isAgg, Sem.run_bind, run_underlying hu, Result.andThen_ok]
  cases d <;> rfl

section
variable {P : Program} {K : Value → AHeap → Prop} {env : Env} {h : AHeap} {dst : Option Tmp} {ty : TypeId} {pos : String} {after : Array Edge} {guard : Option (Nat × Bool)}

theorem aop_alloc {e : TypeId} {i : TypeInfo} {z : Value} (hi : P.info? e = some i) (hz : i.zero = some z) (hc : isConst z = true)
    (hK : K (.pointer (some ⟨h.length, 0, some z.cells.size⟩)) (h ++ [⟨z.cells.toList, true, 1⟩])) : AOp P ⟨dst, .alloc e, ty, pos, after, guard⟩ K env h :=
  .of_run fun m w a hr ho => by
    have hv := (VRel.const m h hc).cells
    obtain ⟨h1, h2⟩ := hr.push (c := z.cells) (ty := e) (o := ⟨z.cells.toList, true, 1⟩) (by simp) (fun j hj => by
      simp only [Array.length_toList] at hj
      exact ⟨z.cells[j], by simp, by simpa using hv.2 j hj hj⟩)
    refine ⟨_, .pointer (some ⟨w.heap.size, 0, none⟩), _, _, _, ?_, h1, h2, ?_, hK⟩
    · simp [execOp, Instr.alloc, zeroValue, typeInfo, hi, hz, newVar, newRow]
    · exact .ptr (o := ⟨z.cells.toList, true, 1⟩) (by simp) (by simp) ⟨_, rfl⟩ fun _ => ⟨⟨w.heap.size, 0, z.cells.size⟩, by simp [Map.push], rfl⟩

theorem aop_box {e : TypeId} {x : Operand} {v : Value} (hx : aeval env x = v)
    (hK : K (.pointer (some ⟨h.length, 0, some v.cells.size⟩)) (h ++ [⟨v.cells.toList, true, 1⟩])) : AOp P ⟨dst, .box e x, ty, pos, after, guard⟩ K env h :=
  .of_run fun m w a hr ho => by
    have hv0 := ho x (by simp [Op.operands])
    rw [hx] at hv0
    have hv := hv0.cells
    have hs : v.cells.size = (a.eval x).cells.size := hv.1
    obtain ⟨h1, h2⟩ := hr.push (c := (a.eval x).cells) (ty := e) (o := ⟨v.cells.toList, true, 1⟩) (by simp [hs]) (fun j hj => by
      simp only [Array.length_toList] at hj
      exact ⟨(a.eval x).cells[j]'(by omega), by simp, by simpa using hv.2 j hj (by omega)⟩)
    refine ⟨_, .pointer (some ⟨w.heap.size, 0, none⟩), _, _, _, ?_, h1, h2, ?_, hK⟩
    · simp [execOp, Instr.box, newVar, newRow]
    · exact .ptr (o := ⟨v.cells.toList, true, 1⟩) (by simp) (by simp) ⟨_, rfl⟩ fun _ => ⟨⟨w.heap.size, 0, _⟩, by simp [Map.push]; rfl, rfl⟩

theorem aop_load {t : TypeId} {x : Operand} {k off ver : Nat} {o : AObj} {d : TypeDesc} {v : Value} (hu : P.underlying t = some d) (hd : aggD d = false)
    (hx : aeval env x = .pointer (some ⟨k, off, some ver⟩)) (ho : h[k]? = some o) (hver : o.cells.length = ver) (hv : o.cells[off]? = some v) (hK : K v h) :
    AOp P ⟨dst, .load t x, ty, pos, after, guard⟩ K env h :=
  .of_run fun m w a hr hop => by
    have hp := hop x (by simp [Op.operands])
    rw [hx] at hp
    obtain ⟨l, hl, he⟩ := hp.pointer_inv ho hver
    obtain ⟨r, h1, h2⟩ := hr.cell ho hl hv
    refine ⟨v, r, m, h, w, ?_, hr, Step.refl, h2, hK⟩
    simp [execOp, he, Instr.loadAt, Instr.sureAddr, loadVar, run_isAgg hu, hd, h1]

theorem aop_loadAgg {t : TypeId} {x : Operand} {k off ver : Nat} {o : AObj} {d : TypeDesc} {i : TypeInfo} {vs : List Value} (hu : P.underlying t = some d) (hd : aggD d = true)
    (hi : P.info? t = some i) (hsz : i.size = vs.length)
    (hx : aeval env x = .pointer (some ⟨k, off, some ver⟩)) (ho : h[k]? = some o) (hver : o.cells.length = ver) (hv : (o.cells.drop off).take vs.length = vs) (hK : K (.agg vs.toArray) h) :
    AOp P ⟨dst, .load t x, ty, pos, after, guard⟩ K env h :=
  .of_run fun m w a hr hop => by
    have hp := hop x (by simp [Op.operands])
    rw [hx] at hp
    obtain ⟨l, hl, he⟩ := hp.pointer_inv ho hver
    have hcell : ∀ j (hj : j < vs.length), ∃ r, w.cell? ⟨l.block, l.base + off + j, none⟩ = some r ∧ VRel m h vs[j] r := fun j hj => by
      have : o.cells[off + j]? = some vs[j] := by
        have h1 : ((o.cells.drop off).take vs.length)[j]? = vs[j]? := by rw [hv]
        rw [List.getElem?_take, if_pos hj, List.getElem?_drop] at h1
        rw [h1, List.getElem?_eq_getElem hj]
      obtain ⟨r, h1, h2⟩ := hr.cell ho hl this
      exact ⟨r, by rw [Nat.add_assoc]; exact h1, h2⟩
    let f : Nat → Value := fun j => (w.cell? ⟨l.block, l.base + off + j, none⟩).getD undef
    have hrun := run_loadCells (P := P) w ⟨l.block, l.base + off, none⟩ vs.length f (fun j hj => by
      obtain ⟨r, h1, _⟩ := hcell j hj
      rw [Addr.add_lit]
      simp [f, h1])
    refine ⟨.agg vs.toArray, .agg ((List.range vs.length).map f).toArray, m, h, w, ?_, hr, Step.refl, ?_, hK⟩
    · simp only [execOp, he, Instr.loadAt, Instr.sureAddr, loadVar, Sem.run_bind, Sem.run_pure, Result.andThen_ok, run_isAgg hu, hd, sizeOf, typeInfo, if_true]
      simp [hi, hsz, hrun]
    · refine .agg (by simp) fun j h1 h2 => ?_
      simp only [List.size_toArray] at h1
      obtain ⟨r, g1, g2⟩ := hcell j h1
      simpa [f, g1] using g2

theorem run_fieldPlace {P : Program} {f : Field} {i : TypeInfo} (hi : P.info? f.type = some i) (h0 : i.size ≠ 0) (b off : Nat) (w : World) :
    (fieldPlace ⟨b, off, none⟩ f).run P w = .ok ⟨b, off + f.offset, none⟩ w := by
  simp [fieldPlace, sizeOf, typeInfo, hi, h0, Addr.add_lit]

theorem aop_fieldAddr {s : TypeId} {x : Operand} {fi k off ver : Nat} {o : AObj} {fs : Array Field} {f : Field} {i : TypeInfo} (hu : P.underlying s = some (.struct fs)) (hf : fs[fi]? = some f)
    (hi : P.info? f.type = some i) (h0 : i.size ≠ 0)
    (hx : aeval env x = .pointer (some ⟨k, off, some ver⟩)) (ho : h[k]? = some o) (hver : o.cells.length = ver) (hK : K (.pointer (some ⟨k, off + f.offset, some ver⟩)) h) :
    AOp P ⟨dst, .fieldAddr s x fi, ty, pos, after, guard⟩ K env h :=
  .of_run fun m w a hr hop => by
    have hp := hop x (by simp [Op.operands])
    rw [hx] at hp
    obtain ⟨l, hl, he⟩ := hp.pointer_inv ho hver
    refine ⟨_, .pointer (some ⟨l.block, l.base + (off + f.offset), none⟩), m, h, w, ?_, hr, Step.refl, ?_, hK⟩
    · simp only [execOp, he, Instr.fieldAt, Sem.run_bind, run_underlying hu, Result.andThen_ok, hf]
      simp [Instr.sureAddr, run_fieldPlace hi h0, Nat.add_assoc]
    · exact .ptr ho (by omega) ⟨_, rfl⟩ fun _ => ⟨l, hl, rfl⟩

theorem aop_indexAddr {t e : TypeId} {x y : Operand} {k off ver len cap : Nat} {o : AObj} {i : TypeInfo} {kd : IntKind} {z : Int} (hu : P.underlying t = some (.slice e))
    (hi : P.info? e = some i) (hs : i.size = o.esz)
    (hx : aeval env x = .slice (some ⟨k, off, some ver⟩) len cap) (ho : h[k]? = some o) (hver : o.cells.length = ver)
    (hy : aeval env y = .int kd z) (h0 : 0 ≤ z) (hlt : z < len) (hpos : 0 < o.esz)
    (hK : K (.pointer (some ⟨k, off + z.toNat * o.esz, some ver⟩)) h) : AOp P ⟨dst, .indexAddr t x y, ty, pos, after, guard⟩ K env h :=
  .of_run fun m w a hr hop => by
    have hp := hop x (by simp [Op.operands])
    have hq := hop y (by simp [Op.operands])
    rw [hx] at hp; rw [hy] at hq
    obtain ⟨l, hl, b, cap', he, c1, c2, c3, c4, c5⟩ := hp.slice_inv ho hver
    have hoff : off < o.cells.length := by
      have : 0 < cap * o.esz := Nat.mul_pos (by omega) hpos
      omega
    have hb := c4 hoff
    subst hb
    refine ⟨_, .pointer (some ⟨l.block, l.base + (off + z.toNat * o.esz), none⟩), m, h, w, ?_, hr, Step.refl, ?_, hK⟩
    · simp only [execOp, he, hq.int, Instr.indexAt, asIntOf, Sem.run_bind, Sem.run_pure, run_underlying hu, Result.andThen_ok]
      simp [h0, hlt, sizeOf, typeInfo, hi, hs, Addr.add_lit, Nat.add_assoc]
    · exact .ptr ho (by omega) ⟨_, rfl⟩ fun _ => ⟨l, hl, rfl⟩

theorem aop_len {t : TypeId} {e : TypeId} {x : Operand} {a : Option Addr} {len cap : Nat} (hu : P.underlying t = some (.slice e)) (hx : aeval env x = .slice a len cap)
    (hok : ∀ ad, a = some ad → ∃ k off ver o, ad = ⟨k, off, some ver⟩ ∧ h[k]? = some o ∧ o.cells.length = ver) (hK : K (.int .i64 len) h) :
    AOp P ⟨dst, .call { callee := .builtin .len, args := #[x], argTypes := #[t] }, ty, pos, after, guard⟩ K env h :=
  .of_run fun m w b hr hop => by
    have hp := hop x (by simp [Op.operands, Call.operands])
    rw [hx] at hp
    have : ∃ q c, b.eval x = .slice q len c := by
      cases a with
      | none =>
        generalize b.eval x = r at hp
        cases hp
        exact ⟨_, _, rfl⟩
      | some ad =>
        obtain ⟨k, off, ver, o, rfl, ho, hver⟩ := hok ad rfl
        obtain ⟨l, hl, q, cap', he, _⟩ := hp.slice_inv ho hver
        exact ⟨q, cap', he⟩
    obtain ⟨q, c, he⟩ := this
    refine ⟨_, .int .i64 len, m, h, w, ?_, hr, Step.refl, .prim rfl, hK⟩
    simp [execOp, resolve, invoke, builtin, he, Builtin.len_, run_underlying hu, goInt]

end
end Go.Am

namespace Go.Am
set_option linter.unusedSimpArgs false
set_option linter.unusedVariables false
open Go.RowKit

def splice (cs : List Value) (off : Nat) (vs : List Value) : List Value := cs.take off ++ vs ++ cs.drop (off + vs.length)

theorem splice_length {cs vs : List Value} {off : Nat} (hf : off + vs.length ≤ cs.length) : (splice cs off vs).length = cs.length := by
  simp only [splice, List.length_append, List.length_take, List.length_drop]; omega

theorem splice_get {cs vs : List Value} {off : Nat} (hf : off + vs.length ≤ cs.length) (i : Nat) :
    (splice cs off vs)[i]? = if i < off then cs[i]? else if i < off + vs.length then vs[i - off]? else cs[i]? := by
  unfold splice
  have hl : (cs.take off).length = off := by simp; omega
  rw [List.append_assoc, List.getElem?_append, hl]
  split
  · rw [List.getElem?_take, if_pos ‹_›]
  · rw [List.getElem?_append]
    by_cases h2 : i < off + vs.length
    · rw [if_pos (by omega), if_pos h2]
    · rw [if_neg (by omega), if_neg h2, List.getElem?_drop]
      congr 1; omega

theorem splice_one (cs : List Value) (off : Nat) (v : Value) (hf : off < cs.length) : splice cs off [v] = cs.set off v := by
  apply List.ext_getElem?
  intro i
  rw [splice_get (by simp; omega), List.getElem?_set]
  by_cases h1 : i < off
  · rw [if_pos h1, if_neg (by omega)]
  · rw [if_neg h1]
    by_cases h2 : i = off
    · subst h2; simp [hf]
    · rw [if_neg (by simp; omega), if_neg (by omega)]

theorem AOp.of_skip {P : Program} {o : Oper} {K : Value → AHeap → Prop} {env : Env} {h : AHeap}
    (H : ∀ m w a, Rel m h w → OpsRel m h env a o → ∃ m' h' w', (execOp a.eval o).run P w = .ok .skip w' ∧
      Rel m' h' w' ∧ Step m h w m' h' w' ∧ K undef h') : AOp P o K env h := by
  intro m w a hr ho
  obtain ⟨m', h', w', hrun, p1, p2, p4⟩ := H m w a hr ho
  unfold Oper.wp
  rw [hrun]
  exact ⟨undef, undef, m', h', rfl, p1, p2, .undef _ _, p4⟩

/-- Cells of one's own block get new values, in place. -/
theorem Rel.storeCells {P : Program} {m h w} (hr : Rel m h w) {k off : Nat} {o : AObj} {l : Loc} (ho : h[k]? = some o) (hm : o.mine = true) (hl : m k = some l)
    {vs : List Value} {rs : List Value} (hlen : vs.length = rs.length) (hf : off + vs.length ≤ o.cells.length) (h0 : 0 < vs.length)
    (hv : ∀ (i : Nat) (v r : Value), vs[i]? = some v → rs[i]? = some r → VRel m h v r) (h1 : ∀ r ∈ rs, r.oneCell' = true) :
    ∃ w', (Go.storeCells ⟨l.block, l.base + off, none⟩ rs).run P w = .ok () w' ∧
      Rel (m.push k l) (h.set k ⟨splice o.cells off vs, true, o.esz⟩) w' ∧ Step m h w (m.push k l) (h.set k ⟨splice o.cells off vs, true, o.esz⟩) w' := by
  obtain ⟨c, ty, fz, hb, hc, hmm⟩ := hr.holds k o l ho hl (by omega)
  obtain ⟨hbase, rfl, hcap⟩ := hmm hm
  have hcs : o.cells.length ≤ c.size := by
    obtain ⟨r, hr1, _⟩ := hc (o.cells.length - 1) (by omega)
    have := (Array.getElem?_eq_some_iff.1 hr1).1
    omega
  have hrun := run_storeCells_at P l.block (l.base + off) ty rs 0 c w hb (by omega) h1
  refine ⟨_, hrun, ?_⟩
  have hget : ∀ i, (c.toList.take (l.base + off + 0) ++ rs ++ c.toList.drop (l.base + off + 0 + rs.length))[i]? = if i < off then c.toList[i]? else if i < off + vs.length then rs[i - off]? else c.toList[i]? := by
    intro i
    have := splice_get (cs := c.toList) (vs := rs) (off := off) (by simp; omega) i
    rw [hbase, Nat.zero_add, Nat.add_zero, hlen]
    exact this
  refine hr.rewrite ho hm hl (l' := l) (cs := splice o.cells off vs) (by rw [splice_length hf]; exact Nat.le_refl _) (setRow_heap w l.block c _ ty (0, 0) hb) hbase ?_ (.inl ⟨rfl, by omega⟩) ?_ rfl rfl rfl
    (fun b _ hne => setRow_other w l.block b _ hne) (fun i hi => ?_)
  · rw [← hcap]
    simp only [List.size_toArray, List.length_append, List.length_take, List.length_drop, Array.length_toList]
    omega
  · simp [World.setRow]
  · rw [splice_length hf] at hi
    obtain ⟨r, hr1, hr2⟩ := hc i hi
    rw [hbase, Nat.zero_add] at hr1
    have hsp := splice_get hf i
    have hi' : i < (splice o.cells off vs).length := by rw [splice_length hf]; exact hi
    rw [List.getElem?_eq_getElem hi'] at hsp
    simp only [List.getElem?_toArray]
    rw [hget i]
    by_cases c1 : i < off
    · rw [if_pos c1] at hsp ⊢
      rw [List.getElem?_eq_getElem hi, Option.some.injEq] at hsp
      exact ⟨r, by simpa using hr1, by rw [hsp]; exact hr2⟩
    · rw [if_neg c1] at hsp ⊢
      by_cases c2 : i < off + vs.length
      · rw [if_pos c2] at hsp ⊢
        have hj : i - off < rs.length := by omega
        exact ⟨rs[i - off], by rw [List.getElem?_eq_getElem hj], hv _ _ _ hsp.symm (List.getElem?_eq_getElem hj)⟩
      · rw [if_neg c2] at hsp ⊢
        rw [List.getElem?_eq_getElem hi, Option.some.injEq] at hsp
        exact ⟨r, by simpa using hr1, by rw [hsp]; exact hr2⟩

section
variable {P : Program} {K : Value → AHeap → Prop} {env : Env} {h : AHeap} {dst : Option Tmp} {ty : TypeId} {pos : String} {after : Array Edge} {guard : Option (Nat × Bool)}

theorem aop_storeAgg {t : TypeId} {x y : Operand} {k off ver : Nat} {o : AObj} {i : TypeInfo} {v : Value} (hi : P.info? t = some i) (hsz : i.size = v.cells.size)
    (hx : aeval env x = .pointer (some ⟨k, off, some ver⟩)) (ho : h[k]? = some o) (hver : o.cells.length = ver) (hm : o.mine = true) (hy : aeval env y = v)
    (hf : off + v.cells.size ≤ ver) (h0 : 0 < v.cells.size) (h1 : v.cells.toList.all oneCellA = true)
    (hK : K undef (h.set k ⟨splice o.cells off v.cells.toList, true, o.esz⟩)) : AOp P ⟨dst, .store t x y, ty, pos, after, guard⟩ K env h :=
  .of_skip fun m w a hr hop => by
    have hp := hop x (by simp [Op.operands])
    have hq := hop y (by simp [Op.operands])
    rw [hx] at hp; rw [hy] at hq
    obtain ⟨l, hl, he⟩ := hp.pointer_inv ho hver
    obtain ⟨hs, hc⟩ := hq.cells
    obtain ⟨w', hrun, r1, s1⟩ := hr.storeCells (P := P) ho hm hl (off := off) (vs := v.cells.toList) (rs := (a.eval y).cells.toList) (by simp [hs]) (by simp; omega) (by simpa using h0)
      (fun j v' r' e1 e2 => by
        simp only [Array.getElem?_toList] at e1 e2
        obtain ⟨l1, rfl⟩ := Array.getElem?_eq_some_iff.1 e1
        obtain ⟨l2, rfl⟩ := Array.getElem?_eq_some_iff.1 e2
        exact hc j l1 l2)
      (fun r hmem => by
        obtain ⟨j, hj, rfl⟩ := List.getElem_of_mem hmem
        simp only [Array.length_toList] at hj
        have := hc j (by omega) hj
        have h2 := List.all_eq_true.1 h1 (v.cells[j]'(by omega)) (by simp)
        simpa using (this.oneCell h2).1)
    refine ⟨_, _, w', ?_, r1, s1, hK⟩
    have hne : ¬ (a.eval y).cells.size ≠ i.size := by omega
    simp only [execOp, he, Instr.storeAt, Instr.sureAddr, storeVar, Sem.run_bind, Sem.run_pure, Result.andThen_ok, sizeOf, typeInfo]
    simp [hi, hne, hrun]

theorem aop_store {t : TypeId} {x y : Operand} {k off ver : Nat} {o : AObj} {i : TypeInfo} {v : Value} (hi : P.info? t = some i) (hsz : i.size = 1)
    (hx : aeval env x = .pointer (some ⟨k, off, some ver⟩)) (ho : h[k]? = some o) (hver : o.cells.length = ver) (hm : o.mine = true) (hy : aeval env y = v)
    (hf : off < ver) (h1 : oneCellA v = true)
    (hK : K undef (h.set k ⟨o.cells.set off v, true, o.esz⟩)) : AOp P ⟨dst, .store t x y, ty, pos, after, guard⟩ K env h := by
  have hc : v.cells = #[v] := by cases v <;> first | rfl | (simp [oneCellA] at h1)
  refine aop_storeAgg hi (by rw [hc]; exact hsz) hx ho hver hm hy (by rw [hc]; simp; omega) (by rw [hc]; simp) (by rw [hc]; simp [h1]) ?_
  rw [hc]
  rw [splice_one _ _ _ (by omega)]
  exact hK

theorem aop_make {t e : TypeId} {x y : Operand} {i : TypeInfo} {z : Value} {k1 k2 : IntKind} {l c : Int} (hu : P.underlying t = some (.slice e)) (hi : P.info? e = some i) (hz : i.zero = some z)
    (hsz : i.size = 1) (hp : isPrim z = true) (hone : oneCellA z = true) (hx : aeval env x = .int k1 l) (hy : aeval env y = .int k2 c) (h0 : 0 ≤ l) (hlc : l ≤ c) (hb : (i.bytes : Int) * c ≤ 281474976710656) (h63 : c ≤ 9223372036854775807)
    (hK : K (.slice (some ⟨h.length, 0, some c.toNat⟩) l.toNat c.toNat) (h ++ [⟨List.replicate c.toNat z, true, 1⟩])) : AOp P ⟨dst, .makeSlice t x y, ty, pos, after, guard⟩ K env h :=
  .of_run fun m w a hr hop => by
    have hp1 := hop x (by simp [Op.operands])
    have hp2 := hop y (by simp [Op.operands])
    rw [hx] at hp1; rw [hy] at hp2
    have hcz : z.cells = #[z] := by cases z <;> first | rfl | (simp [oneCellA] at hone)
    have hrun := run_make (P := P) w t e i z hu hi hz k1 k2 l c h0 hlc hb h63
    obtain ⟨r1, s1⟩ := hr.push (c := madeCells z.cells (c.toNat * i.size)) (ty := e) (o := ⟨List.replicate c.toNat z, true, 1⟩) (by simp [size_madeCells, hsz]) (fun j hj => by
      simp only [List.length_replicate] at hj
      refine ⟨z, ?_, by simpa using VRel.prim hp⟩
      simp [madeCells, hsz, hcz, hj, Nat.mod_one])
    refine ⟨_, .slice (some ⟨w.heap.size, 0, none⟩) l.toNat c.toNat, _, _, _, ?_, r1, s1, ?_, hK⟩
    · simp [execOp, hp1.int, hp2.int, hrun]
    · refine .slice (o := ⟨List.replicate c.toNat z, true, 1⟩) (by simp) (by simp) ⟨_, _, _, rfl⟩ fun _ => ⟨⟨w.heap.size, 0, _⟩, by simp [Map.push]; rfl, _, _, rfl, by omega, Nat.le_refl _, by simp, fun _ => rfl, fun _ => ⟨fun _ => by simp [size_madeCells, hsz], fun hh => by simpa using hh⟩⟩

/-- s[l:h]. -/
theorem aop_slice {t e : TypeId} {x : Operand} {lo hi : Option Operand} {k off ver len cap : Nat} {o : AObj} {i : TypeInfo} {l r : Nat} (hu : P.underlying t = some (.slice e)) (hin : P.info? e = some i) (hs : i.size = o.esz)
    (hx : aeval env x = .slice (some ⟨k, off, some ver⟩) len cap) (ho : h[k]? = some o) (hver : o.cells.length = ver)
    (hlo : (lo = none ∧ l = 0) ∨ ∃ y kd, lo = some y ∧ aeval env y = .int kd (l : Int)) (hhi : (hi = none ∧ r = len) ∨ ∃ y kd, hi = some y ∧ aeval env y = .int kd (r : Int))
    (hlr : l ≤ r) (hrc : r ≤ cap)
    (hK : K (.slice (some ⟨k, off + l * o.esz, some ver⟩) (r - l) (cap - l)) h) : AOp P ⟨dst, .slice t x lo hi none, ty, pos, after, guard⟩ K env h :=
  .of_run fun m w a hr hop => by
    have hp := hop x (by simp [Op.operands])
    rw [hx] at hp
    obtain ⟨lc, hl, b, cap', he, c1, c2, c3, c4, c5⟩ := hp.slice_inv ho hver
    have hl' : lo.map a.eval = none ∧ l = 0 ∨ ∃ kd, lo.map a.eval = some (.int kd (l : Int)) := by
      rcases hlo with ⟨rfl, rfl⟩ | ⟨y, kd, rfl, hy⟩
      · exact .inl ⟨rfl, rfl⟩
      · have := hop y (by simp [Op.operands])
        rw [hy] at this
        exact .inr ⟨kd, by simp [this.int]⟩
    have hr' : hi.map a.eval = none ∧ r = len ∨ ∃ kd, hi.map a.eval = some (.int kd (r : Int)) := by
      rcases hhi with ⟨rfl, rfl⟩ | ⟨y, kd, rfl, hy⟩
      · exact .inl ⟨rfl, rfl⟩
      · have := hop y (by simp [Op.operands])
        rw [hy] at this
        exact .inr ⟨kd, by simp [this.int]⟩
    have hb : (Instr.sliceBounds true len cap' (lo.map a.eval) (hi.map a.eval) none).run P w = .ok (l, r, cap') w := by
      have e1 : ∀ (n : Nat) kd code, r ≤ n → (Instr.sliceBound (.int kd (r : Int)) n code).run P w = .ok r w := fun n kd code hn => by
        simp [Instr.sliceBound, asIntOf, hn]
      have e2 : ∀ (n : Nat) kd code, l ≤ n → (Instr.sliceBound (.int kd (l : Int)) n code).run P w = .ok l w := fun n kd code hn => by
        simp [Instr.sliceBound, asIntOf, hn]
      rcases hl' with ⟨q1, rfl⟩ | ⟨kd1, q1⟩ <;> rcases hr' with ⟨q2, rfl⟩ | ⟨kd2, q2⟩ <;>
        simp [Instr.sliceBounds, q1, q2, e1 cap' _ _ (by omega), e2 r _ _ hlr]
    have hlcap : l ≤ cap := by omega
    have hmul : l * o.esz + (cap - l) * o.esz = cap * o.esz := by rw [← Nat.add_mul]; congr 1; omega
    have hmul' : l * o.esz + (cap' - l) * o.esz = cap' * o.esz := by rw [← Nat.add_mul]; congr 1; omega
    refine ⟨_, .slice (if cap' = l then b else b.map (·.add (l * i.size))) (r - l) (cap' - l), m, h, w, ?_, hr, Step.refl, ?_, hK⟩
    · simp only [execOp, he, Instr.sliceAt, Sem.run_bind, run_underlying hu, Result.andThen_ok, Instr.slice, Option.map_none, hb, sizeOf, typeInfo]
      simp [hin]
    · refine .slice ho (by omega) ⟨_, _, _, rfl⟩ fun _ => ⟨lc, hl, _, _, rfl, by omega, by omega, by omega, fun hlt => ?_, fun hm => ⟨fun hpos' => ?_, fun hz => ?_⟩⟩
      · have hlc : l < cap := by
          rcases Nat.lt_or_ge l cap with h1 | h1
          · exact h1
          · have : cap - l = 0 := by omega
            rw [this, Nat.zero_mul] at hmul
            omega
        have hb0 := c4 (by omega)
        rw [if_neg (by omega), hb0]
        simp [Addr.add_lit, hs, Nat.add_assoc]
      · have := (c5 hm).1 hpos'
        omega
      · have := (c5 hm).2 hz
        omega

end
end Go.Am

namespace Go.Am
set_option linter.unusedSimpArgs false
set_option linter.unusedVariables false
open Go.RowKit

section
variable {P : Program}

theorem run_append_room' (w : World) (t ty e te : TypeId) (i : TypeInfo) (ht : P.underlying t = some (.slice e)) (hi : P.info? e = some i)
    (g off sLen sCap : Nat) (cur : Array Value) (hg : w.heap[g]? = some (.cells cur te (0, 0)))
    (a : Addr) (m c : Nat) (news : List Value) (hl : news.length = m * i.size) (hnews : ∀ j u, news[j]? = some u → w.cell? (a.add j) = some u) (h1 : ∀ u ∈ news, u.oneCell' = true)
    (hroom : sLen + m ≤ sCap) (hfit : off + sLen * i.size + news.length ≤ cur.size) :
    (Builtin.append_ #[t, t] ty #[.slice (some ⟨g, off, none⟩) sLen sCap, .slice (some a) m c]).run P w =
      .ok (.slice (some ⟨g, off, none⟩) (sLen + m) sCap) (w.setRow g (cur.toList.take (off + sLen * i.size) ++ news ++ cur.toList.drop (off + sLen * i.size + news.length)).toArray) := by
  have hf := run_firstCells_some (P := P) w i.size m a m c news hl hnews
  have hst := run_storeCells_at P g (off + sLen * i.size) te news 0 cur w hg (by simpa using hfit) h1
  simp only [Nat.add_zero] at hst
  simp [Builtin.append_, run_underlying ht, sizeOf, typeInfo, hi, Builtin.lenOf, hroom, hf, Addr.add_lit, hst]

/-- Nothing is appended. -/
theorem run_append_none (w : World) (t ty e : TypeId) (i : TypeInfo) (ht : P.underlying t = some (.slice e)) (hi : P.info? e = some i)
    (b a : Option Addr) (n sCap c : Nat) (hle : n ≤ sCap) :
    (Builtin.append_ #[t, t] ty #[.slice b n sCap, .slice a 0 c]).run P w = .ok (.slice b n sCap) w := by
  cases b <;> cases a <;>
    simp [Builtin.append_, run_underlying ht, sizeOf, typeInfo, hi, Builtin.lenOf, Builtin.firstCells, loadCells, loadCellsFrom, storeCells, hle]

end

/-- The cells of a slice, as they are read. -/
def news (o : AObj) (off n : Nat) : List Value := (o.cells.drop off).take n

theorem Rel.news {m h w} (hr : Rel m h w) {k off ver len cap : Nat} {o : AObj} {r : Value} (hv : VRel m h (.slice (some ⟨k, off, some ver⟩) len cap) r) (ho : h[k]? = some o) (hver : o.cells.length = ver)
    (hlen : 0 < len) (hpos : 0 < o.esz) :
    ∃ (a : Addr) (c : Nat) (rs : List Value), r = .slice (some a) len c ∧ rs.length = len * o.esz ∧ (news o off (len * o.esz)).length = len * o.esz ∧
      (∀ (j : Nat) (u : Value), rs[j]? = some u → w.cell? (a.add j) = some u) ∧
      (∀ (j : Nat) (v u : Value), (news o off (len * o.esz))[j]? = some v → rs[j]? = some u → VRel m h v u) := by
  obtain ⟨l, hl, b, cap', rfl, c1, c2, c3, c4, c5⟩ := hv.slice_inv ho hver
  have hle : len * o.esz ≤ cap * o.esz := Nat.mul_le_mul_right _ c1
  have hp : 0 < len * o.esz := Nat.mul_pos hlen hpos
  have hb := c4 (by omega)
  subst hb
  have hnl : (Am.news o off (len * o.esz)).length = len * o.esz := by simp [Am.news]; omega
  let f : Nat → Value := fun j => (w.cell? ⟨l.block, l.base + off + j, none⟩).getD undef
  have hc : ∀ j, j < len * o.esz → ∃ v, (Am.news o off (len * o.esz))[j]? = some v ∧ w.cell? ⟨l.block, l.base + off + j, none⟩ = some (f j) ∧ VRel m h v (f j) := fun j hj => by
    have h1 : (Am.news o off (len * o.esz))[j]? = o.cells[off + j]? := by simp [Am.news, hj]
    have h2 : off + j < o.cells.length := by omega
    obtain ⟨r, g1, g2⟩ := hr.cell ho hl (List.getElem?_eq_getElem h2)
    rw [← Nat.add_assoc] at g1
    exact ⟨_, h1.trans (List.getElem?_eq_getElem h2), by simp [f, g1], by simpa [f, g1] using g2⟩
  refine ⟨_, cap', (List.range (len * o.esz)).map f, rfl, by simp, hnl, fun j u hj => ?_, fun j v u hj hu => ?_⟩
  · simp only [List.getElem?_map, Option.map_eq_some_iff] at hj
    obtain ⟨j', hj', rfl⟩ := hj
    obtain ⟨hlt, e⟩ := List.getElem?_eq_some_iff.1 hj'
    simp at hlt e
    subst e
    obtain ⟨v, _, g2, _⟩ := hc j hlt
    rw [Addr.add_lit]
    exact g2
  · simp only [List.getElem?_map, Option.map_eq_some_iff] at hu
    obtain ⟨j', hj', rfl⟩ := hu
    obtain ⟨hlt, e⟩ := List.getElem?_eq_some_iff.1 hj'
    simp at hlt e
    subst e
    obtain ⟨v', g1, _, g3⟩ := hc j hlt
    rw [g1] at hj; cases hj
    exact g3

theorem news_oneCell {m h} {vs rs : List Value} (hl : vs.length = rs.length) (h1 : vs.all oneCellA = true) (hv : ∀ (j : Nat) (v u : Value), vs[j]? = some v → rs[j]? = some u → VRel m h v u) :
    ∀ u ∈ rs, u.oneCell' = true := fun u hu => by
  obtain ⟨j, hj, rfl⟩ := List.getElem_of_mem hu
  have hj' : j < vs.length := by omega
  have := hv j _ _ (List.getElem?_eq_getElem hj') (List.getElem?_eq_getElem hj)
  exact (this.oneCell (List.all_eq_true.1 h1 _ (by simp))).1

section
variable {P : Program} {K : Value → AHeap → Prop} {env : Env} {h : AHeap} {dst : Option Tmp} {ty : TypeId} {pos : String} {after : Array Edge} {guard : Option (Nat × Bool)}

/-- append(s, x...) to a list of one's own that is full. -/
theorem aop_append {t e : TypeId} {s x : Operand} {i : TypeInfo} {z : Value} {k ver n k2 off2 ver2 m c2 : Nat} {o o2 : AObj} (hu : P.underlying t = some (.slice e)) (hi : P.info? e = some i) (hz : i.zero = some z)
    (hs : i.size = o.esz) (hzs : z.cells.size = i.size) (hpos : 0 < o.esz) (hs2 : o2.esz = o.esz)
    (hx : aeval env s = .slice (some ⟨k, 0, some ver⟩) n n) (ho : h[k]? = some o) (hver : o.cells.length = ver) (hfull : n * o.esz = ver) (hm : o.mine = true)
    (hy : aeval env x = .slice (some ⟨k2, off2, some ver2⟩) m c2) (ho2 : h[k2]? = some o2) (hver2 : o2.cells.length = ver2) (h1 : (news o2 off2 (m * o.esz)).all oneCellA = true)
    (hm0 : 0 < m) (hb : (n + m) * i.bytes ≤ 140737488355328) (h63 : n + m ≤ 9223372036854775807)
    (hK : K (.slice (some ⟨k, 0, some (ver + m * o.esz)⟩) (n + m) (n + m)) (h.set k ⟨o.cells ++ news o2 off2 (m * o.esz), true, o.esz⟩)) :
    AOp P ⟨dst, .call { callee := .builtin .append, args := #[s, x], argTypes := #[t, t] }, ty, pos, after, guard⟩ K env h :=
  .of_run fun mp w a hr hop => by
    have hp := hop s (by simp [Op.operands, Call.operands])
    have hq := hop x (by simp [Op.operands, Call.operands])
    rw [hx] at hp; rw [hy] at hq
    have hk := (List.getElem?_eq_some_iff.1 ho).1
    obtain ⟨ad, cx, rs, hxe, hrl, hnl, hcells, hrel⟩ := hr.news hq ho2 hver2 hm0 (by rw [hs2]; exact hpos)
    rw [hs2] at hrl hnl hrel
    obtain ⟨l, hl, b, cap', hse, c1, c2', c3, c4, c5⟩ := hp.slice_inv ho hver
    have hone := news_oneCell (by rw [hrl, hnl]) h1 hrel
    have hlen' : (o.cells ++ Am.news o2 off2 (m * o.esz)).length = ver + m * o.esz := by rw [List.length_append, hnl, hver]
    have hmm : 0 < m * o.esz := Nat.mul_pos hm0 hpos
    have hmul : (n + m) * o.esz = ver + m * o.esz := by rw [Nat.add_mul, hfull]
    have hexec : ∀ v' w', (Builtin.append_ #[t, t] ty #[a.eval s, a.eval x]).run P w = .ok v' w' →
        (execOp a.eval ⟨dst, .call { callee := .builtin .append, args := #[s, x], argTypes := #[t, t] }, ty, pos, after, guard⟩).run P w = .ok (.value v') w' := fun v' w' hh => by
      simp only [execOp, resolve, invoke, builtin, Sem.run_bind, Sem.run_pure, Result.andThen_ok, List.map_toArray, List.map_cons, List.map_nil, hh]
    -- the new cells, real
    have hreal : ∀ (c' : Array Value), (∀ j, j < ver → ∃ r, c'[j]? = some r ∧ ∀ v, o.cells[j]? = some v → VRel mp h v r) → (∀ j, j < m * o.esz → c'[ver + j]? = rs[j]?) →
        ∀ j (hj : j < (o.cells ++ Am.news o2 off2 (m * o.esz)).length), ∃ r, c'[j]? = some r ∧ VRel mp h (o.cells ++ Am.news o2 off2 (m * o.esz))[j] r := fun c' q1 q2 j hj => by
      have hg : (o.cells ++ Am.news o2 off2 (m * o.esz))[j]? = some (o.cells ++ Am.news o2 off2 (m * o.esz))[j] := List.getElem?_eq_getElem hj
      generalize (o.cells ++ Am.news o2 off2 (m * o.esz))[j] = v at hg
      rw [hlen'] at hj
      rw [List.getElem?_append] at hg
      by_cases hlt : j < o.cells.length
      · rw [if_pos hlt] at hg
        obtain ⟨r, g1, g2⟩ := q1 j (by omega)
        exact ⟨r, g1, g2 v hg⟩
      · rw [if_neg hlt] at hg
        have hj2 : j - o.cells.length < m * o.esz := by omega
        have hjr : j - o.cells.length < rs.length := by omega
        have := q2 (j - o.cells.length) hj2
        rw [show ver + (j - o.cells.length) = j by omega, List.getElem?_eq_getElem hjr] at this
        exact ⟨_, this, hrel _ _ _ hg (List.getElem?_eq_getElem hjr)⟩
    have hold : ∀ (cr : Array Value), (∀ i (hi : i < o.cells.length), ∃ r, cr[l.base + i]? = some r ∧ VRel mp h o.cells[i] r) → ∀ j, j < ver → ∃ r, cr[l.base + j]? = some r ∧ ∀ v, o.cells[j]? = some v → VRel mp h v r := fun cr q j hj => by
      obtain ⟨r, g1, g2⟩ := q j (by omega)
      exact ⟨r, g1, fun v hv => by rw [List.getElem?_eq_getElem (by omega)] at hv; cases hv; exact g2⟩
    by_cases hroom : n + m ≤ cap'
    · -- in place
      have hop0 : 0 < o.cells.length := by
        rcases Nat.eq_zero_or_pos o.cells.length with h0 | h0
        · have := (c5 hm).2 h0; omega
        · exact h0
      obtain ⟨cr, te, fz, hblk, hcr, hmine⟩ := hr.holds k o l ho hl hop0
      obtain ⟨hbase, rfl, hcap⟩ := hmine hm
      have hcap2 := (c5 hm).1 hop0
      have hb0 := c4 (by omega)
      rw [hbase] at hb0
      subst hb0
      have hfit : 0 + n * i.size + rs.length ≤ cr.size := by
        rw [hrl, hcap, ← hcap2, hs, Nat.zero_add, Nat.zero_add, ← Nat.add_mul]
        exact Nat.mul_le_mul_right _ hroom
      have hrun := run_append_room' (P := P) w t ty e te i hu hi l.block 0 n cap' cr hblk ad m cx rs (by rw [hs]; exact hrl) hcells hone hroom hfit
      simp only [Nat.zero_add] at hrun hfit
      rw [hs, hfull] at hrun hfit
      have hexec' := hexec _ _ (by rw [hse, hxe]; exact hrun)
      obtain ⟨r1, s1⟩ := hr.rewrite ho hm hl (l' := l) (cs := o.cells ++ Am.news o2 off2 (m * o.esz)) (c' := (cr.toList.take ver ++ rs ++ cr.toList.drop (ver + rs.length)).toArray) (ty := te) (by rw [hlen']; omega) (setRow_heap w l.block cr _ te (0, 0) hblk) hbase
        (by rw [← hcap]; simp only [List.size_toArray, List.length_append, List.length_take, List.length_drop, Array.length_toList]; omega) (.inl ⟨rfl, hop0⟩)
        (by simp [World.setRow]) rfl rfl rfl (fun b _ hne => setRow_other w l.block b _ hne)
        (hreal _ (fun j hj => by
          obtain ⟨r, g1, g2⟩ := hold cr hcr j hj
          rw [hbase, Nat.zero_add] at g1
          refine ⟨r, ?_, g2⟩
          simp only [List.getElem?_toArray]
          rw [List.append_assoc, List.getElem?_append, if_pos (by simp; have := (Array.getElem?_eq_some_iff.1 g1).1; omega), List.getElem?_take, if_pos hj]
          simpa using g1) (fun j hj => by
          simp only [List.getElem?_toArray]
          have ht : (cr.toList.take ver).length = ver := by simp; omega
          rw [List.append_assoc, List.getElem?_append, if_neg (by omega), ht, List.getElem?_append, if_pos (by omega)]
          congr 1; omega))
      refine ⟨_, _, _, _, _, hexec', r1, s1, ?_, hK⟩
      refine .slice (o := ⟨o.cells ++ Am.news o2 off2 (m * o.esz), true, o.esz⟩) (by simp [hk]) (by simp only []; omega) ⟨_, _, _, rfl⟩ fun _ => ⟨l, by simp [Map.push], _, cap', rfl, Nat.le_refl _, hroom, by simp only []; omega, fun _ => by simp [hbase], fun _ => ⟨fun _ => hcap2, fun hz0 => by simp only [] at hz0; omega⟩⟩
    · -- a new row
      have hdone : ∀ (w' : World) (cr : Array Value) (cp : Nat) (_hrun : (Builtin.append_ #[t, t] ty #[a.eval s, a.eval x]).run P w = .ok (.slice (some ⟨w.heap.size, 0, none⟩) (n + m) cp) w')
          (_hw : w' = w.drew.alloc (.cells cr e)) (_hle : n + m ≤ cp) (_hsz : cr.size = cp * o.esz)
          (_hq1 : ∀ j, j < ver → ∃ r, cr[j]? = some r ∧ ∀ v, o.cells[j]? = some v → VRel mp h v r) (_hq2 : ∀ j, j < m * o.esz → cr[ver + j]? = rs[j]?),
          ∃ v r m' h' w', (execOp a.eval ⟨dst, .call { callee := .builtin .append, args := #[s, x], argTypes := #[t, t] }, ty, pos, after, guard⟩).run P w = .ok (.value r) w' ∧
            Rel m' h' w' ∧ Step mp h w m' h' w' ∧ VRel m' h' v r ∧ K v h' := by
        intro w' cr cp hrun hw hle hsz hq1 hq2
        subst hw
        obtain ⟨r1, s1⟩ := hr.rewrite (w' := w.drew.alloc (.cells cr e)) ho hm hl (l' := ⟨w.heap.size, 0, cr.size⟩) (c' := cr) (ty := e) (cs := o.cells ++ Am.news o2 off2 (m * o.esz)) (by rw [hlen']; omega)
          (by show (w.heap.push _)[w.heap.size]? = _; simp) rfl rfl (.inr ⟨by rw [hlen']; omega, Nat.le_refl _⟩) (by simp) rfl rfl rfl (fun b hb0 _ => Below.heap_alloc w.drew _ _ hb0)
          (hreal cr hq1 hq2)
        refine ⟨_, _, _, _, _, hexec _ _ hrun, r1, s1, ?_, hK⟩
        refine .slice (o := ⟨o.cells ++ Am.news o2 off2 (m * o.esz), true, o.esz⟩) (by simp [hk]) (by simp only []; omega) ⟨_, _, _, rfl⟩ fun _ => ⟨_, by simp [Map.push]; rfl, _, cp, rfl, Nat.le_refl _, hle, by simp only []; omega, fun _ => rfl, fun _ => ⟨fun _ => by simp [hsz], fun hz0 => by simp only [] at hz0; omega⟩⟩
      have hgrow : cap' < n + m := by omega
      have hcapge := grownCap_ge w (n + m) cap' e
      rcases Nat.eq_zero_or_pos n with hn0 | hn0
      · -- from an empty list
        have hoc : o.cells.length = 0 := by rw [hver, ← hfull, hn0, Nat.zero_mul]
        have hcap0 := (c5 hm).2 hoc
        subst hcap0
        have hver0 : ver = 0 := by omega
        have hrun0 : ∃ (a0 : Option Addr), a.eval s = .slice a0 0 0 := ⟨b, by rw [hse, hn0]⟩
        obtain ⟨a0, ha0⟩ := hrun0
        have hfits := growslice_fits (need := n + m) (old := 0) (bytes := i.bytes) hgrow hb
        have hfit48 : Builtin.nextslicecap m 0 * i.bytes ≤ 281474976710656 := by simpa [hn0] using hfits
        have hrun : (Builtin.append_ #[t, t] ty #[.slice a0 0 0, .slice (some ad) m cx]).run P w =
            .ok (.slice (some ⟨w.heap.size, 0, none⟩) m (grownCap w m 0 e)) (w.drew.alloc (.cells (rs.toArray ++ Builtin.zeroCells z.cells (grownCap w m 0 e - m)) e)) := by
          cases a0 with
          | none => exact run_append_nil (P := P) w t ty e i z hu hi hz ad m cx rs (by rw [hs]; exact hrl) hcells hm0 (by omega) (by rw [hn0, Nat.zero_add] at hb; omega)
          | some a1 =>
            have := run_append_grow (P := P) w t ty e i z hu hi hz a1 0 0 [] (by simp) (by simp) ad m cx rs (by rw [hs]; exact hrl) hcells (by omega) (by omega) (by simpa [hn0] using hfits)
            simpa using this
        refine hdone _ (rs.toArray ++ Builtin.zeroCells z.cells (grownCap w m 0 e - m)) (grownCap w m 0 e) (by rw [ha0, hxe, hrun, hn0]; simp) rfl (by rw [hn0, Nat.zero_add] at *; exact hcapge) ?_ (fun j hj => by omega) (fun j hj => ?_)
        · rw [hn0, Nat.zero_add] at hcapge
          simp only [Array.size_append, List.size_toArray, size_zeroCells, hzs, hs, hrl, ← Nat.add_mul]
          congr 1; omega
        · rw [hver0, Nat.zero_add, Array.getElem?_append, if_pos (by simp; omega)]
          simp
      · have hop0 : 0 < o.cells.length := by rw [hver, ← hfull]; exact Nat.mul_pos hn0 hpos
        obtain ⟨cr, te, fz, hblk, hcr, hmine⟩ := hr.holds k o l ho hl hop0
        obtain ⟨hbase, rfl, hcap⟩ := hmine hm
        have hb0 := c4 (by omega)
        rw [hbase] at hb0
        subst hb0
        let f : Nat → Value := fun j => (cr[j]?).getD undef
        have hfc : ∀ j, j < ver → cr[j]? = some (f j) := fun j hj => by
          obtain ⟨r, g1, _⟩ := hcr j (by omega)
          rw [hbase, Nat.zero_add] at g1
          simp [f, g1]
        have holds : ∀ (j : Nat) (v : Value), ((List.range ver).map f)[j]? = some v → w.cell? (Addr.add ⟨l.block, 0 + 0, none⟩ j) = some v := fun j v hj => by
          simp only [List.getElem?_map, Option.map_eq_some_iff] at hj
          obtain ⟨j', hj', rfl⟩ := hj
          obtain ⟨hlt, e0⟩ := List.getElem?_eq_some_iff.1 hj'
          simp at hlt e0
          subst e0
          rw [Addr.add_lit, cell_at hblk]
          simpa using hfc j hlt
        have hrun := run_append_grow (P := P) w t ty e i z hu hi hz ⟨l.block, 0 + 0, none⟩ n cap' ((List.range ver).map f) (by simp [hs, hfull]) holds ad m cx rs (by rw [hs]; exact hrl) hcells hgrow (by omega) (growslice_fits hgrow hb)
        refine hdone _ _ _ (by rw [hse, hxe]; exact hrun) rfl hcapge ?_ (fun j hj => ?_) (fun j hj => ?_)
        · simp only [Array.size_append, List.size_toArray, List.length_map, List.length_range, size_zeroCells, hzs, hs, hrl]
          rw [← hfull, ← Nat.add_mul, ← Nat.add_mul]
          congr 1; omega
        · obtain ⟨r, g1, g2⟩ := hold cr hcr j hj
          rw [hbase, Nat.zero_add] at g1
          have hfj : f j = r := by simp [f, g1]
          refine ⟨r, ?_, g2⟩
          rw [Array.getElem?_append, if_pos (by simp; omega), Array.getElem?_append, if_pos (by simp; exact hj)]
          simp [List.getElem?_range hj, hfj]
        · rw [Array.getElem?_append, if_pos (by simp; omega), Array.getElem?_append, if_neg (by simp)]
          simp

/-- append(s, x...) where x is empty. -/
theorem aop_appendNone {t e : TypeId} {s x : Operand} {i : TypeInfo} {q : Option Addr} {c2 : Nat} (hu : P.underlying t = some (.slice e)) (hi : P.info? e = some i)
    (hx : (aeval env s = .slice none 0 0) ∨ ∃ k off ver n cap o, aeval env s = .slice (some ⟨k, off, some ver⟩) n cap ∧ h[k]? = some o ∧ o.cells.length = ver)
    (hy : aeval env x = .slice q 0 c2) (hq : (q = none ∧ c2 = 0) ∨ ∃ k2 off2 ver2 o2, q = some ⟨k2, off2, some ver2⟩ ∧ h[k2]? = some o2 ∧ o2.cells.length = ver2)
    (hK : K (aeval env s) h) :
    AOp P ⟨dst, .call { callee := .builtin .append, args := #[s, x], argTypes := #[t, t] }, ty, pos, after, guard⟩ K env h :=
  .of_run fun mp w a hr hop => by
    have hp := hop s (by simp [Op.operands, Call.operands])
    have hqq := hop x (by simp [Op.operands, Call.operands])
    have hxe : ∃ b c, a.eval x = .slice b 0 c := by
      rw [hy] at hqq
      rcases hq with ⟨rfl, rfl⟩ | ⟨k2, off2, ver2, o2, rfl, ho2, hver2⟩
      · exact ⟨_, _, hqq.nil_inv⟩
      · obtain ⟨l, hl, b, cap', he, _⟩ := hqq.slice_inv ho2 hver2
        exact ⟨_, _, he⟩
    have hse : ∃ b n c, a.eval s = .slice b n c ∧ n ≤ c := by
      rcases hx with hx | ⟨k, off, ver, n, cap, o, hx, ho, hver⟩
      · rw [hx] at hp; exact ⟨_, _, _, hp.nil_inv, Nat.le_refl _⟩
      · rw [hx] at hp
        obtain ⟨l, hl, b, cap', he, c1, c2, _⟩ := hp.slice_inv ho hver
        exact ⟨_, _, _, he, by omega⟩
    obtain ⟨b1, c1, he1⟩ := hxe
    obtain ⟨b2, n2, c2', he2, hle⟩ := hse
    have hrun := run_append_none (P := P) w t ty e i hu hi b2 b1 n2 c2' c1 hle
    refine ⟨_, a.eval s, mp, h, w, ?_, hr, Step.refl, hp, hK⟩
    simp only [execOp, resolve, invoke, builtin, Sem.run_bind, Sem.run_pure, Result.andThen_ok, List.map_toArray, List.map_cons, List.map_nil, he1, he2, hrun]

end
end Go.Am

namespace Go.Am
set_option linter.unusedSimpArgs false
set_option linter.unusedVariables false
open Go.RowKit

theorem callFunc_run {P : Program} {f : FuncId} {args : Array Value} (hc : callB P f = true) (w : World) : (callFunc f args).run P w = .ok (.enter f args) w := by
  unfold callB at hc
  cases hf : P.funcs[f]? with
  | none => simp [hf] at hc
  | some fn =>
    simp only [hf, Bool.and_eq_true, Bool.not_eq_true'] at hc
    obtain ⟨h1, h2⟩ := hc
    have h3 : fn.body.isNone = false := by cases hb : fn.body <;> simp_all
    simp only [callFunc, Sem.run_bind, run_program, Result.andThen_ok, hf, h1, h3, Bool.false_eq_true, if_false]
    rfl

section
variable {P : Program} {K : Value → AHeap → Prop} {env : Env} {h : AHeap} {dst : Option Tmp} {ty : TypeId} {pos : String} {after : Array Edge} {guard : Option (Nat × Bool)}

theorem aop_call {fo : Operand} {f : FuncId} {xs : Array Operand} {ats : Array TypeId} {first cap : Array Value} (hf : aeval env fo = .func (.func f) first cap)
    (ht : Tri P f (first.toList ++ xs.toList.map (aeval env) ++ cap.toList) h K) :
    AOp P ⟨dst, .call { callee := .value fo, args := xs, argTypes := ats }, ty, pos, after, guard⟩ K env h := by
  intro m w a hr hop
  have hp := hop fo (by simp [Op.operands, Call.operands])
  rw [hf] at hp
  obtain ⟨b, d, he, hs1, hs2, hc1, hc2⟩ : ∃ b d, a.eval fo = .func (.func f) b d ∧ first.size = b.size ∧ cap.size = d.size ∧
      (∀ i (h1 : i < first.size) (h2 : i < b.size), VRel m h first[i] b[i]) ∧ (∀ i (h1 : i < cap.size) (h2 : i < d.size), VRel m h cap[i] d[i]) := by
    generalize a.eval fo = r at hp
    cases hp with
    | prim hpp => simp [isPrim] at hpp
    | func h1 h2 h3 h4 => exact ⟨_, _, rfl, h1, h2, h3, h4⟩
  have hvs : VRels m h (first.toList ++ xs.toList.map (aeval env) ++ cap.toList) (b ++ xs.map a.eval ++ d) := by
    refine ⟨by simp [hs1, hs2], fun i v r hv hr' => ?_⟩
    rw [Array.getElem?_append] at hr'
    rw [List.getElem?_append] at hv
    simp only [List.length_append, Array.length_toList, List.length_map, Array.size_append, Array.size_map] at hv hr'
    rw [hs1] at hv
    split at hv
    · rename_i hlt
      rw [if_pos hlt, Array.getElem?_append] at hr'
      rw [List.getElem?_append] at hv
      simp only [Array.length_toList, hs1] at hv
      split at hv
      · rename_i hlt2
        rw [if_pos hlt2] at hr'
        rw [Array.getElem?_toList, Array.getElem?_eq_getElem (by omega)] at hv
        rw [Array.getElem?_eq_getElem hlt2] at hr'
        cases hv; cases hr'
        exact hc1 i _ _
      · rename_i hlt2
        rw [if_neg hlt2] at hr'
        rw [List.getElem?_map, Array.getElem?_toList] at hv
        rw [Array.getElem?_map] at hr'
        cases hx : xs[i - b.size]? with
        | none => simp [hx] at hv
        | some x =>
          rw [hx] at hv hr'
          simp only [Option.map_some, Option.some.injEq] at hv hr'
          subst hv hr'
          obtain ⟨hj, rfl⟩ := Array.getElem?_eq_some_iff.1 hx
          exact hop _ (by simp [Op.operands, Call.operands])
    · rename_i hlt
      rw [if_neg hlt] at hr'
      simp only [Array.getElem?_toList] at hv
      obtain ⟨h1, rfl⟩ := Array.getElem?_eq_some_iff.1 hv
      obtain ⟨h2, rfl⟩ := Array.getElem?_eq_some_iff.1 hr'
      exact hc2 _ _ _
  have hrun : (execOp a.eval ⟨dst, .call { callee := .value fo, args := xs, argTypes := ats }, ty, pos, after, guard⟩).run P w = .ok (.enter f (b ++ xs.map a.eval ++ d)) w := by
    simp only [execOp, resolve, he, Deferred.ofValue, Sem.run_bind, Sem.run_pure, Result.andThen_ok, invoke, callFunc_run ht.1]
  unfold Oper.wp
  rw [hrun]
  show Calls P f _ w _
  refine (ht.2 m w _ hr hvs).mono ?_
  rintro e w' ⟨v, r, m', h', rfl, p1, p2, p3, p4⟩
  exact ⟨v, r, m', h', rfl, p1, p2, p3, p4⟩

theorem aop_callF {f : FuncId} {xs : Array Operand} {ats : Array TypeId} (ht : Tri P f (xs.toList.map (aeval env)) h K) :
    AOp P ⟨dst, .call { callee := .value (.func f), args := xs, argTypes := ats }, ty, pos, after, guard⟩ K env h :=
  aop_call (first := #[]) (cap := #[]) rfl (by simpa using ht)

end

def envOf (args : List Value) : Env := fun t => args.getD t undef

theorem envRel_of {m h} {args : List Value} {rs : Array Value} {n : Nat} (hv : VRels m h args rs) (hn : args.length ≤ n) :
    EnvRel m h n (envOf args) { tmps := rs ++ Array.replicate (n - rs.size) undef, defers := [] } := by
  obtain ⟨hl, hv⟩ := hv
  refine ⟨by simp; omega, rfl, fun t => ?_⟩
  simp only [envOf, Array.getD_eq_getD_getElem?, List.getD_eq_getElem?_getD]
  rw [Array.getElem?_append]
  split
  · rename_i hlt
    rw [List.getElem?_eq_getElem (by omega), Array.getElem?_eq_getElem hlt]
    exact hv t _ _ (List.getElem?_eq_getElem (by omega)) (Array.getElem?_eq_getElem hlt)
  · rename_i hge
    rw [List.getElem?_eq_none (by omega)]
    simp only [Array.getElem?_replicate]
    split <;> exact .undef _ _

/-- What the result variables hold at the end. -/
def ARes (P : Program) (h : AHeap) (env : Env) : ResultVar → Value → Prop
  | .tmp t, v => v = env t
  | .cell a t, v => ∃ (k off ver : Nat) (o : AObj) (d : TypeDesc), env a = .pointer (some ⟨k, off, some ver⟩) ∧ h[k]? = some o ∧ o.cells.length = ver ∧ P.underlying t = some d ∧
      ((aggD d = false ∧ o.cells[off]? = some v) ∨
        (aggD d = true ∧ ∃ (i : TypeInfo) (vs : List Value), P.info? t = some i ∧ i.size = vs.length ∧ (o.cells.drop off).take vs.length = vs ∧ v = .agg vs.toArray))

def resS (tmps : Array Value) : ResultVar → Sem Value
  | .tmp t => pure (tmps.getD t undef)
  | .cell a t => do loadVar t (← asAddr (tmps.getD a undef))

theorem results_eq (fn : Func) (tmps : Array Value) : results fn tmps = (do
    let vs ← fn.results.mapM (resS tmps)
    pure (if h : vs.size = 1 then vs[0] else .tuple vs)) := by
  unfold results resS
  rfl

theorem ares_run {P : Program} {m h n env a w} (hr : Rel m h w) (he : EnvRel m h n env a) {rv : ResultVar} {v : Value} (hv : ARes P h env rv v) :
    ∃ r, (resS a.tmps rv).run P w = .ok r w ∧ VRel m h v r := by
  cases rv with
  | tmp t => simp only [ARes] at hv; subst hv; exact ⟨_, rfl, he.vals t⟩
  | cell x t =>
    obtain ⟨k, off, ver, o, d, hx, ho, hver, hu, hv⟩ := hv
    have hp := he.vals x
    rw [hx] at hp
    obtain ⟨l, hl, hpe⟩ := hp.pointer_inv ho hver
    rcases hv with ⟨hd, hv⟩ | ⟨hd, i, vs, hi, hsz, hv, rfl⟩
    · obtain ⟨r, h1, h2⟩ := hr.cell ho hl hv
      refine ⟨r, ?_, h2⟩
      simp [resS, hpe, asAddr, loadVar, run_isAgg hu, hd, h1]
    · have hcell : ∀ j (hj : j < vs.length), ∃ r, w.cell? ⟨l.block, l.base + off + j, none⟩ = some r ∧ VRel m h vs[j] r := fun j hj => by
        have : o.cells[off + j]? = some vs[j] := by
          have h1 : ((o.cells.drop off).take vs.length)[j]? = vs[j]? := by rw [hv]
          rw [List.getElem?_take, if_pos hj, List.getElem?_drop] at h1
          rw [h1, List.getElem?_eq_getElem hj]
        obtain ⟨r, h1, h2⟩ := hr.cell ho hl this
        exact ⟨r, by rw [Nat.add_assoc]; exact h1, h2⟩
      let f : Nat → Value := fun j => (w.cell? ⟨l.block, l.base + off + j, none⟩).getD undef
      have hrun := run_loadCells (P := P) w ⟨l.block, l.base + off, none⟩ vs.length f (fun j hj => by
        obtain ⟨r, h1, _⟩ := hcell j hj
        rw [Addr.add_lit]
        simp [f, h1])
      refine ⟨.agg ((List.range vs.length).map f).toArray, ?_, ?_⟩
      · simp only [resS, hpe, asAddr, loadVar, Sem.run_bind, Sem.run_pure, Result.andThen_ok, run_isAgg hu, hd, sizeOf, typeInfo, if_true]
        simp [hi, hsz, hrun]
      · refine .agg (by simp) fun j h1 h2 => ?_
        simp only [List.size_toArray] at h1
        obtain ⟨r, g1, g2⟩ := hcell j h1
        simpa [f, g1] using g2

def AResL (P : Program) (h : AHeap) (env : Env) : List ResultVar → List Value → Prop
  | [], [] => True
  | rv :: rest, v :: vs => ARes P h env rv v ∧ AResL P h env rest vs
  | _, _ => False

theorem aresL_run {P : Program} {m h n env a w} (hr : Rel m h w) (he : EnvRel m h n env a) : ∀ (rvs : List ResultVar) (vs : List Value), AResL P h env rvs vs →
    ∃ rs : List Value, (rvs.mapM (resS a.tmps)).run P w = Result.ok rs w ∧ rs.length = vs.length ∧ ∀ (i : Nat) (v r : Value), vs[i]? = some v → rs[i]? = some r → VRel m h v r
  | [], [], _ => ⟨[], by simp, rfl, by simp⟩
  | [], _ :: _, hv => hv.elim
  | _ :: _, [], hv => hv.elim
  | rv :: rest, v :: vs, hv => by
    obtain ⟨r, h1, h2⟩ := ares_run hr he hv.1
    obtain ⟨rs, h3, h4, h5⟩ := aresL_run hr he rest vs hv.2
    refine ⟨r :: rs, ?_, by simp [h4], fun i v' r' e1 e2 => ?_⟩
    · rw [List.mapM_cons]
      simp only [Sem.run_bind, Sem.run_pure, Result.andThen_ok, h1, h3]
    · cases i with
      | zero => simp at e1 e2; subst e1 e2; exact h2
      | succ i => exact h5 i v' r' (by simpa using e1) (by simpa using e2)

def packR : List Value → Value
  | [v] => v
  | vs => .tuple vs.toArray

/-- The contract of a function out of the abstract wp of its body. -/
theorem tri_of_body {P : Program} {f : FuncId} {fn : Func} {c : Code} {args : List Value} {h : AHeap} {R : Value → AHeap → Prop}
    (hf : P.funcs[f]? = some fn) (hb : fn.body = some c) (hc : callB P f = true) (hn : args.length ≤ fn.ntmps)
    (ha : AWp P fn.ntmps c (fun e env' h' => (e = .ret ∨ e = .normal) ∧ ∃ vs, AResL P h' env' fn.results.toList vs ∧ R (packR vs) h') (envOf args) h) : Tri P f args h R := by
  refine ⟨hc, fun m w rs hr hvs => calls_of_wp hf hb (wp_mono (ha m w _ hr (envRel_of hvs hn)) ?_)⟩
  rintro e a' w' ⟨m', env', h', r1, s1, e1, he, vs, hres, hR⟩
  obtain ⟨rs', g1, g2, g3⟩ := aresL_run (P := P) r1 e1 _ _ hres
  have hrun : ∃ r, (results fn a'.tmps).run P w' = .ok r w' ∧ VRel m' h' (packR vs) r := by
    rw [results_eq, show fn.results = fn.results.toList.toArray by simp, List.mapM_toArray]
    simp only [Sem.run_bind, Sem.run_map, g1, Result.andThen_ok, Sem.run_pure, List.size_toArray]
    have hg : ∀ v : Value, vs = [v] → ∃ r, rs' = [r] ∧ VRel m' h' v r := fun v hv => by
      subst hv
      match rs', g2, g3 with
      | [r], _, g3 => exact ⟨r, rfl, g3 0 v r rfl rfl⟩
    by_cases h1 : vs.length = 1
    · obtain ⟨v, rfl⟩ := List.length_eq_one_iff.1 h1
      obtain ⟨r, rfl, hv⟩ := hg v rfl
      exact ⟨r, by simp, hv⟩
    · have hp : packR vs = .tuple vs.toArray := by
        match vs, h1 with
        | [], _ => rfl
        | [_], h1 => exact absurd rfl h1
        | _ :: _ :: _, _ => rfl
      refine ⟨.tuple rs'.toArray, by simp [show ¬ rs'.length = 1 by omega], ?_⟩
      rw [hp]
      refine .tuple (by simp [g2]) fun i q1 q2 => ?_
      simp only [List.size_toArray] at q1 q2
      simp only [List.getElem_toArray]
      exact g3 i _ _ (List.getElem?_eq_getElem q1) (List.getElem?_eq_getElem q2)
  obtain ⟨r, h1, h2⟩ := hrun
  rcases he with rfl | rfl
  · exact ⟨e1.defers, r, h1, _, r, m', h', rfl, r1, s1, h2, hR⟩
  · exact ⟨e1.defers, r, h1, _, r, m', h', rfl, r1, s1, h2, hR⟩

end Go.Am

namespace Go.Am
set_option linter.unusedSimpArgs false
set_option linter.unusedVariables false

/-- 'v' is 'v1' with its references renumbered. -/
inductive VRen (s : Nat → Nat) : Value → Value → Prop
  | prim {v : Value} (hp : isPrim v = true) : VRen s v v
  | ptr {k off ver : Nat} : VRen s (.pointer (some ⟨k, off, some ver⟩)) (.pointer (some ⟨s k, off, some ver⟩))
  | slice {k off ver len cap : Nat} : VRen s (.slice (some ⟨k, off, some ver⟩) len cap) (.slice (some ⟨s k, off, some ver⟩) len cap)
  | agg {a b : Array Value} (hs : a.size = b.size) (hc : ∀ i (h1 : i < a.size) (h2 : i < b.size), VRen s a[i] b[i]) : VRen s (.agg a) (.agg b)
  | tuple {a b : Array Value} (hs : a.size = b.size) (hc : ∀ i (h1 : i < a.size) (h2 : i < b.size), VRen s a[i] b[i]) : VRen s (.tuple a) (.tuple b)
  | func {fn : Fn} {a b c d : Array Value} (hs : a.size = b.size) (ht : c.size = d.size)
      (hc : ∀ i (h1 : i < a.size) (h2 : i < b.size), VRen s a[i] b[i]) (hd : ∀ i (h1 : i < c.size) (h2 : i < d.size), VRen s c[i] d[i]) :
      VRen s (.func fn a c) (.func fn b d)
  | iface {t : TypeId} {v r : Value} (hv : VRen s v r) : VRen s (.iface t v) (.iface t r)
  | any {c : Nat} : VRen s (.map (some c)) (.map (some c))

theorem VRel.ren {m m' : Map} {h h' : AHeap} {s : Nat → Nat} {v v1 r : Value} (hr : VRen s v v1) (hv : VRel m h v1 r) (hw : Within h'.length v)
    (hm : ∀ (k : Nat) (o' : AObj), h'[k]? = some o' → m' k = m (s k) ∧ ∃ o, h[s k]? = some o ∧ o'.cells.length = o.cells.length ∧ o'.mine = o.mine ∧ o'.esz = o.esz) :
    VRel m' h' v r := by
  induction hr generalizing r with
  | prim hp =>
    cases hv <;> first | exact .prim hp | (simp [isPrim] at hp)
  | @ptr k off ver =>
    cases hv with
    | prim hp => simp [isPrim] at hp
    | ptr ho hv hs hrr =>
      cases hw with
      | prim hp => simp [isPrim] at hp
      | ptr hk =>
        obtain ⟨h1, o, h2, h3, h4, h5⟩ := hm k _ (List.getElem?_eq_getElem hk)
        rw [ho] at h2; cases h2
        refine .ptr (List.getElem?_eq_getElem hk) (by omega) hs fun hq => ?_
        rw [h1]; exact hrr (by omega)
  | @slice k off ver len cap =>
    cases hv with
    | prim hp => simp [isPrim] at hp
    | slice ho hv hs hrr =>
      cases hw with
      | prim hp => simp [isPrim] at hp
      | slice hk =>
        obtain ⟨h1, o, h2, h3, h4, h5⟩ := hm k _ (List.getElem?_eq_getElem hk)
        rw [ho] at h2; cases h2
        refine .slice (List.getElem?_eq_getElem hk) (by omega) hs fun hq => ?_
        rw [h1]
        obtain ⟨l, hl, a, cap', e, c1, c2, c3, c4, c5⟩ := hrr (by omega)
        exact ⟨l, hl, a, cap', e, c1, c2, by rw [h5, h3]; exact c3, fun hh => c4 (by omega), fun hm0 => by rw [h5, h3]; exact c5 (by rw [← h4]; exact hm0)⟩
  | agg hs _ ih =>
    cases hv with
    | prim hp => simp [isPrim] at hp
    | agg hs2 hc2 =>
      cases hw with
      | prim hp => simp [isPrim] at hp
      | agg hw => exact .agg (by omega) fun i h1 h2 => ih i h1 (by omega) (hc2 i (by omega) h2) (hw i h1)
  | tuple hs _ ih =>
    cases hv with
    | prim hp => simp [isPrim] at hp
    | tuple hs2 hc2 =>
      cases hw with
      | prim hp => simp [isPrim] at hp
      | tuple hw => exact .tuple (by omega) fun i h1 h2 => ih i h1 (by omega) (hc2 i (by omega) h2) (hw i h1)
  | func hs ht _ _ i1 i2 =>
    cases hv with
    | prim hp => simp [isPrim] at hp
    | func hs2 ht2 hc2 hd2 =>
      cases hw with
      | prim hp => simp [isPrim] at hp
      | func hw1 hw2 => exact .func (by omega) (by omega) (fun i h1 h2 => i1 i h1 (by omega) (hc2 i (by omega) h2) (hw1 i h1)) (fun i h1 h2 => i2 i h1 (by omega) (hd2 i (by omega) h2) (hw2 i h1))
  | iface _ ih =>
    cases hv with
    | prim hp => simp [isPrim] at hp
    | iface hv2 =>
      cases hw with
      | prim hp => simp [isPrim] at hp
      | iface hw => exact .iface (ih hv2 hw)
  | any =>
    cases hv with
    | prim hp => simp [isPrim] at hp
    | any hr => exact .any hr

/-- What may be forgotten of a heap: 'h2' holds blocks of 'h1', under other numbers; the first ones (those of 'h0') keep theirs. -/
structure Keeps (s : Nat → Nat) (h0 h1 h2 : AHeap) : Prop where
  same : ∀ k, k < h0.length → s k = k
  long : h0.length ≤ h2.length
  inj : ∀ (i j : Nat), i < h2.length → j < h2.length → s i = s j → i = j
  blocks : ∀ (k : Nat) (o2 : AObj), h2[k]? = some o2 → ∃ o1, h1[s k]? = some o1 ∧ o2.cells.length = o1.cells.length ∧ o2.mine = o1.mine ∧ o2.esz = o1.esz ∧
    ∀ (i : Nat) (v : Value), o2.cells[i]? = some v → Within h2.length v ∧ ∃ v1, o1.cells[i]? = some v1 ∧ VRen s v v1

theorem Rel.keeps {s : Nat → Nat} {m0 m1 : Map} {h0 h1 h2 : AHeap} {w0 w1 : World} (hr : Rel m1 h1 w1) (st : Step m0 h0 w0 m1 h1 w1) (kp : Keeps s h0 h1 h2) :
    Rel (fun k => m1 (s k)) h2 w1 ∧ Step m0 h0 w0 (fun k => m1 (s k)) h2 w1 := by
  have hm : ∀ (k : Nat) (o' : AObj), h2[k]? = some o' → m1 (s k) = m1 (s k) ∧ ∃ o, h1[s k]? = some o ∧ o'.cells.length = o.cells.length ∧ o'.mine = o.mine ∧ o'.esz = o.esz := fun k o' hk => by
    obtain ⟨o1, g1, g2, g3, g4, _⟩ := kp.blocks k o' hk
    exact ⟨rfl, o1, g1, g2, g3, g4⟩
  refine ⟨⟨fun k o l hk hl hp => ?_, fun k1 k2 o1 o2 l1 l2 g1 g2 e1 e2 hne hm1 p1 p2 => ?_, fun k o hk v hv => ?_⟩, ⟨fun k o hk => ?_, st.size, st.os, st.tape, st.output, st.frame, fun k o l hk hl hp => ?_⟩⟩
  · obtain ⟨o1, g1, g2, g3, g4, g5⟩ := kp.blocks k o hk
    obtain ⟨c, ty, fz, hb, hc, hmm⟩ := hr.holds _ o1 l g1 hl (by omega)
    refine ⟨c, ty, fz, hb, fun i hi => ?_, fun hh => hmm (by rw [← g3]; exact hh)⟩
    obtain ⟨hw, v1, hv1, hren⟩ := g5 i _ (List.getElem?_eq_getElem hi)
    obtain ⟨r, r1, r2⟩ := hc i (by omega)
    obtain ⟨hlt, hv1⟩ := List.getElem?_eq_some_iff.1 hv1
    refine ⟨r, r1, VRel.ren hren (by rw [← hv1]; exact r2) hw hm⟩
  · obtain ⟨o1', g1', q1, q2, _⟩ := kp.blocks k1 o1 g1
    obtain ⟨o2', g2', q3, q4, _⟩ := kp.blocks k2 o2 g2
    exact hr.sep _ _ o1' o2' l1 l2 g1' g2' e1 e2 (fun e => hne (kp.inj k1 k2 (List.getElem?_eq_some_iff.1 g1).1 (List.getElem?_eq_some_iff.1 g2).1 e)) (by rw [← q2]; exact hm1) (by omega) (by omega)
  · obtain ⟨o1, g1, g2, g3, g4, g5⟩ := kp.blocks k o hk
    obtain ⟨i, hi, rfl⟩ := List.getElem_of_mem hv
    exact (g5 i _ (List.getElem?_eq_getElem hi)).1
  · obtain ⟨o', p1, p2, p3, p4, p5, p6⟩ := st.ext k o hk
    have hk0 := (List.getElem?_eq_some_iff.1 hk).1
    have hs := kp.same k hk0
    have hk2 : k < h2.length := Nat.lt_of_lt_of_le hk0 kp.long
    obtain ⟨o1, g1, g2, g3, g4, _⟩ := kp.blocks k _ (List.getElem?_eq_getElem hk2)
    rw [hs, p1] at g1; cases g1
    refine ⟨_, List.getElem?_eq_getElem hk2, by omega, by rw [g3, p3], by rw [g4, p4], fun l hl => ?_, fun hn => by simp only [hs]; exact p6 hn⟩
    obtain ⟨l', q1, q2⟩ := p5 l hl
    exact ⟨l', by simp only [hs]; exact q1, fun hq => q2 (by omega)⟩
  · obtain ⟨o1, g1, g2, g3, g4, _⟩ := kp.blocks k o hk
    obtain h := st.own _ o1 l g1 hl (by omega)
    rcases h with h | ⟨k0, o0, l0, a1, a2, a3, a4, a5⟩
    · exact .inl h
    · exact .inr ⟨k0, o0, l0, a1, a2, a3, a4, fun hh => a5 (by rw [← g3]; exact hh)⟩

/-- A contract's heap may be made smaller. -/
theorem Tri.keeps {P : Program} {f : FuncId} {args : List Value} {h : AHeap} {R R' : Value → AHeap → Prop} (t : Tri P f args h R)
    (hk : (∀ (k : Nat) (o : AObj), h[k]? = some o → ∀ v ∈ o.cells, Within h.length v) → ∀ v1 h1, R v1 h1 → ∃ s h2 v2, Keeps s h h1 h2 ∧ Within h2.length v2 ∧ VRen s v2 v1 ∧ R' v2 h2) : Tri P f args h R' :=
  ⟨t.1, fun m w rs hr hvs => (t.2 m w rs hr hvs).mono fun e w' ⟨v, r, m', h', he, p1, p2, p3, p4⟩ => by
    obtain ⟨s, h2, v2, kp, hw, hren, hR⟩ := hk hr.closed v h' p4
    obtain ⟨q1, q2⟩ := p1.keeps p2 kp
    exact ⟨v2, r, _, h2, he, q1, q2, VRel.ren hren p3 hw fun k o' hk => by
      obtain ⟨o1, g1, g2, g3, g4, _⟩ := kp.blocks k o' hk
      exact ⟨rfl, o1, g1, g2, g3, g4⟩, hR⟩⟩

theorem VRen.id {s : Nat → Nat} {n : Nat} {v : Value} (hw : Within n v) (hs : ∀ k, k < n → s k = k) : VRen s v v := by
  induction hw with
  | prim hp => exact .prim hp
  | @ptr k off ver hk => have := VRen.ptr (s := s) (k := k) (off := off) (ver := ver); rwa [hs k hk] at this
  | @slice k off ver len cap hk => have := VRen.slice (s := s) (k := k) (off := off) (ver := ver) (len := len) (cap := cap); rwa [hs k hk] at this
  | agg _ ih => exact .agg rfl fun i h1 _ => ih i h1
  | tuple _ ih => exact .tuple rfl fun i h1 _ => ih i h1
  | func _ _ i1 i2 => exact .func rfl rfl (fun i h1 _ => i1 i h1) (fun i h1 _ => i2 i h1)
  | iface _ ih => exact .iface ih
  | any => exact .any

def Closed (h : AHeap) : Prop := ∀ (k : Nat) (o : AObj), h[k]? = some o → ∀ v ∈ o.cells, Within h.length v

/-- What the call returned when it ends so and so. -/
def Ret (P : Program) (f : FuncId) (args : List Value) (h : AHeap) (v : Value) (h' : AHeap) : Prop := Tri P f args h fun v' h'' => v' = v ∧ h'' = h'

/-- The result refers to nothing new; old blocks are 'hb'. -/
theorem Tri.forget {P : Program} {f : FuncId} {args : List Value} {h hb : AHeap} {V : Value} (hl : hb.length = h.length) (hw : Within h.length V) (hc : Closed h → Closed hb)
    (t : Tri P f args h fun v h' => v = V ∧ ∃ g, h' = hb ++ g) : Ret P f args h V hb :=
  t.keeps fun hcl v1 h1 ⟨e1, g, e2⟩ => by
    subst e1 e2
    refine ⟨fun k => k, hb, v1, ⟨fun _ _ => rfl, by omega, fun _ _ _ _ e => e, fun k o hk => ?_⟩, by rw [hl]; exact hw, .id hw (fun _ _ => rfl), rfl, rfl⟩
    have hlt := (List.getElem?_eq_some_iff.1 hk).1
    refine ⟨o, by rw [List.getElem?_append_left hlt]; exact hk, rfl, rfl, rfl, fun i v hv => ?_⟩
    have := hc hcl k o hk v (List.mem_of_getElem? hv)
    exact ⟨this, v, hv, .id this (fun _ _ => rfl)⟩

/-- The result refers to one new block, of cells without references; old blocks are 'hb'. -/
theorem Tri.forget1 {P : Program} {f : FuncId} {args : List Value} {h hb : AHeap} {V : Value} {o : AObj} (hl : hb.length = h.length) (hw : Within (h.length + 1) V) (hc : Closed h → Closed hb)
    (ho : ∀ v ∈ o.cells, isPrim v = true)
    (t : Tri P f args h fun v h' => ∃ g k, h' = hb ++ g ∧ h'[k]? = some o ∧ h.length ≤ k ∧ VRen (fun j => if j < h.length then j else k) V v) : Ret P f args h V (hb ++ [o]) :=
  t.keeps fun hcl v1 h1 ⟨g, k, e1, e2, e3, e4⟩ => by
    subst e1
    refine ⟨fun j => if j < h.length then j else k, hb ++ [o], V, ⟨fun j hj => by simp [hj], by simp; omega, fun i j hi hj he => ?_, fun j x hj => ?_⟩, by simpa [hl] using hw, e4, rfl, rfl⟩
    · simp only [List.length_append, List.length_singleton] at hi hj
      split at he <;> split at he <;> omega
    · rcases lookup_push hj with ⟨h1, h2⟩ | ⟨h1, h2⟩
      · rw [hl] at h1
        refine ⟨x, by simp only [h1, if_true]; rw [List.getElem?_append_left (by omega)]; exact h2, rfl, rfl, rfl, fun i v hv => ?_⟩
        have := hc hcl j x h2 v (List.mem_of_getElem? hv)
        exact ⟨this.mono (by simp), v, hv, .id this (fun q hq => by simp only [hl] at hq; simp [hq])⟩
      · subst h2
        rw [hl] at h1
        refine ⟨x, by subst h1; simpa using e2, rfl, rfl, rfl, fun i v hv => ?_⟩
        have := ho v (List.mem_of_getElem? hv)
        exact ⟨.prim this, v, hv, .prim this⟩

end Go.Am
