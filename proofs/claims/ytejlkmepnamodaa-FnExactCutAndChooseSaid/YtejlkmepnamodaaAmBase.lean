/-
  An abstract heap over the model: values with abstract addresses, and how they stand to the real world. General: no program is named.
-/
import Derived.Orders
import Derived.Tactics
import Derived.Laws.World
import Derived.Laws.NewBlocks
namespace Go.Am
set_option linter.unusedSimpArgs false
set_option linter.unusedVariables false

/-- A block of the abstract heap. 'mine': it is one's own (no other abstract block lies in its real block); 'esz': cells per element of a slice. -/
structure AObj where
  cells : List Value
  mine : Bool
  esz : Nat

/-- Where an abstract block lies: real block, first cell, end of the real row. -/
structure Loc where
  block : Nat
  base : Nat
  rcap : Nat

abbrev AHeap := List AObj
abbrev Map := Nat → Option Loc

def isPrim : Value → Bool
  | .bool _ | .int .. | .float .. | .complex .. | .string _ | .nilFunc | .nilIface => true
  | .pointer none => true
  | .slice none 0 0 => true
  | .map none | .chan none => true
  | _ => false

def SliceAt (o : AObj) (l : Loc) (off len cap : Nat) (r : Value) : Prop :=
  ∃ a cap', r = .slice a len cap' ∧ len ≤ cap ∧ cap ≤ cap' ∧ off + cap * o.esz = o.cells.length ∧
    (off < o.cells.length → a = some ⟨l.block, l.base + off, none⟩) ∧
    (o.mine = true → (0 < o.cells.length → off + cap' * o.esz = l.rcap) ∧ (o.cells.length = 0 → cap' = 0))

/-- The abstract value stands for the real one. A reference bears the length of its block: if the block has grown since, nothing is said of it. -/
inductive VRel (m : Map) (h : AHeap) : Value → Value → Prop
  | prim {v : Value} (hp : isPrim v = true) : VRel m h v v
  | ptr {k off ver : Nat} {o : AObj} {r : Value} (ho : h[k]? = some o) (hv : ver ≤ o.cells.length) (hs : ∃ a, r = .pointer (some a))
      (hr : ver = o.cells.length → ∃ l, m k = some l ∧ r = .pointer (some ⟨l.block, l.base + off, none⟩)) :
      VRel m h (.pointer (some ⟨k, off, some ver⟩)) r
  | slice {k off ver len cap : Nat} {o : AObj} {r : Value} (ho : h[k]? = some o) (hv : ver ≤ o.cells.length) (hs : ∃ a n c, r = .slice a n c)
      (hr : ver = o.cells.length → ∃ l, m k = some l ∧ SliceAt o l off len cap r) : VRel m h (.slice (some ⟨k, off, some ver⟩) len cap) r
  | agg {a b : Array Value} (hs : a.size = b.size) (hc : ∀ i (h1 : i < a.size) (h2 : i < b.size), VRel m h a[i] b[i]) : VRel m h (.agg a) (.agg b)
  | tuple {a b : Array Value} (hs : a.size = b.size) (hc : ∀ i (h1 : i < a.size) (h2 : i < b.size), VRel m h a[i] b[i]) : VRel m h (.tuple a) (.tuple b)
  | func {fn : Fn} {a b c d : Array Value} (hs : a.size = b.size) (ht : c.size = d.size)
      (hc : ∀ i (h1 : i < a.size) (h2 : i < b.size), VRel m h a[i] b[i]) (hd : ∀ i (h1 : i < c.size) (h2 : i < d.size), VRel m h c[i] d[i]) :
      VRel m h (.func fn a c) (.func fn b d)
  | iface {t : TypeId} {v r : Value} (hv : VRel m h v r) : VRel m h (.iface t v) (.iface t r)

/-- Only numbers below n. -/
inductive Within (n : Nat) : Value → Prop
  | prim {v : Value} (hp : isPrim v = true) : Within n v
  | ptr {k off ver : Nat} (hk : k < n) : Within n (.pointer (some ⟨k, off, some ver⟩))
  | slice {k off ver len cap : Nat} (hk : k < n) : Within n (.slice (some ⟨k, off, some ver⟩) len cap)
  | agg {a : Array Value} (hc : ∀ i (h1 : i < a.size), Within n a[i]) : Within n (.agg a)
  | tuple {a : Array Value} (hc : ∀ i (h1 : i < a.size), Within n a[i]) : Within n (.tuple a)
  | func {fn : Fn} {a c : Array Value} (hc : ∀ i (h1 : i < a.size), Within n a[i]) (hd : ∀ i (h1 : i < c.size), Within n c[i]) : Within n (.func fn a c)
  | iface {t : TypeId} {v : Value} (hv : Within n v) : Within n (.iface t v)

theorem Within.mono {n n' : Nat} {v : Value} (h : Within n v) (hn : n ≤ n') : Within n' v := by
  induction h with
  | prim hp => exact .prim hp
  | ptr hk => exact .ptr (by omega)
  | slice hk => exact .slice (by omega)
  | agg _ ih => exact .agg ih
  | tuple _ ih => exact .tuple ih
  | func _ _ i1 i2 => exact .func i1 i2
  | iface _ ih => exact .iface ih

theorem VRel.within {m h} {v r : Value} (hv : VRel m h v r) : Within h.length v := by
  induction hv with
  | prim hp => exact .prim hp
  | ptr ho _ _ _ => exact .ptr (List.getElem?_eq_some_iff.1 ho).1
  | slice ho _ _ _ => exact .slice (List.getElem?_eq_some_iff.1 ho).1
  | agg hs _ ih => exact .agg fun i h1 => ih i h1 (by omega)
  | tuple hs _ ih => exact .tuple fun i h1 => ih i h1 (by omega)
  | func hs ht _ _ i1 i2 => exact .func (fun i h1 => i1 i h1 (by omega)) (fun i h1 => i2 i h1 (by omega))
  | iface _ ih => exact .iface ih

def Holds (m : Map) (h : AHeap) (o : AObj) (l : Loc) (w : World) : Prop :=
  0 < o.cells.length → ∃ c ty fz, w.heap[l.block]? = some (.cells c ty fz) ∧
    (∀ i (hi : i < o.cells.length), ∃ r, c[l.base + i]? = some r ∧ VRel m h o.cells[i] r) ∧
    (o.mine = true → l.base = 0 ∧ fz = (0, 0) ∧ c.size = l.rcap)

structure Rel (m : Map) (h : AHeap) (w : World) : Prop where
  holds : ∀ (k : Nat) (o : AObj) (l : Loc), h[k]? = some o → m k = some l → Holds m h o l w
  sep : ∀ (k1 k2 : Nat) (o1 o2 : AObj) (l1 l2 : Loc), h[k1]? = some o1 → h[k2]? = some o2 → m k1 = some l1 → m k2 = some l2 → k1 ≠ k2 → o1.mine = true →
    0 < o1.cells.length → 0 < o2.cells.length → l1.block ≠ l2.block
  closed : ∀ (k : Nat) (o : AObj), h[k]? = some o → ∀ v ∈ o.cells, Within h.length v

structure Step (m : Map) (h : AHeap) (w : World) (m' : Map) (h' : AHeap) (w' : World) : Prop where
  ext : ∀ (k : Nat) (o : AObj), h[k]? = some o → ∃ o', h'[k]? = some o' ∧ o.cells.length ≤ o'.cells.length ∧ o'.mine = o.mine ∧ o'.esz = o.esz ∧
    (∀ l, m k = some l → ∃ l', m' k = some l' ∧ (o'.cells.length = o.cells.length → l' = l)) ∧ (m k = none → m' k = none)
  size : w.heap.size ≤ w'.heap.size
  os : w'.os = w.os
  tape : w'.tape = w.tape
  output : w'.output = w.output
  frame : ∀ b, b < w.heap.size → (∀ (k : Nat) (o : AObj) (l : Loc), h[k]? = some o → m k = some l → o.mine = true → 0 < o.cells.length → l.block ≠ b) → w'.heap[b]? = w.heap[b]?
  own : ∀ (k : Nat) (o : AObj) (l : Loc), h'[k]? = some o → m' k = some l → 0 < o.cells.length →
    w.heap.size ≤ l.block ∨ ∃ k0 o0 l0, h[k0]? = some o0 ∧ m k0 = some l0 ∧ 0 < o0.cells.length ∧ l0.block = l.block ∧ (o.mine = true → o0.mine = true)

/-- What grows. -/
def Ext (m : Map) (h : AHeap) (m' : Map) (h' : AHeap) : Prop :=
  ∀ (k : Nat) (o : AObj), h[k]? = some o → ∃ o', h'[k]? = some o' ∧ o.cells.length ≤ o'.cells.length ∧ o'.mine = o.mine ∧ o'.esz = o.esz ∧
    (∀ l, m k = some l → ∃ l', m' k = some l' ∧ (o'.cells.length = o.cells.length → l' = l))

theorem Step.toExt {m h w m' h' w'} (s : Step m h w m' h' w') : Ext m h m' h' := fun k o ho => by
  obtain ⟨o', h1, h2, h3, h4, h5, _⟩ := s.ext k o ho
  exact ⟨o', h1, h2, h3, h4, h5⟩

theorem VRel.mono {m h m' h'} {v r : Value} (hv : VRel m h v r) (e : Ext m h m' h') : VRel m' h' v r := by
  induction hv with
  | prim hp => exact .prim hp
  | @ptr k off ver o r ho hv hs hr =>
    obtain ⟨o', h1, h2, h3, h4, h5⟩ := e _ _ ho
    refine .ptr h1 (Nat.le_trans hv h2) hs fun hq => ?_
    have hq' : ver = o.cells.length := by omega
    obtain ⟨l, hl, he⟩ := hr hq'
    obtain ⟨l', hl', hx⟩ := h5 l hl
    have := hx (by omega)
    subst this
    exact ⟨_, hl', he⟩
  | @slice k off ver len cap o r ho hv hs hr =>
    obtain ⟨o', h1, h2, h3, h4, h5⟩ := e _ _ ho
    refine .slice h1 (Nat.le_trans hv h2) hs fun hq => ?_
    have hq' : ver = o.cells.length := by omega
    obtain ⟨l, hl, a, cap', he, c1, c2, c3, c4, c5⟩ := hr hq'
    obtain ⟨l', hl', hx⟩ := h5 l hl
    have := hx (by omega)
    subst this
    refine ⟨_, hl', a, cap', he, c1, c2, by rw [h4]; omega, fun hlt => c4 (by omega), fun hm => ?_⟩
    rw [h3] at hm
    obtain ⟨d1, d2⟩ := c5 hm
    exact ⟨fun hlt => by rw [h4]; exact d1 (by omega), fun hz => d2 (by omega)⟩
  | agg hs _ ih => exact .agg hs ih
  | tuple hs _ ih => exact .tuple hs ih
  | func hs ht _ _ ih1 ih2 => exact .func hs ht ih1 ih2
  | iface _ ih => exact .iface ih

theorem Ext.refl (m : Map) (h : AHeap) : Ext m h m h := fun _ o ho => ⟨o, ho, Nat.le_refl _, rfl, rfl, fun l hl => ⟨l, hl, fun _ => rfl⟩⟩

theorem Step.refl {m : Map} {h : AHeap} {w : World} : Step m h w m h w where
  ext := fun _ o ho => ⟨o, ho, Nat.le_refl _, rfl, rfl, fun l hl => ⟨l, hl, fun _ => rfl⟩, id⟩
  size := Nat.le_refl _
  os := rfl
  tape := rfl
  output := rfl
  frame := fun _ _ _ => rfl
  own := fun k o l ho hl hp => .inr ⟨k, o, l, ho, hl, hp, rfl, id⟩

theorem Step.trans {m h w m1 h1 w1 m2 h2 w2} (a : Step m h w m1 h1 w1) (b : Step m1 h1 w1 m2 h2 w2) : Step m h w m2 h2 w2 where
  ext := fun k o ho => by
    obtain ⟨o1, p1, p2, p3, p4, p5, p6⟩ := a.ext k o ho
    obtain ⟨o2, q1, q2, q3, q4, q5, q6⟩ := b.ext k o1 p1
    refine ⟨o2, q1, Nat.le_trans p2 q2, q3.trans p3, q4.trans p4, fun l hl => ?_, fun hn => q6 (p6 hn)⟩
    obtain ⟨l1, hl1, e1⟩ := p5 l hl
    obtain ⟨l2, hl2, e2⟩ := q5 l1 hl1
    exact ⟨l2, hl2, fun hq => (e2 (by omega)).trans (e1 (by omega))⟩
  size := Nat.le_trans a.size b.size
  os := b.os.trans a.os
  tape := b.tape.trans a.tape
  output := b.output.trans a.output
  frame := fun c hc hno => by
    rw [b.frame c (Nat.lt_of_lt_of_le hc a.size) fun k o l ho hl hm hp he => ?_, a.frame c hc hno]
    rcases a.own k o l ho hl hp with hge | ⟨k0, o0, l0, h0, hl0, hp0, heq, hm0⟩
    · omega
    · exact hno k0 o0 l0 h0 hl0 (hm0 hm) hp0 (heq.trans he)
  own := fun k o l ho hl hp => by
    rcases b.own k o l ho hl hp with hge | ⟨k1, o1, l1, h1, hl1, hp1, heq, hm1⟩
    · exact .inl (Nat.le_trans a.size hge)
    · rcases a.own k1 o1 l1 h1 hl1 hp1 with hge | ⟨k0, o0, l0, h0, hl0, hp0, heq0, hm0⟩
      · exact .inl (by omega)
      · exact .inr ⟨k0, o0, l0, h0, hl0, hp0, heq0.trans heq, fun hm => hm0 (hm1 hm)⟩

/-! ## Frames -/

abbrev Env := Nat → Value

def Env.put (env : Env) (dst : Option Tmp) (v : Value) : Env :=
  match dst with
  | some d => fun t => if t = d then v else env t
  | none => env

def aeval (env : Env) : Operand → Value
  | .tmp t => env t
  | .const v => v
  | .global g => .pointer (some ⟨g, 0, none⟩)
  | .func f => .func (.func f) #[] #[]

structure EnvRel (m : Map) (h : AHeap) (n : Nat) (env : Env) (a : Act) : Prop where
  size : a.tmps.size = n
  defers : a.defers = []
  vals : ∀ t, VRel m h (env t) (a.tmps.getD t undef)

theorem EnvRel.mono {m h m' h' n env a} (e : EnvRel m h n env a) (x : Ext m h m' h') : EnvRel m' h' n env a :=
  ⟨e.size, e.defers, fun t => (e.vals t).mono x⟩

theorem VRel.undef (m : Map) (h : AHeap) : VRel m h undef undef := .tuple rfl fun i h1 _ => by simp at h1

theorem EnvRel.put {m h n env a} (e : EnvRel m h n env a) {dst : Option Tmp} (hd : ∀ d, dst = some d → d < n) {v r : Value} (hv : VRel m h v r) :
    EnvRel m h n (env.put dst v) (a.put dst r) := by
  cases dst with
  | none => exact e
  | some d =>
    have hdn := hd d rfl
    have hs := e.size
    refine ⟨by simp [Act.put, e.size], by simp [Act.put, e.defers], fun t => ?_⟩
    by_cases ht : t = d
    · subst ht
      simpa [Env.put, Act.put, Array.getD_eq_getD_getElem?, Array.getElem?_setIfInBounds, hs, hdn] using hv
    · have := e.vals t
      simpa [Env.put, Act.put, ht, Array.getD_eq_getD_getElem?, Array.getElem?_setIfInBounds, Ne.symm ht] using this

/-- A constant of the text: no reference in it. -/
def isConst : Value → Bool
  | .agg cs => cs.toList.all isPrim
  | .tuple cs => cs.toList.all isPrim
  | v => isPrim v

theorem VRel.const (m : Map) (h : AHeap) {v : Value} (hc : isConst v = true) : VRel m h v v := by
  unfold isConst at hc
  split at hc
  · exact .agg rfl fun i h1 _ => .prim (List.all_eq_true.1 hc _ (by simp))
  · exact .tuple rfl fun i h1 _ => .prim (List.all_eq_true.1 hc _ (by simp))
  · exact .prim hc

/-! ## Contracts -/

def VRels (m : Map) (h : AHeap) (vs : List Value) (rs : Array Value) : Prop :=
  vs.length = rs.size ∧ ∀ (i : Nat) (v r : Value), vs[i]? = some v → rs[i]? = some r → VRel m h v r

def callB (P : Program) (f : FuncId) : Bool :=
  match P.funcs[f]? with
  | some fn => !(fn.name == "runtime.NumGoroutine") && fn.body.isSome
  | none => false

/-- The contract of a function over abstract heaps. -/
def Tri (P : Program) (f : FuncId) (args : List Value) (h : AHeap) (R : Value → AHeap → Prop) : Prop :=
  callB P f = true ∧ ∀ m w rs, Rel m h w → VRels m h args rs → Calls P f rs w fun e w' =>
    ∃ v r m' h', e = .returned r ∧ Rel m' h' w' ∧ Step m h w m' h' w' ∧ VRel m' h' v r ∧ R v h'

theorem Tri.mono {P f args h} {R R' : Value → AHeap → Prop} (t : Tri P f args h R) (hr : ∀ v h', R v h' → R' v h') : Tri P f args h R' :=
  ⟨t.1, fun m w rs hrel hvs => (t.2 m w rs hrel hvs).mono fun _ _ ⟨v, r, m', h', p1, p2, p3, p4, p5⟩ => ⟨v, r, m', h', p1, p2, p3, p4, hr _ _ p5⟩⟩

/-- The abstract wp of a piece of code. -/
def AWp (P : Program) (n : Nat) (c : Code) (Q : Exit → Env → AHeap → Prop) (env : Env) (h : AHeap) : Prop :=
  ∀ m w a, Rel m h w → EnvRel m h n env a → c.wp P (fun e a' w' =>
    ∃ m' env' h', Rel m' h' w' ∧ Step m h w m' h' w' ∧ EnvRel m' h' n env' a' ∧ Q e env' h') a w

theorem AWp.mono {P n c} {Q Q' : Exit → Env → AHeap → Prop} {env h} (a : AWp P n c Q env h) (hq : ∀ e env h, Q e env h → Q' e env h) : AWp P n c Q' env h :=
  fun m w x hr he => wp_mono (a m w x hr he) fun _ _ _ ⟨m', env', h', p1, p2, p3, p4⟩ => ⟨m', env', h', p1, p2, p3, hq _ _ _ p4⟩

def AThen (K : Env → AHeap → Prop) (Q : Exit → Env → AHeap → Prop) : Exit → Env → AHeap → Prop
  | .normal, env, h => K env h
  | e, env, h => Q e env h

def ABlock (id : Nat) (Q : Exit → Env → AHeap → Prop) : Exit → Env → AHeap → Prop
  | .exit id', env, h => if id' = id then Q .normal env h else Q (.exit id') env h
  | e, env, h => Q e env h

section rules
variable {P : Program} {n : Nat} {Q : Exit → Env → AHeap → Prop} {env : Env} {h : AHeap}

theorem awp_skip (hq : Q .normal env h) : AWp P n .skip Q env h :=
  fun m _ _ hr he => wp_skip ⟨m, env, h, hr, Step.refl, he, hq⟩
theorem awp_exit {id : Nat} (hq : Q (.exit id) env h) : AWp P n (.exit id) Q env h :=
  fun m _ _ hr he => wp_exit ⟨m, env, h, hr, Step.refl, he, hq⟩
theorem awp_ret (hq : Q .ret env h) : AWp P n .ret Q env h :=
  fun m _ _ hr he => wp_ret ⟨m, env, h, hr, Step.refl, he, hq⟩

theorem awp_seq {x y : Code} (hx : AWp P n x (AThen (AWp P n y Q) Q) env h) : AWp P n (.seq x y) Q env h := by
  intro m w a hr he
  refine wp_seq (wp_mono (hx m w a hr he) ?_)
  rintro e a1 w1 ⟨m1, env1, h1, r1, s1, e1, q1⟩
  cases e with
  | normal =>
    refine wp_mono (q1 m1 w1 a1 r1 e1) ?_
    rintro e2 a2 w2 ⟨m2, env2, h2, r2, s2, e2', q2⟩
    exact ⟨m2, env2, h2, r2, s1.trans s2, e2', q2⟩
  | _ => exact ⟨m1, env1, h1, r1, s1, e1, q1⟩

theorem awp_block {id : Nat} {c : Code} (hc : AWp P n c (ABlock id Q) env h) : AWp P n (.block id c) Q env h := by
  intro m w a hr he
  refine wp_block (wp_mono (hc m w a hr he) ?_)
  rintro e a1 w1 ⟨m1, env1, h1, r1, s1, e1, q1⟩
  cases e with
  | exit id' =>
    simp only [ABlock] at q1
    simp only [Exit.inBlock]
    split <;> rename_i hid <;> simp only [hid, if_true, if_false] at q1
    · exact ⟨m1, env1, h1, r1, s1, e1, q1⟩
    · exact ⟨m1, env1, h1, r1, s1, e1, by simpa [hid] using q1⟩
  | _ => exact ⟨m1, env1, h1, r1, s1, e1, q1⟩

theorem VRel.bool {m h} {b : Bool} {r : Value} (hv : VRel m h (.bool b) r) : r = .bool b := by cases hv; rfl
theorem VRel.int {m h} {k : IntKind} {z : Int} {r : Value} (hv : VRel m h (.int k z) r) : r = .int k z := by cases hv; rfl

theorem EnvRel.eval {m a} (he : EnvRel m h n env a) (x : Operand) (hx : ∀ v, x = .const v → isConst v = true) (hg : ∀ g, x ≠ .global g) :
    VRel m h (aeval env x) (a.eval x) := by
  cases x with
  | tmp t => exact he.vals t
  | const v => exact .const _ _ (hx v rfl)
  | global g => exact absurd rfl (hg g)
  | func f => exact .func rfl rfl (fun i h1 _ => by simp at h1) (fun i h1 _ => by simp at h1)

theorem awp_cond {t : Tmp} {x y : Code} {b : Bool} (hc : env t = .bool b) (hx : AWp P n (if b then x else y) Q env h) : AWp P n (.cond (.tmp t) x y) Q env h := by
  intro m w a hr he
  have hv := he.vals t
  rw [hc] at hv
  exact wp_cond (t := b) (by simpa [Act.eval] using hv.bool) (hx m w a hr he)

/-- A loop: 'S' over a state that falls. -/
theorem awp_loop {c : Code} {σ : Type} (I : σ → Env → AHeap → Prop) (μ : σ → Nat) (s : σ) (h0 : I s env h)
    (round : ∀ s env h, I s env h → AWp P n c (AThen (fun env' h' => ∃ s', I s' env' h' ∧ μ s' < μ s) Q) env h) : AWp P n (.loop c) Q env h := by
  intro m w a hr he b k cs
  have key : ∀ N s env1 h1 m1 w1 a1, μ s = N → I s env1 h1 → Rel m1 h1 w1 → Step m h w m1 h1 w1 → EnvRel m1 h1 n env1 a1 →
      ∃ e a' w', (∃ m' env' h', Rel m' h' w' ∧ Step m h w m' h' w' ∧ EnvRel m' h' n env' a' ∧ Q e env' h') ∧
        Arrives P (lone (b.at a1 (.code c :: .inLoop c :: k)) cs w1) b k cs e a' w' := by
    intro N
    induction N using Nat.strongRecOn with
    | _ N ih =>
      intro s env1 h1 m1 w1 a1 hn hI hr1 hs1 he1
      obtain ⟨e, a2, w2, ⟨m2, env2, h2, r2, s2, e2, q2⟩, harr⟩ := round s env1 h1 hI m1 w1 a1 hr1 he1 b (.inLoop c :: k) cs
      cases e with
      | normal =>
        obtain ⟨s', hI', hlt⟩ := q2
        obtain ⟨e3, a3, w3, hq3, harr3⟩ := ih (μ s') (hn ▸ hlt) s' env2 h2 m2 w2 a2 rfl hI' r2 (hs1.trans s2) e2
        exact ⟨e3, a3, w3, hq3, .of_steps (Steps.trans harr (.one step_inLoop)) harr3⟩
      | exit id => exact ⟨_, a2, w2, ⟨m2, env2, h2, r2, hs1.trans s2, e2, q2⟩, .pass (x := .inLoop c) rfl (fun _ _ => .inl (by simp)) harr⟩
      | goto l => exact ⟨_, a2, w2, ⟨m2, env2, h2, r2, hs1.trans s2, e2, q2⟩, .pass (x := .inLoop c) rfl (fun _ _ => .inl (by simp)) harr⟩
      | ret => exact ⟨_, a2, w2, ⟨m2, env2, h2, r2, hs1.trans s2, e2, q2⟩, .pass (x := .inLoop c) rfl (fun _ _ => .inl (by simp)) harr⟩
      | panic ch => exact ⟨_, a2, w2, ⟨m2, env2, h2, r2, hs1.trans s2, e2, q2⟩, .pass (x := .inLoop c) rfl (fun _ _ => .inl (by simp)) harr⟩
      | outgrown => exact ⟨_, a2, w2, ⟨m2, env2, h2, r2, hs1.trans s2, e2, q2⟩, .pass (x := .inLoop c) rfl (fun _ _ => .inl (by simp)) harr⟩
  obtain ⟨e, a', w', hq, harr⟩ := key _ s env h m w a rfl h0 hr (Step.refl) he
  exact ⟨e, a', w', hq, .of_steps (.one step_loop) harr⟩

end rules
end Go.Am
