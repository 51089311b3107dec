/-
  The abstract heap: plain laws of taking things in turn; lists of one number. General: no program is named.
-/
import Derived.Test.YtnbpakikglpkcaaAmLib10
import Derived.Test.YtnbpakikglpkcaaAmCopy
namespace Go.Am
set_option linter.unusedSimpArgs false
set_option linter.unusedVariables false
/-! ## Lists of one number, made by copying -/
def repF (c : Int) (n s : Nat) : List Int := List.replicate s c ++ List.replicate (n - s) 0
theorem repF_len {c : Int} {n s : Nat} (h : s ≤ n) : (repF c n s).length = n := by simp [repF]; omega
theorem repF_full {c : Int} {n : Nat} : repF c n n = List.replicate n c := by simp [repF]
theorem repF_first {c : Int} {n : Nat} (h : 1 ≤ n) : (List.replicate n 0).take 0 ++ [c].take (min [c].length n) ++ (List.replicate n 0).drop (0 + min [c].length n) = repF c n 1 := by
  have : min [c].length n = 1 := by simp; omega
  rw [this]; simp [repF]
theorem repF_part {c : Int} {n s : Nat} (h : s ≤ n) : part (repF c n s) 0 s = List.replicate s c := by
  rw [part, List.drop_zero, repF, Nat.sub_zero, List.take_append_of_le_length (by simp)]
  simp
theorem repF_step {c : Int} {n s : Nat} (hs : s ≤ n) : (repF c n s).take s ++ (List.replicate s c).take (min (List.replicate s c).length (n - s)) ++ (repF c n s).drop (s + min (List.replicate s c).length (n - s)) = repF c n (s + min s (n - s)) := by
  have h1 : (List.replicate s c).length = s := by simp
  rw [h1]
  obtain ⟨m, hm⟩ : ∃ m, m = min s (n - s) := ⟨_, rfl⟩
  rw [← hm]
  have h2 : (repF c n s).take s = List.replicate s c := by rw [repF, List.take_append_of_le_length (by simp)]; simp
  have h3 : (repF c n s).drop (s + m) = List.replicate (n - (s + m)) 0 := by
    rw [repF, List.drop_append]
    simp only [List.length_replicate, List.drop_replicate]
    rw [show s - (s + m) = 0 by omega, show s + m - s = m by omega, show n - s - m = n - (s + m) by omega]
    simp
  have h4 : (List.replicate s c).take m = List.replicate m c := by rw [List.take_replicate, show min m s = m by omega]
  rw [h2, h3, h4, repF, List.replicate_append_replicate]

theorem copy_rep {c : Int} {n s off d : Nat} {ys : List Int} (hs : s ≤ n) (e1 : off = s) (e2 : d = n - s) (e3 : ys = List.replicate s c) :
    (repF c n s).take off ++ ys.take (min ys.length d) ++ (repF c n s).drop (off + min ys.length d) = repF c n (s + min s (n - s)) := by
  subst e1 e2 e3; exact repF_step hs
theorem copy_first {c : Int} {n d : Nat} {xs : List Int} (h : 1 ≤ n) (e1 : d = n) (e2 : xs = List.replicate n 0) : xs.take 0 ++ [c].take (min [c].length d) ++ xs.drop (0 + min [c].length d) = repF c n 1 := by
  subst e1 e2; exact repF_first h
/-! ## Things in turn -/
theorem mod_lt {s n : Nat} (h : 1 ≤ n) : 0 ≤ (s : Int) % (n : Int) ∧ (s : Int) % (n : Int) < n := ⟨Int.emod_nonneg _ (by omega), Int.emod_lt_of_pos _ (by omega)⟩
section
variable {P : Program} {K : Value → AHeap → Prop} {env : Env} {h : AHeap} {dst : Option Tmp} {ty : TypeId} {pos : String} {after : Array Edge} {guard : Option (Nat × Bool)}
end
section
variable {P : Program} {ops : Array Oper} {KE : Env → AHeap → Prop} {os : List Oper} {env : Env} {h : AHeap} {d : Option Tmp} {ty : TypeId} {pos : String} {af : Array Edge} {g : Option (Nat × Bool)}
theorem d_sliceHiW {t e : TypeId} {x y2 : Operand} {v z : Value} {b : Nat} {xs : List Int} {k2 : IntKind} {r : Int} (hw : wantedA ops env ⟨d, .slice t x none (some y2) none, ty, pos, af, g⟩ = some true) (hu : P.underlying t = some (.slice e)) (hi : InfoIs P e z 1 b)
    (hx : aeval env x = v) (hv : Ints h v xs) (hy2 : aeval env y2 = .int k2 r) (h0 : 0 < xs.length) (hlr : 0 ≤ r) (hr : r ≤ xs.length)
    (hK : ∀ w, Ints h w (part xs 0 r.toNat) → DRun P ops KE os (env.put d w) h) : DRun P ops KE (⟨d, .slice t x none (some y2) none, ty, pos, af, g⟩ :: os) env h :=
  d_do hw (o_sliceHi hu hi hx hv hy2 h0 hlr hr ⟨rfl, rfl⟩) (hv.sub h0 (Nat.zero_le _) (by omega)).within (hK _ (hv.sub h0 (Nat.zero_le _) (by omega)))
end
end Go.Am
