/- the plain law, part 16 -/
import Derived.Test.YtjmhdecofadfnaaGreatP15
set_option autoImplicit false
set_option linter.unusedSimpArgs false
set_option linter.unusedVariables false
set_option linter.unnecessarySimpa false
section
set_option linter.unusedSimpArgs false
set_option linter.unusedVariables false
namespace Go.Av
/-- two vertices above (x1 < x2), two below (x4 < x3) -/
def trap (x1 x2 x3 x4 t b : Int) : List S0 := [⟨x1, t⟩, ⟨x2, t⟩, ⟨x3, b⟩, ⟨x4, b⟩]
structure Tr (x1 x2 x3 x4 t b : Int) : Prop where
 h12 : x1 < x2
 h43 : x4 < x3
 htb : t < b
 b1 : -10000 ≤ x1 ∧ x1 ≤ 10000
 b2 : -10000 ≤ x2 ∧ x2 ≤ 10000
 b3 : -10000 ≤ x3 ∧ x3 ≤ 10000
 b4 : -10000 ≤ x4 ∧ x4 ≤ 10000
 bt : -10000 ≤ t ∧ t ≤ 10000
 bb : -10000 ≤ b ∧ b ≤ 10000
section
variable {x1 x2 x3 x4 t b : Int} (h : Tr x1 x2 x3 x4 t b)
include h
theorem Tr.nA : Nr ⟨x1, t⟩ := by have := h.b1; have := h.bt; unfold Nr; simp only; omega
theorem Tr.nB : Nr ⟨x2, t⟩ := by have := h.b2; have := h.bt; unfold Nr; simp only; omega
theorem Tr.nC : Nr ⟨x3, b⟩ := by have := h.b3; have := h.bb; unfold Nr; simp only; omega
theorem Tr.nD : Nr ⟨x4, b⟩ := by have := h.b4; have := h.bb; unfold Nr; simp only; omega
theorem Tr.pos1 : 0 < (x2 - x1) * (b - t) := Int.mul_pos (by have := h.h12; omega) (by have := h.htb; omega)
theorem Tr.pos2 : 0 < (x3 - x4) * (b - t) := Int.mul_pos (by have := h.h43; omega) (by have := h.htb; omega)
theorem Tr.ABC : Lf ⟨x1, t⟩ ⟨x2, t⟩ ⟨x3, b⟩ := by unfold Lf; have := h.pos1; simp only; grind
theorem Tr.ABD : Lf ⟨x1, t⟩ ⟨x2, t⟩ ⟨x4, b⟩ := by unfold Lf; have := h.pos1; simp only; grind
theorem Tr.BCD : Lf ⟨x2, t⟩ ⟨x3, b⟩ ⟨x4, b⟩ := by unfold Lf; have := h.pos2; simp only; grind
theorem Tr.BCA : Lf ⟨x2, t⟩ ⟨x3, b⟩ ⟨x1, t⟩ := by unfold Lf; have := h.pos1; simp only; grind
theorem Tr.CDA : Lf ⟨x3, b⟩ ⟨x4, b⟩ ⟨x1, t⟩ := by unfold Lf; have := h.pos2; simp only; grind
theorem Tr.CDB : Lf ⟨x3, b⟩ ⟨x4, b⟩ ⟨x2, t⟩ := by unfold Lf; have := h.pos2; simp only; grind
theorem Tr.DAB : Lf ⟨x4, b⟩ ⟨x1, t⟩ ⟨x2, t⟩ := by unfold Lf; have := h.pos1; simp only; grind
theorem Tr.DAC : Lf ⟨x4, b⟩ ⟨x1, t⟩ ⟨x3, b⟩ := by unfold Lf; have := h.pos2; simp only; grind
theorem tsimple_ok (n : Nat) (hn : 10 ≤ n) : g80 n (trap x1 x2 x3 x4 t b) = some true := by
 have nA := h.nA
 have nB := h.nB
 have nC := h.nC
 have nD := h.nD
 have kABC := has_no n hn _ _ _ nA nB nC h.ABC
 have kBCA := has_no n hn _ _ _ nB nC nA h.BCA
 have kBCD := has_no n hn _ _ _ nB nC nD h.BCD
 have kCDB := has_no n hn _ _ _ nC nD nB h.CDB
 have kCDA := has_no n hn _ _ _ nC nD nA h.CDA
 have kDAC := has_no n hn _ _ _ nD nA nC h.DAC
 have kDAB := has_no n hn _ _ _ nD nA nB h.DAB
 have kABD := has_no n hn _ _ _ nA nB nD h.ABD
 have c02 := cross_no n hn _ _ _ _ nA nB nC nD h.ABC h.ABD h.CDA h.CDB
 have c13 := cross_no n hn _ _ _ _ nB nC nD nA h.BCD h.BCA h.DAB h.DAC
 dsimp only at kABC kBCA kBCD kCDB kCDA kDAC kDAB kABD c02 c13
 have e0 : Eg (trap x1 x2 x3 x4 t b) 0 = ⟨x1, t, x2, t⟩ := rfl
 have e1 : Eg (trap x1 x2 x3 x4 t b) 1 = ⟨x2, t, x3, b⟩ := rfl
 have e2 : Eg (trap x1 x2 x3 x4 t b) 2 = ⟨x3, b, x4, b⟩ := rfl
 have e3 : Eg (trap x1 x2 x3 x4 t b) 3 = ⟨x4, b, x1, t⟩ := by simp [Eg, trap, rd]
 have hl : (trap x1 x2 x3 x4 t b).length = 4 := rfl
 have h12 := h.h12
 have h43 := h.h43
 have htb := h.htb
 have w1 : IntKind.i64.wrap 1 = 1 := rfl
 have w2 : IntKind.i64.wrap 2 = 2 := rfl
 have w3 : IntKind.i64.wrap 3 = 3 := rfl
 have hin : ∀ (F : Int → S9 → Nat → Option (Bool × Nat)), (∀ k : Nat, k < 4 → F (k : Int) (Eg (trap x1 x2 x3 x4 t b) k) 0 = some (true, 0)) → g160_0 n (trap x1 x2 x3 x4 t b) F 0 = some 0 := fun F hF =>
  g160_all n (trap x1 x2 x3 x4 t b) F (fun _ => 0) (by rw [hl]; omega) (by rw [hl]; omega) (fun k hk => hF k (by rw [hl] at hk; exact hk))
 unfold g80 g120
 rw [Option.bind_some, hin _ (fun i hi => ?_)]
 ·rfl
 try dsimp only
 rw [if_pos rfl]
 rcases (show i = 0 ∨ i = 1 ∨ i = 2 ∨ i = 3 by omega) with rfl | rfl | rfl | rfl
 ·rw [e0, if_neg (by rintro ⟨q, _⟩; simp only at q; omega), Option.bind_some, hin _ (fun k hk => ?_)]
  ·rfl
  ·try dsimp only
   rw [if_pos rfl]
   rcases (show k = 0 ∨ k = 1 ∨ k = 2 ∨ k = 3 by omega) with rfl | rfl | rfl | rfl
   ·rfl
   ·rw [e1]; simp only [hl]; simp [kABC, kBCA, w1, w2, w3]
   ·rw [e2]; simp only [hl]; simp [c02, w1, w2, w3]
   ·rw [e3]; simp only [hl]; simp [kDAB, kABD, w1, w2, w3]
 ·rw [e1, if_neg (by rintro ⟨_, q⟩; simp only at q; omega), Option.bind_some, hin _ (fun k hk => ?_)]
  ·rfl
  ·try dsimp only
   rw [if_pos rfl]
   rcases (show k = 0 ∨ k = 1 ∨ k = 2 ∨ k = 3 by omega) with rfl | rfl | rfl | rfl
   ·rfl
   ·rfl
   ·rw [e2]; simp only [hl]; simp [kBCD, kCDB, w1, w2, w3]
   ·rw [e3]; simp only [hl]; simp [c13, w1, w2, w3]
 ·rw [e2, if_neg (by rintro ⟨q, _⟩; simp only at q; omega), Option.bind_some, hin _ (fun k hk => ?_)]
  ·rfl
  ·try dsimp only
   rw [if_pos rfl]
   rcases (show k = 0 ∨ k = 1 ∨ k = 2 ∨ k = 3 by omega) with rfl | rfl | rfl | rfl
   ·rfl
   ·rfl
   ·rfl
   ·rw [e3]; simp only [hl]; simp [kCDA, kDAC, w1, w2, w3]
 ·rw [e3, if_neg (by rintro ⟨_, q⟩; simp only at q; omega), Option.bind_some, hin _ (fun k hk => ?_)]
  ·rfl
  ·try dsimp only
   rw [if_pos rfl]
   rcases (show k = 0 ∨ k = 1 ∨ k = 2 ∨ k = 3 by omega) with rfl | rfl | rfl | rfl <;> rfl
theorem tvalid_ok (n : Nat) (hn : 100 ≤ n) : g33 n ⟨[trap x1 x2 x3 x4 t b]⟩ = some 0 := by
 have hs := tsimple_ok h n (by omega)
 have hl : (trap x1 x2 x3 x4 t b).length = 4 := rfl
 obtain ⟨k, rfl⟩ : ∃ k, n = k + 5 := ⟨n - 5, by omega⟩
 have hnear := near_ok (k + 5) (trap x1 x2 x3 x4 t b) (by rw [hl]; omega) (by rw [hl]; omega) (by
  intro p hp
  unfold trap at hp
  simp only [List.mem_cons, List.not_mem_nil, or_false] at hp
  rcases hp with rfl | rfl | rfl | rfl
  ·exact h.nA
  ·exact h.nB
  ·exact h.nC
  ·exact h.nD)
 have r0 : rd [trap x1 x2 x3 x4 t b] 0 = trap x1 x2 x3 x4 t b := rfl
 have w4 : IntKind.i64.wrap (0 + 4) = 4 := rfl
 have w1 : IntKind.i64.wrap (0 + 1) = 1 := rfl
 have c1 : g76 (k + 5) [trap x1 x2 x3 x4 t b] = some (trap x1 x2 x3 x4 t b) := by
  unfold g76 l76_0
  simp only [List.length_cons, List.length_nil, r0, hl, w1]
  unfold l76_0
  have : g116 (k + 5) (IntKind.i64.wrap (0 + ((4 : Nat) : Int))) = some [] := by unfold g116; rw [if_pos (by decide)]
  simp only [List.length_cons, List.length_nil, r0, hl, w1, this]
  unfold l76_1
  simp only [List.length_cons, List.length_nil, r0, hl, w1, Option.bind_some]
  unfold l76_1
  simp only [List.length_cons, List.length_nil, r0, hl, w1, Option.bind_some, List.nil_append]
  simp
  decide
 have c2 : g77_0 (k + 5) [trap x1 x2 x3 x4 t b] = some false := by
  unfold g77_0 g117_0 l117_0_0
  simp only [List.length_cons, List.length_nil, r0, w1]
  unfold g78
  simp only [hl, Option.bind_some]
  unfold l117_0_0
  simp
 unfold g33
 simp only [c1, c2, hnear, Option.bind_some, hl, List.length_cons, List.length_nil]
 unfold l33_0
 simp only [r0, hs, Option.bind_some, List.length_cons, List.length_nil]
 unfold l33_1
 simp only [List.take, Int.toNat_zero, List.length_nil, w1]
 unfold l33_0
 simp only [r0, hs, Option.bind_some, List.length_cons, List.length_nil]
 unfold l33_2
 simp
end
end Go.Av
end
