/- the plain law, part 11 -/
import Derived.Test.YtcgndadlcgnilaaGreatP10
set_option autoImplicit false
set_option linter.unusedSimpArgs false
set_option linter.unusedVariables false
set_option linter.unnecessarySimpa false
section
namespace Go.Av
/-- few parts -/
structure small (b : Nat) (r : S8) : Prop where
 c2 : r.c2.length ≤ b
 c3 : r.c3.length ≤ b
 c4 : r.c4.length ≤ b
 c5 : r.c5.length ≤ b
 c6 : r.c6.length ≤ b
theorem small_er (b : Nat) (c : Int) : small b (er c).1 := ⟨by simp [er], by simp [er], by simp [er], by simp [er], by simp [er]⟩
theorem nam_mem (ps : List (List S1)) (a b : List Int) (h : ∀ x, x ∈ a ↔ x ∈ b) : nam ps a = nam ps b := by
 have key : ∀ s : S1, (a.any fun x => decide (x ∈ s.c4)) = (b.any fun x => decide (x ∈ s.c4)) := by
  intro s
  rw [Bool.eq_iff_iff, List.any_eq_true, List.any_eq_true]
  exact ⟨fun ⟨x, h1, h2⟩ => ⟨x, (h x).1 h1, h2⟩, fun ⟨x, h1, h2⟩ => ⟨x, (h x).2 h1, h2⟩⟩
 unfold nam
 simp only [key]
theorem make14 (n : Nat) (hn : 1000 ≤ n) (a0 a1 : Int) (a2 a3 : List S2) (a4 : List Int) (ps : List (List S1)) (h2 : a2.length ≤ 5) (h3 : a3.length ≤ 5) (ho : okPs ps) (h4 : a4.length ≤ 5) (hf : few ps) :
  ∃ r, g14 n a0 a1 a2 a3 a4 ps = some r ∧ small 5 r.1 ∧ (r.2 = 0 → good n r.1 ps) := by
 have e1 : ∃ r, some (er 1) = some r ∧ small 5 r.1 ∧ (r.2 = 0 → good n r.1 ps) := ⟨_, rfl, small_er 5 1, fun h => by simp [er] at h⟩
 unfold g14
 by_cases q1 : a0 < 0
 ·rw [if_pos q1]; exact e1
 rw [if_neg q1]
 by_cases q2 : 4095 < a0
 ·rw [if_pos q2]; exact e1
 rw [if_neg q2]
 by_cases q3 : a1 < 0
 ·rw [if_pos q3]; exact e1
 rw [if_neg q3]
 by_cases q4 : 1099511627776 < a1
 ·rw [if_pos q4]; exact e1
 rw [if_neg q4]
 by_cases q5 : a3.length = a2.length
 ·rw [if_pos (by omega)]
  by_cases q6 : ps.length = a2.length
  ·rw [if_pos (by omega), if_neg (by omega)]
   obtain ⟨r, e, hr, hm⟩ := g33_ok n hn a4 (by omega)
   obtain ⟨r', _, i1, i2, i3⟩ := l14_1_ok n hn 0 0 a4 [] [] [] [] (by omega) n 0 [] (by omega) (by omega) (by simp) List.Pairwise.nil
   have hrr : r' = r := inc_ext _ _ i1 hr fun x => by rw [i3 x, hm x]; simp
   rw [hrr] at i2
   rw [g37_ids n hn a2 (by omega), g37_ids n hn a3 (by omega)]
   simp only [Option.bind_some]
   rw [g36_inc n hn _ (by simp; omega), g36_inc n hn _ (by simp; omega)]
   have B := l14_ok n hn a0 a1 a2 a3 a4 (a2.map S2.c0) (a3.map S2.c0) r ps (by omega) q5 q6 ho (by omega) hf hr hm n 0 [] [] (by omega) (by omega) rfl rfl
   simp only [List.drop_zero, List.nil_append] at B
   rw [show ((0 : Nat) : Int) = 0 from rfl] at B
   simp only [Option.bind_some]
   rw [B]
   by_cases c1 : decide (Inc (a2.map S2.c0)) = true
   ·rw [if_pos c1]
    by_cases c2 : decide (Inc (a3.map S2.c0)) = true
    ·rw [if_pos c2]
     by_cases f : fits a2 a3 a1 = true
     ·rw [if_pos f]
      by_cases m : nam ps a4 = true
      ·rw [if_pos m]; exact ⟨_, rfl, small_er 5 17, fun h => by simp [er] at h⟩
      ·rw [if_neg m]
       refine ⟨_, rfl, ⟨by simpa using h2, by simpa using h3, by simpa using Nat.le_trans i2 h4, by simpa using h3, by simp; omega⟩, fun _ => ⟨⟨by simp only []; omega, by simp only []; omega⟩, ⟨by simp only []; omega, by simp only []; omega⟩, by simpa using q5, by simpa using q5, by simpa using q6, by simpa using q6, of_decide_eq_true c1, of_decide_eq_true c2, hr, rfl, ?_⟩⟩
       rw [nam_mem ps _ a4 hm]; exact Bool.eq_false_iff.2 m
     ·rw [if_neg f]; exact e1
    ·rw [if_neg c2]; exact e1
   ·rw [if_neg c1]; exact e1
  ·rw [if_neg (by omega)]; exact e1
 ·rw [if_neg (by omega)]; exact e1
/-- Bent: one part more at most -/
theorem bent_ok (n : Nat) (r : S8) (b : Nat) (hb : b ≤ 100) (hs : small b r) (how y : Int) (h1 : isI64 how) (h2 : isI64 y) : ∃ x, g19 n r how y = some x ∧ small (b + 1) x := by
 obtain ⟨v, e, v0, v1⟩ := ar n how 9 h1 (by omega)
 obtain ⟨u, e4, u0, u1⟩ := ar n y 4 h2 (by omega)
 obtain ⟨w, e30, w0, w1⟩ := ar n y 30 h2 (by omega)
 obtain ⟨s2, s3, s4, s5, s6⟩ := hs
 have L2 : r.c2.length ≤ 17592186044416 := by omega
 have L3 : 0 + r.c3.length ≤ 17592186044416 := by omega
 have L4 : 0 + r.c4.length ≤ 17592186044416 := by omega
 have L5 : 0 + r.c5.length ≤ 17592186044416 := by omega
 have L6 : 0 + r.c6.length ≤ 17592186044416 := by omega
 have L2' : 0 + r.c2.length ≤ 17592186044416 := by omega
 have L6' : r.c6.length ≤ 17592186044416 := by omega
 have M2 : r.c2.length + 1 ≤ 17592186044416 := by omega
 have M3 : r.c3.length + 1 ≤ 17592186044416 := by omega
 have M4 : r.c4.length + 1 ≤ 17592186044416 := by omega
 have M5 : r.c5.length + 1 ≤ 17592186044416 := by omega
 have M6 : r.c6.length + 1 ≤ 17592186044416 := by omega
 have U : (0 : Int) ≤ u ∧ u < 4 := ⟨u0, u1⟩
 unfold g19
 simp only [e, e4, e30, Option.bind_some, L2, L3, L4, L5, L6, L2', L6', M2, M3, M4, M5, M6, U, if_true, and_self, Nat.le_refl, Option.some.injEq, List.length_set]
 have hv : v = 0 ∨ v = 1 ∨ v = 2 ∨ v = 3 ∨ v = 4 ∨ v = 5 ∨ v = 6 ∨ v = 7 ∨ v = 8 := by omega
 by_cases z2 : r.c2 = [] <;> by_cases z6 : r.c6 = [] <;> rcases hv with rfl | rfl | rfl | rfl | rfl | rfl | rfl | rfl | rfl <;> simp [z2, z6, List.length_pos_iff] <;>
  first
   | exact ⟨by simp <;> omega, by simp <;> omega, by simp <;> omega, by simp <;> omega, by simp <;> omega⟩
   | (constructor <;> simp [*] <;> omega)
   | (constructor <;> simp [*])
end Go.Av
end
