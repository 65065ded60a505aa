/- the plain law, part 11 -/
import Derived.Test.YtcgndadlcgnilaaGreatP10
set_option autoImplicit false
set_option linter.unusedSimpArgs false
set_option linter.unusedVariables false
set_option linter.unnecessarySimpa false
section
namespace Go.Av
/-- few parts -/
structure small (b : Nat) (r : S8) : Prop where
 c2 : r.c2.length ≤ b
 c3 : r.c3.length ≤ b
 c4 : r.c4.length ≤ b
 c5 : r.c5.length ≤ b
 c6 : r.c6.length ≤ b
theorem small_er (b : Nat) (c : Int) : small b (er c).1 := ⟨by simp [er], by simp [er], by simp [er], by simp [er], by simp [er]⟩
theorem nam_mem (ps : List (List S1)) (a b : List Int) (h : ∀ x, x ∈ a ↔ x ∈ b) : nam ps a = nam ps b := by
 have key : ∀ s : S1, (a.any fun x => decide (x ∈ s.c4)) = (b.any fun x => decide (x ∈ s.c4)) := by
  intro s
  rw [Bool.eq_iff_iff, List.any_eq_true, List.any_eq_true]
  exact ⟨fun ⟨x, h1, h2⟩ => ⟨x, (h x).1 h1, h2⟩, fun ⟨x, h1, h2⟩ => ⟨x, (h x).2 h1, h2⟩⟩
 unfold nam
 simp only [key]
theorem make14 (n : Nat) (hn : 1000 ≤ n) (a0 a1 : Int) (a2 a3 : List S2) (a4 : List Int) (ps : List (List S1)) (h2 : a2.length ≤ 5) (h3 : a3.length ≤ 5) (ho : okPs ps) (h4 : a4.length ≤ 5) (hf : few ps) :
  ∃ r, g14 n a0 a1 a2 a3 a4 ps = some r ∧ small 5 r.1 ∧ (r.2 = 0 → good n r.1 ps) := by
 have e1 : ∃ r, some (er 1) = some r ∧ small 5 r.1 ∧ (r.2 = 0 → good n r.1 ps) := ⟨_, rfl, small_er 5 1, fun h => by simp [er] at h⟩
 unfold g14
 by_cases q1 : a0 < 0
 ·rw [if_pos q1]; exact e1
 rw [if_neg q1]
 by_cases q2 : 4095 < a0
 ·rw [if_pos q2]; exact e1
 rw [if_neg q2]
 by_cases q3 : a1 < 0
 ·rw [if_pos q3]; exact e1
 rw [if_neg q3]
 by_cases q4 : 1099511627776 < a1
 ·rw [if_pos q4]; exact e1
 rw [if_neg q4]
 by_cases q5 : a3.length = a2.length
 ·rw [if_pos (by omega)]
  by_cases q6 : ps.length = a2.length
  ·rw [if_pos (by omega), if_neg (by omega)]
   obtain ⟨r, e, hr, hm⟩ := g33_ok n hn a4 (by omega)
   obtain ⟨r', _, i1, i2, i3⟩ := l14_1_ok n hn 0 0 a4 [] [] [] [] (by omega) n 0 [] (by omega) (by omega) (by simp) List.Pairwise.nil
   have hrr : r' = r := inc_ext _ _ i1 hr fun x => by rw [i3 x, hm x]; simp
   rw [hrr] at i2
   rw [g37_ids n hn a2 (by omega), g37_ids n hn a3 (by omega)]
   simp only [Option.bind_some]
   rw [g36_inc n hn _ (by simp; omega), g36_inc n hn _ (by simp; omega)]
   have B := l14_ok n hn a0 a1 a2 a3 a4 (a2.map S2.c0) (a3.map S2.c0) r ps (by omega) q5 q6 ho (by omega) hf hr hm n 0 [] [] (by omega) (by omega) rfl rfl
   simp only [List.drop_zero, List.nil_append] at B
   rw [show ((0 : Nat) : Int) = 0 from rfl] at B
   simp only [Option.bind_some]
   rw [B]
   by_cases c1 : decide (Inc (a2.map S2.c0)) = true
   ·rw [if_pos c1]
    by_cases c2 : decide (Inc (a3.map S2.c0)) = true
    ·rw [if_pos c2]
     by_cases f : fits a2 a3 a1 = true
     ·rw [if_pos f]
      by_cases m : nam ps a4 = true
      ·rw [if_pos m]; exact ⟨_, rfl, small_er 5 17, fun h => by simp [er] at h⟩
      ·rw [if_neg m]
       refine ⟨_, rfl, ⟨by simpa using h2, by simpa using h3, by simpa using Nat.le_trans i2 h4, by simpa using h3, by simp; omega⟩, fun _ => ⟨⟨by simp only []; omega, by simp only []; omega⟩, ⟨by simp only []; omega, by simp only []; omega⟩, by simpa using q5, by simpa using q5, by simpa using q6, by simpa using q6, of_decide_eq_true c1, of_decide_eq_true c2, hr, rfl, ?_⟩⟩
       rw [nam_mem ps _ a4 hm]; exact Bool.eq_false_iff.2 m
     ·rw [if_neg f]; exact e1
    ·rw [if_neg c2]; exact e1
   ·rw [if_neg c1]; exact e1
  ·rw [if_neg (by omega)]; exact e1
 ·rw [if_neg (by omega)]; exact e1
end Go.Av
end
