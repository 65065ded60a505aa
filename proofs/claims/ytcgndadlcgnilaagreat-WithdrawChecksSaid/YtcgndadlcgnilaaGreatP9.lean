/- the plain law, part 9 -/
import Derived.Test.YtcgndadlcgnilaaGreatP8
set_option autoImplicit false
set_option linter.unusedSimpArgs false
set_option linter.unusedVariables false
set_option linter.unnecessarySimpa false
section
namespace Go.Av
theorem g44_inc (n : Nat) (hn : 1000 ≤ n) (a : List Int) (ha : a.length ≤ 12) : g44 n a = some (decide (Inc a)) := by
 have := g34_inc n hn a ha
 unfold g34 at this; unfold g44
 rw [g66_33] at this
 simp only [g76_65]; exact this
theorem l22_0_ok (n : Nat) (r : S8) (ps : List (List S1)) (ha : r.c4.length ≤ 1000) : ∀ (k i : Nat), r.c4.length - i < k → 1 ≤ i → Inc (r.c4.take i) → l22_0 n r ps k (i : Int) = if decide (Inc r.c4) = true then l22_1 n r ps n 0 else some 1
 | 0, _, h, _, _ => by omega
 | k + 1, i, hk, h1, hI => by
  unfold l22_0
  by_cases c : i < r.c4.length
  ·rw [if_pos (by omega), if_pos (by omega), wpred i (by omega) h1, if_pos (by omega), rd_nat r.c4 i c, rd_nat r.c4 (i - 1) (by omega)]
   by_cases q : r.c4[i] ≤ r.c4[i - 1]
   ·rw [if_pos q, if_neg]
    rw [decide_eq_true_iff]
    intro h
    have := (List.pairwise_iff_getElem.1 h) (i - 1) i (by omega) c (by omega)
    omega
   ·rw [if_neg q, wsucc i (by omega)]
    refine l22_0_ok n r ps ha k (i + 1) (by omega) (by omega) ?_
    rw [List.take_add_one, List.getElem?_eq_getElem c]
    refine List.pairwise_append.2 ⟨hI, List.pairwise_singleton .., fun x hx b hb => ?_⟩
    simp only [Option.toList_some, List.mem_singleton] at hb
    subst hb
    obtain ⟨j, hj, rfl⟩ := List.mem_take_iff_getElem.1 hx
    rcases Nat.lt_or_ge j (i - 1) with h | h
    ·have h3 : (r.c4.take i)[j]'(by simp; omega) < (r.c4.take i)[i - 1]'(by simp; omega) := (List.pairwise_iff_getElem.1 hI) j (i - 1) _ _ h
     simp only [List.getElem_take] at h3
     omega
    ·have : j = i - 1 := by omega
     subst this; omega
  ·rw [if_neg (by omega)]
   rw [List.take_of_length_le (by omega)] at hI
   rw [if_pos (by simpa using hI)]
/-- the sums, and what is named -/
theorem l20_22 (n : Nat) (hn : 1000 ≤ n) (r : S8) (ps : List (List S1)) (ho : okPs ps) (hf : few ps) (h4 : r.c4.length < 900) (h2 : ps.length = r.c2.length) (h6 : r.c6.length = r.c2.length) : ∀ (k i : Nat), ps.length - i < k → i ≤ ps.length →
  ∃ v, l20_0 n r ps k (i : Int) = some v ∧ l22_1 n r ps k (i : Int) = some v ∧ ((ps.drop i).map (sm n) = r.c6.drop i → nam ps r.c4 = false → v = 0)
 | 0, _, h, _ => by omega
 | k + 1, i, hk, hi => by
  have hp := hf.1
  unfold l20_0 l22_1
  by_cases c : i < ps.length
  ·have sk := sm_ok n hn ps ho _ (mem_rd ps i c)
   rw [if_pos (by omega), if_pos (by omega), if_pos (by omega), if_pos (by omega), if_pos (by omega), if_pos (by omega), sk.1, sk.2]
   simp only [Option.bind_some]
   rw [drop_cons ps i c, drop_cons r.c6 i (by omega)]
   by_cases q : sm n (rd ps (i : Int)) = rd r.c6 (i : Int)
   ·rw [if_pos q, if_pos q, wsucc i (by omega)]
    obtain ⟨v, e1, e2, e3⟩ := l20_22 n hn r ps ho hf h4 h2 h6 k (i + 1) (by omega) (by omega)
    refine ⟨v, e1, e2, fun h => e3 ?_⟩
    simp only [List.map_cons, List.cons.injEq] at h
    exact h.2
   ·rw [if_neg q, if_neg q]
    refine ⟨17, rfl, rfl, fun h => ?_⟩
    simp only [List.map_cons, List.cons.injEq] at h
    exact absurd h.1 q
  ·rw [if_neg (by omega), if_neg (by omega), g35_ok n hn ps r.c4 h4 hf, g40_ok n hn ps r.c4 h4 hf]
   simp only [Option.bind_some]
   by_cases q : nam ps r.c4 = true
   ·rw [if_pos q]; exact ⟨17, rfl, rfl, fun _ h => absurd (q.symm.trans h) (by decide)⟩
   ·rw [if_neg q]; exact ⟨0, rfl, rfl, fun _ _ => rfl⟩
/-- what a receipt and its own proofs are like -/
structure good (n : Nat) (r : S8) (ps : List (List S1)) : Prop where
 c0 : 0 ≤ r.c0 ∧ r.c0 < 4096
 c1 : 0 ≤ r.c1 ∧ r.c1 ≤ 1099511627776
 l3 : r.c3.length = r.c2.length
 l5 : r.c5.length = r.c2.length
 l6 : r.c6.length = r.c2.length
 lp : ps.length = r.c2.length
 i2 : Inc r.c2
 i3 : Inc r.c3
 i4 : Inc r.c4
 s6 : ps.map (sm n) = r.c6
 nm : nam ps r.c4 = false
theorem check_ok (n : Nat) (hn : 1000 ≤ n) (r : S8) (ps : List (List S1)) (h2 : r.c2.length ≤ 12) (h3 : r.c3.length ≤ 12) (h4 : r.c4.length ≤ 12) (ho : okPs ps) (hf : few ps) :
  ∃ v, g20 n r ps = some v ∧ g22 n r ps = some v ∧ (good n r ps → v = 0) := by
 have bad : ∀ {P : Prop}, (good n r ps → False) → ∃ v, (some 1 : Option Int) = some v ∧ (some 1 : Option Int) = some v ∧ (good n r ps → v = 0) := fun h => ⟨1, rfl, rfl, fun g => (h g).elim⟩
 unfold g20 g22 g32
 by_cases q1 : 0 ≤ r.c0
 ·by_cases q2 : r.c0 < 4096
  ·by_cases q3 : 0 ≤ r.c1
   ·by_cases q4 : r.c1 ≤ 1099511627776
    ·rw [if_pos q1, if_pos q2, if_pos q3, if_neg (show ¬ r.c0 < 0 by omega), if_neg (show ¬ 4095 < r.c0 by omega), if_neg (show ¬ r.c1 < 0 by omega), if_neg (show ¬ 1099511627776 < r.c1 by omega)]
     simp only [q4, decide_true, Option.bind_some, if_true]
     by_cases q5 : r.c3.length = r.c2.length
     ·by_cases q6 : r.c5.length = r.c2.length
      ·by_cases q7 : r.c6.length = r.c2.length
       ·by_cases q8 : ps.length = r.c2.length
        ·rw [if_pos (by omega), if_pos (by omega), if_pos (by omega), if_pos (by omega), if_neg (by omega), if_pos (by omega), if_pos (by omega), if_pos (by omega), if_pos (by omega), if_neg (by omega)]
         rw [g34_inc n hn _ h2, g34_inc n hn _ h3, g44_inc n hn _ h4, g36_inc n hn _ (by omega), g36_inc n hn _ (by omega)]
         simp only [Option.bind_some]
         by_cases c2 : decide (Inc r.c2) = true
         ·rw [if_pos c2, if_pos c2]
          by_cases c3 : decide (Inc r.c3) = true
          ·rw [if_pos c3, if_pos c3]
           have L := l22_0_ok n r ps (by omega) n 1 (by omega) (by omega) (by
            rcases r.c4 with _ | ⟨x, t⟩
            ·exact List.Pairwise.nil
            ·exact List.pairwise_singleton ..)
           rw [show ((1 : Nat) : Int) = 1 from rfl] at L
           rw [L]
           by_cases c4 : decide (Inc r.c4) = true
           ·rw [if_pos c4, if_pos c4]
            obtain ⟨v, e1, e2, e3⟩ := l20_22 n hn r ps ho hf (by omega) q8 q7 n 0 (by have := hf.1; omega) (by omega)
            exact ⟨v, e1, e2, fun g => e3 g.s6 g.nm⟩
           ·rw [if_neg c4, if_neg c4]; exact bad (P := True) fun g => c4 (decide_eq_true g.i4)
          ·rw [if_neg c3, if_neg c3]; exact bad (P := True) fun g => c3 (decide_eq_true g.i3)
         ·rw [if_neg c2, if_neg c2]; exact bad (P := True) fun g => c2 (decide_eq_true g.i2)
        ·rw [if_pos (by omega), if_pos (by omega), if_pos (by omega), if_neg (by omega), if_pos (by omega), if_pos (by omega), if_pos (by omega), if_neg (by omega)]; exact bad (P := True) fun g => q8 g.lp
       ·rw [if_pos (by omega), if_pos (by omega), if_neg (by omega), if_pos (by omega), if_pos (by omega), if_neg (by omega)]; exact bad (P := True) fun g => q7 g.l6
      ·rw [if_pos (by omega), if_neg (by omega), if_pos (by omega), if_neg (by omega)]; exact bad (P := True) fun g => q6 g.l5
     ·rw [if_neg (by omega), if_neg (by omega)]; exact bad (P := True) fun g => q5 g.l3
    ·rw [if_pos q1, if_pos q2, if_pos q3, if_neg (show ¬ r.c0 < 0 by omega), if_neg (show ¬ 4095 < r.c0 by omega), if_neg (show ¬ r.c1 < 0 by omega), if_pos (show 1099511627776 < r.c1 by omega)]
     simp only [q4, decide_false, Option.bind_some, Bool.false_eq_true, if_false]; exact bad (P := True) fun g => q4 g.c1.2
   ·rw [if_pos q1, if_pos q2, if_neg q3, if_neg (show ¬ r.c0 < 0 by omega), if_neg (show ¬ 4095 < r.c0 by omega), if_pos (show r.c1 < 0 by omega)]
    exact bad (P := True) fun g => q3 g.c1.1
  ·rw [if_pos q1, if_neg q2, if_neg (show ¬ r.c0 < 0 by omega), if_pos (show 4095 < r.c0 by omega)]
   exact bad (P := True) fun g => q2 g.c0.2
 ·rw [if_neg q1, if_pos (show r.c0 < 0 by omega)]
  exact bad (P := True) fun g => q1 g.c0.1
end Go.Av
end
