/- the plain law, part 5 -/
import Derived.Test.YtcgndadlcgnilaaGreatP4
set_option autoImplicit false
set_option linter.unusedSimpArgs false
set_option linter.unusedVariables false
set_option linter.unnecessarySimpa false
section
namespace Go.Av
theorem etaS1 (s : S1) : (⟨s.c0, s.c1, s.c2, s.c3, s.c4, s.c5, s.c6⟩ : S1) = s := rfl
theorem mem_rd {α : Type} [Inhabited α] (a : List α) (i : Nat) (h : i < a.length) : rd a (i : Int) ∈ a := by
 rw [rd_nat a i h]; exact List.getElem_mem _
def tot (a : List (List S1)) : Nat := a.flatten.length
def nam (ps : List (List S1)) (a : List Int) : Bool := ps.any fun p => p.any fun s => a.any fun x => decide (x ∈ s.c4)
/-- proofs whose parts are few -/
def few (ps : List (List S1)) : Prop := ps.length < 100 ∧ tot ps < 800 ∧ ∀ p, p ∈ ps → p.length < 800 ∧ ∀ s, s ∈ p → s.c4.length < 900
theorem l75_ok (n : Nat) (s : S1) (v : Int) (ha : s.c4.length ≤ 900) : ∀ (k i : Nat), s.c4.length - i < k → i ≤ s.c4.length → l75_0 n s v k (i : Int) = some (decide (v ∈ s.c4.drop i))
 | 0, _, h, _ => by omega
 | k + 1, i, hk, hi => by
  unfold l75_0
  by_cases c : i < s.c4.length
  ·rw [if_pos (by omega), if_pos (by omega), drop_cons s.c4 i c]
   by_cases e : rd s.c4 (i : Int) = v
   ·rw [if_pos e]; simp [e]
   ·rw [if_neg e, wsucc i (by omega), l75_ok n s v ha k (i + 1) (by omega) (by omega)]
    have : v ≠ rd s.c4 (i : Int) := fun h => e h.symm
    simp [this]
  ·rw [if_neg (by omega), List.drop_eq_nil_of_le (by omega)]; simp
theorem g75_ok (n : Nat) (hn : 1000 ≤ n) (s : S1) (v : Int) (ha : s.c4.length < 900) : g75 n s v = some (decide (v ∈ s.c4)) := by
 have := l75_ok n s v (by omega) n 0 (by omega) (by omega)
 simpa [g75] using this
theorem l40_2_ok (n : Nat) (hn : 1000 ≤ n) (R : Int → Option Bool) (ps : List (List S1)) (a : List Int) (i j : Nat) (ha : a.length < 900) (hi : i < ps.length) (hj : j < (rd ps (i : Int)).length) (hjs : j < 900) (hs : (rd (rd ps (i : Int)) (j : Int)).c4.length < 900) :
  ∀ (k m : Nat), a.length - m < k → m ≤ a.length → l40_2 n R ps a (i : Int) (j : Int) k (m : Int) = if ((a.drop m).any fun x => decide (x ∈ (rd (rd ps (i : Int)) (j : Int)).c4)) = true then some true else R ((j + 1 : Nat) : Int)
 | 0, _, h, _ => by omega
 | k + 1, m, hk, hm => by
  unfold l40_2
  by_cases c : m < a.length
  ·rw [if_pos (by omega), if_pos (by omega), if_pos (by omega), if_pos (by omega), drop_cons a m c, etaS1, g75_ok n hn _ _ hs]
   simp only [Option.bind_some]
   by_cases e : rd a (m : Int) ∈ (rd (rd ps (i : Int)) (j : Int)).c4
   ·rw [if_pos (by simpa using e), if_pos (by simp [e])]
   ·rw [if_neg (by simpa using e), wsucc m (by omega), l40_2_ok n hn R ps a i j ha hi hj hjs hs k (m + 1) (by omega) (by omega)]
    simp [e]
  ·rw [if_neg (by omega), List.drop_eq_nil_of_le (by omega), if_neg (by simp), wsucc j (by omega)]
theorem l40_1_ok (n : Nat) (hn : 1000 ≤ n) (R : Int → Option Bool) (ps : List (List S1)) (a : List Int) (i : Nat) (ha : a.length < 900) (hi : i < ps.length) (hi9 : i < 900) (hl : (rd ps (i : Int)).length < 800) (hs : ∀ s, s ∈ rd ps (i : Int) → s.c4.length < 900) :
  ∀ (k j : Nat), (rd ps (i : Int)).length - j < k → j ≤ (rd ps (i : Int)).length → l40_1 n R ps a (i : Int) k (j : Int) = if (((rd ps (i : Int)).drop j).any fun s => a.any fun x => decide (x ∈ s.c4)) = true then some true else R ((i + 1 : Nat) : Int)
 | 0, _, h, _ => by omega
 | k + 1, j, hk, hj => by
  unfold l40_1
  rw [if_pos (by omega)]
  by_cases c : j < (rd ps (i : Int)).length
  ·rw [if_pos (by omega)]
   have := l40_2_ok n hn (l40_1 n R ps a (i : Int) k) ps a i j ha hi c (by omega) (hs _ (mem_rd _ j c)) n 0 (by omega) (by omega)
   rw [show ((0 : Nat) : Int) = 0 from rfl, List.drop_zero] at this
   rw [this, drop_cons (rd ps (i : Int)) j c, l40_1_ok n hn R ps a i ha hi hi9 hl hs k (j + 1) (by omega) (by omega), List.any_cons]
   by_cases e : (a.any fun x => decide (x ∈ (rd (rd ps (i : Int)) (j : Int)).c4)) = true
   ·rw [if_pos e, if_pos (by rw [e]; rfl)]
   ·rw [if_neg e, Bool.eq_false_iff.2 e, Bool.false_or]
  ·rw [if_neg (by omega), List.drop_eq_nil_of_le (by omega), if_neg (by simp), wsucc i (by omega)]
theorem l40_0_ok (n : Nat) (hn : 1000 ≤ n) (ps : List (List S1)) (a : List Int) (ha : a.length < 900) (hp : few ps) : ∀ (k i : Nat), ps.length - i < k → i ≤ ps.length → l40_0 n ps a k (i : Int) = some (nam (ps.drop i) a)
 | 0, _, h, _ => by omega
 | k + 1, i, hk, hi => by
  unfold l40_0
  have h1 := hp.1
  by_cases c : i < ps.length
  ·rw [if_pos (by omega)]
   obtain ⟨h2, h3⟩ := hp.2.2 _ (mem_rd ps i c)
   have := l40_1_ok n hn (l40_0 n ps a k) ps a i ha c (by omega) h2 h3 n 0 (by omega) (by omega)
   rw [show ((0 : Nat) : Int) = 0 from rfl, List.drop_zero] at this
   rw [this, drop_cons ps i c, l40_0_ok n hn ps a ha hp k (i + 1) (by omega) (by omega)]
   unfold nam
   rw [List.any_cons]
   by_cases e : ((rd ps (i : Int)).any fun s => a.any fun x => decide (x ∈ s.c4)) = true
   ·rw [if_pos e, e]; rfl
   ·rw [if_neg e, Bool.eq_false_iff.2 e, Bool.false_or]
  ·rw [if_neg (by omega), List.drop_eq_nil_of_le (by omega)]; rfl
theorem g40_ok (n : Nat) (hn : 1000 ≤ n) (ps : List (List S1)) (a : List Int) (ha : a.length < 900) (hp : few ps) : g40 n ps a = some (nam ps a) := by
 have := l40_0_ok n hn ps a ha hp n 0 (by have := hp.1; omega) (by omega)
 simpa [g40] using this
end Go.Av
end
