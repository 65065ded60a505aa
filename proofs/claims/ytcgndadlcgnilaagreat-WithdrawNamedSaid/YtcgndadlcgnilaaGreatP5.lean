/- the plain law, part 5 -/
import Derived.Test.YtcgndadlcgnilaaGreatP4
set_option autoImplicit false
set_option linter.unusedSimpArgs false
set_option linter.unusedVariables false
set_option linter.unnecessarySimpa false
section
namespace Go.Av
theorem etaS1 (s : S1) : (⟨s.c0, s.c1, s.c2, s.c3, s.c4, s.c5, s.c6⟩ : S1) = s := rfl
theorem mem_rd {α : Type} [Inhabited α] (a : List α) (i : Nat) (h : i < a.length) : rd a (i : Int) ∈ a := by
 rw [rd_nat a i h]; exact List.getElem_mem _
def tot (a : List (List S1)) : Nat := a.flatten.length
theorem tot_drop (a : List (List S1)) (i : Nat) : tot (a.drop i) ≤ tot a := by
 unfold tot
 have h : a.flatten = (a.take i).flatten ++ (a.drop i).flatten := by rw [← List.flatten_append, List.take_append_drop]
 rw [h, List.length_append]
 omega
theorem l67_1_ok (n : Nat) (a : List (List S1)) (ha : a.length ≤ 900) : ∀ (k i : Nat) (acc : List S1), a.length - i < k → i ≤ a.length → acc.length + tot (a.drop i) ≤ 100000 → l67_1 n a k acc (i : Int) = some (acc ++ (a.drop i).flatten)
 | 0, _, _, h, _, _ => by omega
 | k + 1, i, acc, hk, hi, hl => by
  unfold l67_1
  by_cases c : i < a.length
  ·rw [drop_cons a i c] at hl ⊢
   simp only [tot, List.flatten_cons, List.length_append] at hl
   rw [if_pos (by omega), if_pos (by omega), if_pos (by omega), wsucc i (by omega), l67_1_ok n a ha k (i + 1) _ (by omega) (by omega) (by simp only [List.length_append, tot]; omega)]
   simp
  ·rw [if_neg (by omega), List.drop_eq_nil_of_le (by omega)]; simp
theorem l67_0_ok (n : Nat) (hn : 1000 ≤ n) (a : List (List S1)) (ha : a.length ≤ 900) (ht : tot a ≤ 10000) : ∀ (k i s : Nat), a.length - i < k → i ≤ a.length → s + tot (a.drop i) ≤ 100000 → l67_0 n a k (s : Int) (i : Int) = some a.flatten
 | 0, _, _, h, _, _ => by omega
 | k + 1, i, s, hk, hi, hl => by
  unfold l67_0
  by_cases c : i < a.length
  ·rw [drop_cons a i c] at hl
   simp only [tot, List.flatten_cons, List.length_append] at hl
   rw [if_pos (by omega), if_pos (by omega), wrap_i64 (x := (s : Int) + _) (by omega) (by omega), if_neg (by omega), wsucc i (by omega), ← Int.natCast_add, l67_0_ok n hn a ha ht k (i + 1) _ (by omega) (by omega) (by simp only [tot]; omega)]
  ·rw [if_neg (by omega)]
   unfold g93
   rw [if_pos (by omega)]
   simp only [Option.bind_some]
   have := l67_1_ok n a ha n 0 [] (by omega) (by omega) (by simp; omega)
   simpa using this
theorem l113_ok (n : Nat) (a : List Int) (v : Int) (ha : a.length ≤ 900) : ∀ (k i : Nat), a.length - i < k → i ≤ a.length → ∃ r, l113_0 n a v k (i : Int) = some r ∧ decide (0 ≤ r) = decide (v ∈ a.drop i)
 | 0, _, h, _ => by omega
 | k + 1, i, hk, hi => by
  unfold l113_0
  by_cases c : i < a.length
  ·rw [if_pos (by omega), if_pos (by omega), drop_cons a i c]
   by_cases e : v = rd a (i : Int)
   ·rw [if_pos e]; refine ⟨_, rfl, ?_⟩; simp [e]
   ·rw [if_neg e, wsucc i (by omega)]
    obtain ⟨r, h1, h2⟩ := l113_ok n a v ha k (i + 1) (by omega) (by omega)
    exact ⟨r, h1, by rw [h2]; simp [e]⟩
  ·rw [if_neg (by omega), List.drop_eq_nil_of_le (by omega)]
   exact ⟨_, rfl, by simp⟩
theorem g69_ok (n : Nat) (hn : 1000 ≤ n) (v : Int) (s : S1) (hs : s.c4.length < 900) : g69_0 n v s = some (decide (v ∈ s.c4)) := by
 unfold g69_0 g70 g95 g113
 obtain ⟨r, h1, h2⟩ := l113_ok n s.c4 v (by omega) n 0 (by omega) (by omega)
 rw [show (0 : Int) = ((0 : Nat) : Int) from rfl, h1]
 simp only [Option.bind_some, Option.some.injEq]
 simpa using h2
theorem l94_ok (n : Nat) (hn : 1000 ≤ n) (a : List Int) (s : S1) (ha : a.length ≤ 900) (hs : s.c4.length < 900) : ∀ (k i : Nat), a.length - i < k → i ≤ a.length → ∃ r, l94_0_0 n a s k (i : Int) = some r ∧ decide (0 ≤ r) = (a.drop i).any fun x => decide (x ∈ s.c4)
 | 0, _, h, _ => by omega
 | k + 1, i, hk, hi => by
  unfold l94_0_0
  by_cases c : i < a.length
  ·rw [if_pos (by omega), if_pos (by omega), drop_cons a i c, etaS1, g69_ok n hn (rd a (i : Int)) s hs]
   simp only [Option.bind_some]
   by_cases e : rd a (i : Int) ∈ s.c4
   ·rw [if_pos (by simpa using e)]; refine ⟨_, rfl, ?_⟩; simp [e]
   ·rw [if_neg (by simpa using e), wsucc i (by omega)]
    obtain ⟨r, h1, h2⟩ := l94_ok n hn a s ha hs k (i + 1) (by omega) (by omega)
    exact ⟨r, h1, by rw [h2]; simp [e]⟩
  ·rw [if_neg (by omega), List.drop_eq_nil_of_le (by omega)]
   exact ⟨_, rfl, by simp⟩
theorem g68_ok (n : Nat) (hn : 1000 ≤ n) (a : List Int) (s : S1) (ha : a.length < 900) (hs : s.c4.length < 900) : g68_0 n a s = some (a.any fun x => decide (x ∈ s.c4)) := by
 unfold g68_0 g94_0
 rw [etaS1]
 obtain ⟨r, h1, h2⟩ := l94_ok n hn a s (by omega) hs n 0 (by omega) (by omega)
 rw [show (0 : Int) = ((0 : Nat) : Int) from rfl, h1]
 simp only [Option.bind_some, Option.some.injEq]
 simpa using h2
theorem l35_ok (n : Nat) (hn : 1000 ≤ n) (a : List Int) (v : List S1) (ha : a.length < 900) (hv : v.length ≤ 900) (hs : ∀ s, s ∈ v → s.c4.length < 900) : ∀ (k i : Nat), v.length - i < k → i ≤ v.length → l35_0 n a v k (i : Int) = some ((v.drop i).any fun s => a.any fun x => decide (x ∈ s.c4))
 | 0, _, h, _ => by omega
 | k + 1, i, hk, hi => by
  unfold l35_0
  by_cases c : i < v.length
  ·rw [if_pos (by omega), if_pos (by omega), drop_cons v i c, etaS1, g68_ok n hn a (rd v (i : Int)) (by omega) (hs _ (mem_rd v i c))]
   simp only [Option.bind_some]
   by_cases e : (a.any fun x => decide (x ∈ (rd v (i : Int)).c4)) = true
   ·rw [if_pos e, List.any_cons, e]; rfl
   ·rw [if_neg e, wsucc i (by omega), l35_ok n hn a v ha hv hs k (i + 1) (by omega) (by omega), List.any_cons, Bool.eq_false_iff.2 e, Bool.false_or]
  ·rw [if_neg (by omega), List.drop_eq_nil_of_le (by omega)]; rfl
def nam (ps : List (List S1)) (a : List Int) : Bool := ps.any fun p => p.any fun s => a.any fun x => decide (x ∈ s.c4)
/-- proofs whose parts are few -/
def few (ps : List (List S1)) : Prop := ps.length < 100 ∧ tot ps < 800 ∧ ∀ p, p ∈ ps → p.length < 800 ∧ ∀ s, s ∈ p → s.c4.length < 900
theorem g35_ok (n : Nat) (hn : 1000 ≤ n) (ps : List (List S1)) (a : List Int) (ha : a.length < 900) (hp : few ps) : g35 n ps a = some (nam ps a) := by
 unfold g35 g67
 have := l67_0_ok n hn ps (by have := hp.1; omega) (by have := hp.2.1; omega) n 0 0 (by have := hp.1; omega) (by omega) (by have := hp.2.1; simp; omega)
 rw [show (0 : Int) = ((0 : Nat) : Int) from rfl, this]
 simp only [Option.bind_some]
 rw [l35_ok n hn a ps.flatten ha (by have := hp.2.1; unfold tot at this; omega) (by
  intro s hs
  obtain ⟨p, h1, h2⟩ := List.mem_flatten.1 hs
  exact (hp.2.2 p h1).2 s h2) n 0 (by have := hp.2.1; unfold tot at this; omega) (by omega)]
 rw [List.drop_zero, List.any_flatten]; rfl
theorem l75_ok (n : Nat) (s : S1) (v : Int) (ha : s.c4.length ≤ 900) : ∀ (k i : Nat), s.c4.length - i < k → i ≤ s.c4.length → l75_0 n s v k (i : Int) = some (decide (v ∈ s.c4.drop i))
 | 0, _, h, _ => by omega
 | k + 1, i, hk, hi => by
  unfold l75_0
  by_cases c : i < s.c4.length
  ·rw [if_pos (by omega), if_pos (by omega), drop_cons s.c4 i c]
   by_cases e : rd s.c4 (i : Int) = v
   ·rw [if_pos e]; simp [e]
   ·rw [if_neg e, wsucc i (by omega), l75_ok n s v ha k (i + 1) (by omega) (by omega)]
    have : v ≠ rd s.c4 (i : Int) := fun h => e h.symm
    simp [this]
  ·rw [if_neg (by omega), List.drop_eq_nil_of_le (by omega)]; simp
theorem g75_ok (n : Nat) (hn : 1000 ≤ n) (s : S1) (v : Int) (ha : s.c4.length < 900) : g75 n s v = some (decide (v ∈ s.c4)) := by
 have := l75_ok n s v (by omega) n 0 (by omega) (by omega)
 simpa [g75] using this
theorem l40_2_ok (n : Nat) (hn : 1000 ≤ n) (R : Int → Option Bool) (ps : List (List S1)) (a : List Int) (i j : Nat) (ha : a.length < 900) (hi : i < ps.length) (hj : j < (rd ps (i : Int)).length) (hjs : j < 900) (hs : (rd (rd ps (i : Int)) (j : Int)).c4.length < 900) :
  ∀ (k m : Nat), a.length - m < k → m ≤ a.length → l40_2 n R ps a (i : Int) (j : Int) k (m : Int) = if ((a.drop m).any fun x => decide (x ∈ (rd (rd ps (i : Int)) (j : Int)).c4)) = true then some true else R ((j + 1 : Nat) : Int)
 | 0, _, h, _ => by omega
 | k + 1, m, hk, hm => by
  unfold l40_2
  by_cases c : m < a.length
  ·rw [if_pos (by omega), if_pos (by omega), if_pos (by omega), if_pos (by omega), drop_cons a m c, etaS1, g75_ok n hn _ _ hs]
   simp only [Option.bind_some]
   by_cases e : rd a (m : Int) ∈ (rd (rd ps (i : Int)) (j : Int)).c4
   ·rw [if_pos (by simpa using e), if_pos (by simp [e])]
   ·rw [if_neg (by simpa using e), wsucc m (by omega), l40_2_ok n hn R ps a i j ha hi hj hjs hs k (m + 1) (by omega) (by omega)]
    simp [e]
  ·rw [if_neg (by omega), List.drop_eq_nil_of_le (by omega), if_neg (by simp), wsucc j (by omega)]
theorem l40_1_ok (n : Nat) (hn : 1000 ≤ n) (R : Int → Option Bool) (ps : List (List S1)) (a : List Int) (i : Nat) (ha : a.length < 900) (hi : i < ps.length) (hi9 : i < 900) (hl : (rd ps (i : Int)).length < 800) (hs : ∀ s, s ∈ rd ps (i : Int) → s.c4.length < 900) :
  ∀ (k j : Nat), (rd ps (i : Int)).length - j < k → j ≤ (rd ps (i : Int)).length → l40_1 n R ps a (i : Int) k (j : Int) = if (((rd ps (i : Int)).drop j).any fun s => a.any fun x => decide (x ∈ s.c4)) = true then some true else R ((i + 1 : Nat) : Int)
 | 0, _, h, _ => by omega
 | k + 1, j, hk, hj => by
  unfold l40_1
  rw [if_pos (by omega)]
  by_cases c : j < (rd ps (i : Int)).length
  ·rw [if_pos (by omega)]
   have := l40_2_ok n hn (l40_1 n R ps a (i : Int) k) ps a i j ha hi c (by omega) (hs _ (mem_rd _ j c)) n 0 (by omega) (by omega)
   rw [show ((0 : Nat) : Int) = 0 from rfl, List.drop_zero] at this
   rw [this, drop_cons (rd ps (i : Int)) j c, l40_1_ok n hn R ps a i ha hi hi9 hl hs k (j + 1) (by omega) (by omega), List.any_cons]
   by_cases e : (a.any fun x => decide (x ∈ (rd (rd ps (i : Int)) (j : Int)).c4)) = true
   ·rw [if_pos e, if_pos (by rw [e]; rfl)]
   ·rw [if_neg e, Bool.eq_false_iff.2 e, Bool.false_or]
  ·rw [if_neg (by omega), List.drop_eq_nil_of_le (by omega), if_neg (by simp), wsucc i (by omega)]
theorem l40_0_ok (n : Nat) (hn : 1000 ≤ n) (ps : List (List S1)) (a : List Int) (ha : a.length < 900) (hp : few ps) : ∀ (k i : Nat), ps.length - i < k → i ≤ ps.length → l40_0 n ps a k (i : Int) = some (nam (ps.drop i) a)
 | 0, _, h, _ => by omega
 | k + 1, i, hk, hi => by
  unfold l40_0
  have h1 := hp.1
  by_cases c : i < ps.length
  ·rw [if_pos (by omega)]
   obtain ⟨h2, h3⟩ := hp.2.2 _ (mem_rd ps i c)
   have := l40_1_ok n hn (l40_0 n ps a k) ps a i ha c (by omega) h2 h3 n 0 (by omega) (by omega)
   rw [show ((0 : Nat) : Int) = 0 from rfl, List.drop_zero] at this
   rw [this, drop_cons ps i c, l40_0_ok n hn ps a ha hp k (i + 1) (by omega) (by omega)]
   unfold nam
   rw [List.any_cons]
   by_cases e : ((rd ps (i : Int)).any fun s => a.any fun x => decide (x ∈ s.c4)) = true
   ·rw [if_pos e, e]; rfl
   ·rw [if_neg e, Bool.eq_false_iff.2 e, Bool.false_or]
  ·rw [if_neg (by omega), List.drop_eq_nil_of_le (by omega)]; rfl
theorem g40_ok (n : Nat) (hn : 1000 ≤ n) (ps : List (List S1)) (a : List Int) (ha : a.length < 900) (hp : few ps) : g40 n ps a = some (nam ps a) := by
 have := l40_0_ok n hn ps a ha hp n 0 (by have := hp.1; omega) (by omega)
 simpa [g40] using this
end Go.Av
end
