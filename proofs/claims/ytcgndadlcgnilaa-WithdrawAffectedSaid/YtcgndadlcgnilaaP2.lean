/- the plain law, part 2 -/
import Derived.Test.YtcgndadlcgnilaaP1
set_option autoImplicit false
set_option linter.unusedSimpArgs false
set_option linter.unusedVariables false
set_option linter.unnecessarySimpa false
section
namespace Go.Av
theorem drop_cons {α : Type} [Inhabited α] (l : List α) (i : Nat) (h : i < l.length) : l.drop i = rd l (i : Int) :: l.drop (i + 1) := by
 rw [rd_nat l i h]; exact List.drop_eq_getElem_cons h
/-- own: a list turned entry by entry -/
def own (x : S2) : S3 := ⟨x.c0, 0, x.c1, x.c2, x.c3, x.c4, x.c5, x.c6⟩
theorem l7_own (n : Nat) (a : List S2) (ha : a.length ≤ 1000) : ∀ (k i : Nat) (acc : List S3), i ≤ a.length → a.length - i < k → acc.length = i → l7_0 n a k acc (i : Int) = some (acc ++ (a.drop i).map own)
 | 0, _, _, _, h, _ => by omega
 | k + 1, i, acc, h1, h2, h3 => by
  unfold l7_0
  by_cases h : i < a.length
  ·rw [if_pos (by omega), if_pos (by omega), if_pos (by omega), wsucc i (by omega), l7_own n a ha k (i + 1) _ (by omega) (by omega) (by simp [h3]), drop_cons a i h]
   simp [own]
  ·rw [if_neg (by omega), List.drop_eq_nil_of_le (by omega)]; simp
theorem g7_own (n : Nat) (hn : 1000 ≤ n) (a : List S2) (ha : a.length < 1000) : g7 n a = some (a.map own) := by
 have := l7_own n a (by omega) n 0 [] (by omega) (by omega) rfl
 simpa [g7] using this
/-- proofs: lists of lists laid anew -/
theorem l11_1_id (n : Nat) (R : List (List S1) → Int → Option (List (List S1))) (a : List (List S1)) (x1 : List (List S1)) (i : Nat) (hi : i < a.length) (hx : x1.length ≤ 1000) (hj : (rd a (i : Int)).length ≤ 1000) (h9 : i ≤ 1000) :
  ∀ (k j : Nat) (acc : List S1), j ≤ (rd a (i : Int)).length → (rd a (i : Int)).length - j < k → acc.length = j → l11_1 n R a x1 (i : Int) k acc (j : Int) = R (x1 ++ [acc ++ (rd a (i : Int)).drop j]) ((i + 1 : Nat) : Int)
 | 0, _, _, _, h, _ => by omega
 | k + 1, j, acc, h1, h2, h3 => by
  unfold l11_1
  rw [if_pos (by omega)]
  by_cases h : j < (rd a (i : Int)).length
  ·rw [if_pos (by omega), if_pos (by omega), if_pos (by omega), if_pos (by omega), wsucc j (by omega), l11_1_id n R a x1 i hi hx hj h9 k (j + 1) _ (by omega) (by omega) (by simp [h3]), drop_cons (rd a (i : Int)) j h]
   simp
  ·rw [if_neg (by omega), if_pos (by omega), List.drop_eq_nil_of_le (by omega), wsucc i (by omega)]; simp
theorem l11_0_id (n : Nat) (hn : 1000 ≤ n) (a : List (List S1)) (ha : a.length < 1000) (hs : ∀ x, x ∈ a → x.length < 1000) : ∀ (k i : Nat) (acc : List (List S1)), i ≤ a.length → a.length - i < k → acc.length = i → l11_0 n a k acc (i : Int) = some (acc ++ a.drop i)
 | 0, _, _, _, h, _ => by omega
 | k + 1, i, acc, h1, h2, h3 => by
  unfold l11_0
  by_cases h : i < a.length
  ·have hm := hs (rd a (i : Int)) (by rw [rd_nat a i h]; exact List.getElem_mem _)
   rw [if_pos (by omega)]
   have := l11_1_id n (l11_0 n a k) a acc i h (by omega) (by omega) (by omega) n 0 [] (by omega) (by omega) rfl
   rw [show ((0 : Nat) : Int) = 0 from rfl] at this
   rw [this, l11_0_id n hn a ha hs k (i + 1) _ (by omega) (by omega) (by simp [h3]), drop_cons a i h]
   simp
  ·rw [if_neg (by omega), List.drop_eq_nil_of_le (by omega)]; simp
theorem g11_id (n : Nat) (hn : 1000 ≤ n) (a : List (List S1)) (ha : a.length < 1000) (hs : ∀ x, x ∈ a → x.length < 1000) : g11 n a = some a := by
 have := l11_0_id n hn a ha hs n 0 [] (by omega) (by omega) rfl
 simpa [g11] using this
/-- comparing lists: Equal, SameInts, SameWords -/
theorem l60_eq (n : Nat) (a b : List Int) (hab : a.length = b.length) (ha : a.length < 1000) : ∀ (k i : Nat), i ≤ a.length → a.length - i < k → l60_0 n a b k (i : Int) = some (decide (a.drop i = b.drop i))
 | 0, _, _, h => by omega
 | k + 1, i, h1, h2 => by
  unfold l60_0
  by_cases h : i < a.length
  ·rw [if_pos (by omega), if_pos (by omega), if_pos (by omega), wsucc i (by omega), drop_cons a i h, drop_cons b i (by omega), l60_eq n a b hab ha k (i + 1) (by omega) (by omega)]
   by_cases e : rd a (i : Int) = rd b (i : Int)
   ·rw [if_pos e]; simp [e]
   ·rw [if_neg e]; simp [e]
  ·rw [if_neg (by omega), List.drop_eq_nil_of_le (by omega), List.drop_eq_nil_of_le (by omega)]; simp
theorem g60_eq (n : Nat) (hn : 1000 ≤ n) (a b : List Int) (ha : a.length < 1000) : g60 n a b = some (decide (a = b)) := by
 unfold g60
 by_cases h : a.length = b.length
 ·rw [if_pos (by omega)]
  have := l60_eq n a b h ha n 0 (by omega) (by omega)
  simpa using this
 ·rw [if_neg (by omega)]
  have : a ≠ b := fun e => h (by rw [e])
  simp [this]
theorem l14_65 (n : Nat) (a b : List Int) : ∀ k i, l14_0 n a b k i = l60_0 n a b k i
 | 0, _ => rfl
 | k + 1, i => by unfold l14_0 l60_0; rw [l14_65 n a b k]
theorem g14_65 (n : Nat) (a b : List Int) : g14 n a b = g60 n a b := by unfold g14 g60; rw [l14_65]
end Go.Av
end
