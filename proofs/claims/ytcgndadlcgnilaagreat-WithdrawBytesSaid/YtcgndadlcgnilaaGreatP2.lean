/- the plain law, part 2 -/
import Derived.Test.YtcgndadlcgnilaaGreatP1
set_option autoImplicit false
set_option linter.unusedSimpArgs false
set_option linter.unusedVariables false
set_option linter.unnecessarySimpa false
section
namespace Go.Av
theorem drop_cons {α : Type} [Inhabited α] (l : List α) (i : Nat) (h : i < l.length) : l.drop i = rd l (i : Int) :: l.drop (i + 1) := by
 rw [rd_nat l i h]; exact List.drop_eq_getElem_cons h
theorem l37_ids (n : Nat) (a : List S2) (ha : a.length ≤ 1000) : ∀ (k i : Nat) (acc : List Int), i ≤ a.length → a.length - i < k → acc.length = i → l37_0 n a k acc (i : Int) = some (acc ++ (a.drop i).map S2.c0)
 | 0, _, _, _, h, _ => by omega
 | k + 1, i, acc, h1, h2, h3 => by
  unfold l37_0
  by_cases h : i < a.length
  ·rw [if_pos (by omega), if_pos (by omega), if_pos (by omega), wsucc i (by omega), l37_ids n a ha k (i + 1) _ (by omega) (by omega) (by simp [h3]), drop_cons a i h]
   simp
  ·rw [if_neg (by omega), List.drop_eq_nil_of_le (by omega)]; simp
theorem g37_ids (n : Nat) (hn : 1000 ≤ n) (a : List S2) (ha : a.length < 1000) : g37 n a = some (a.map S2.c0) := by
 have := l37_ids n a (by omega) n 0 [] (by omega) (by omega) rfl
 simpa [g37] using this
/-- comparing lists: Equal, SameInts, SameWords -/
theorem l65_eq (n : Nat) (a b : List Int) (hab : a.length = b.length) (ha : a.length < 1000) : ∀ (k i : Nat), i ≤ a.length → a.length - i < k → l65_0 n a b k (i : Int) = some (decide (a.drop i = b.drop i))
 | 0, _, _, h => by omega
 | k + 1, i, h1, h2 => by
  unfold l65_0
  by_cases h : i < a.length
  ·rw [if_pos (by omega), if_pos (by omega), if_pos (by omega), wsucc i (by omega), drop_cons a i h, drop_cons b i (by omega), l65_eq n a b hab ha k (i + 1) (by omega) (by omega)]
   by_cases e : rd a (i : Int) = rd b (i : Int)
   ·rw [if_pos e]; simp [e]
   ·rw [if_neg e]; simp [e]
  ·rw [if_neg (by omega), List.drop_eq_nil_of_le (by omega), List.drop_eq_nil_of_le (by omega)]; simp
theorem g65_eq (n : Nat) (hn : 1000 ≤ n) (a b : List Int) (ha : a.length < 1000) : g65 n a b = some (decide (a = b)) := by
 unfold g65
 by_cases h : a.length = b.length
 ·rw [if_pos (by omega)]
  have := l65_eq n a b h ha n 0 (by omega) (by omega)
  simpa using this
 ·rw [if_neg (by omega)]
  have : a ≠ b := fun e => h (by rw [e])
  simp [this]
theorem l42_65 (n : Nat) (a b : List Int) : ∀ k i, l42_0 n a b k i = l65_0 n a b k i
 | 0, _ => rfl
 | k + 1, i => by unfold l42_0 l65_0; rw [l42_65 n a b k]
theorem l43_65 (n : Nat) (a b : List Int) : ∀ k i, l43_0 n a b k i = l65_0 n a b k i
 | 0, _ => rfl
 | k + 1, i => by unfold l43_0 l65_0; rw [l43_65 n a b k]
theorem g42_65 (n : Nat) (a b : List Int) : g42 n a b = g65 n a b := by unfold g42 g65; rw [l42_65]
theorem g43_65 (n : Nat) (a b : List Int) : g43 n a b = g65 n a b := by unfold g43 g65; rw [l43_65]
theorem g15_refl (n : Nat) (hn : 1000 ≤ n) (r : S8) (h2 : r.c2.length < 1000) (h3 : r.c3.length < 1000) (h4 : r.c4.length < 1000) (h5 : r.c5.length < 1000) (h6 : r.c6.length < 1000) : g15 n r r = some true := by
 unfold g15
 simp only [g42_65, g43_65, g65_eq n hn _ _ h2, g65_eq n hn _ _ h3, g65_eq n hn _ _ h4, g65_eq n hn _ _ h5, g65_eq n hn _ _ h6, Option.bind_some, decide_true, if_true]
end Go.Av
end
