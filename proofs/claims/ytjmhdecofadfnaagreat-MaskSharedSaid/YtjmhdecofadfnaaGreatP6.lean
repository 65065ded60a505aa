/- the plain law, part 6 -/
import Derived.Test.YtjmhdecofadfnaaGreatP5
set_option autoImplicit false
set_option linter.unusedSimpArgs false
set_option linter.unusedVariables false
set_option linter.unnecessarySimpa false
section
namespace Go.Av
theorem l23_rf (n : Nat) (a : S5) (hl : a.c2.length ≤ 1000000000) : ∀ (k i : Nat), a.c2.length - i < k → i ≤ a.c2.length → l23_0 n a a k (i : Int) = some true
 | 0, _, h, _ => by omega
 | k + 1, i, hk, hi => by
  unfold l23_0
  by_cases c : i < a.c2.length
  ·rw [if_pos (by omega), if_pos (by omega), if_pos (by omega), if_pos ⟨rfl, rfl, rfl⟩, wsucc i (by omega)]
   exact l23_rf n a hl k (i + 1) (by omega) (by omega)
  ·rw [if_neg (by omega)]
theorem eq_rf (n : Nat) (a : S5) (hl : a.c2.length ≤ 1000000000) (hn : a.c2.length < n) : g23 n a a = some true := by
 unfold g23
 rw [if_pos rfl, if_pos rfl, if_pos rfl]
 exact l23_rf n a hl n 0 (by omega) (by omega)
theorem eq2_rf (n : Nat) (hn : 4000 ≤ n) (a : S5) (hl : a.c2.length ≤ 3200) : g22 n a a = some true := by
 obtain ⟨v, h1, h2⟩ := equal_ok n hn a a hl
 rw [h1, ← h2]; exact eq_rf n a (by omega) (by omega)
theorem g15_rng (n : Nat) (a m : Int) (hm : 0 < m) (hm2 : m < 4611686018427387904) : ∃ v, g15 n a m = some v ∧ 0 ≤ v ∧ v < m := by
 have h1 : Int.tmod a m < m := Int.tmod_lt_of_pos _ hm
 have h2 : -m < Int.tmod a m := by
  by_cases h : 0 ≤ a
  ·have := Int.tmod_nonneg m h; omega
  ·have e : Int.tmod a m = -(Int.tmod (-a) m) := by rw [Int.neg_tmod, Int.neg_neg]
   have := Int.tmod_lt_of_pos (-a) hm
   omega
 unfold g15
 rw [if_pos (by omega), if_pos (by omega), wrap_i64 (by omega) (by omega)]
 exact ⟨_, rfl, Int.tmod_nonneg _ (by omega), Int.tmod_lt_of_pos _ hm⟩
section
variable (n : Nat) (hn : 5000 ≤ n)
include hn
end
end Go.Av
end
