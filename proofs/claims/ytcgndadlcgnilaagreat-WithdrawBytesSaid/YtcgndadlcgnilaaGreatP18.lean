/- the plain law, part 18 -/
import Derived.Test.YtcgndadlcgnilaaGreatP17
set_option autoImplicit false
set_option linter.unusedSimpArgs false
set_option linter.unusedVariables false
set_option linter.unnecessarySimpa false
section
namespace Go.Av
theorem l25_6_rd (n : Nat) (a0 : List Int) (v4 v6 : Int × S9) (v8 v10 : List Int × S9) (v : Int × S9) (y z a : List Int) (hn : 10 ≤ n) (h9 : n < 1000000) (ha : ∀ x, x ∈ a → isU64 x) (hl : a.length < 1000000) (hv : v.1 = (a.length : Int)) (h0 : a.length ≤ a0.length) (hb : a0.length < n)
  (he : g24 n ⟨v4.1, v6.1, v8.1, v10.1, y, z, a⟩ = some a0) : ∀ (k i : Nat) (acc : List Int), i ≤ a.length → a.length - i < k → acc = a.take i →
  l25_6 n a0 v4 v6 v8 v10 y z v k (i : Int) (fl vw (a.drop i)) 0 acc = some (⟨v4.1, v6.1, v8.1, v10.1, y, z, a⟩, 0)
 | 0, _, _, _, h, _ => by omega
 | k + 1, i, acc, h1, h2, h3 => by
  have h4 : acc.length = i := by rw [h3]; simp; omega
  unfold l25_6
  by_cases h : i < a.length
  ·rw [if_pos (by omega), if_pos (by omega), drop_cons a i h, fl_cons, g54_vw n _ (ha _ (rd_in a i h)) hn, Option.bind_some, if_pos (by omega), wsucc i (by omega)]
   rw [l25_6_rd n a0 v4 v6 v8 v10 v y z a hn h9 ha hl hv h0 hb he k (i + 1) _ (by omega) (by omega) (by rw [h3, List.take_add_one]; simp [h, rd])]
  ·have h5 : acc = a := by rw [h3, List.take_of_length_le (by omega)]
   rw [if_neg (by omega), List.drop_eq_nil_of_le (by omega), fl_nil, h5]
   unfold g55
   rw [if_pos rfl, if_neg (by simp)]
   simp only [Option.bind_some, if_true, he, g56_eq n a0 a0 hb h9, decide_true]
end Go.Av
end
