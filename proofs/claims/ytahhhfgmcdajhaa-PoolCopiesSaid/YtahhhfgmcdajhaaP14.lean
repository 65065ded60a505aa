/- the plain law, part 14 -/
import Derived.Test.YtahhhfgmcdajhaaP13
set_option autoImplicit false
set_option linter.unusedSimpArgs false
set_option linter.unusedVariables false
set_option linter.unnecessarySimpa false
section
set_option linter.unusedSimpArgs false
set_option linter.unusedVariables false
namespace Go.Av
theorem l17_ok {n W : Nat} (hW : W ≤ 64) (t : Int) : ∀ (f i : Nat), i ≤ W → W - i < f → l17_0 n (W : Int) t f (i : Int) (List.replicate i true) = some (some ⟨List.replicate W true, t, 0, [], []⟩) := by
 intro f
 induction f with
 | zero => intro i _ hf; omega
 | succ f ih =>
  intro i hi hf
  rw [l17_0]
  by_cases hc : i < W
  ·rw [if_pos (by omega), if_pos (by rw [List.length_replicate]; omega), wrap1 (by omega), ← List.replicate_succ']
   exact ih (i + 1) (by omega) (by omega)
  ·have : i = W := by omega
   subst this
   rw [if_neg (by omega)]
/-- a new pool and its model -/
theorem new_ok {n : Nat} (hn : 100000 < n) {w t : Int} (h1 : 1 ≤ w ∧ w ≤ 64) (h2 : 1 ≤ t ∧ t ≤ 1099511627776) :
  pNew w t = (some ⟨List.replicate w.toNat true, t, 0, []⟩, 0) ∧ g17 n w t = some (some ⟨List.replicate w.toNat true, t, 0, [], []⟩) ∧ GoodP ⟨List.replicate w.toNat true, t, 0, []⟩ ⟨List.replicate w.toNat true, t, 0, [], []⟩ 0 := by
 refine ⟨?_, ?_, ⟨⟨rfl, rfl, rfl, rfl, fun j hj => by simp at hj, fun u hu => by simp at hu⟩, ⟨by simp only; omega, fun j hj => by simp at hj⟩, .nil, Nat.le_refl _, Nat.le_refl _, fun j hj => by simp at hj, fun j hj => by simp at hj, by simp⟩⟩
 ·unfold pNew maxI; rw [if_neg (by omega)]
 ·unfold g17
  rw [if_neg (by omega), if_neg (by omega), if_neg (by omega), if_neg (by omega)]
  have := l17_ok (n := n) (W := w.toNat) (by omega) t n 0 (by omega) (by omega)
  rw [show ((w.toNat : Nat) : Int) = w from by omega] at this
  exact this
end Go.Av
end
