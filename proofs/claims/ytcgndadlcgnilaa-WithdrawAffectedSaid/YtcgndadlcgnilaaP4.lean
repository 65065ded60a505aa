/- the plain law, part 4 -/
import Derived.Test.YtcgndadlcgnilaaP3
set_option autoImplicit false
set_option linter.unusedSimpArgs false
set_option linter.unusedVariables false
set_option linter.unnecessarySimpa false
section
namespace Go.Av
instance (l : List Int) : Decidable (Inc l) := by unfold Inc; infer_instance
theorem l66_1_eq (n : Nat) (R R' : Int → List Int → Option (List Int)) (h : ∀ x y, R x y = R' x y) (z : Nat) (a x : Int) : ∀ k i w, l66_1 n R z a x k i w = l87_1 n R' z a x k i w
 | 0, _, _ => rfl
 | k + 1, i, w => by
  unfold l66_1 l87_1
  simp only [l66_1_eq n R R' h z a x k, h]
  rfl
theorem l66_0_eq (n z : Nat) (a b : Int) : ∀ k i w, l66_0 n z a b k i w = l87_0 n z a b k i w
 | 0, _, _ => rfl
 | k + 1, i, w => by
  unfold l66_0 l87_0
  rw [l66_1_eq n _ _ (fun x y => l66_0_eq n z a b k x y)]
theorem l50_0_eq (n : Nat) (a : List Int) (z : Nat) (x y w : Int) : ∀ k, l50_0 n a z x y w k = l77_0 n a z x y w k
 | 0 => rfl
 | k + 1 => by unfold l50_0 l77_0 g66 g87; rw [l66_0_eq]
theorem g31_63 (n : Nat) (a : List Int) (z : Nat) : g31 n a z = g58 n a z := by unfold g31 g58 g50 g77; simp only [l50_0_eq]
theorem l32_1_eq (n z : Nat) (x : Int) : ∀ k i j w, l32_1 n z x k i j w = l59_1 n z x k i j w
 | 0, _, _, _ => rfl
 | k + 1, i, j, w => by
  unfold l32_1 l59_1
  simp only [l32_1_eq n z x k]
theorem l32_0_eq (n : Nat) (a : List Int) (z : Nat) : ∀ k x, l32_0 n a z k x = l59_0 n a z k x
 | 0, _ => rfl
 | k + 1, x => by
  unfold l32_0 l59_0
  simp only [l32_0_eq n a z k, l32_1_eq]
theorem g32_64 (n : Nat) (a : List Int) (z : Nat) : g32 n a z = g59 n a z := by unfold g32 g59; simp only [l32_0_eq]
theorem g31_0_63 (n : Nat) : g31_0 n = g58_0 n := by
 unfold g31_0 g58_0 g50_0 g77_0
 rcases n with _ | n
 ·rfl
 ·unfold l50_0_0 l77_0_0 g66_0 g87_0 l66_0_0 l87_0_0; rfl
theorem g18_33 (n : Nat) (a : List Int) : g18 n a = g46 n a := by
 unfold g18 g46
 simp only [g31_63, g32_64, g31_0_63]
 rfl
end Go.Av
end
