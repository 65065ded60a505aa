/- the plain law, part 8 -/
import Derived.Test.YtcgndadlcgnilaaP7
set_option autoImplicit false
set_option linter.unusedSimpArgs false
set_option linter.unusedVariables false
set_option linter.unnecessarySimpa false
section
namespace Go.Av
def sm (n : Nat) (p : List S1) : Int := (g12 n p).getD 0
def okPs (ps : List (List S1)) : Prop := ∀ p, p ∈ ps → p.length ≤ 900 ∧ ∀ s, s ∈ p → okP s
theorem sm_ok (n : Nat) (hn : 1000 ≤ n) (ps : List (List S1)) (h : okPs ps) (p : List S1) (hp : p ∈ ps) : g12 n p = some (sm n p) ∧ g13 n p = some (sm n p) := by
 obtain ⟨r, h1, h2⟩ := psum n hn p (h p hp).1 (h p hp).2
 have : sm n p = r := by unfold sm; rw [h1]; rfl
 rw [this]; exact ⟨h1, h2⟩
theorem rd_own (a : List S2) (i : Nat) (h : i < a.length) : rd (a.map own) (i : Int) = own (rd a (i : Int)) := by
 rw [rd_nat _ i (by simpa using h), rd_nat a i h, List.getElem_map]
end Go.Av
end
