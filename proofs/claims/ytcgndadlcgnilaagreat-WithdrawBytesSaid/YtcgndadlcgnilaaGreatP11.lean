/- the plain law, part 11 -/
import Derived.Test.YtcgndadlcgnilaaGreatP10
set_option autoImplicit false
set_option linter.unusedSimpArgs false
set_option linter.unusedVariables false
set_option linter.unnecessarySimpa false
section
namespace Go.Av
/-- few parts -/
structure small (b : Nat) (r : S8) : Prop where
 c2 : r.c2.length ≤ b
 c3 : r.c3.length ≤ b
 c4 : r.c4.length ≤ b
 c5 : r.c5.length ≤ b
 c6 : r.c6.length ≤ b
theorem small_er (b : Nat) (c : Int) : small b (er c).1 := ⟨by simp [er], by simp [er], by simp [er], by simp [er], by simp [er]⟩
end Go.Av
end
