/- the plain law, part 4 -/
import Derived.Test.YtahhhfgmcdajhaaP3
set_option autoImplicit false
set_option linter.unusedSimpArgs false
set_option linter.unusedVariables false
set_option linter.unnecessarySimpa false
section
set_option linter.unusedSimpArgs false
set_option linter.unusedVariables false
set_option maxHeartbeats 1000000
namespace Go.Av
/-- times are small -/
structure Tm (s : PSt) : Prop where
 to : 0 < s.timeout ∧ s.timeout ≤ 1099511627776
 tk : ∀ j, j ∈ s.jobs → ∀ t, t ∈ j.tries → 0 ≤ t.tick ∧ t.tick ≤ 1099511627776
end Go.Av
end
