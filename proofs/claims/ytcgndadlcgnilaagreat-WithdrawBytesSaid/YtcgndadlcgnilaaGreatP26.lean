/- the plain law, part 26 -/
import Derived.Test.YtcgndadlcgnilaaGreatP25
set_option autoImplicit false
set_option linter.unusedSimpArgs false
set_option linter.unusedVariables false
set_option linter.unnecessarySimpa false
section
namespace Go.Av
theorem lives5 : g17 100000 = some true := by decide +kernel
theorem pureWB1 (l m : List Int) (a2 a3 : Int) (a4 : List Int) (a5 a6 : Int) (hl : ∀ n, n ∈ l → isI64 n) (hm : ∀ n, n ∈ m → isI64 n) (h2 : isI64 a2) (h3 : isI64 a3) (h4 : ∀ n, n ∈ a4 → 0 ≤ n ∧ n < 256) (h5 : isI64 a5) (h6 : 0 ≤ a6 ∧ a6 < 256) : ∃ n, g6 n l m a2 a3 a4 a5 a6 = some true :=
 pureWB l m a2 a3 a4 a5 a6 hl hm h2 h3 h4 h5 h6 lives5
end Go.Av
end
