/- the plain law, part 10 -/
import Derived.Test.YtcgndadlcgnilaaGreatP9
set_option autoImplicit false
set_option linter.unusedSimpArgs false
set_option linter.unusedVariables false
set_option linter.unnecessarySimpa false
section
namespace Go.Av
end Go.Av
end
