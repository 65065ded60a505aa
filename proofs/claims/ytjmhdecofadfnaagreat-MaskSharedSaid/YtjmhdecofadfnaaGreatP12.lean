/- the plain law, part 12 -/
import Derived.Test.YtjmhdecofadfnaaGreatP11
set_option autoImplicit false
set_option linter.unusedSimpArgs false
set_option linter.unusedVariables false
set_option linter.unnecessarySimpa false
section
namespace Go.Av
end Go.Av
end
