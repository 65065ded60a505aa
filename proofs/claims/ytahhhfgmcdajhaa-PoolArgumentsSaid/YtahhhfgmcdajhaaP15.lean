/- the plain law, part 15 -/
import Derived.Test.YtahhhfgmcdajhaaP14
set_option autoImplicit false
set_option linter.unusedSimpArgs false
set_option linter.unusedVariables false
set_option linter.unnecessarySimpa false
section
set_option linter.unusedSimpArgs false
set_option linter.unusedVariables false
set_option maxHeartbeats 2000000
namespace Go.Av
theorem agr_ok {n k : Nat} (hn : 100000 < n) (hk : k ≤ 100000) {s : PSt} {m : S9} (h : GoodP s m k) : g20 n s m = some true :=
 g20_ok hn h.rel (by have := h.jl; omega) (fun j hj r e => (h.bd j hj).2 r e)
end Go.Av
end
