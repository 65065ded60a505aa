/- the plain law, part 6 -/
import Derived.Test.YtjmhdecofadfnaaGreatP5
set_option autoImplicit false
set_option linter.unusedSimpArgs false
set_option linter.unusedVariables false
set_option linter.unnecessarySimpa false
section
namespace Go.Av
theorem g40_vi (n : Nat) {a : Int} (rest : List Int) (h : isI64 a) (hn : 10 ≤ n) : g40 n ⟨vi a ++ rest, 0⟩ = some (a, ⟨rest, 0⟩) := g40_vu n rest h hn
section
variable (n : Nat) (a0 : List Int) (v4 v6 : Int × S8) (v8 v10 : List Int × S8) (v : Int × S8) (y z : List Int) (a rest : List Int)
end
end Go.Av
end
