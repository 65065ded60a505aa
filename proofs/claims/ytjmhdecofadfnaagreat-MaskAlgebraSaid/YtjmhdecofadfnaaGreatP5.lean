/- the plain law, part 5 -/
import Derived.Test.YtjmhdecofadfnaaGreatP4
set_option autoImplicit false
set_option linter.unusedSimpArgs false
set_option linter.unusedVariables false
set_option linter.unnecessarySimpa false
section
namespace Go.Av
theorem drop_rd {α : Type} [Inhabited α] (l : List α) (i : Nat) (h : i < l.length) : l.drop i = rd l (i : Int) :: l.drop (i + 1) := by
 rw [rd_nat l i h]; exact List.drop_eq_getElem_cons h
end Go.Av
end
