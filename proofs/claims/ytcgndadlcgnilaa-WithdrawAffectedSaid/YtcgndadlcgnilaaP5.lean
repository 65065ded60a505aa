/- the plain law, part 5 -/
import Derived.Test.YtcgndadlcgnilaaP4
set_option autoImplicit false
set_option linter.unusedSimpArgs false
set_option linter.unusedVariables false
set_option linter.unnecessarySimpa false
section
namespace Go.Av
theorem etaS1 (s : S1) : (⟨s.c0, s.c1, s.c2, s.c3, s.c4, s.c5, s.c6⟩ : S1) = s := rfl
theorem mem_rd {α : Type} [Inhabited α] (a : List α) (i : Nat) (h : i < a.length) : rd a (i : Int) ∈ a := by
 rw [rd_nat a i h]; exact List.getElem_mem _
end Go.Av
end
