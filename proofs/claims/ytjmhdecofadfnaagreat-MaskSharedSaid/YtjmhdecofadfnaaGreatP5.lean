/- the plain law, part 5 -/
import Derived.Test.YtjmhdecofadfnaaGreatP4
set_option autoImplicit false
set_option linter.unusedSimpArgs false
set_option linter.unusedVariables false
set_option linter.unnecessarySimpa false
section
namespace Go.Av
def Wn (w : S9) : Prop := Gd w.c2 w.c3 ∧ -1048576 ≤ w.c0 ∧ w.c0 ≤ 1048576 ∧ -1048576 ≤ w.c1 ∧ w.c1 ≤ 1048576
theorem drop_rd {α : Type} [Inhabited α] (l : List α) (i : Nat) (h : i < l.length) : l.drop i = rd l (i : Int) :: l.drop (i + 1) := by
 rw [rd_nat l i h]; exact List.drop_eq_getElem_cons h
theorem g61_wn (n : Nat) (w : S9) : ∃ v, g61 n w = some v ∧ (v = 0 ↔ Wn w) := by
 obtain ⟨b, e, hb⟩ := g55_gd n w.c2 w.c3
 unfold g61 Wn
 rw [e, ← hb, Option.bind_some]
 repeat' split
 all_goals exact ⟨_, rfl, by simp_all <;> (intros; omega)⟩
end Go.Av
end
