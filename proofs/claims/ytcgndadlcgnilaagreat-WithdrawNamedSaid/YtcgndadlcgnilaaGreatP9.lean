/- the plain law, part 9 -/
import Derived.Test.YtcgndadlcgnilaaGreatP8
set_option autoImplicit false
set_option linter.unusedSimpArgs false
set_option linter.unusedVariables false
set_option linter.unnecessarySimpa false
section
namespace Go.Av
theorem g44_inc (n : Nat) (hn : 1000 ≤ n) (a : List Int) (ha : a.length ≤ 12) : g44 n a = some (decide (Inc a)) := by
 have := g34_inc n hn a ha
 unfold g34 at this; unfold g44
 rw [g66_33] at this
 simp only [g76_65]; exact this
/-- what a receipt and its own proofs are like -/
structure good (n : Nat) (r : S8) (ps : List (List S1)) : Prop where
 c0 : 0 ≤ r.c0 ∧ r.c0 < 4096
 c1 : 0 ≤ r.c1 ∧ r.c1 ≤ 1099511627776
 l3 : r.c3.length = r.c2.length
 l5 : r.c5.length = r.c2.length
 l6 : r.c6.length = r.c2.length
 lp : ps.length = r.c2.length
 i2 : Inc r.c2
 i3 : Inc r.c3
 i4 : Inc r.c4
 s6 : ps.map (sm n) = r.c6
 nm : nam ps r.c4 = false
end Go.Av
end
