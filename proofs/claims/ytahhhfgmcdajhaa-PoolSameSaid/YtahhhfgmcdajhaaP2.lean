/- the plain law, part 2 -/
import Derived.Test.YtahhhfgmcdajhaaP1
set_option autoImplicit false
set_option linter.unusedSimpArgs false
set_option linter.unusedVariables false
set_option linter.unnecessarySimpa false
section
set_option linter.unusedSimpArgs false
set_option linter.unusedVariables false
set_option maxHeartbeats 1000000
namespace Go.Av
/-! The pool and its model: what they have in common. -/
def toJ (j : PJob) : S5 := ⟨j.id, j.body, (j.tries.length : Int), j.ans.isSome, (j.ans.map (·.worker)).getD 0, (j.ans.map (·.try')).getD 0, (j.ans.map (·.body)).getD []⟩
def tryS (id : Int) (l : List PTry) : List S7 := l.mapIdx fun k t => ⟨id, (k : Int), t.worker, t.tick, t.over⟩
structure Rel (s : PSt) (m : S9) : Prop where
 al : m.c0 = s.alive
 to : m.c1 = s.timeout
 tick : m.c2 = s.tick
 jobs : m.c3 = s.jobs.map toJ
 tries : ∀ j, j ∈ s.jobs → m.c4.filter (fun t => decide (t.c0 = j.id)) = tryS j.id j.tries
 known : ∀ t, t ∈ m.c4 → ∃ j, j ∈ s.jobs ∧ j.id = t.c0
theorem wrap1 {i : Nat} (h : i < 1000000) : IntKind.i64.wrap ((i : Int) + 1) = ((i + 1 : Nat) : Int) := by rw [wrap_i64 (by omega) (by omega)]; rfl
end Go.Av
end
