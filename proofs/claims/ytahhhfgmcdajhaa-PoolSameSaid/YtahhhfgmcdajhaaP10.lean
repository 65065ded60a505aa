/- the plain law, part 10 -/
import Derived.Test.YtahhhfgmcdajhaaP9
set_option autoImplicit false
set_option linter.unusedSimpArgs false
set_option linter.unusedVariables false
set_option linter.unnecessarySimpa false
section
set_option linter.unusedSimpArgs false
set_option linter.unusedVariables false
set_option maxHeartbeats 2000000
namespace Go.Av
/-- all that the steps ask; k operations so far -/
structure GoodP (s : PSt) (m : S9) (k : Nat) : Prop where
 rel : Rel s m
 tm : Tm s
 sorted : s.jobs.Pairwise (fun a b => a.id < b.id)
 jl : s.jobs.length ≤ k
 ml : m.c4.length ≤ k
 tl : ∀ j, j ∈ s.jobs → j.tries.length ≤ k
 bd : ∀ j, j ∈ s.jobs → j.body.length ≤ 65536 ∧ ∀ r, j.ans = some r → r.body.length ≤ 65536
 tk : 0 ≤ s.tick ∧ s.tick ≤ 1099511627776
theorem GoodP.up {s : PSt} {m : S9} {k k' : Nat} (h : GoodP s m k) (hk : k ≤ k') : GoodP s m k' :=
 ⟨h.rel, h.tm, h.sorted, Nat.le_trans h.jl hk, Nat.le_trans h.ml hk, fun j hj => Nat.le_trans (h.tl j hj) hk, h.bd, h.tk⟩
end Go.Av
end
