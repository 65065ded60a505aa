/- the plain law, part 1 -/
import Derived.Test.YtahhhfgmcdajhaaW1
import Derived.Test.YtahhhfgmcdajhaaW2
import Derived.Test.YtahhhfgmcdajhaaW3
set_option autoImplicit false
set_option linter.unusedSimpArgs false
set_option linter.unusedVariables false
set_option linter.unnecessarySimpa false
section
set_option linter.unusedSimpArgs false
set_option linter.unusedVariables false
set_option maxHeartbeats 1000000
namespace Go.Av
def isI64 (n : Int) : Prop := -9223372036854775808 ≤ n ∧ n < 9223372036854775808
def isU64 (n : Int) : Prop := 0 ≤ n ∧ n < 18446744073709551616
theorem lives_ok : g16 2000 = some true := by decide +kernel
theorem g11_rng' (n : Nat) (a b : Int) (ha : isI64 a) (hb : 0 < b) : ∃ v, g11 n a b = some v ∧ 0 ≤ v ∧ v < b := by
 unfold g11
 have hbn : ¬ b = 0 := by omega
 obtain ⟨h1, h2⟩ := ha
 split
 ·try rw [if_pos hbn]
  refine ⟨_, rfl, ?_, ?_⟩
  ·exact Int.tmod_nonneg _ (by rw [wrap_i64 (x := a + 1) (by omega) (by omega), wrap_i64 (by omega) (by omega)]; omega)
  ·exact Int.tmod_lt_of_pos _ hb
 ·try rw [if_pos hbn]
  exact ⟨_, rfl, Int.tmod_nonneg _ (by omega), Int.tmod_lt_of_pos _ hb⟩
/-- a job that nobody has taken -/
def fresh (id : Int) : PJob := ⟨id, [], [], none⟩
/-- while the first ones are answered -/
structure AMI (js : List PJob) (i : Nat) (s : PSt) : Prop where
 al : s.alive = [true]
 tick : 0 ≤ s.tick ∧ s.tick ≤ i
 to : s.timeout = 1
 len : s.jobs.length = js.length
 ids : ∀ m (h1 : m < s.jobs.length) (h2 : m < js.length), s.jobs[m].id = js[m].id ∧ (m < i → s.jobs[m].ans.isSome = true) ∧ (i ≤ m → s.jobs[m] = fresh js[m].id)
theorem AMI.sorted {js : List PJob} {i : Nat} {s : PSt} (h : AMI js i s) (hs : js.Pairwise (fun a b => a.id < b.id)) : s.jobs.Pairwise (fun a b => a.id < b.id) := by
 refine List.pairwise_iff_getElem.2 fun a b ha hb hab => ?_
 have hl := h.len
 rw [(h.ids a ha (by omega)).1, (h.ids b hb (by omega)).1]
 exact List.pairwise_iff_getElem.1 hs a b (by omega) (by omega) hab
end Go.Av
end
