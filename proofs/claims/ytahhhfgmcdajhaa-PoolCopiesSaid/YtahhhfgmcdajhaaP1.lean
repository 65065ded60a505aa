/- the plain law, part 1 -/
import Derived.Test.YtahhhfgmcdajhaaW1
import Derived.Test.YtahhhfgmcdajhaaW2
import Derived.Test.YtahhhfgmcdajhaaW3
import Derived.Test.YtahhhfgmcdajhaaW4
import Derived.Test.YtahhhfgmcdajhaaW5
import Derived.Test.YtahhhfgmcdajhaaW6
set_option autoImplicit false
set_option linter.unusedSimpArgs false
set_option linter.unusedVariables false
set_option linter.unnecessarySimpa false
section
set_option linter.unusedSimpArgs false
set_option linter.unusedVariables false
set_option maxHeartbeats 1000000
namespace Go.Av
def isI64 (n : Int) : Prop := -9223372036854775808 ≤ n ∧ n < 9223372036854775808
def isU64 (n : Int) : Prop := 0 ≤ n ∧ n < 18446744073709551616
theorem lives_ok : g16 2000 = some true := by decide +kernel
theorem g11_rng' (n : Nat) (a b : Int) (ha : isI64 a) (hb : 0 < b) : ∃ v, g11 n a b = some v ∧ 0 ≤ v ∧ v < b := by
 unfold g11
 have hbn : ¬ b = 0 := by omega
 obtain ⟨h1, h2⟩ := ha
 split
 ·try rw [if_pos hbn]
  refine ⟨_, rfl, ?_, ?_⟩
  ·exact Int.tmod_nonneg _ (by rw [wrap_i64 (x := a + 1) (by omega) (by omega), wrap_i64 (by omega) (by omega)]; omega)
  ·exact Int.tmod_lt_of_pos _ hb
 ·try rw [if_pos hbn]
  exact ⟨_, rfl, Int.tmod_nonneg _ (by omega), Int.tmod_lt_of_pos _ hb⟩
/-- a job that nobody has taken -/
def fresh (id : Int) : PJob := ⟨id, [], [], none⟩
structure PMI (N k i : Nat) (s : PSt) : Prop where
 st : s = ⟨[true], 1, 0, s.jobs⟩
 len : s.jobs.length = min i 1024
 sorted : s.jobs.Pairwise (fun a b => a.id < b.id)
 fr : ∀ j, j ∈ s.jobs → j = fresh j.id ∧ ∃ m : Nat, m < min i 1024 ∧ j.id = (((m + k) % N : Nat) : Int)
theorem mod_inj {N k m i : Nat} (hm : m < i) (hi : i < N) (e : (m + k) % N = (i + k) % N) : False := by
 have h1 : (i + k - (m + k)) % N = 0 := Nat.sub_mod_eq_zero_of_mod_eq e.symm
 have h2 : i + k - (m + k) = i - m := by omega
 rw [h2, Nat.mod_eq_of_lt (by omega)] at h1
 omega
theorem PMI.step {N k i : Nat} {s : PSt} (h : PMI N k i s) (hi : i < N) (hN : N ≤ 1028) : pAdd s (((i + k) % N : Nat) : Int) [] = (4, s) ∧ ¬ i < 1024 ∧ PMI N k (i + 1) s ∨ ∃ s', pAdd s (((i + k) % N : Nat) : Int) [] = (0, s') ∧ i < 1024 ∧ PMI N k (i + 1) s' := by
 by_cases hc : i < 1024
 ·right
  have hnf : pFind s (((i + k) % N : Nat) : Int) = none := by
   unfold pFind
   rw [List.find?_eq_none]
   intro j hj
   obtain ⟨_, m, hm, e⟩ := h.fr j hj
   simp only [decide_eq_true_eq]
   rw [e]
   intro q
   exact mod_inj (k := k) (show m < i by omega) hi (by omega)
  have hl := h.len
  refine ⟨{ s with jobs := pIns (fresh (((i + k) % N : Nat) : Int)) s.jobs }, ?_, hc, ?_⟩
  ·unfold pAdd
   rw [if_neg (by omega), if_neg (by simp; omega), hnf]
   rfl
  ·refine ⟨by have := h.st; rw [this], by simp only [pIns_len]; omega, pIns_sorted h.sorted (fun x hx q => ?_), fun j hj => ?_⟩
   ·obtain ⟨_, m, hm, e⟩ := h.fr x hx
    rw [e] at q
    exact mod_inj (k := k) (show m < i by omega) hi (by simp only [fresh] at q; omega)
   ·rcases mem_pIns.1 hj with rfl | hj
    ·exact ⟨rfl, i, by omega, rfl⟩
    ·obtain ⟨q1, m, hm, e⟩ := h.fr j hj
     exact ⟨q1, m, by omega, e⟩
 ·left
  have hl := h.len
  refine ⟨?_, hc, h.st, by omega, h.sorted, fun j hj => ?_⟩
  ·unfold pAdd
   rw [if_neg (by omega), if_pos (.inr (by omega))]
  ·obtain ⟨q1, m, hm, e⟩ := h.fr j hj
   exact ⟨q1, m, by omega, e⟩
/-- while the first ones are answered -/
structure AMI (js : List PJob) (i : Nat) (s : PSt) : Prop where
 al : s.alive = [true]
 tick : 0 ≤ s.tick ∧ s.tick ≤ i
 to : s.timeout = 1
 len : s.jobs.length = js.length
 ids : ∀ m (h1 : m < s.jobs.length) (h2 : m < js.length), s.jobs[m].id = js[m].id ∧ (m < i → s.jobs[m].ans.isSome = true) ∧ (i ≤ m → s.jobs[m] = fresh js[m].id)
theorem AMI.sorted {js : List PJob} {i : Nat} {s : PSt} (h : AMI js i s) (hs : js.Pairwise (fun a b => a.id < b.id)) : s.jobs.Pairwise (fun a b => a.id < b.id) := by
 refine List.pairwise_iff_getElem.2 fun a b ha hb hab => ?_
 have hl := h.len
 rw [(h.ids a ha (by omega)).1, (h.ids b hb (by omega)).1]
 exact List.pairwise_iff_getElem.1 hs a b (by omega) (by omega) hab
theorem pCheck0 {s : PSt} {i : Nat} {js : List PJob} (h : AMI js i s) (hi : i < 5) : pCheck s 0 (i : Int) = 0 := by
 unfold pCheck maxI
 rw [h.al]
 have := h.tick
 rw [if_neg (by simp; omega), if_neg (by omega)]
theorem AMI.step {js : List PJob} {i : Nat} {s : PSt} (h : AMI js i s) (hs : js.Pairwise (fun a b => a.id < b.id)) (hi : i < 5) (hl : 5 ≤ js.length) :
  ∃ s1 s2, pAsk s 0 (i : Int) = some ((js[i].id, []), 0, true, 0, s1) ∧ pAnswer s1 js[i].id 0 0 [] (i : Int) = (true, 0, s2) ∧ AMI js (i + 1) s2 := by
 have hsl := h.len
 have hh : i < s.jobs.length := by omega
 have hso := h.sorted hs
 have hji : s.jobs[i] = fresh js[i].id := (h.ids i hh (by omega)).2.2 (Nat.le_refl _)
 have hnr : ∀ (p : PTry → Bool) (m : Nat) (hm : m < s.jobs.length), pRun s (i : Int) p s.jobs[m] = false := by
  intro p m hm
  obtain ⟨q1, q2, q3⟩ := h.ids m hm (by omega)
  by_cases c : m < i
  ·have := q2 c
   unfold pRun
   cases hx : s.jobs[m].ans with
   | none => rw [hx] at this; cases this
   | some x => rfl
  ·rw [q3 (by omega)]; rfl
 have hc0 := pCheck0 h hi
 have hal : rdn s.alive (Int.toNat 0) = true := by rw [h.al]; rfl
 have eg := pAsk_give (s := s) (w := 0) (t := (i : Int)) hc0 hal (by
   rw [List.any_eq_false]; intro j hj
   obtain ⟨m, hm, rfl⟩ := List.mem_iff_getElem.1 hj
   rw [hnr]; decide) hh (by
   intro j hj
   obtain ⟨m, hm, rfl⟩ := List.mem_iff_getElem.1 hj
   have hm2 : m < i := by simp at hm; omega
   rw [List.getElem_take]
   unfold cand
   have := (h.ids m (by omega) (by omega)).2.1 hm2
   cases hx : s.jobs[m].ans with
   | none => rw [hx] at this; cases this
   | some x => rfl) (by
   unfold cand
   rw [hnr, hji]; rfl)
 rw [if_pos (by rw [hji]; simp [fresh])] at eg
 have eu : ∀ f, pUpd { s with tick := (i : Int) } s.jobs[i].id f = { s with tick := (i : Int), jobs := s.jobs.set i (f s.jobs[i]) } := fun f => pUpd_set (s := { s with tick := (i : Int) }) hso hh f
 rw [eu] at eg
 refine ⟨_, ⟨s.alive, s.timeout, (i : Int), s.jobs.set i ⟨js[i].id, [], [⟨0, (i : Int), false⟩], some ⟨0, 0, []⟩⟩⟩, by rw [eg, hji]; rfl, ?_, ?_⟩
 ·have hj1 : ({ s with tick := (i : Int), jobs := s.jobs.set i ⟨js[i].id, [], [⟨0, (i : Int), false⟩], none⟩ } : PSt).jobs.Pairwise (fun a b => a.id < b.id) := by
   refine List.pairwise_iff_getElem.2 fun a b ha hb hab => ?_
   simp only [List.length_set] at ha hb
   have h0 := List.pairwise_iff_getElem.1 hso a b ha hb hab
   simp only [List.getElem_set]
   split <;> split <;> (try subst_vars) <;> (try rw [hji] at h0) <;> first | exact h0 | omega
  simp only [fresh]
  generalize hs1 : ({ s with tick := (i : Int), jobs := s.jobs.set i ⟨js[i].id, [], [] ++ [⟨0, (i : Int), false⟩], none⟩ } : PSt) = s1
  have hi1 : i < s1.jobs.length := by subst hs1; simpa using hh
  have hg1 : s1.jobs[i] = ⟨js[i].id, [], [⟨0, (i : Int), false⟩], none⟩ := by subst hs1; simp
  have hp1 : s1.jobs.Pairwise (fun a b => a.id < b.id) := by subst hs1; exact hj1
  have hf : pFind s1 js[i].id = some ⟨js[i].id, [], [⟨0, (i : Int), false⟩], none⟩ := by
   have := find_job hp1 hi1
   rw [hg1] at this
   exact this
  have hck : pCheck s1 0 (i : Int) = 0 := by
   subst hs1
   unfold pCheck maxI
   simp only [h.al]
   rw [if_neg (by simp; omega), if_neg (by omega)]
  unfold pAnswer
  rw [if_neg (by rw [hck]; decide), hf]
  simp only
  rw [if_neg (by simp [rdn]), if_neg (by simp), if_neg (by simp)]
  have := pUpd_set (s := { s1 with tick := (i : Int) }) hp1 hi1 (fun j => { j with ans := some ⟨0, 0, []⟩ })
  rw [hg1] at this
  simp only at this
  rw [this]
  subst hs1
  simp
 ·refine ⟨h.al, by simp; omega, h.to, by simpa using hsl, fun m h1 h2 => ?_⟩
  simp only [List.length_set] at h1
  obtain ⟨q1, q2, q3⟩ := h.ids m h1 h2
  simp only [List.getElem_set]
  by_cases c : i = m
  ·subst c; exact ⟨by simp, fun _ => by simp, fun q => absurd q (by omega)⟩
  ·rw [if_neg c]
   exact ⟨q1, fun q => q2 (by omega), fun q => q3 (by omega)⟩
end Go.Av
end
