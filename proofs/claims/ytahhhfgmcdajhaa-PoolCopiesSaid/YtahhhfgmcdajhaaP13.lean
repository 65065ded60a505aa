/- the plain law, part 13 -/
import Derived.Test.YtahhhfgmcdajhaaP12
set_option autoImplicit false
set_option linter.unusedSimpArgs false
set_option linter.unusedVariables false
set_option linter.unnecessarySimpa false
section
set_option linter.unusedSimpArgs false
set_option linter.unusedVariables false
set_option maxHeartbeats 2000000
namespace Go.Av
theorem good_ask {n k : Nat} (hn : 100000 < n) (hk : k < 100000) {s : PSt} {m : S9} (h : GoodP s m k) (w t : Int) :
  ∃ x m', pAsk s w t = some x ∧ g22 n m w t = some (x.1.1, x.2.1, x.2.2.1, x.2.2.2.1, m') ∧ GoodP x.2.2.2.2 m' (k + 1) := by
 have hml := h.ml
 have hjl := h.jl
 obtain ⟨x, m', e, e2, hr, hl⟩ := g22_ok hn h.rel h.tm h.sorted (by omega) (by omega) (fun j q => by have := h.tl j q; omega) w t
 refine ⟨x, m', e, e2, ?_⟩
 have same : x.2.2.2.2 = s → GoodP x.2.2.2.2 m' (k + 1) := fun q => by
  rw [q] at hr ⊢
  exact ⟨hr, h.tm, h.sorted, by omega, by omega, fun j q => by have := h.tl j q; omega, h.bd, h.tk⟩
 by_cases hc : pCheck s w t = 0
 ·obtain ⟨k1, k2, k3, k4⟩ := pCheck_ok hc
  by_cases ha : rdn s.alive w.toNat = true
  ·by_cases hb : s.jobs.any (pRun s t (fun x => decide (x.worker = w))) = true
   ·rw [pAsk_busy hc ha hb] at e; obtain rfl := Option.some.inj e; exact same rfl
   ·rw [pAsk_rest hc ha (by simpa using hb)] at e
    cases hf : s.jobs.find? (cand s t) with
    | none =>
     rw [hf] at e; obtain rfl := Option.some.inj e
     exact ⟨hr, ⟨h.tm.to, h.tm.tk⟩, h.sorted, by simp only; omega, by omega, fun j q => by have := h.tl j q; omega, h.bd, ⟨k2, k3⟩⟩
    | some j =>
     rw [hf] at e
     obtain ⟨i, hi, rfl⟩ := List.mem_iff_getElem.1 (List.mem_of_find?_eq_some hf)
     simp only at e
     split at e
     ·obtain rfl := Option.some.inj e
      have eu := pUpd_set (s := { s with tick := t }) h.sorted hi (fun j => { j with tries := j.tries ++ [⟨w, t, false⟩] })
      simp only at eu
      simp only [eu] at hr ⊢
      refine ⟨hr, ⟨h.tm.to, fun j hj => ?_⟩, set_sorted h.sorted hi rfl, by simp; omega, by omega, fun j hj => ?_, fun j hj => ?_, ⟨k2, k3⟩⟩
      ·rcases List.mem_or_eq_of_mem_set hj with hj | rfl
       ·exact h.tm.tk j hj
       ·intro x hx
        rcases List.mem_append.1 hx with hx | hx
        ·exact h.tm.tk s.jobs[i] (List.getElem_mem hi) x hx
        ·simp at hx; subst hx; exact ⟨k2, k3⟩
      ·rcases List.mem_or_eq_of_mem_set hj with hj | rfl
       ·have := h.tl j hj; omega
       ·have := h.tl s.jobs[i] (List.getElem_mem hi); simp; omega
      ·rcases List.mem_or_eq_of_mem_set hj with hj | rfl
       ·exact h.bd j hj
       ·exact h.bd s.jobs[i] (List.getElem_mem hi)
     ·cases e
  ·rw [pAsk_down hc (by simpa using ha)] at e; obtain rfl := Option.some.inj e; exact same rfl
 ·rw [pAsk_err hc] at e; obtain rfl := Option.some.inj e; exact same rfl
end Go.Av
end
