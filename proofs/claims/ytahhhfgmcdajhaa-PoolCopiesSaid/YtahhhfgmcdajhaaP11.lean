/- the plain law, part 11 -/
import Derived.Test.YtahhhfgmcdajhaaP10
set_option autoImplicit false
set_option linter.unusedSimpArgs false
set_option linter.unusedVariables false
set_option linter.unnecessarySimpa false
section
set_option linter.unusedSimpArgs false
set_option linter.unusedVariables false
set_option maxHeartbeats 2000000
namespace Go.Av
theorem good_rev {n k : Nat} {s : PSt} {m : S9} (h : GoodP s m k) (w : Int) : ∃ m', g27 n m w = some ((pRevive s w).1, m') ∧ GoodP (pRevive s w).2 m' (k + 1) := by
 obtain ⟨m', e, hr⟩ := g27_ok (n := n) h.rel w
 have hj : (pRevive s w).2.jobs = s.jobs ∧ (pRevive s w).2.timeout = s.timeout ∧ (pRevive s w).2.tick = s.tick := by
  unfold pRevive; split
  ·exact ⟨rfl, rfl, rfl⟩
  ·split <;> exact ⟨rfl, rfl, rfl⟩
 have hm : m'.c4 = m.c4 := by
  unfold g27 at e
  split at e
  ·simp at e; rw [e.2]
  ·split at e
   ·simp at e; rw [e.2]
   ·split at e
    ·split at e
     ·split at e
      ·simp at e; rw [e.2]
      ·simp at e; rw [← e.2]
     ·cases e
    ·cases e
 refine ⟨m', e, hr, ⟨by rw [hj.2.1]; exact h.tm.to, by rw [hj.1]; exact h.tm.tk⟩, by rw [hj.1]; exact h.sorted, by rw [hj.1]; have := h.jl; omega, by rw [hm]; have := h.ml; omega, by rw [hj.1]; exact fun j q => by have := h.tl j q; omega, by rw [hj.1]; exact h.bd, by rw [hj.2.2]; exact h.tk⟩
theorem good_die {n k : Nat} (hn : 100000 < n) (hk : k < 100000) {s : PSt} {m : S9} (h : GoodP s m k) (w t : Int) : ∃ m', g25 n m w t = some ((pDie s w t).1, m') ∧ GoodP (pDie s w t).2 m' (k + 1) := by
 obtain ⟨m', e, hr, hl⟩ := g25_ok hn h.rel (by have := h.ml; omega) w t
 refine ⟨m', e, ?_⟩
 have hml := h.ml
 have hjl := h.jl
 unfold pDie at hr ⊢
 by_cases hc : pCheck s w t = 0
 ·have hne : ¬ (pCheck s w t ≠ 0) := fun q => q hc
  obtain ⟨k1, k2, k3, k4⟩ := pCheck_ok hc
  rw [if_neg hne] at hr ⊢
  by_cases ha : rdn s.alive w.toNat = false
  ·rw [if_pos ha] at hr ⊢
   exact ⟨hr, h.tm, h.sorted, by simp only; omega, by omega, fun j q => by have := h.tl j q; omega, h.bd, h.tk⟩
  ·rw [if_neg ha] at hr ⊢
   refine ⟨hr, ⟨h.tm.to, fun j q => ?_⟩, ?_, by simp; omega, by omega, fun j q => ?_, fun j q => ?_, ⟨k2, k3⟩⟩
   ·obtain ⟨a, ha2, rfl⟩ := List.mem_map.1 q
    intro x hx
    obtain ⟨y, hy, rfl⟩ := List.mem_map.1 hx
    exact h.tm.tk a ha2 y hy
   ·simp only [List.pairwise_map]; exact h.sorted
   ·obtain ⟨a, ha2, rfl⟩ := List.mem_map.1 q
    have := h.tl a ha2; simp; omega
   ·obtain ⟨a, ha2, rfl⟩ := List.mem_map.1 q
    exact h.bd a ha2
 ·rw [if_pos (show pCheck s w t ≠ 0 from hc)] at hr ⊢
  exact ⟨hr, h.tm, h.sorted, by simp only; omega, by omega, fun j q => by have := h.tl j q; omega, h.bd, h.tk⟩
end Go.Av
end
