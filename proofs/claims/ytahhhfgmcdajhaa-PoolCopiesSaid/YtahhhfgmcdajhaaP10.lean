/- the plain law, part 10 -/
import Derived.Test.YtahhhfgmcdajhaaP9
set_option autoImplicit false
set_option linter.unusedSimpArgs false
set_option linter.unusedVariables false
set_option linter.unnecessarySimpa false
section
set_option linter.unusedSimpArgs false
set_option linter.unusedVariables false
set_option maxHeartbeats 2000000
namespace Go.Av
/-- all that the steps ask; k operations so far -/
structure GoodP (s : PSt) (m : S9) (k : Nat) : Prop where
 rel : Rel s m
 tm : Tm s
 sorted : s.jobs.Pairwise (fun a b => a.id < b.id)
 jl : s.jobs.length ≤ k
 ml : m.c4.length ≤ k
 tl : ∀ j, j ∈ s.jobs → j.tries.length ≤ k
 bd : ∀ j, j ∈ s.jobs → j.body.length ≤ 65536 ∧ ∀ r, j.ans = some r → r.body.length ≤ 65536
 tk : 0 ≤ s.tick ∧ s.tick ≤ 1099511627776
theorem GoodP.up {s : PSt} {m : S9} {k k' : Nat} (h : GoodP s m k) (hk : k ≤ k') : GoodP s m k' :=
 ⟨h.rel, h.tm, h.sorted, Nat.le_trans h.jl hk, Nat.le_trans h.ml hk, fun j hj => Nat.le_trans (h.tl j hj) hk, h.bd, h.tk⟩
theorem good_add {n k : Nat} (hn : 100000 < n) (hk : k < 100000) {s : PSt} {m : S9} (h : GoodP s m k) (id : Int) (body : List Int) :
  ∃ m', g21 n m id body = some ((pAdd s id body).1, m') ∧ GoodP (pAdd s id body).2 m' (k + 1) := by
 obtain ⟨m', e, hr⟩ := g21_ok hn h.rel h.sorted (by have := h.jl; omega) id body
 refine ⟨m', e, ?_⟩
 have hml : m'.c4.length ≤ k := by
  have hh := h.ml
  have hc : m'.c4 = m.c4 := by
   unfold g21 at e
   by_cases c1 : id < 0
   ·rw [if_pos c1] at e; simp at e; rw [e.2]
   ·rw [if_neg c1] at e
    by_cases c2 : 65536 < (body.length : Int)
    ·rw [if_pos c2] at e; simp at e; rw [e.2]
    ·rw [if_neg c2] at e
     by_cases c3 : 1024 ≤ (m.c3.length : Int)
     ·rw [if_pos c3] at e; simp at e; rw [e.2]
     ·rw [if_neg c3, g52_ok hn h.rel (by have := h.jl; omega), Option.bind_some] at e
      by_cases c4 : 0 ≤ ixI s.jobs id 0
      ·rw [if_pos c4] at e; simp at e; rw [e.2]
      ·rw [if_neg c4] at e
       have hne : ∀ j, j ∈ s.jobs → j.id ≠ id := by
        intro j hj q
        obtain ⟨i, hi, rfl⟩ := List.mem_iff_getElem.1 hj
        rw [← q, ixI_get h.sorted hi] at c4; omega
       have e2 := l21_ok (n := n) h.rel.jobs (by have := h.jl; omega) h.sorted id body hne n 0 (by omega) (by have := h.jl; omega) (fun q _ hq => absurd hq (by omega))
       rw [show ((0 : Nat) : Int) = 0 from rfl, e] at e2
       simp at e2
       rw [e2.2]
  rw [hc]; exact hh
 have base : GoodP s m' (k + 1) → GoodP s m' (k + 1) := fun x => x
 unfold pAdd at hr ⊢
 by_cases c1 : id < 0
 ·rw [if_pos c1] at hr ⊢; exact ⟨hr, h.tm, h.sorted, by have := h.jl; simp only; omega, by omega, fun j hj => by have := h.tl j hj; omega, h.bd, h.tk⟩
 ·rw [if_neg c1] at hr ⊢
  by_cases c2 : 65536 < body.length ∨ 1024 ≤ s.jobs.length
  ·rw [if_pos c2] at hr ⊢; exact ⟨hr, h.tm, h.sorted, by have := h.jl; simp only; omega, by omega, fun j hj => by have := h.tl j hj; omega, h.bd, h.tk⟩
  ·rw [if_neg c2] at hr ⊢
   cases hf : pFind s id with
   | some j => rw [hf] at hr; exact ⟨hr, h.tm, h.sorted, by have := h.jl; simp only; omega, by omega, fun j hj => by have := h.tl j hj; omega, h.bd, h.tk⟩
   | none =>
    rw [hf] at hr
    have hne := find_none hf
    refine ⟨hr, ⟨h.tm.to, fun j hj => ?_⟩, pIns_sorted h.sorted hne, by simp only [pIns_len]; have := h.jl; omega, by omega, fun j hj => ?_, fun j hj => ?_, h.tk⟩
    ·rcases mem_pIns.1 hj with rfl | hj
     ·intro t ht; simp at ht
     ·exact h.tm.tk j hj
    ·rcases mem_pIns.1 hj with rfl | hj
     ·simp
     ·have := h.tl j hj; omega
    ·rcases mem_pIns.1 hj with rfl | hj
     ·exact ⟨by simp only; omega, fun r e => by cases e⟩
     ·exact h.bd j hj
end Go.Av
end
