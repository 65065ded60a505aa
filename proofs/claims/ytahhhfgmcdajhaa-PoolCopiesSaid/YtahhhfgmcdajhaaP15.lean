/- the plain law, part 15 -/
import Derived.Test.YtahhhfgmcdajhaaP14
set_option autoImplicit false
set_option linter.unusedSimpArgs false
set_option linter.unusedVariables false
set_option linter.unnecessarySimpa false
section
set_option linter.unusedSimpArgs false
set_option linter.unusedVariables false
set_option maxHeartbeats 2000000
namespace Go.Av
theorem ask_at {s : PSt} {w t : Int} {x : (Int × List Int) × Int × Bool × Int × PSt} (e : pAsk s w t = some x) (h : x.2.2.1 = true) : ∃ i, ∃ hi : i < x.2.2.2.2.jobs.length, x.2.2.2.2.jobs[i].id = x.1.1 ∧ x.2.2.2.2.jobs[i].body = x.1.2 := by
 unfold pAsk at e
 split at e
 ·obtain rfl := Option.some.inj e; cases h
 ·split at e
  ·obtain rfl := Option.some.inj e; cases h
  ·split at e
   ·obtain rfl := Option.some.inj e; cases h
   ·split at e
    ·obtain rfl := Option.some.inj e; cases h
    ·rename_i j hf
     split at e
     ·obtain rfl := Option.some.inj e
      obtain ⟨i, hi, rfl⟩ := List.mem_iff_getElem.1 (List.mem_of_find?_eq_some hf)
      exact ⟨i, by simp [pUpd]; exact hi, by simp [pUpd], by simp [pUpd]⟩
     ·cases e
/-- a step of a script: the pool and its model answer the same, and keep the bundle -/
theorem step_ok {n k : Nat} (hn : 100000 < n) (hk : k < 99999) {s : PSt} {m : S9} (h : GoodP s m k) (o : S10) : ∃ s' m', g19 n s m o = some (true, s', m') ∧ GoodP s' m' (k + 1) := by
 unfold g19
 have hans : ∀ id w q : Int, ∃ s' m', ((g15 n s (⟨id, w, q, o.c3⟩ : S2) (IntKind.i64.wrap (m.c2 + o.c4))).bind fun v39 => (g23 n m id w q o.c3 (IntKind.i64.wrap (m.c2 + o.c4))).bind fun v41 => if (v39.1 == v41.1) = true then (some ((decide (v39.2.1 = v41.2.1)), v39.2.2, v41.2.2)) else (some (false, v39.2.2, v41.2.2))) = some (true, s', m') ∧ GoodP s' m' (k + 1) := by
  intro id w q
  obtain ⟨m', e, hg⟩ := good_ans hn (by omega) h id w q o.c3 (IntKind.i64.wrap (m.c2 + o.c4))
  refine ⟨_, m', ?_, hg⟩
  unfold g15
  rw [Option.bind_some, e, Option.bind_some, if_pos (by simp)]
  simp
 by_cases c0 : o.c0 = 0
 ·rw [if_pos c0]
  obtain ⟨m', e, hg⟩ := good_add hn (by omega) h o.c2 o.c3
  refine ⟨_, m', ?_, hg⟩
  unfold g12
  rw [Option.bind_some, e, Option.bind_some]
  simp
 ·rw [if_neg c0]
  by_cases c1 : o.c0 = 1
  ·rw [if_pos c1]
   obtain ⟨x, m', e1, e2, hg⟩ := good_ask hn (by omega) h o.c1 (IntKind.i64.wrap (m.c2 + o.c4))
   refine ⟨x.2.2.2.2, m', ?_, hg⟩
   unfold g14
   rw [e1, Option.map_some, Option.bind_some, e2, Option.bind_some, if_pos rfl, if_pos (by simp), if_pos rfl, if_pos rfl]
   simp only
   rw [g52_ok hn hg.rel (by have := hg.jl; omega), Option.bind_some]
   by_cases hx : x.2.2.1 = true
   ·rw [if_pos hx]
    obtain ⟨i, hi, h1, h2⟩ := ask_at e1 hx
    have hm : m'.c3.length = x.2.2.2.2.jobs.length := by rw [hg.rel.jobs, List.length_map]
    rw [← h1, ixI_get hg.sorted hi, if_pos (by omega), if_pos (by omega), Int.toNat_natCast, if_pos (by omega), rdn_get (by omega)]
    have e3 : m'.c3[i]'(by omega) = toJ x.2.2.2.2.jobs[i] := by simp [hg.rel.jobs]
    rw [e3]
    have e4 : (toJ x.2.2.2.2.jobs[i]).c1 = x.1.2 := h2
    rw [e4, g34_ok hn (by rw [← h2]; have := (hg.bd _ (List.getElem_mem hi)).1; omega), Option.bind_some]
   ·rw [if_neg hx]
  ·rw [if_neg c1]
   by_cases c2 : o.c0 = 2
   ·rw [if_pos c2]
    by_cases d1 : 0 < (m.c4.length : Int)
    ·rw [if_pos d1]
     by_cases d2 : 0 < Int.tmod o.c2 5
     ·have hp : 0 ≤ o.c2 := by
       rcases Int.le_total 0 o.c2 with h | h
       ·exact h
       ·have e : Int.tmod o.c2 5 = -(Int.tmod (-o.c2) 5) := by rw [Int.neg_tmod, Int.neg_neg]
        have := Int.tmod_nonneg (a := -o.c2) 5 (by omega); omega
      have h1 : 0 ≤ Int.tmod o.c2 (m.c4.length : Int) := Int.tmod_nonneg _ hp
      have h2 := Int.tmod_lt_of_pos o.c2 d1
      rw [if_pos d2, if_pos (by omega), if_pos ⟨h1, h2⟩, if_pos (by omega)]
      exact hans _ _ _
     ·rw [if_neg d2]; exact hans _ _ _
    ·rw [if_neg d1]; exact hans _ _ _
   ·rw [if_neg c2]
    by_cases c3 : o.c0 = 3
    ·rw [if_pos c3]
     obtain ⟨m', e, hg⟩ := good_die hn (by omega) h o.c1 (IntKind.i64.wrap (m.c2 + o.c4))
     refine ⟨_, m', ?_, hg⟩
     unfold g24
     rw [Option.bind_some, e, Option.bind_some]
     simp
    ·rw [if_neg c3]
     obtain ⟨m', e, hg⟩ := good_rev (n := n) h o.c1
     refine ⟨_, m', ?_, hg⟩
     unfold g26
     rw [Option.bind_some, e, Option.bind_some]
     simp
theorem agr_ok {n k : Nat} (hn : 100000 < n) (hk : k ≤ 100000) {s : PSt} {m : S9} (h : GoodP s m k) : g20 n s m = some true :=
 g20_ok hn h.rel (by have := h.jl; omega) (fun j hj r e => (h.bd j hj).2 r e)
end Go.Av
end
