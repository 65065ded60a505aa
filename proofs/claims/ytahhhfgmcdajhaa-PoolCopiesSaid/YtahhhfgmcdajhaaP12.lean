/- the plain law, part 12 -/
import Derived.Test.YtahhhfgmcdajhaaP11
set_option autoImplicit false
set_option linter.unusedSimpArgs false
set_option linter.unusedVariables false
set_option linter.unnecessarySimpa false
section
set_option linter.unusedSimpArgs false
set_option linter.unusedVariables false
set_option maxHeartbeats 2000000
namespace Go.Av
theorem set_sorted {js : List PJob} (hs : js.Pairwise (fun a b => a.id < b.id)) {i : Nat} (hi : i < js.length) {j : PJob} (e : j.id = js[i].id) : (js.set i j).Pairwise (fun a b => a.id < b.id) := by
 refine List.pairwise_iff_getElem.2 fun a b ha hb hab => ?_
 simp only [List.length_set] at ha hb
 have h0 := List.pairwise_iff_getElem.1 hs a b ha hb hab
 rw [List.getElem_set, List.getElem_set]
 split <;> split <;> (try subst_vars) <;> (try rw [e]) <;> first | exact h0 | omega
theorem good_ans {n k : Nat} (hn : 100000 < n) (hk : k < 100000) {s : PSt} {m : S9} (h : GoodP s m k) (id w q : Int) (body : List Int) (t : Int) :
  ∃ m', g23 n m id w q body t = some ((pAnswer s id w q body t).1, (pAnswer s id w q body t).2.1, m') ∧ GoodP (pAnswer s id w q body t).2.2 m' (k + 1) := by
 have hml := h.ml
 have hjl := h.jl
 obtain ⟨m', e, hr, hl⟩ := g23_ok hn h.rel h.sorted (by omega) (by omega) id w q body t
 refine ⟨m', e, ?_⟩
 have same : Rel s m' → GoodP s m' (k + 1) := fun hr => ⟨hr, h.tm, h.sorted, by omega, by omega, fun j q => by have := h.tl j q; omega, h.bd, h.tk⟩
 unfold pAnswer at hr ⊢
 by_cases hc : pCheck s w t = 0
 ·have hne : ¬ (pCheck s w t ≠ 0) := fun q => q hc
  obtain ⟨k1, k2, k3, k4⟩ := pCheck_ok hc
  rw [if_neg hne] at hr ⊢
  cases hf : pFind s id with
  | none => rw [hf] at hr; exact same hr
  | some j =>
   rw [hf] at hr
   obtain ⟨i, hi, rfl, rfl⟩ := find_some hf
   simp only at hr ⊢
   by_cases c1 : q < 0 ∨ (s.jobs[i].tries.length : Int) ≤ q ∨ (rdn s.jobs[i].tries q.toNat).worker ≠ w
   ·rw [if_pos c1] at hr ⊢; exact same hr
   ·rw [if_neg c1] at hr ⊢
    by_cases c2 : 65536 < body.length
    ·rw [if_pos c2] at hr ⊢; exact same hr
    ·rw [if_neg c2] at hr ⊢
     by_cases c3 : s.jobs[i].ans.isSome = true
     ·rw [if_pos c3] at hr ⊢
      exact ⟨hr, ⟨h.tm.to, h.tm.tk⟩, h.sorted, by simp only; omega, by omega, fun j q => by have := h.tl j q; omega, h.bd, ⟨k2, k3⟩⟩
     ·rw [if_neg c3] at hr ⊢
      have eu := pUpd_set (s := { s with tick := t }) h.sorted hi (fun j => { j with ans := some ⟨w, q, body⟩ })
      simp only at eu
      simp only [eu] at hr ⊢
      refine ⟨hr, ⟨h.tm.to, fun j hj => ?_⟩, set_sorted h.sorted hi rfl, by simp; omega, by omega, fun j hj => ?_, fun j hj => ?_, ⟨k2, k3⟩⟩
      ·rcases List.mem_or_eq_of_mem_set hj with hj | rfl
       ·exact h.tm.tk j hj
       ·exact fun x hx => h.tm.tk s.jobs[i] (List.getElem_mem hi) x hx
      ·rcases List.mem_or_eq_of_mem_set hj with hj | rfl
       ·have := h.tl j hj; omega
       ·have := h.tl s.jobs[i] (List.getElem_mem hi); simp only; omega
      ·rcases List.mem_or_eq_of_mem_set hj with hj | rfl
       ·exact h.bd j hj
       ·exact ⟨(h.bd s.jobs[i] (List.getElem_mem hi)).1, fun r e => by obtain rfl := Option.some.inj e; simp only; omega⟩
 ·rw [if_pos (show pCheck s w t ≠ 0 from hc)] at hr ⊢
  exact same hr
end Go.Av
end
