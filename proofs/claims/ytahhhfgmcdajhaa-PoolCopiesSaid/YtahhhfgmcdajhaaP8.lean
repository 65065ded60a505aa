/- the plain law, part 8 -/
import Derived.Test.YtahhhfgmcdajhaaP7
set_option autoImplicit false
set_option linter.unusedSimpArgs false
set_option linter.unusedVariables false
set_option linter.unnecessarySimpa false
section
set_option linter.unusedSimpArgs false
set_option linter.unusedVariables false
set_option maxHeartbeats 2000000
namespace Go.Av
theorem l23_go {n : Nat} {m : S9} (hm : m.c4.length ≤ 100000) (a1 a2 a3 : Int) (a4 : List Int) (a5 v3 : Int) : ∀ (f i : Nat) (b : Bool), i ≤ m.c4.length → m.c4.length - i < f →
  l23_0 n m a1 a2 a3 a4 a5 v3 f b (i : Int) = l23_0 n m a1 a2 a3 a4 a5 v3 1 (b || (m.c4.drop i).any fun t => decide (t.c0 = a1 ∧ t.c1 = a3 ∧ t.c2 = a2)) (m.c4.length : Int) := by
 intro f
 induction f with
 | zero => intro i b _ hf; omega
 | succ f ih =>
  intro i b hi hf
  by_cases hc : i < m.c4.length
  ·rw [l23_0, if_pos (by omega), if_pos (by omega), if_pos (by rw [Int.toNat_natCast]; exact hc), Int.toNat_natCast, rdn_get hc, wrap1 (by omega), List.drop_eq_getElem_cons hc, List.any_cons]
   cases b with
   | true => rw [if_pos rfl, ih (i + 1) true (by omega) (by omega)]; rfl
   | false =>
    rw [if_neg (by decide)]
    by_cases q1 : m.c4[i].c0 = a1
    ·rw [if_pos q1]
     by_cases q2 : m.c4[i].c1 = a3
     ·rw [if_pos q2, ih (i + 1) _ (by omega) (by omega)]
      simp [q1, q2]
     ·rw [if_neg q2, ih (i + 1) _ (by omega) (by omega)]
      simp [q1, q2]
    ·rw [if_neg q1, ih (i + 1) _ (by omega) (by omega)]
     simp [q1]
  ·have : i = m.c4.length := by omega
   subst this
   rw [List.drop_eq_nil_of_le (Nat.le_refl _), List.any_nil, Bool.or_false]
   have hnn : ¬ ((m.c4.length : Int) < (m.c4.length : Int)) := by omega
   conv => lhs; rw [l23_0, if_neg hnn]
   conv => rhs; rw [l23_0, if_neg hnn]
theorem rdn_set {α : Type} [Inhabited α] {l : List α} {i : Nat} {x : α} (h : i < l.length) : rdn (l.set i x) i = x := by rw [rdn_get (by rw [List.length_set]; exact h)]; simp
theorem l23_fin {n : Nat} {m : S9} (a1 a2 a3 : Int) (a4 : List Int) (a5 : Int) {k : Nat} (hk : k < m.c3.length) :
  l23_0 n m a1 a2 a3 a4 a5 (k : Int) 1 true (m.c4.length : Int) = if 65536 < (a4.length : Int) then some (false, 4, m) else if (rdn m.c3 k).c3 = true then some (false, 0, ⟨m.c0, m.c1, a5, m.c3, m.c4⟩) else some (true, 0, ⟨m.c0, m.c1, a5, m.c3.set k ⟨(rdn m.c3 k).c0, (rdn m.c3 k).c1, (rdn m.c3 k).c2, true, a2, a3, a4⟩, m.c4⟩) := by
 rw [l23_0, if_neg (by omega), if_pos rfl]
 have h1 : ((0 : Int) ≤ (k : Int) ∧ (k : Int) < (m.c3.length : Int)) = True := eq_true (by omega)
 simp only [Int.toNat_natCast, rdn_set hk, List.set_set, List.length_set, h1, hk, if_true, reduceIte]
theorem l23_no {n : Nat} {m : S9} (a1 a2 a3 : Int) (a4 : List Int) (a5 v3 : Int) : l23_0 n m a1 a2 a3 a4 a5 v3 1 false (m.c4.length : Int) = some (false, 21, m) := by
 rw [l23_0, if_neg (by omega), if_neg (by decide)]
theorem g23_ok {n : Nat} (hn : 100000 < n) {s : PSt} {m : S9} (h : Rel s m) (hs : s.jobs.Pairwise (fun a b => a.id < b.id)) (hl : s.jobs.length ≤ 100000) (hm : m.c4.length ≤ 100000) (id w k : Int) (body : List Int) (t : Int) :
  ∃ m', g23 n m id w k body t = some ((pAnswer s id w k body t).1, (pAnswer s id w k body t).2.1, m') ∧ Rel (pAnswer s id w k body t).2.2 m' ∧ m'.c4.length = m.c4.length := by
 have hlen : m.c3.length = s.jobs.length := by rw [h.jobs, List.length_map]
 unfold g23 pAnswer
 rw [g55_ok h, Option.bind_some]
 by_cases hc : pCheck s w t = 0
 ·have hne : ¬ (pCheck s w t ≠ 0) := fun q => q hc
  rw [if_pos hc, if_neg hne, g52_ok hn h hl, Option.bind_some]
  cases hf : pFind s id with
  | none =>
   rw [ixI_none (find_none hf), if_pos (by decide)]
   exact ⟨m, rfl, h, rfl⟩
  | some j =>
   obtain ⟨i, hi, rfl, rfl⟩ := find_some hf
   have e0 := l23_go (n := n) hm s.jobs[i].id w k body t (i : Int) n 0 false (by omega) (by omega)
   rw [show ((0 : Nat) : Int) = 0 from rfl] at e0
   rw [ixI_get hs hi, if_neg (by omega), e0, List.drop_zero, Bool.false_or]
   have hkn : (m.c4.any fun t => decide (t.c0 = s.jobs[i].id ∧ t.c1 = k ∧ t.c2 = w)) = !decide (k < 0 ∨ (s.jobs[i].tries.length : Int) ≤ k ∨ (rdn s.jobs[i].tries k.toNat).worker ≠ w) := by
    rw [Bool.eq_iff_iff, List.any_eq_true, Bool.not_eq_true', decide_eq_false_iff_not]
    constructor
    ·rintro ⟨u, hu, q⟩
     obtain ⟨q1, q2, q3⟩ := of_decide_eq_true q
     have h3 : u ∈ tryS s.jobs[i].id s.jobs[i].tries := by rw [← h.tries _ (List.getElem_mem hi)]; exact List.mem_filter.2 ⟨hu, by simp [q1]⟩
     obtain ⟨d, hd, rfl⟩ := List.mem_iff_getElem.1 h3
     simp only [tryS, List.length_mapIdx] at hd
     simp only [tryS, List.getElem_mapIdx] at q2 q3
     rw [← q2, Int.toNat_natCast, rdn_get hd]
     intro q
     rcases q with q | q | q
     ·omega
     ·omega
     ·exact q q3
    ·intro q
     have k0 : ¬ k < 0 := fun w => q (.inl w)
     have k1 : ¬ (s.jobs[i].tries.length : Int) ≤ k := fun w => q (.inr (.inl w))
     have kd : k.toNat < s.jobs[i].tries.length := by omega
     have k2 : (rdn s.jobs[i].tries k.toNat).worker = w := Classical.byContradiction fun w => q (.inr (.inr w))
     rw [rdn_get kd] at k2
     have h3 : (⟨s.jobs[i].id, (k.toNat : Int), s.jobs[i].tries[k.toNat].worker, s.jobs[i].tries[k.toNat].tick, s.jobs[i].tries[k.toNat].over⟩ : S7) ∈ tryS s.jobs[i].id s.jobs[i].tries := List.mem_iff_getElem.2 ⟨k.toNat, by simpa [tryS] using kd, by simp [tryS]⟩
     rw [← h.tries _ (List.getElem_mem hi)] at h3
     exact ⟨_, (List.mem_filter.1 h3).1, decide_eq_true ⟨rfl, by simp; omega, k2⟩⟩
   simp only
   rw [hkn]
   by_cases hq : k < 0 ∨ (s.jobs[i].tries.length : Int) ≤ k ∨ (rdn s.jobs[i].tries k.toNat).worker ≠ w
   ·rw [decide_eq_true hq, if_pos hq]
    exact ⟨m, l23_no _ _ _ _ _ _, h, rfl⟩
   ·rw [decide_eq_false hq, if_neg hq, Bool.not_false, l23_fin _ _ _ _ _ (by omega)]
    by_cases hb : 65536 < body.length
    ·rw [if_pos (by omega), if_pos hb]; exact ⟨m, rfl, h, rfl⟩
    ·rw [if_neg (by omega), if_neg hb]
     have er : rdn m.c3 i = toJ s.jobs[i] := by rw [rdn_get (by omega)]; simp [h.jobs]
     rw [er]
     have ec : (toJ s.jobs[i]).c3 = s.jobs[i].ans.isSome := rfl
     by_cases ha : s.jobs[i].ans.isSome = true
     ·rw [if_pos (by rw [ec]; exact ha), if_pos ha]
      exact ⟨_, rfl, ⟨h.al, h.to, rfl, h.jobs, h.tries, h.known⟩, rfl⟩
     ·rw [if_neg (by rw [ec]; exact ha), if_neg ha]
      have eu := pUpd_set (s := { s with tick := t }) hs hi (fun j => { j with ans := some ⟨w, k, body⟩ })
      simp only at eu
      simp only [eu]
      refine ⟨_, rfl, ⟨h.al, h.to, rfl, ?_, fun j hj => ?_, fun u hu => ?_⟩, rfl⟩
      ·rw [h.jobs, List.map_set]; rfl
      ·obtain ⟨q, hq, rfl⟩ := List.mem_iff_getElem.1 hj
       simp only [List.length_set] at hq
       simp only [List.getElem_set]
       by_cases e : i = q
       ·subst e; simp only [if_true, reduceIte]; exact h.tries _ (List.getElem_mem hi)
       ·simp only [if_neg e]; exact h.tries _ (List.getElem_mem hq)
      ·obtain ⟨j, hj, e⟩ := h.known u hu
       obtain ⟨q, hq, rfl⟩ := List.mem_iff_getElem.1 hj
       refine ⟨_, List.getElem_mem (n := q) (by simpa using hq), ?_⟩
       rw [List.getElem_set]
       by_cases e2 : i = q
       ·subst e2; rw [if_pos rfl]; exact e
       ·rw [if_neg e2]; exact e
 ·rw [if_neg hc, if_pos (show pCheck s w t ≠ 0 from hc)]
  exact ⟨m, rfl, h, rfl⟩
end Go.Av
end
