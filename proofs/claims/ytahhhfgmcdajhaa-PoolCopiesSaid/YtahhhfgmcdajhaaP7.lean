/- the plain law, part 7 -/
import Derived.Test.YtahhhfgmcdajhaaP6
set_option autoImplicit false
set_option linter.unusedSimpArgs false
set_option linter.unusedVariables false
set_option linter.unnecessarySimpa false
section
set_option linter.unusedSimpArgs false
set_option linter.unusedVariables false
set_option maxHeartbeats 1000000
namespace Go.Av
def updM (w : Int) (t : S7) : S7 := if t.c2 = w then ⟨t.c0, t.c1, t.c2, t.c3, true⟩ else t
def dieM (w : Int) (l : List S7) (i : Nat) : List S7 := (l.take i).map (updM w) ++ l.drop i
theorem dieM_len {w : Int} {l : List S7} {i : Nat} (h : i ≤ l.length) : (dieM w l i).length = l.length := by simp [dieM]; omega
theorem dieM_at {w : Int} {l : List S7} {i : Nat} (h : i < l.length) : rdn (dieM w l i) i = l[i] := by
 unfold rdn dieM
 rw [List.getD_eq_getElem?_getD, List.getElem?_append_right (by simp; omega)]
 simp [Nat.min_eq_left (Nat.le_of_lt h), h]
theorem dieM_set {w : Int} {l : List S7} {i : Nat} (h : i < l.length) : (dieM w l i).set i (updM w l[i]) = dieM w l (i + 1) := by
 unfold dieM
 rw [List.set_append, if_neg (by simp; omega), List.take_succ_eq_append_getElem h, List.map_append, List.append_assoc]
 congr 1
 rw [List.length_map, List.length_take, Nat.min_eq_left (Nat.le_of_lt h), Nat.sub_self, List.drop_eq_getElem_cons h]
 rfl
theorem dieM_skip {w : Int} {l : List S7} {i : Nat} (h : i < l.length) (hn : ¬ l[i].c2 = w) : dieM w l i = dieM w l (i + 1) := by
 rw [← dieM_set h]
 have : updM w l[i] = l[i] := by unfold updM; rw [if_neg hn]
 rw [this]
 unfold dieM
 rw [List.set_append, if_neg (by simp; omega), List.length_map, List.length_take, Nat.min_eq_left (Nat.le_of_lt h), Nat.sub_self, List.drop_eq_getElem_cons h]
 rfl
theorem l25_ok {n : Nat} {m : S9} (hm : m.c4.length ≤ 100000) (w t : Int) : ∀ (f i : Nat), i ≤ m.c4.length → m.c4.length - i < f →
  l25_0 n m w t f (i : Int) (dieM w m.c4 i) = some (0, ⟨m.c0.set w.toNat false, m.c1, t, m.c3, m.c4.map (updM w)⟩) := by
 intro f
 induction f with
 | zero => intro i _ hf; omega
 | succ f ih =>
  intro i hi hf
  rw [l25_0, dieM_len hi]
  by_cases hc : i < m.c4.length
  ·rw [if_pos (by omega), if_pos (by omega), if_pos (by rw [Int.toNat_natCast]; exact hc), Int.toNat_natCast, dieM_at hc, wrap1 (by omega)]
   by_cases q : m.c4[i].c2 = w
   ·rw [if_pos q]
    have : (⟨m.c4[i].c0, m.c4[i].c1, m.c4[i].c2, m.c4[i].c3, true⟩ : S7) = updM w m.c4[i] := by unfold updM; rw [if_pos q]
    rw [this, dieM_set hc]
    exact ih (i + 1) (by omega) (by omega)
   ·rw [if_neg q, dieM_skip hc q]
    exact ih (i + 1) (by omega) (by omega)
  ·have : i = m.c4.length := by omega
   subst this
   rw [if_neg (by omega)]
   simp [dieM]
theorem tryS_die (w id : Int) (l : List PTry) : (tryS id l).map (updM w) = tryS id (l.map (dieU w)) := by
 refine List.ext_getElem (by simp [tryS]) fun i h1 h2 => ?_
 simp only [tryS, List.getElem_map, List.getElem_mapIdx, updM, dieU]
 by_cases c : (l[i]'(by simpa [tryS] using h1)).worker = w
 ·rw [if_pos c]; simp [c]
 ·rw [if_neg c]; simp [c]
theorem g25_ok {n : Nat} (hn : 100000 < n) {s : PSt} {m : S9} (h : Rel s m) (hm : m.c4.length ≤ 100000) (w t : Int) : ∃ m', g25 n m w t = some ((pDie s w t).1, m') ∧ Rel (pDie s w t).2 m' ∧ m'.c4.length = m.c4.length := by
 unfold g25 pDie
 rw [g55_ok h, Option.bind_some]
 by_cases hc : pCheck s w t = 0
 ·have hne : ¬ (pCheck s w t ≠ 0) := fun q => q hc
  rw [if_pos hc, if_neg hne]
  obtain ⟨k1, k2, k3, k4⟩ := pCheck_ok hc
  rw [if_pos (by rw [h.al]; exact k1), if_pos (by rw [h.al]; omega), h.al]
  by_cases ha : rdn s.alive w.toNat = true
  ·have hnf : ¬ (rdn s.alive w.toNat = false) := by simp [ha]
   rw [if_pos ha, if_neg hnf]
   have e := l25_ok (n := n) hm w t n 0 (by omega) (by omega)
   rw [show dieM w m.c4 0 = m.c4 from by simp [dieM], show ((0 : Nat) : Int) = 0 from rfl] at e
   refine ⟨_, e, ⟨by rw [h.al], h.to, rfl, ?_, fun j hj => ?_, fun u hu => ?_⟩, by simp⟩
   ·rw [h.jobs, List.map_map]
    refine List.map_congr_left fun j _ => ?_
    simp [toJ]
   ·obtain ⟨a, ha2, rfl⟩ := List.mem_map.1 hj
    have hid : ∀ u : S7, (updM w u).c0 = u.c0 := fun u => by unfold updM; split <;> rfl
    rw [List.filter_map]
    have : (fun t : S7 => decide (t.c0 = a.id)) ∘ updM w = fun t => decide (t.c0 = a.id) := by funext u; simp [hid]
    rw [this, h.tries a ha2, tryS_die]
    rfl
   ·obtain ⟨v, hv, rfl⟩ := List.mem_map.1 hu
    obtain ⟨j, hj, e2⟩ := h.known v hv
    refine ⟨_, List.mem_map.2 ⟨j, hj, rfl⟩, ?_⟩
    rw [show (updM w v).c0 = v.c0 from by unfold updM; split <;> rfl, ← e2]
  ·have hnf : rdn s.alive w.toNat = false := by simpa using ha
   rw [if_neg ha, if_pos hnf]
   exact ⟨m, rfl, h, rfl⟩
 ·rw [if_neg hc, if_pos (show pCheck s w t ≠ 0 from hc)]
  exact ⟨m, rfl, h, rfl⟩
end Go.Av
end
