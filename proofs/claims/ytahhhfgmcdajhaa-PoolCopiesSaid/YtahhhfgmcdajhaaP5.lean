/- the plain law, part 5 -/
import Derived.Test.YtahhhfgmcdajhaaP4
set_option autoImplicit false
set_option linter.unusedSimpArgs false
set_option linter.unusedVariables false
set_option linter.unnecessarySimpa false
section
set_option linter.unusedSimpArgs false
set_option linter.unusedVariables false
set_option maxHeartbeats 1000000
namespace Go.Av
theorem l43_ok {n : Nat} {l : List Int} (hl : l.length ≤ 100000) (x : Int) : ∀ (f i : Nat), i ≤ l.length → l.length - i < f → l43_0 n l x f (i : Int) = some (decide (x ∈ l.drop i)) := by
 intro f
 induction f with
 | zero => intro i _ hf; omega
 | succ f ih =>
  intro i hi hf
  rw [l43_0]
  by_cases hc : i < l.length
  ·rw [if_pos (by omega), if_pos (by omega), List.drop_eq_getElem_cons hc, wrap1 (by omega)]
   have e : rd l (i : Int) = l[i] := by simp [rd, hc]
   rw [e]
   by_cases q : l[i] = x
   ·rw [if_pos q]; simp [q]
   ·rw [if_neg q, ih (i + 1) (by omega) (by omega)]
    have : x ≠ l[i] := fun w => q w.symm
    congr 1
    exact decide_eq_decide.2 (by rw [List.mem_cons]; exact ⟨.inr, fun h => h.resolve_left this⟩)
  ·rw [if_neg (by omega), List.drop_eq_nil_of_le (by omega)]; simp
theorem g43_ok {n : Nat} (hn : 100000 < n) {l : List Int} (hl : l.length ≤ 100000) (x : Int) : g43 n l x = some (decide (x ∈ l)) := by
 have := l43_ok (n := n) hl x n 0 (by omega) (by omega)
 simpa [g43] using this
/-- a try more -/
def moreT (w t : Int) (j : PJob) : PJob := { j with tries := j.tries ++ [⟨w, t, false⟩] }
theorem l22_1_ok {n : Nat} (hn : 100000 < n) {m : S9} {js : List PJob} (hj : m.c3 = js.map toJ) (hl : js.length ≤ 100000) (hm : m.c4.length ≤ 100000) (htr : ∀ j, j ∈ js → j.tries.length ≤ 100000) (a1 a2 : Int) (x7 : List Int) (hx : x7.length ≤ 100000) : ∀ (f i : Nat), i ≤ js.length → js.length - i < f →
  l22_1 n m a1 a2 x7 f (i : Int) = match (js.drop i).findIdx? (fun j => j.ans.isNone && !decide (j.id ∈ x7)) with
   | none => some (0, 0, false, 0, ⟨m.c0, m.c1, a2, m.c3, m.c4⟩)
   | some d => some ((rdn js (i + d)).id, ((rdn js (i + d)).tries.length : Int), true, 0, ⟨m.c0, m.c1, a2, (js.set (i + d) (moreT a1 a2 (rdn js (i + d)))).map toJ, m.c4 ++ [⟨(rdn js (i + d)).id, ((rdn js (i + d)).tries.length : Int), a1, a2, false⟩]⟩) := by
 intro f
 induction f with
 | zero => intro i _ hf; omega
 | succ f ih =>
  intro i hi hf
  have hlen : m.c3.length = js.length := by rw [hj, List.length_map]
  rw [l22_1]
  by_cases hc : i < js.length
  ·have e : rdn m.c3 (Int.toNat (i : Int)) = toJ js[i] := by rw [Int.toNat_natCast, rdn_get (by omega)]; simp [hj]
   have next : (js[i].ans.isNone && !decide (js[i].id ∈ x7)) = false → l22_1 n m a1 a2 x7 f (IntKind.i64.wrap ((i : Int) + 1)) = match (js.drop i).findIdx? (fun j => j.ans.isNone && !decide (j.id ∈ x7)) with
     | none => some (0, 0, false, 0, ⟨m.c0, m.c1, a2, m.c3, m.c4⟩)
     | some d => some ((rdn js (i + d)).id, ((rdn js (i + d)).tries.length : Int), true, 0, ⟨m.c0, m.c1, a2, (js.set (i + d) (moreT a1 a2 (rdn js (i + d)))).map toJ, m.c4 ++ [⟨(rdn js (i + d)).id, ((rdn js (i + d)).tries.length : Int), a1, a2, false⟩]⟩) := by
    intro hq
    rw [wrap1 (by omega), ih (i + 1) (by omega) (by omega), List.drop_eq_getElem_cons hc, List.findIdx?_cons, hq]
    cases (js.drop (i + 1)).findIdx? (fun j => j.ans.isNone && !decide (j.id ∈ x7)) with
    | none => rfl
    | some d => simp only [Option.map_some, Bool.false_eq_true, if_false, reduceIte]; rw [show i + 1 + d = i + (d + 1) from by omega]
   rw [if_pos (by omega), if_pos (by omega), if_pos (by rw [Int.toNat_natCast]; omega), e]
   have ec : (toJ js[i]).c3 = js[i].ans.isSome := rfl
   by_cases q : (toJ js[i]).c3 = true
   ·rw [if_pos q]
    refine next ?_
    rw [ec] at q
    cases hx : js[i].ans with
    | none => rw [hx] at q; cases q
    | some r => rfl
   ·rw [if_neg q, show (toJ js[i]).c0 = js[i].id from rfl, g43_ok hn hx, Option.bind_some]
    have hnone : js[i].ans.isNone = true := by
     rw [ec] at q
     cases hx : js[i].ans with
     | none => rfl
     | some r => rw [hx] at q; exact absurd rfl q
    by_cases q2 : js[i].id ∈ x7
    ·rw [if_pos (by simp [q2])]
     exact next (by simp [q2])
    ·rw [if_neg (by simp [q2])]
     have hti := htr _ (List.getElem_mem hc)
     have hmo : (⟨(toJ js[i]).c0, (toJ js[i]).c1, IntKind.i64.wrap ((toJ js[i]).c2 + 1), (toJ js[i]).c3, (toJ js[i]).c4, (toJ js[i]).c5, (toJ js[i]).c6⟩ : S5) = toJ (moreT a1 a2 js[i]) := by
      simp only [toJ, moreT]
      rw [wrap1 (by omega)]
      simp
     rw [show js[i].id = (toJ js[i]).c0 from rfl, hmo, Int.toNat_natCast]
     rw [if_pos (by rw [List.length_set]; omega), if_pos (by rw [List.length_set]; omega), if_pos (by omega)]
     rw [List.drop_eq_getElem_cons hc, List.findIdx?_cons]
     have hp : (js[i].ans.isNone && !decide (js[i].id ∈ x7)) = true := by simp [hnone, q2]
     rw [hp]
     simp only [if_true, reduceIte, Nat.add_zero]
     have hr : rdn js i = js[i] := rdn_get hc
     have hr2 : rdn (m.c3.set i (toJ (moreT a1 a2 js[i]))) i = toJ (moreT a1 a2 js[i]) := by rw [rdn_get (by rw [List.length_set]; omega)]; simp
     rw [hr, hr2, List.map_set, ← hj]
     rfl
  ·rw [if_neg (by omega), List.drop_eq_nil_of_le (by omega)]; rfl
end Go.Av
end
