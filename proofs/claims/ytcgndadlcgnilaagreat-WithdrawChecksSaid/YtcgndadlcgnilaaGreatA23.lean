/- the layer over the model, part 23 -/
import Derived.Test.YtcgndadlcgnilaaGreatA22
set_option autoImplicit false
set_option linter.unusedSimpArgs false
set_option linter.unusedVariables false
set_option linter.unnecessarySimpa false
section
set_option linter.unusedSimpArgs false
set_option linter.unusedVariables false
namespace Go.Av
open Go.RowKit
section
variable {P : Program} {B : Nat} {w0 : World} {rd : Option Nat} {a : List AV} {H : AHeap} {μ μ' : Nat → Nat × Nat} {Z Z' : Nat → Nat → Prop} {w w' : World} {n n' : Nat} {E0 : Nat} {ca : Act}

/-- Less may be said of what a variable holds. -/
theorem AWP.wkCells {c : Code} {Q : Exit → List AV → AHeap → Prop} {id : Nat} {cs cs' : List AV} (hid : H[id]? = some (.cells cs)) (hw : Wk cs' cs) (h : AWP P B w0 rd c Q a (H.set id (.cells cs'))) : AWP P B w0 rd c Q a H := by
 intro E0 μ Z w ca hR hA h3
 have hidl := (List.getElem?_eq_some_iff.1 hid).1
 have hor : OR B μ Z w H.length id (.cells cs') := by
  obtain ⟨g1, g2, ccs, e, fr, g3, g4, g5, g6⟩ := hR.obj id _ hid
  obtain ⟨k1, k2⟩ := hw.spec
  refine ⟨g1, g2, ccs, e, fr, g3, g4, by omega, fun j v hj => ?_⟩
  obtain ⟨v', q1, q2⟩ := k2 j v hj
  obtain ⟨u, p1, p2, p3⟩ := g6 j v' q1
  exact ⟨u, p1, p2, p3.weak q2⟩
 have back : ∀ (i : Nat) (o : AObj), (H.set id (.cells cs'))[i]? = some o → o.alive = true → ∃ o' : AObj, H[i]? = some o' ∧ o'.alive = true := by
  intro i o hi ha
  by_cases hii : id = i
  ·subst hii; exact ⟨_, hid, rfl⟩
  ·rw [getElem?_set_ne hii] at hi; exact ⟨o, hi, ha⟩
 have hR' : R B w0 μ Z (H.set id (.cells cs')) w := by
  refine ⟨hR.below, hR.hB, hR.zlt, fun i o hi => ?_, fun i j oi oj hi hj hai haj he => ?_⟩
  ·rw [List.length_set]
   by_cases hii : id = i
   ·subst hii
    rw [List.getElem?_set_self hidl] at hi
    cases hi; exact hor
   ·rw [getElem?_set_ne hii] at hi; exact hR.obj i o hi
  ·obtain ⟨o1, p1, p2⟩ := back i oi hi hai
   obtain ⟨o2, q1, q2⟩ := back j oj hj haj
   exact hR.inj i j o1 o2 p1 q1 p2 q2 he
 have hE : Ev μ Z H w μ Z (H.set id (.cells cs')) w := by
  refine ⟨by simp, fun _ _ => rfl, fun _ _ h => h, fun _ _ _ => rfl, fun _ _ => rfl, Nat.le_refl _, fun _ _ _ => rfl, fun i o hi ha => ?_, fun _ _ h => .inl h⟩
  obtain ⟨o1, p1, p2⟩ := back i o hi ha
  exact .inr ⟨i, o1, p1, p2, rfl⟩
 have := h E0 μ Z w ca hR' (hA.evolve hR hE) (fun l hl => by rw [List.length_set]; exact h3 l hl)
 refine wpIn_mono this ?_
 rintro e' ca2 w2 ⟨μ2, Z2, a2, H2, p1, p2, p3, p4⟩
 exact ⟨μ2, Z2, a2, H2, p1, p2, hE.trans p3, p4⟩
end
end Go.Av
end
