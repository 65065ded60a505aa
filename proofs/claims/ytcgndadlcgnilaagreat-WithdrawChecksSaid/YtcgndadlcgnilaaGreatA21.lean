/- the layer over the model, part 21 -/
import Derived.Test.YtcgndadlcgnilaaGreatA20
set_option autoImplicit false
set_option linter.unusedSimpArgs false
set_option linter.unusedVariables false
set_option linter.unnecessarySimpa false
section
set_option linter.unusedSimpArgs false
set_option linter.unusedVariables false
namespace Go.Av
open Go.RowKit

section
variable {P : Program} {B : Nat} {w0 : World} {rd : Option Nat} {a : List AV} {H : AHeap} {μ μ' : Nat → Nat × Nat} {Z Z' : Nat → Nat → Prop} {w w' : World} {n n' : Nat} {E0 : Nat} {ca : Act}

/-- A variable that nobody writes any more. -/
theorem R.freeze (hR : R B w0 μ Z H w) {id : Nat} {cs : List AV} (hid : H[id]? = some (.cells cs)) (Z' : Nat → Nat → Prop) (hZ : ∀ c o, Z c o → Z' c o) (hZ' : ∀ c o, Z' c o → Z c o ∨ c = (μ id).1) :
  R B w0 μ Z' (H.set id .dead) w ∧ Ev μ Z H w μ Z' (H.set id .dead) w := by
 have hlt := hR.lt hid rfl
 refine ⟨⟨hR.below, hR.hB, fun c o h => ?_, fun i o hi => ?_, fun i j oi oj hi hj hai haj he => ?_⟩, ?_⟩
 ·rcases hZ' c o h with h | rfl
  ·exact hR.zlt c o h
  ·exact hlt
 ·rw [List.length_set]
  by_cases hii : id = i
  ·subst hii
   rw [List.getElem?_set_self (List.getElem?_eq_some_iff.1 hid).1] at hi
   cases hi; trivial
  ·rw [getElem?_set_ne hii] at hi
   have keep : o.alive = true → OR B μ Z' w H.length i o := by
    intro ha
    refine OR.keep (hR.obj i o hi) (List.getElem?_eq_some_iff.1 hi).1 (Nat.le_refl _) (fun _ _ => rfl) hZ (fun _ _ _ => rfl) (fun _ _ => rfl) (Nat.le_refl _) (fun _ => rfl) ?_
    intro off hz
    rcases hZ' _ _ hz with hz | hz
    ·exact hz
    ·exact absurd (hR.inj id i _ _ hid hi rfl ha hz.symm) hii
   cases o with
   | dead => trivial
   | _ => exact keep rfl
 ·have hi' : H[i]? = some oi := by
   by_cases hii : id = i
   ·subst hii
    rw [List.getElem?_set_self (List.getElem?_eq_some_iff.1 hid).1] at hi
    cases hi; cases hai
   ·rwa [getElem?_set_ne hii] at hi
  have hj' : H[j]? = some oj := by
   by_cases hjj : id = j
   ·subst hjj
    rw [List.getElem?_set_self (List.getElem?_eq_some_iff.1 hid).1] at hj
    cases hj; cases haj
   ·rwa [getElem?_set_ne hjj] at hj
  exact hR.inj i j oi oj hi' hj' hai haj he
 ·refine ⟨by simp, fun _ _ => rfl, hZ, fun _ _ _ => rfl, fun _ _ => rfl, Nat.le_refl _, fun _ _ _ => rfl, fun i o hi ha => ?_, fun c o h => (hZ' c o h).imp (fun h => h) (fun e => .inr ⟨id, _, hid, rfl, e.symm⟩)⟩
  by_cases hii : id = i
  ·subst hii
   rw [List.getElem?_set_self (List.getElem?_eq_some_iff.1 hid).1] at hi
   cases hi; cases ha
  ·rw [getElem?_set_ne hii] at hi
   exact .inr ⟨i, o, hi, ha, rfl⟩

/-- What a slice holds is taken into the value. -/
theorem AWP.freeze {c : Code} {Q : Exit → List AV → AHeap → Prop} {t id sz off len : Nat} {cs elems : List AV} (ht : a[t]? = some (.sl sz id off len)) (hid : H[id]? = some (.cells cs)) (hs : ∀ e, e ∈ elems → e.cells.length = sz) (hlen : elems.length = len)
  (hf : flat elems = (cs.drop off).take (len * sz)) (h : AWP P B w0 rd c Q (a.set t (.dl sz elems .none)) (H.set id .dead)) : AWP P B w0 rd c Q a H := by
 intro E0 μ Z w ca hR hA h3
 obtain ⟨g1, g2, ccs, e, fr, g3, g4, g5, g6⟩ := hR.obj id _ hid
 obtain ⟨r1, r2⟩ := hR.freeze hid (fun c o => Z c o ∨ (c = (μ id).1 ∧ (μ id).2 + off ≤ o ∧ o < (μ id).2 + off + len * sz)) (fun _ _ h => .inl h) (fun c o h => h.imp (fun h => h) (·.1))
 have hA' := hA.evolve hR r2
 have hfe := flat_length hs
 have htake : (flat elems).length = len * sz := by rw [hfe, hlen]
 obtain ⟨cv, hcv1, hcv2⟩ := hA.tmps.2 t _ ht
 have hcsl : len * sz = 0 ∨ off + len * sz ≤ cs.length := by
  rw [hf, List.length_take, List.length_drop] at htake
  omega
 have hcell : ∀ j, w.cell? ⟨(μ id).1, j, none⟩ = ccs[j]? := fun j => cell_of_row w _ _ ccs e fr g3
 have hvr : VR μ (fun c o => Z c o ∨ (c = (μ id).1 ∧ (μ id).2 + off ≤ o ∧ o < (μ id).2 + off + len * sz)) w H.length (.dl sz elems .none) cv := by
  cases hcv2 with
  | sl _ _ _ _ cap q1 q2 q3 e' N q4 q5 =>
   obtain ⟨f, hF⟩ : ∃ f : Nat → Value, ∀ j v, (flat elems)[j]? = some v → w.cell? ⟨(μ id).1, (μ id).2 + off + j, none⟩ = some (f j) ∧ (f j).oneCell' = true ∧ VR μ Z w H.length v (f j) := by
    refine ⟨fun j => (w.cell? ⟨(μ id).1, (μ id).2 + off + j, none⟩).getD default, fun j v hj => ?_⟩
    rw [hf, List.getElem?_take] at hj
    split at hj
    ·rw [List.getElem?_drop] at hj
     obtain ⟨v', p1, p2, p3⟩ := g6 _ _ hj
     have e1 : w.cell? ⟨(μ id).1, (μ id).2 + off + j, none⟩ = some v' := by rw [hcell, ← p1, Nat.add_assoc]
     simp only [e1, Option.getD_some]
     exact ⟨trivial, p2, p3⟩
    ·cases hj
   subst hlen
   refine .dl sz elems .none (μ id).1 ((μ id).2 + off) cap f hs q2 (fun j v hj => (hF j v hj).1) (fun j hj => .inr ⟨rfl, by omega, by omega⟩) (fun j v hj => ?_) (fun j hj => (hF j _ (List.getElem?_eq_getElem hj)).2.1) trivial
   exact ((hF j v hj).2.2).mono (Nat.le_refl _) (fun _ _ => rfl) (fun _ _ h => .inl h) (fun _ _ _ => rfl) (fun _ _ => rfl)
 have hput : AR E0 μ (fun c o => Z c o ∨ (c = (μ id).1 ∧ (μ id).2 + off ≤ o ∧ o < (μ id).2 + off + len * sz)) w (H.set id .dead).length (a.set t (.dl sz elems .none)) ca := by
  refine ⟨⟨by simp [hA.tmps.1], fun j v hj => ?_⟩, hA'.e0, hA'.marks⟩
  rw [List.getElem?_set] at hj
  split at hj
  ·rename_i htj
   subst htj
   split at hj
   ·cases hj
    exact ⟨cv, hcv1, by rw [List.length_set]; exact hvr⟩
   ·cases hj
  ·exact hA'.tmps.2 j v hj
 have := h E0 μ _ w ca r1 hput (fun l hl => by rw [List.length_set]; exact h3 l hl)
 refine wpIn_mono this ?_
 rintro e' ca2 w2 ⟨μ2, Z2, a2, H2, p1, p2, p3, p4⟩
 exact ⟨μ2, Z2, a2, H2, p1, p2, r2.trans p3, p4⟩
end
end Go.Av
end
