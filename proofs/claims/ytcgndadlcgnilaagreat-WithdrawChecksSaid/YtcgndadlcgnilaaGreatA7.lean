/- the layer over the model, part 7 -/
import Derived.Test.YtcgndadlcgnilaaGreatA6
set_option autoImplicit false
set_option linter.unusedSimpArgs false
set_option linter.unusedVariables false
set_option linter.unnecessarySimpa false
section
set_option linter.unusedSimpArgs false
set_option linter.unusedVariables false
namespace Go.Av
open Go.RowKit

theorem run_getObjMap {P : Program} {w : World} {r : Nat} {es : Array MapEntry} {c : Nat} (h : w.heap[r]? = some (.map es c)) : (getObj r).run P w = .ok (.map es c) w := by
 simp only [getObj, Sem.run, h]
theorem run_getObjLoop {P : Program} {w : World} {r : Nat} {l : Loop} (h : w.heap[r]? = some (.loop l)) : (getObj r).run P w = .ok (.loop l) w := by
 simp only [getObj, Sem.run, h]
theorem run_setObjMap {P : Program} {w : World} {r : Nat} {es : Array MapEntry} {c : Nat} {o : Obj} (h : w.heap[r]? = some (.map es c)) : (setObj r o).run P w = .ok () { w with heap := w.heap.setIfInBounds r o } := by
 simp only [setObj, Sem.run, h]
theorem run_setObjLoop {P : Program} {w : World} {r : Nat} {l : Loop} {o : Obj} (h : w.heap[r]? = some (.loop l)) : (setObj r o).run P w = .ok () { w with heap := w.heap.setIfInBounds r o } := by
 simp only [setObj, Sem.run, h]

section
variable {P : Program} {B : Nat} {w0 : World} {a : List AV} {H : AHeap} {μ : Nat → Nat × Nat} {Z : Nat → Nat → Prop} {w : World} {n : Nat}
variable {x y i v : AV} {cx cy ci : Value} {t : TypeId}

theorem plus_vr {k : Nat} (h : plus x k = some v) (hx : VR μ Z w n x cx) : ∃ c o, cx = .pointer (some ⟨c, o, none⟩) ∧ VR μ Z w n v (.pointer (some ⟨c, o + k, none⟩)) := by
 unfold plus at h
 split at h
 ·cases h; cases hx
  rename_i id o hid
  exact ⟨_, _, rfl, by rw [Nat.add_assoc]; exact .ptr id (o + k) hid⟩
 ·rename_i cs off
  cases h
  cases hx with
  | dp _ _ c o f h1 h2 h3 h5 => exact ⟨_, _, rfl, by rw [Nat.add_assoc]; exact .dp cs (off + k) c o f h1 h2 h3 h5⟩
 ·cases h

theorem fieldAddr_run {s : TypeId} {f : Nat} (h : fieldAddrA P s x f = some v) (hx : VR μ Z w n x cx) : ∃ cv, (Instr.fieldAt s cx f).run P w = .ok cv w ∧ VR μ Z w n v cv := by
 unfold fieldAddrA at h
 split at h
 ·rename_i ti hi
  split at h
  ·rename_i fs hk
   split at h
   ·rename_i off ft hf
    split at h
    ·rename_i j hj
     split at h
     ·cases h
     ·rename_i hz
      obtain ⟨gs, hu, hgs⟩ := kind_struct hi hk
      obtain ⟨c, o, rfl, hv⟩ := plus_vr h hx
      refine ⟨_, ?_, hv⟩
      have hg : ∃ g, gs[f]? = some g ∧ g.offset = off ∧ g.type = ft := by
       rw [← hgs] at hf
       simp only [List.getElem?_map, Array.getElem?_toList, Option.map_eq_some_iff, Prod.mk.injEq] at hf
       exact hf
      obtain ⟨g, hg1, hg2, hg3⟩ := hg
      subst hg2; subst hg3
      simp [Instr.fieldAt, run_und hu, hg1, Instr.sureAddr, fieldPlace, run_sizeOf' hj, hz, addr_add]
    ·cases h
   ·cases h
  ·cases h
 ·cases h

/-- A part of a struct or an array that lies in a slot. -/
theorem part_run {cs : List AV} {vs : Array Value} {off : Nat} (h : loadA P t (cs.drop off) = some v) (hc : VRs μ Z w n cs vs) :
  ∃ cv, (part t vs off).run P w = .ok cv w ∧ VR μ Z w n v cv := by
 unfold loadA at h
 split at h
 ·rename_i ti hi
  split at h
  ·rename_i hagg
   split at h
   ·rename_i hle
    cases h
    simp only [List.length_drop] at hle
    refine ⟨.agg (vs.extract off (off + ti.size)), by simp [part, run_isAgg' hi, hagg, run_sizeOf' hi], ?_⟩
    by_cases hs : ti.size = 0
    ·have e1 : List.take ti.size (List.drop off cs) = [] := by rw [hs]; rfl
     have e2 : vs.extract off (off + ti.size) = #[] := by simp [hs, Nat.min_le_left]
     rw [e1, e2]
     exact .agg [] #[] rfl (fun _ => default) (by simp) (by simp)
    ·have hsz := hc.1
     refine .agg _ _ (by simp; omega) (fun j => vs.getD (off + j) default) ?_ ?_
     ·intro j x hj
      have hlt : j < ti.size := by have := (List.getElem?_eq_some_iff.1 hj).1; simp at this; omega
      have hlt2 : off + j < vs.size := by omega
      simp [Array.getElem?_extract, hlt2, Array.getD]; omega
     ·intro j x hj
      rw [List.getElem?_take] at hj
      split at hj
      ·rw [List.getElem?_drop] at hj
       obtain ⟨u, h1, h2⟩ := hc.2 _ _ hj
       simp only [Array.getD_eq_getD_getElem?, h1]
       exact h2
      ·cases hj
   ·cases h
  ·rename_i hagg
   rw [List.head?_drop] at h
   obtain ⟨u, h1, h2⟩ := hc.2 off v h
   exact ⟨u, by simp [part, run_isAgg' hi, hagg, h1], h2⟩
 ·cases h

theorem VR.agg_inv {cs : List AV} (h : VR μ Z w n (.agg cs) cx) : ∃ vs, cx = .agg vs ∧ VRs μ Z w n cs vs := by
 cases h with
 | agg cs vs hl f h1 h2 => exact ⟨vs, rfl, hl, fun j v hj => ⟨f j, h1 j v hj, h2 j v hj⟩⟩

theorem VRs.skolem {cs : List AV} {vs : Array Value} (h : VRs μ Z w n cs vs) : ∃ f : Nat → Value, (∀ j v, cs[j]? = some v → vs[j]? = some (f j)) ∧ ∀ j v, cs[j]? = some v → VR μ Z w n v (f j) := by
 refine ⟨fun j => vs.getD j default, fun j v hj => ?_, fun j v hj => ?_⟩
 ·obtain ⟨u, h1, h2⟩ := h.2 j v hj
  simp [Array.getD_eq_getD_getElem?, h1]
 ·obtain ⟨u, h1, h2⟩ := h.2 j v hj
  simp only [Array.getD_eq_getD_getElem?, h1]
  exact h2
theorem VRs.agg {cs : List AV} {vs : Array Value} (h : VRs μ Z w n cs vs) : VR μ Z w n (.agg cs) (.agg vs) := by
 obtain ⟨f, h1, h2⟩ := h.skolem
 exact .agg cs vs h.1 f h1 h2
theorem VRs.tup {cs : List AV} {vs : Array Value} (h : VRs μ Z w n cs vs) : VR μ Z w n (.tup cs) (.tuple vs) := by
 obtain ⟨f, h1, h2⟩ := h.skolem
 exact .tup cs vs h.1 f h1 h2

theorem field_run {f : Nat} (h : fieldA P t x f = some v) (hx : VR μ Z w n x cx) : ∃ cv, (Instr.field t cx f).run P w = .ok cv w ∧ VR μ Z w n v cv := by
 unfold fieldA at h
 split at h
 ·rename_i ti hi
  split at h
  ·rename_i fs cs hk
   split at h
   ·rename_i off ft hf
    obtain ⟨gs, hu, hgs⟩ := kind_struct hi hk
    obtain ⟨vs, rfl, hc⟩ := hx.agg_inv
    obtain ⟨cv, h1, h2⟩ := part_run (P := P) h hc
    refine ⟨cv, ?_, h2⟩
    have hg : ∃ g, gs[f]? = some g ∧ g.offset = off ∧ g.type = ft := by
     rw [← hgs] at hf
     simp only [List.getElem?_map, Array.getElem?_toList, Option.map_eq_some_iff, Prod.mk.injEq] at hf
     exact hf
    obtain ⟨g, hg1, hg2, hg3⟩ := hg
    subst hg2; subst hg3
    simp [Instr.field, run_und hu, hg1, asAgg, h1]
   ·cases h
  ·cases h
 ·cases h

theorem indexAddr_run (h : indexAddrA P t x i = some v) (hx : VR μ Z w n x cx) (hi : VR μ Z w n i ci) : ∃ cv, (Instr.indexAt t cx ci).run P w = .ok cv w ∧ VR μ Z w n v cv := by
 unfold indexAddrA at h
 split at h
 ·rename_i ti k m hti
  cases hi
  split at h
  ·rename_i e hk
   have hu := kind_slice hti hk
   split at h
   ·rename_i te hte
    split at h
    ·rename_i sz es tl
     split at h
     ·rename_i hc
      obtain ⟨h0, hlt, hsz⟩ := hc
      cases h
      cases hx with
      | dl0 => simp at hlt; omega
      | dl _ _ _ c o cap f hs hc h1 h2 h3 h5 ht =>
       have hnat : m.toNat < es.length := by omega
       refine ⟨.pointer (some ⟨c, o + m.toNat * sz + 0, none⟩), ?_, ?_⟩
       ·simp [Instr.indexAt, asIntOf, run_und hu, h0, hlt, run_sizeOf' hte, addr_add, hsz]
       ·have hcl : ∀ j, j < (es.getD m.toNat .undef).cells.length → j < sz := by
         intro j hj
         rw [List.getD_eq_getElem?_getD, List.getElem?_eq_getElem hnat] at hj
         rw [← hs _ (List.getElem_mem hnat)]; exact hj
        have hfl := flat_length hs
        have hcl2 : ∀ j, j < sz → m.toNat * sz + j < (flat es).length := by
         intro j hj
         rw [hfl]
         have : (m.toNat + 1) * sz ≤ es.length * sz := Nat.mul_le_mul_right _ hnat
         rw [Nat.add_mul] at this; omega
        refine .dp _ 0 c (o + m.toNat * sz) (fun j => f (m.toNat * sz + j)) ?_ ?_ ?_ ?_
        ·intro j z hj
         have hj' := (List.getElem?_eq_some_iff.1 hj).1
         rw [← flat_get hs hnat (hcl j hj')] at hj
         rw [Nat.add_assoc]; exact h1 _ _ hj
        ·intro j hj
         rw [Nat.add_assoc]; exact h2 _ (hcl2 j (hcl j hj))
        ·intro j z hj
         have hj' := (List.getElem?_eq_some_iff.1 hj).1
         rw [← flat_get hs hnat (hcl j hj')] at hj
         exact h3 _ _ hj
        ·intro j hj
         exact h5 _ (hcl2 j (hcl j hj))
     ·cases h
    ·rename_i sz id off len
     split at h
     ·rename_i hc
      obtain ⟨h0, hlt, hsz⟩ := hc
      cases h
      cases hx
      refine ⟨_, by simp [Instr.indexAt, asIntOf, run_und hu, h0, hlt, run_sizeOf' hte, addr_add, hsz]; rfl, ?_⟩
      rw [Nat.add_assoc, ← hsz]
      exact .ptr id _ (by assumption)
     ·cases h
    ·cases h
   ·cases h
  ·rename_i m' e hk
   have hu := kind_array hti hk
   split at h
   ·rename_i te hte
    split at h
    ·rename_i hc
     obtain ⟨h0, hlt⟩ := hc
     obtain ⟨c, o, rfl, hv⟩ := plus_vr h hx
     exact ⟨_, by simp [Instr.indexAt, asIntOf, run_und hu, Instr.sureAddr, h0, hlt, run_sizeOf' hte, addr_add], hv⟩
    ·cases h
   ·cases h
  ·cases h
 ·cases h

theorem index_run (h : indexA P t x i = some v) (hx : VR μ Z w n x cx) (hi : VR μ Z w n i ci) : ∃ cv, (Instr.index t cx ci).run P w = .ok cv w ∧ VR μ Z w n v cv := by
 unfold indexA at h
 split at h
 ·rename_i ti k m hti
  cases hi
  split at h
  ·rename_i s hk
   have hu := kind_str hti hk
   split at h
   ·rename_i hc
    obtain ⟨h0, hlt⟩ := hc
    cases h; cases hx
    have hnat : m.toNat < s.length := by omega
    refine ⟨_, ?_, .int _ _⟩
    have hb : (⟨s.toArray⟩ : ByteArray)[m.toNat]? = some s[m.toNat] := by
     rw [ByteArray.getElem?_lt' _ _ (by simpa [ByteArray.size] using hnat)]
     rfl
    simp [Instr.index, asIntOf, run_und hu, h0, hb, List.getD, hnat]
   ·cases h
  ·rename_i m' e cs hk
   have hu := kind_array hti hk
   split at h
   ·rename_i te hte
    split at h
    ·rename_i hc
     obtain ⟨h0, hlt⟩ := hc
     obtain ⟨vs, rfl, hcs⟩ := hx.agg_inv
     obtain ⟨cv, h1, h2⟩ := part_run (P := P) h hcs
     exact ⟨cv, by simp [Instr.index, asIntOf, run_und hu, h0, hlt, run_sizeOf' hte, h1], h2⟩
    ·cases h
   ·cases h
  ·cases h
 ·cases h

theorem extract_run {k : Nat} (h : extractA x k = some v) (hx : VR μ Z w n x cx) : ∃ cv, (Instr.extract cx k).run P w = .ok cv w ∧ VR μ Z w n v cv := by
 unfold extractA at h
 split at h
 ·cases hx with
  | tup cs vs hl f h1 h2 => exact ⟨f k, by simp [Instr.extract, h1 k v h], h2 k v h⟩
 ·cases h

theorem len_run (h : lenA P H t x = some v) (hR : R B w0 μ Z H w) (hx : VR μ Z w H.length x cx) : ∃ cv, (Builtin.len_ #[t] 0 #[cx]).run P w = .ok cv w ∧ VR μ Z w H.length v cv := by
 unfold lenA at h
 split at h
 ·rename_i ti hi
  split at h
  ·rename_i s hk
   have hu := kind_str hi hk
   cases h; cases hx
   exact ⟨_, by simp [Builtin.len_, run_und hu, goInt]; rfl, .int _ _⟩
  ·rename_i e sz es tl hk
   have hu := kind_slice hi hk
   cases h
   cases hx with
   | dl0 => exact ⟨_, by simp [Builtin.len_, run_und hu, goInt], .int _ _⟩
   | dl => exact ⟨_, by simp [Builtin.len_, run_und hu, goInt], .int _ _⟩
  ·rename_i e sz id off len hk
   have hu := kind_slice hi hk
   cases h; cases hx
   exact ⟨_, by simp [Builtin.len_, run_und hu, goInt], .int _ _⟩
  ·rename_i k e hk
   have hu := kind_map hi hk
   cases h; cases hx
   exact ⟨_, by simp [Builtin.len_, run_und hu, goInt], .int _ _⟩
  ·rename_i k e id hk
   have hu := kind_map hi hk
   split at h
   ·rename_i es hid
    cases h; cases hx
    obtain ⟨_, mes, clock, h1, h2, _⟩ := hR.obj id _ hid
    exact ⟨_, by simp [Builtin.len_, run_und hu, goInt, run_getObjMap h1, ← h2], .int _ _⟩
   ·cases h
  ·rename_i m e hk
   have hu := kind_array hi hk
   cases h
   exact ⟨_, by cases cx <;> simp [Builtin.len_, run_und hu, goInt] <;> rfl, .int _ _⟩
  ·cases h
 ·cases h

theorem cap_run {t ty : TypeId} (h : capA P t x = some v) (hx : VR μ Z w n x cx) : ∃ cv, (Builtin.cap_ #[t] ty #[cx]).run P w = .ok cv w ∧ VR μ Z w n v cv := by
 unfold capA at h
 split at h
 ·rename_i ti hi
  split at h
  ·rename_i e sz es hk
   have hu := kind_slice hi hk
   cases h
   cases hx with
   | dl0 _ _ a cap q1 q2 =>
    have := q1 rfl; subst this
    exact ⟨_, by simp [Builtin.cap_, run_und hu, goInt], .int _ _⟩
   | dl _ _ _ c o cap f q1 q2 q3 q4 q5 q6 q7 =>
    have : cap = es.length := q7
    subst this
    exact ⟨_, by simp [Builtin.cap_, run_und hu, goInt], .int _ _⟩
  ·cases h
 ·cases h
theorem min_run (h : minA x y = some v) (hx : VR μ Z w n x cx) (hy : VR μ Z w n y cy) : ∃ cv, (Builtin.min2 cx cy).run P w = .ok cv w ∧ VR μ Z w n v cv := by
 unfold minA at h
 split at h
 ·split at h
  ·cases h; cases hx; cases hy; exact ⟨_, rfl, .int _ _⟩
  ·cases h
 ·cases h
theorem max_run (h : maxA x y = some v) (hx : VR μ Z w n x cx) (hy : VR μ Z w n y cy) : ∃ cv, (Builtin.max2 cx cy).run P w = .ok cv w ∧ VR μ Z w n v cv := by
 unfold maxA at h
 split at h
 ·split at h
  ·cases h; cases hx; cases hy; exact ⟨_, rfl, .int _ _⟩
  ·cases h
 ·cases h
end
end Go.Av
end
