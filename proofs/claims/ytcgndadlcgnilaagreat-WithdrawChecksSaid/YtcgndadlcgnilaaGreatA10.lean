/- the layer over the model, part 10 -/
import Derived.Test.YtcgndadlcgnilaaGreatA9
set_option autoImplicit false
set_option linter.unusedSimpArgs false
set_option linter.unusedVariables false
set_option linter.unnecessarySimpa false
section
set_option linter.unusedSimpArgs false
set_option linter.unusedVariables false
namespace Go.Av
open Go.RowKit

section
variable {P : Program} {B : Nat} {w0 : World} {a : List AV} {H : AHeap} {μ : Nat → Nat × Nat} {Z : Nat → Nat → Prop} {w : World} {n : Nat}
variable {x y i v : AV} {cx cy ci : Value} {t : TypeId}

theorem vrs_map {ca : Act} (he : ∀ x, VR μ Z w n (ev a x) (ca.eval x)) (l : Array Operand) : VRs μ Z w n (l.toList.map (ev a)) (l.map ca.eval) := by
 refine ⟨by simp, fun j v hj => ?_⟩
 simp only [List.getElem?_map, Array.getElem?_toList, Option.map_eq_some_iff] at hj
 obtain ⟨o, h1, rfl⟩ := hj
 exact ⟨_, by simp [h1], he o⟩

theorem vro_map {ca : Act} (he : ∀ x, VR μ Z w n (ev a x) (ca.eval x)) (o : Option Operand) : VRo μ Z w n (o.map (ev a)) (o.map ca.eval) := by
 cases o with
 | none => trivial
 | some o => exact he o

theorem prs_map {ca : Act} (he : ∀ x, VR μ Z w n (ev a x) (ca.eval x)) : ∀ (l : List (Nat × Operand)), PRs μ Z w n (l.map fun p => (p.1, ev a p.2)) (l.map fun p => (p.1, ca.eval p.2))
 | [] => trivial
 | (i, o) :: l => ⟨rfl, he o, prs_map he l⟩

theorem nilCheck_run {o : Oper} {ρ : Operand → Value} {ox : Operand} (ho : o.op = .nilCheck ox) (h : nilCheckA x = some v) (hx : VR μ Z w n x (ρ ox)) : ∃ cv, (execOp ρ o).run P w = .ok (.value cv) w ∧ VR μ Z w n v cv := by
 unfold execOp
 rw [ho]
 simp only
 generalize ρ ox = cx at hx ⊢
 unfold nilCheckA at h
 split at h
 ·cases h; cases hx; exact ⟨_, rfl, .ptr _ _ (by assumption)⟩
 ·cases h
  cases hx with
  | dp _ _ c o f h1 h2 h3 h5 => exact ⟨_, rfl, .dp _ _ c o f h1 h2 h3 h5⟩
 ·cases h
  cases hx with
  | fn k _ _ v1 v2 hl1 hl2 f g h1 h2 h3 h4 => exact ⟨_, rfl, .fn k _ _ v1 v2 hl1 hl2 f g h1 h2 h3 h4⟩
  | yield l h => exact ⟨_, rfl, .yield l h⟩
 ·cases h

/-- AN OPERATION THAT WRITES NOTHING. -/
theorem pure_run {o : Oper} {ca : Act} (h : pureA P H a o.op = some v) (hR : R B w0 μ Z H w) (he : ∀ x, VR μ Z w H.length (ev a x) (ca.eval x)) :
  ∃ cv, (execOp ca.eval o).run P w = .ok (.value cv) w ∧ VR μ Z w H.length v cv := by
 unfold pureA at h
 split at h
 ·rename_i ox ho; cases h; exact ⟨_, by simp [execOp, ho, Sem.run_pure], he ox⟩
 ·rename_i ox ho; cases h; exact ⟨_, by simp [execOp, ho, Sem.run_pure], he ox⟩
 ·rename_i oc ox oy ho
  obtain ⟨cv, h1, h2⟩ := pickA_run (P := P) h (he oc) (he ox) (he oy)
  exact ⟨cv, by simp only [execOp, ho]; exact h1, h2⟩
 ·rename_i op ty ox oy ty' ho
  obtain ⟨cv, h1, h2⟩ := binA_run (P := P) (ox := ox) (oy := oy) h (he ox) (he oy)
  exact ⟨cv, by simp only [execOp, ho, Sem.run_bind, h1, Result.andThen_ok, Sem.run_pure] , h2⟩
 ·rename_i op ty ox ho
  obtain ⟨cv, h1, h2⟩ := unA_run (P := P) h (he ox)
  exact ⟨cv, by simp only [execOp, ho, Sem.run_bind, h1, Result.andThen_ok, Sem.run_pure], h2⟩
 ·rename_i s d ox ho
  obtain ⟨cv, h1, h2⟩ := convA_run (P := P) h (he ox)
  exact ⟨cv, by simp only [execOp, ho, Sem.run_bind, h1, Result.andThen_ok, Sem.run_pure], h2⟩
 ·rename_i k first cap ho
  cases h
  have hf := vrs_map he first
  have hc := vrs_map he cap
  obtain ⟨f, f1, f2⟩ := hf.skolem
  obtain ⟨g, g1, g2⟩ := hc.skolem
  refine ⟨.func (.func k) (first.map ca.eval) (cap.map ca.eval), by simp only [execOp, ho, Instr.makeFunc, Sem.run_bind, Result.andThen_ok, Sem.run_pure], ?_⟩
  exact .fn k _ _ _ _ hf.1 hc.1 f g f1 f2 g1 g2
 ·rename_i s ox f ho
  obtain ⟨cv, h1, h2⟩ := fieldAddr_run (P := P) h (he ox)
  exact ⟨cv, by simp only [execOp, ho, Sem.run_bind, h1, Result.andThen_ok, Sem.run_pure], h2⟩
 ·rename_i s ox f ho
  obtain ⟨cv, h1, h2⟩ := field_run (P := P) h (he ox)
  exact ⟨cv, by simp only [execOp, ho, Sem.run_bind, h1, Result.andThen_ok, Sem.run_pure], h2⟩
 ·rename_i s ox oi ho
  obtain ⟨cv, h1, h2⟩ := indexAddr_run (P := P) h (he ox) (he oi)
  exact ⟨cv, by simp only [execOp, ho, Sem.run_bind, h1, Result.andThen_ok, Sem.run_pure], h2⟩
 ·rename_i s ox oi ho
  obtain ⟨cv, h1, h2⟩ := index_run (P := P) h (he ox) (he oi)
  exact ⟨cv, by simp only [execOp, ho, Sem.run_bind, h1, Result.andThen_ok, Sem.run_pure], h2⟩
 ·rename_i s ox lo hi mx ho
  obtain ⟨cv, h1, h2⟩ := slice_run (P := P) h (he ox) (vro_map he lo) (vro_map he hi) (vro_map he mx)
  exact ⟨cv, by simp only [execOp, ho, Sem.run_bind, h1, Result.andThen_ok, Sem.run_pure], h2⟩
 ·rename_i ox k ho
  obtain ⟨cv, h1, h2⟩ := extract_run (P := P) h (he ox)
  exact ⟨cv, by simp only [execOp, ho, Sem.run_bind, h1, Result.andThen_ok, Sem.run_pure], h2⟩
 ·rename_i ox ho
  exact nilCheck_run ho h (he ox)
 ·rename_i ty parts ho
  obtain ⟨cv, h1, h2⟩ := build_run (P := P) (cparts := parts.map fun p => (p.1, ca.eval p.2)) h (by simpa using prs_map he parts.toList)
  exact ⟨cv, by simp only [execOp, ho, Sem.run_bind, h1, Result.andThen_ok, Sem.run_pure], h2⟩
 ·rename_i ty ox ho
  cases hc : cellsAt H (ev a ox) with
  | none => rw [hc] at h; cases h
  | some l =>
   rw [hc] at h
   simp only [Option.bind_some] at h
   obtain ⟨c, o', h1, h2⟩ := cells_get hc hR (he ox)
   obtain ⟨cv, h3, h4, _⟩ := load_run (P := P) h h2
   exact ⟨cv, by simp only [execOp, ho, h1, Instr.loadAt, Instr.sureAddr, Sem.run_bind, Sem.run_pure, h3, Result.andThen_ok], h4⟩
 ·rename_i c ho
  obtain ⟨callee, ⟨args⟩, ⟨tys⟩⟩ := c
  unfold biA at h
  split at h
  ·rename_i ox ty hce hargs htys
   simp only at hce hargs htys
   subst hce; subst hargs; subst htys
   obtain ⟨cv, h1, h2⟩ := len_run (P := P) h hR (he ox)
   refine ⟨cv, ?_, h2⟩
   have h1' : (Builtin.len_ #[ty] o.type #[ca.eval ox]).run P w = .ok cv w := h1
   simp only [execOp, ho, resolve, Sem.run_bind, Sem.run_pure, Result.andThen_ok, invoke, builtin, List.map_toArray, List.map_cons, List.map_nil, h1']
  ·rename_i ox ty hce hargs htys
   simp only at hce hargs htys
   subst hce; subst hargs; subst htys
   obtain ⟨cv, h1, h2⟩ := cap_run (P := P) (ty := o.type) h (he ox)
   refine ⟨cv, ?_, h2⟩
   have h1' : (Builtin.cap_ #[ty] o.type #[ca.eval ox]).run P w = .ok cv w := h1
   simp only [execOp, ho, resolve, Sem.run_bind, Sem.run_pure, Result.andThen_ok, invoke, builtin, List.map_toArray, List.map_cons, List.map_nil, h1']
  ·rename_i ox oy hce hargs
   simp only at hce hargs
   subst hce; subst hargs
   obtain ⟨cv, h1, h2⟩ := min_run (P := P) h (he ox) (he oy)
   refine ⟨cv, ?_, h2⟩
   simp only [execOp, ho, resolve, Sem.run_bind, Sem.run_pure, Result.andThen_ok, invoke, builtin, List.map_toArray, List.map_cons, List.map_nil, Builtin.min_, List.foldlM_cons, List.foldlM_nil, h1]
  ·rename_i ox oy hce hargs
   simp only at hce hargs
   subst hce; subst hargs
   obtain ⟨cv, h1, h2⟩ := max_run (P := P) h (he ox) (he oy)
   refine ⟨cv, ?_, h2⟩
   simp only [execOp, ho, resolve, Sem.run_bind, Sem.run_pure, Result.andThen_ok, invoke, builtin, List.map_toArray, List.map_cons, List.map_nil, Builtin.max_, List.foldlM_cons, List.foldlM_nil, h1]
  ·cases h
 ·cases h
end
end Go.Av
end
