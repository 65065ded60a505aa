/- the layer over the model, part 9 -/
import Derived.Test.YtcgndadlcgnilaaGreatA8
set_option autoImplicit false
set_option linter.unusedSimpArgs false
set_option linter.unusedVariables false
set_option linter.unnecessarySimpa false
section
set_option linter.unusedSimpArgs false
set_option linter.unusedVariables false
namespace Go.Av
open Go.RowKit

theorem putAll_get (off : Nat) : ∀ (l : List Value) (s : Nat) (cs : Array Value),
  ((l.zipIdx s).foldl (fun (cs : Array Value) (p : Value × Nat) => cs.setIfInBounds (off + p.2) p.1) cs).size = cs.size ∧
  ∀ k : Nat, off + s + l.length ≤ cs.size → ((l.zipIdx s).foldl (fun (cs : Array Value) (p : Value × Nat) => cs.setIfInBounds (off + p.2) p.1) cs)[k]? = if off + s ≤ k ∧ k < off + s + l.length then l[k - (off + s)]? else cs[k]?
 | [], s, cs => ⟨rfl, fun k h => by simp; omega⟩
 | v :: l, s, cs => by
  obtain ⟨h1, h2⟩ := putAll_get off l (s + 1) (cs.setIfInBounds (off + s) v)
  rw [List.zipIdx_cons, List.foldl_cons]
  refine ⟨by rw [h1]; simp, fun k hk => ?_⟩
  simp only [List.length_cons] at hk ⊢
  rw [h2 k (by simp; omega)]
  by_cases hk0 : k = off + s
  ·subst hk0
   rw [if_neg (by omega), if_pos (by omega)]
   have hlt : off + s < cs.size := by omega
   simp [Array.getElem?_setIfInBounds, hlt]
  ·by_cases hc : off + (s + 1) ≤ k ∧ k < off + (s + 1) + l.length
   ·rw [if_pos hc, if_pos (by omega)]
    rw [show k - (off + s) = (k - (off + (s + 1))) + 1 by omega, List.getElem?_cons_succ]
   ·rw [if_neg hc, if_neg (by omega), Array.getElem?_setIfInBounds, if_neg (by omega)]

section
variable {P : Program} {B : Nat} {w0 : World} {a : List AV} {H : AHeap} {μ : Nat → Nat × Nat} {Z : Nat → Nat → Prop} {w : World} {n : Nat}
variable {x y i v : AV} {cx cy ci : Value} {t : TypeId}

theorem VR.cells (hx : VR μ Z w n x cx) (hne : x ≠ .undef) : VRs μ Z w n x.cells cx.cells := by
 have one : ∀ {x : AV} {cx : Value}, VR μ Z w n x cx → VRs μ Z w n [x] #[cx] := fun h => ⟨rfl, fun j v hj => by
  cases j with
  | zero => simp at hj; subst hj; exact ⟨_, rfl, h⟩
  | succ j => simp at hj⟩
 cases hx with
 | undef => exact absurd rfl hne
 | agg cs vs hl f h1 h2 => exact ⟨hl, fun j v hj => ⟨f j, h1 j v hj, h2 j v hj⟩⟩
 | bool => exact one (.bool _)
 | int => exact one (.int _ _)
 | str => exact one (.str _)
 | nilp => exact one .nilp
 | ptr id off h => exact one (.ptr id off h)
 | dp cells off c o f h1 h2 h3 h5 => exact one (.dp cells off c o f h1 h2 h3 h5)
 | dl0 sz tl a cap h ht => exact one (.dl0 sz tl a cap h ht)
 | dl sz elems tl c o cap f hs hc h1 h2 h3 h5 ht => exact one (.dl sz elems tl c o cap f hs hc h1 h2 h3 h5 ht)
 | sl sz id off len cap h hc hsz e N hN hcap => exact one (.sl sz id off len cap h hc hsz e N hN hcap)
 | tup cs vs hl f h1 h2 => exact one (.tup cs vs hl f h1 h2)
 | fn k c1 c2 v1 v2 hl1 hl2 f g h1 h2 h3 h4 => exact one (.fn k c1 c2 v1 v2 hl1 hl2 f g h1 h2 h3 h4)
 | yield l h => exact one (.yield l h)
 | nilfn => exact one .nilfn
 | nilm => exact one .nilm
 | map id h => exact one (.map id h)
 | nilif => exact one .nilif
 | iface t v v' h => exact one (.iface t v v' h)

/-- Parts and their values, one beside the other. -/
def PRs (μ : Nat → Nat × Nat) (Z : Nat → Nat → Prop) (w : World) (n : Nat) : List (Nat × AV) → List (Nat × Value) → Prop
 | [], [] => True
 | (i, v) :: l, (j, cv) :: l' => i = j ∧ VR μ Z w n v cv ∧ PRs μ Z w n l l'
 | _, _ => False

theorem fill_run {pl : Nat → Option (Nat × Nat)} {pl' : Nat → Option (Nat × Nat)} (hpl : ∀ i q, pl i = some q → pl' i = some q) : ∀ {parts : List (Nat × AV)} {cparts : List (Nat × Value)} {cs r : List AV} {vs : Array Value},
  fillA pl cs parts = some r → PRs μ Z w n parts cparts → VRs μ Z w n cs vs → ∃ rs, Instr.fill pl' vs cparts = some rs ∧ VRs μ Z w n r rs
 | [], [], cs, r, vs, h, _, hc => by simp [fillA] at h; subst h; exact ⟨vs, rfl, hc⟩
 | (i, v) :: l, (j, cv) :: l', cs, r, vs, h, hp, hc => by
  obtain ⟨rfl, hv, hrest⟩ := hp
  unfold fillA at h
  split at h
  ·cases h
  ·rename_i v _ _ off size hq hnu
   split at h
   ·rename_i hcond
    obtain ⟨h1, h2⟩ := hcond
    have hne : v ≠ .undef := fun e => hnu e
    have hcv := hv.cells hne
    have hsz : cv.cells.size = size := by rw [← h1]; exact hcv.1.symm
    have hput := putAll_get off cv.cells.toList 0 vs
    have hnew : VRs μ Z w n (cs.take off ++ v.cells ++ cs.drop (off + size)) ((cv.cells.toList.zipIdx 0).foldl (fun (cs : Array Value) (p : Value × Nat) => cs.setIfInBounds (off + p.2) p.1) vs) := by
     have hcl := hc.1
     refine ⟨by rw [hput.1]; simp; omega, fun k z hk => ?_⟩
     rw [hput.2 k (by simp [hsz]; omega)]
     simp only [Nat.add_zero, Array.length_toList, hsz]
     by_cases hk1 : k < off
     ·rw [if_neg (by omega)]
      rw [List.append_assoc, List.getElem?_append_left (by simp; omega), List.getElem?_take, if_pos hk1] at hk
      exact hc.2 k z hk
     ·by_cases hk2 : k < off + size
      ·rw [if_pos (by omega)]
       rw [List.append_assoc, List.getElem?_append_right (by simp; omega), List.getElem?_append_left (by simp; omega)] at hk
       have : k - (List.take off cs).length = k - off := by simp; omega
       rw [this] at hk
       obtain ⟨u, h3, h4⟩ := hcv.2 _ _ hk
       exact ⟨u, by simpa using h3, h4⟩
      ·rw [if_neg (by omega)]
       rw [List.getElem?_append_right (by simp; omega), List.getElem?_drop] at hk
       have : off + size + (k - (List.take off cs ++ v.cells).length) = k := by simp; omega
       rw [this] at hk
       exact hc.2 k z hk
    obtain ⟨rs, h3, h4⟩ := fill_run hpl h hrest hnew
    refine ⟨rs, ?_, h4⟩
    rw [Instr.fill, hpl _ _ hq]
    have hcond2 : ¬ ((decide (cv.cells.size ≠ size) || decide (off + cv.cells.size > vs.size)) = true) := by
     have := hc.1
     simp [hsz]; omega
    simp only
    rw [if_neg hcond2, ← h3]
    congr 1
    rw [← Array.foldl_toList, Array.toList_zipIdx]
   ·cases h
  ·cases h
 | [], _ :: _, _, _, _, _, hp, _ => hp.elim
 | _ :: _, [], _, _, _, _, hp, _ => hp.elim

theorem mapM_some {α β : Type} {w : World} (f : α → Sem β) (g : α → β) : ∀ (l : List α), (∀ x, x ∈ l → (f x).run P w = .ok (g x) w) → (l.mapM f).run P w = .ok (l.map g) w
 | [], _ => by simp [Sem.run_pure]
 | x :: l, h => by
  have h1 := h x (by simp)
  have h2 := mapM_some f g l (fun y hy => h y (by simp [hy]))
  simp [List.mapM_cons, h1, h2]

theorem build_run {parts : List (Nat × AV)} {cparts : Array (Nat × Value)} (h : buildA P t parts = some v) (hp : PRs μ Z w n parts cparts.toList) : ∃ cv, (Instr.build t cparts).run P w = .ok cv w ∧ VR μ Z w n v cv := by
 unfold buildA at h
 split at h
 ·rename_i ti hi
  split at h
  ·rename_i z hz
   split at h
   ·rename_i hall
    cases hf : fillA (placeA P ti.kind) z parts with
    | none => rw [hf] at h; cases h
    | some r =>
     rw [hf] at h
     simp only [Option.map_some, Option.some.injEq] at h
     subst h
     obtain ⟨inf, zv, h1, h2, h3, h4⟩ := zero_some (w := w) hi hz
     have hzv : VR μ Z w n (.agg z) zv := by rw [h3]; exact VR.ofVal zv
     obtain ⟨vs, rfl, hzs⟩ := hzv.agg_inv
     cases hk : ti.kind with
     | struct fs =>
      rw [hk] at hf hall
      obtain ⟨gs, hu, hgs⟩ := kind_struct hi hk
      simp only [allTy, List.all_eq_true] at hall
      have hpl : ∀ i q, placeA P (.struct fs) i = some q → (gs.map fun f => (f.offset, ((tyA P f.type).map (·.size)).getD 0))[i]? = some q := by
       intro i q hq
       simp only [placeA] at hq
       split at hq
       ·rename_i off ft hfi
        rw [← hgs] at hfi
        simp only [List.getElem?_map, Array.getElem?_toList, Option.map_eq_some_iff, Prod.mk.injEq] at hfi
        obtain ⟨g, hg1, hg2, hg3⟩ := hfi
        simp only [Array.getElem?_map, hg1, Option.map_some]
        rw [hg3]
        cases hj : tyA P ft with
        | none => rw [hj] at hq; cases hq
        | some j => rw [hj] at hq; simp at hq ⊢; rw [← hq, hg2]
       ·cases hq
      obtain ⟨rs, h5, h6⟩ := fill_run hpl hf hp hzs
      refine ⟨.agg rs, ?_, h6.agg⟩
      have hm : (gs.mapM fun f => (do pure (f.offset, ← sizeOf f.type) : Sem (Nat × Nat))).run P w = .ok (gs.map fun f => (f.offset, ((tyA P f.type).map (·.size)).getD 0)) w := by
       rw [Array.mapM_eq_mapM_toList]
       have := mapM_some (P := P) (w := w) (fun f : Field => (do pure (f.offset, ← sizeOf f.type) : Sem (Nat × Nat))) (fun f => (f.offset, ((tyA P f.type).map (·.size)).getD 0)) gs.toList (fun f hf => by
        have : (tyA P f.type).isSome = true := by
         have := hall (f.offset, f.type) (by rw [← hgs]; exact List.mem_map.2 ⟨f, hf, rfl⟩)
         exact this
        obtain ⟨j, hj⟩ := Option.isSome_iff_exists.1 this
        simp [run_sizeOf' hj, hj])
       have hmap : ∀ (m : Sem (List (Nat × Nat))) (r : List (Nat × Nat)), m.run P w = .ok r w → (List.toArray <$> m).run P w = .ok r.toArray w := by
        intro m r hm
        show (m >>= fun x => pure x.toArray).run P w = _
        simp [hm]
       rw [hmap _ _ this]
       congr 1
       apply Array.ext'
       simp
      have h5' : Instr.fill (fun x => (gs.map fun f => (f.offset, ((tyA P f.type).map (·.size)).getD 0))[x]?) vs cparts.toList = some rs := h5
      simp only [Instr.build, Sem.run_bind, h4, Result.andThen_ok, run_und hu, Value.cells, hm, h5']
      rfl
     | array m e =>
      rw [hk] at hf hall
      have hu := kind_array hi hk
      simp only [allTy] at hall
      obtain ⟨j, hj⟩ := Option.isSome_iff_exists.1 hall
      have hpl : ∀ i q, placeA P (.array m e) i = some q → (fun i => some (i * j.size, j.size) : Nat → Option (Nat × Nat)) i = some q := by
       intro i q hq
       simp only [placeA, hj, Option.map_some] at hq
       exact hq
      obtain ⟨rs, h5, h6⟩ := fill_run hpl hf hp hzs
      exact ⟨.agg rs, by simp [Instr.build, h4, run_und hu, run_sizeOf' hj, Value.cells, h5], h6.agg⟩
     | _ => rw [hk] at hall; cases hall
   ·cases h
  ·cases h
 ·cases h
end
end Go.Av
end
