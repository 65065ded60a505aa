/- the layer over the model, part 12 -/
import Derived.Test.YtahhhfgmcdajhaaA11
set_option autoImplicit false
set_option linter.unusedSimpArgs false
set_option linter.unusedVariables false
set_option linter.unnecessarySimpa false
section
set_option linter.unusedSimpArgs false
set_option linter.unusedVariables false
namespace Go.Av
open Go.RowKit
section
variable {P : Program} {B : Nat} {w0 : World} {H : AHeap} {μ : Nat → Nat × Nat} {Z Z' : Nat → Nat → Prop} {w : World} {n : Nat}
/-- A slice over a block of one's own becomes a value, whatever its elements' size. -/
theorem frzG_vr (hR : R B w0 μ Z H w) {id sz : Nat} {es : List AV} {cv : Value} (hid : H[id]? = some (.cells (flat es))) (hs : ∀ e, e ∈ es → e.cells.length = sz) (hv : VR μ Z w H.length (.sl sz id 0 es.length) cv) :
  VR μ (fun c o => Z c o ∨ (c = (μ id).1 ∧ (μ id).2 ≤ o ∧ o < (μ id).2 + (flat es).length)) w H.length (.dl sz es .none) cv := by
 obtain ⟨g1, g2, ccs, e, fr, g3, g4, g5, g6⟩ := hR.obj id _ hid
 have hcell : ∀ j, w.cell? ⟨(μ id).1, j, none⟩ = ccs[j]? := fun j => cell_of_row w _ _ ccs e fr g3
 cases hv with
 | sl _ _ _ _ cap q1 q2 q3 e' N q4 q5 =>
  have hF : ∀ j v, (flat es)[j]? = some v → ∃ u, w.cell? ⟨(μ id).1, (μ id).2 + 0 + j, none⟩ = some u ∧ u.oneCell' = true ∧ VR μ Z w H.length v u := by
   intro j v hj
   obtain ⟨v', p1, p2, p3⟩ := g6 _ _ hj
   exact ⟨v', by rw [hcell, ← p1, Nat.add_zero], p2, p3⟩
  exact VR.dl sz es .none (μ id).1 ((μ id).2 + 0) cap (fun j => (w.cell? ⟨(μ id).1, (μ id).2 + 0 + j, none⟩).getD default) hs q2
   (fun j v hj => by obtain ⟨u, p1, _, _⟩ := hF j v hj; simp only [p1, Option.getD_some])
   (fun j hj => .inr ⟨rfl, by omega, by omega⟩)
   (fun j v hj => by
    obtain ⟨u, p1, _, p3⟩ := hF j v hj
    simp only [p1, Option.getD_some]
    exact p3.mono (Nat.le_refl _) (fun _ _ => rfl) (fun _ _ h => .inl h) (fun _ _ _ => rfl) (fun _ _ => rfl))
   (fun j hj => by
    obtain ⟨u, p1, p2, _⟩ := hF j _ (List.getElem?_eq_getElem hj)
    simp only [p1, Option.getD_some]; exact p2)
   trivial

theorem frzT_vr (hR : R B w0 μ Z H w) {id len : Nat} {cs : List AV} {cv : Value} (hid : H[id]? = some (.cells cs)) (hl : len ≤ cs.length) (h1 : ∀ c, c ∈ cs → c.cells = [c]) (hv : VR μ Z w H.length (.sl 1 id 0 len) cv) :
  VR μ (fun c o => Z c o ∨ (c = (μ id).1 ∧ (μ id).2 ≤ o ∧ o < (μ id).2 + len)) w H.length (.dl 1 (cs.take len) .none) cv := by
 obtain ⟨g1, g2, ccs, e, fr, g3, g4, g5, g6⟩ := hR.obj id _ hid
 have hft : flat (cs.take len) = cs.take len := by
  have : ∀ l : List AV, (∀ c, c ∈ l → c.cells = [c]) → flat l = l := by
   intro l
   induction l with
   | nil => intro _; rfl
   | cons x l ih => intro h; rw [flat_cons, h x (by simp), ih (fun c hc => h c (by simp [hc]))]; rfl
  exact this _ (fun c hc => h1 c (List.mem_of_mem_take hc))
 have hlen : (cs.take len).length = len := by rw [List.length_take]; omega
 have hcell : ∀ j, w.cell? ⟨(μ id).1, j, none⟩ = ccs[j]? := fun j => cell_of_row w _ _ ccs e fr g3
 cases hv with
 | sl _ _ _ _ cap q1 q2 q3 e' N q4 q5 =>
  have hF : ∀ j v, (cs.take len)[j]? = some v → ∃ u, w.cell? ⟨(μ id).1, (μ id).2 + 0 + j, none⟩ = some u ∧ u.oneCell' = true ∧ VR μ Z w H.length v u := by
   intro j v hj
   rw [List.getElem?_take] at hj
   split at hj
   ·obtain ⟨v', p1, p2, p3⟩ := g6 _ _ hj
    exact ⟨v', by rw [hcell, ← p1, Nat.add_zero], p2, p3⟩
   ·cases hj
  have key := VR.dl (μ := μ) (Z := fun c o => Z c o ∨ (c = (μ id).1 ∧ (μ id).2 ≤ o ∧ o < (μ id).2 + len)) (w := w) (n := H.length) 1 (cs.take len) .none (μ id).1 ((μ id).2 + 0) cap
   (fun j => (w.cell? ⟨(μ id).1, (μ id).2 + 0 + j, none⟩).getD default) (fun x hx => by rw [h1 x (List.mem_of_mem_take hx)]; rfl) (by rw [hlen]; exact q2)
   (fun j v hj => by
    rw [hft] at hj
    obtain ⟨u, p1, _, _⟩ := hF j v hj
    simp only [p1, Option.getD_some])
   (fun j hj => by rw [hft, hlen] at hj; exact .inr ⟨rfl, by omega, by omega⟩)
   (fun j v hj => by
    rw [hft] at hj
    obtain ⟨u, p1, _, p3⟩ := hF j v hj
    simp only [p1, Option.getD_some]
    exact p3.mono (Nat.le_refl _) (fun _ _ => rfl) (fun _ _ h => .inl h) (fun _ _ _ => rfl) (fun _ _ => rfl))
   (fun j hj => by
    rw [hft] at hj
    obtain ⟨u, p1, p2, _⟩ := hF j _ (List.getElem?_eq_getElem hj)
    simp only [p1, Option.getD_some]; exact p2)
   trivial
  rw [hlen] at key
  exact key

/-- One place of a value is said otherwise. -/
inductive Rep (x y : AV) : AV → AV → Prop
 | here : Rep x y x y
 | agg {l : List AV} {v v' : AV} (j : Nat) (h : l[j]? = some v) (r : Rep x y v v') : Rep x y (.agg l) (.agg (l.set j v'))
 | tup {l : List AV} {v v' : AV} (j : Nat) (h : l[j]? = some v) (r : Rep x y v v') : Rep x y (.tup l) (.tup (l.set j v'))
theorem Rep.vr {x y : AV} (hz : ∀ c o, Z c o → Z' c o) (hx : ∀ cx, VR μ Z w n x cx → VR μ Z' w n y cx) {v v' : AV} (r : Rep x y v v') : ∀ {cv : Value}, VR μ Z w n v cv → VR μ Z' w n v' cv := by
 have mono : ∀ {u : AV} {cu : Value}, VR μ Z w n u cu → VR μ Z' w n u cu := fun h => h.mono (Nat.le_refl _) (fun _ _ => rfl) hz (fun _ _ _ => rfl) (fun _ _ => rfl)
 induction r with
 | here => exact fun h => hx _ h
 | @agg l v v' j h r ih =>
  intro cv hv
  cases hv with
  | agg _ vs hl f h1 h2 =>
   have hj := (List.getElem?_eq_some_iff.1 h).1
   refine .agg _ vs (by rw [List.length_set]; exact hl) f (fun i u hi => ?_) (fun i u hi => ?_)
   ·by_cases e : j = i
    ·subst e; exact h1 j _ h
    ·rw [List.getElem?_set_ne e] at hi; exact h1 i u hi
   ·by_cases e : j = i
    ·subst e
     rw [List.getElem?_set_self hj] at hi
     cases hi
     exact ih (h2 j _ h)
    ·rw [List.getElem?_set_ne e] at hi; exact mono (h2 i u hi)
 | @tup l v v' j h r ih =>
  intro cv hv
  cases hv with
  | tup _ vs hl f h1 h2 =>
   have hj := (List.getElem?_eq_some_iff.1 h).1
   refine .tup _ vs (by rw [List.length_set]; exact hl) f (fun i u hi => ?_) (fun i u hi => ?_)
   ·by_cases e : j = i
    ·subst e; exact h1 j _ h
    ·rw [List.getElem?_set_ne e] at hi; exact h1 i u hi
   ·by_cases e : j = i
    ·subst e
     rw [List.getElem?_set_self hj] at hi
     cases hi
     exact ih (h2 j _ h)
    ·rw [List.getElem?_set_ne e] at hi; exact mono (h2 i u hi)

/-- What a function comes to, where lists of its own become values. -/
inductive RetF (K : AV → AHeap → Prop) : AV → AHeap → Prop
 | ret {v : AV} {H : AHeap} (h : RetK K v H) : RetF K v H
 | frz {v v' : AV} {H : AHeap} {sz id : Nat} {es : List AV} (hr : Rep (.sl sz id 0 es.length) (.dl sz es .none) v v') (hid : H[id]? = some (.cells (flat es))) (hs : ∀ e, e ∈ es → e.cells.length = sz) (h : RetF K v' (H.set id .dead)) : RetF K v H
 | frzT {v v' : AV} {H : AHeap} {id len : Nat} {cs : List AV} (hr : Rep (.sl 1 id 0 len) (.dl 1 (cs.take len) .none) v v') (hid : H[id]? = some (.cells cs)) (hl : len ≤ cs.length) (h1 : ∀ c, c ∈ cs → c.cells = [c]) (h : RetF K v' (H.set id .dead)) : RetF K v H
 | nil {v v' : AV} {H : AHeap} {sz s : Nat} (hr : Rep (.dl s [] .full) (.dl sz [] .none) v v') (h : RetF K v' H) : RetF K v H
theorem ACall.retF {f : FuncId} {args : List AV} {K : AV → AHeap → Prop} (h : ACall P B w0 f args H (RetF K)) : ACall P B w0 f args H K :=
 ⟨h.1, fun μ Z w cargs h1 h2 => (h.2 μ Z w cargs h1 h2).mono (by
  rintro e w' ⟨v, cv, μ', Z', H', q1, q2, q3, q4, q5⟩
  have key : ∀ {v : AV} {H2 : AHeap}, RetF K v H2 → ∀ {Z2 : Nat → Nat → Prop}, R B w0 μ' Z2 H2 w' → VR μ' Z2 w' H2.length v cv → Ev μ Z H w μ' Z2 H2 w' →
    ∃ v cv' μ' Z' H', e = .returned cv' ∧ R B w0 μ' Z' H' w' ∧ VR μ' Z' w' H'.length v cv' ∧ Ev μ Z H w μ' Z' H' w' ∧ K v H' := by
   intro v H2 hk
   induction hk with
   | @ret v H2 h =>
    intro Z2 p1 p2 p3
    obtain ⟨v', H3, k1, k2, k3⟩ := h
    obtain ⟨r1, r2⟩ := p1.wkH k2
    exact ⟨v', cv, μ', Z2, H3, q1, r1, by rw [k2.1]; exact p2.weakR k1, p3.trans r2, k3⟩
   | @frz v v' H2 sz id es hr hid hs h ih =>
    intro Z2 p1 p2 p3
    have hZ : ∀ cx, VR μ' Z2 w' H2.length (.sl sz id 0 es.length) cx → VR μ' (fun c o => Z2 c o ∨ (c = (μ' id).1 ∧ (μ' id).2 ≤ o ∧ o < (μ' id).2 + (flat es).length)) w' H2.length (.dl sz es .none) cx := by
     intro cx hx
     exact frzG_vr p1 hid hs hx
    obtain ⟨r1, r2⟩ := p1.freeze hid (fun c o => Z2 c o ∨ (c = (μ' id).1 ∧ (μ' id).2 ≤ o ∧ o < (μ' id).2 + (flat es).length)) (fun _ _ h => .inl h) (fun c o h => h.imp (fun h => h) (·.1))
    exact ih r1 (by rw [List.length_set]; exact hr.vr (fun _ _ h => .inl h) hZ p2) (p3.trans r2)
   | @frzT v v' H2 id len cs hr hid hl h1 h ih =>
    intro Z2 p1 p2 p3
    obtain ⟨r1, r2⟩ := p1.freeze hid (fun c o => Z2 c o ∨ (c = (μ' id).1 ∧ (μ' id).2 ≤ o ∧ o < (μ' id).2 + len)) (fun _ _ h => .inl h) (fun c o h => h.imp (fun h => h) (·.1))
    exact ih r1 (by rw [List.length_set]; exact hr.vr (fun _ _ h => .inl h) (fun cx hx => frzT_vr p1 hid hl h1 hx) p2) (p3.trans r2)
   | @nil v v' H2 sz s hr h ih =>
    intro Z2 p1 p2 p3
    exact ih p1 (hr.vr (fun _ _ h => h) (fun cx hx => hx.weak (wkV.nil sz s .full)) p2) p3
  exact key q5 q2 q3 q4)⟩
end
end Go.Av
namespace Go.Av
open Go.RowKit
theorem flat_map_nil {α : Type} {enc : α → AV} {sz : Nat} (hc : SzC sz enc) (h0 : 0 < sz) {l : List α} (h : flat (List.map enc l) = []) : l = [] := by
 have := hc.flat l
 rw [h, List.length_nil] at this
 rcases Nat.mul_eq_zero.1 this.symm with h | h
 ·exact List.length_eq_zero_iff.1 h
 ·omega
theorem flat_map_len {α : Type} {enc : α → AV} {sz len : Nat} (hc : SzC sz enc) (h0 : 0 < sz) {l : List α} (h : (flat (List.map enc l)).length = len * sz) : len = l.length := by
 rw [hc.flat] at h
 exact (Nat.eq_of_mul_eq_mul_right h0 h).symm
section
variable {P : Program} {B : Nat} {w0 : World} {H : AHeap} {K : AV → AHeap → Prop} {L L' : List Item} {t t2 : TypeId} {sz n : Nat} {y v v' v0 : AV} {α : Type} {enc : α → AV} {l ys : List α}
theorem RetF.own (hc : SzC sz enc) (h0 : 0 < sz) (hN : Need0 (.own sz v0 (flat (List.map enc l)) :: L') L) (hr : Rep v0 (.dl sz (List.map enc l) .none) v v') (hS : Hv H L) (h : ∀ H', Hv H' L' → RetF K v' H') : RetF K v H := by
 have hs := hS.need0 hN
 rcases hs.each _ (List.mem_cons_self ..) with ⟨s, rfl, hcs⟩ | ⟨id, len, rfl, hl, hid⟩
 ·have := flat_map_nil hc h0 hcs
  subst this
  exact RetF.nil hr (h H hs.drop)
 ·obtain rfl := flat_map_len hc h0 hl
  refine RetF.frz (es := List.map enc l) (by rwa [List.length_map]) hid (fun e he => by obtain ⟨x, _, rfl⟩ := List.mem_map.1 he; exact hc x) (h _ ?_)
  exact (hs.set (y := .tl .full) rfl .dead (.inl rfl) (fun j h => by cases h)).drop
theorem RetF.own1 (hc : OneC enc) (hN : Need0 (.own 1 v0 (List.map enc l) :: L') L) (hr : Rep v0 (.dl 1 (List.map enc l) .none) v v') (hS : Hv H L) (h : ∀ H', Hv H' L' → RetF K v' H') : RetF K v H :=
 RetF.own hc.toSz (by decide) (by rw [flat_one enc hc]; exact hN) hr hS h
theorem vrs_tup {μ : Nat → Nat × Nat} {Z : Nat → Nat → Prop} {w : World} {n : Nat} {args : List AV} {cargs : Array Value} (h : VR μ Z w n (.tup args) (.tuple cargs)) : VRs μ Z w n args cargs := by
 cases h with
 | tup _ vs hl f h1 h2 => exact ⟨hl, fun j v hj => ⟨f j, h1 j v hj, h2 j v hj⟩⟩
theorem ACall.frzArg {f : FuncId} {args args' : List AV} (hc : SzC sz enc) (h0 : 0 < sz) (hN : Need0 (.own sz v0 (flat (List.map enc l)) :: L') L) (hr : Rep v0 (.dl sz (List.map enc l) .none) (.tup args) (.tup args')) (hS : Hv H L) (h : ∀ H', Hv H' L' → ACall P B w0 f args' H' K) : ACall P B w0 f args H K := by
 have hs := hS.need0 hN
 rcases hs.each _ (List.mem_cons_self ..) with ⟨s, rfl, hcs⟩ | ⟨id, len, rfl, hl, hid⟩
 ·have := flat_map_nil hc h0 hcs
  subst this
  have hk := h H hs.drop
  refine ⟨hk.1, fun μ Z w cargs h1 h2 => hk.2 μ Z w cargs h1 ?_⟩
  exact vrs_tup (hr.vr (fun _ _ h => h) (fun cx hx => hx.weak (wkV.nil sz s .full)) h2.tup)
 ·obtain rfl := flat_map_len hc h0 hl
  have hs' : ∀ e, e ∈ List.map enc l → e.cells.length = sz := fun e he => by obtain ⟨x, _, rfl⟩ := List.mem_map.1 he; exact hc x
  have hd : Hv (H.set id .dead) L' := (hs.set (y := .tl .full) rfl .dead (.inl rfl) (fun j h => by cases h)).drop
  have hk := h _ hd
  refine ⟨hk.1, fun μ Z w cargs h1 h2 => ?_⟩
  obtain ⟨r1, r2⟩ := h1.freeze hid (fun c o => Z c o ∨ (c = (μ id).1 ∧ (μ id).2 ≤ o ∧ o < (μ id).2 + (flat (List.map enc l)).length)) (fun _ _ h => .inl h) (fun c o h => h.imp (fun h => h) (·.1))
  have hv := vrs_tup (hr.vr (Z' := fun c o => Z c o ∨ (c = (μ id).1 ∧ (μ id).2 ≤ o ∧ o < (μ id).2 + (flat (List.map enc l)).length)) (fun _ _ h => .inl h) (fun cx hx => frzG_vr h1 hid hs' (by rwa [List.length_map])) h2.tup)
  refine (hk.2 μ _ w cargs r1 (by rw [List.length_set]; exact hv)).mono ?_
  rintro e w' ⟨v, cv, μ', Z', H', q1, q2, q3, q4, q5⟩
  exact ⟨v, cv, μ', Z', H', q1, q2, q3, r2.trans q4, q5⟩
theorem Wk.setL : ∀ {a : List AV} {t : Nat} {u v : AV}, a[t]? = some u → wkV v u → Wk (a.set t v) a
 | [], _, _, _, h, _ => by simp at h
 | _ :: _, 0, _, _, h, k => by simp at h; subst h; exact ⟨k, Wk.refl _⟩
 | _ :: _, _ + 1, _, _, h, k => ⟨wkV.refl _, Wk.setL (by simpa using h) k⟩
/-- an own list that a variable holds is frozen ahead of a piece of code -/
theorem AWP.frzT {rd : Option Nat} {c : Code} {Q : Exit → List AV → AHeap → Prop} {a : List AV} (t : Nat) (hc : SzC sz enc) (h0 : 0 < sz) (ht : a[t]? = some v0) (hN : Need0 (.own sz v0 (flat (List.map enc l)) :: L') L) (hS : Hv H L) (h : ∀ H', Hv H' L' → AWP P B w0 rd c Q (a.set t (.dl sz (List.map enc l) .none)) H') : AWP P B w0 rd c Q a H := by
 have hs := hS.need0 hN
 rcases hs.each _ (List.mem_cons_self ..) with ⟨s, rfl, hcs⟩ | ⟨id, len, rfl, hl, hid⟩
 ·have := flat_map_nil hc h0 hcs
  subst this
  exact (h H hs.drop).weak (Wk.setL ht (wkV.nil sz s .full))
 ·obtain rfl := flat_map_len hc h0 hl
  have hs' : ∀ e, e ∈ List.map enc l → e.cells.length = sz := fun e he => by obtain ⟨x, _, rfl⟩ := List.mem_map.1 he; exact hc x
  have hd : Hv (H.set id .dead) L' := (hs.set (y := .tl .full) rfl .dead (.inl rfl) (fun j h => by cases h)).drop
  refine AWP.freeze (elems := List.map enc l) ht hid hs' (by simp) ?_ (h _ hd)
  rw [List.drop_zero, List.take_of_length_le (by rw [hl]; exact Nat.le_refl _)]
theorem AWP.frzT1 {rd : Option Nat} {c : Code} {Q : Exit → List AV → AHeap → Prop} {a : List AV} (t : Nat) (hc : OneC enc) (ht : a[t]? = some v0) (hN : Need0 (.own 1 v0 (List.map enc l) :: L') L) (hS : Hv H L) (h : ∀ H', Hv H' L' → AWP P B w0 rd c Q (a.set t (.dl 1 (List.map enc l) .none)) H') : AWP P B w0 rd c Q a H :=
 AWP.frzT t hc.toSz (by decide) ht (by rw [flat_one enc hc]; exact hN) hS h
theorem ACall.frzArg1 {f : FuncId} {args args' : List AV} (hc : OneC enc) (hN : Need0 (.own 1 v0 (List.map enc l) :: L') L) (hr : Rep v0 (.dl 1 (List.map enc l) .none) (.tup args) (.tup args')) (hS : Hv H L) (h : ∀ H', Hv H' L' → ACall P B w0 f args' H' K) : ACall P B w0 f args H K :=
 ACall.frzArg hc.toSz (by decide) (by rw [flat_one enc hc]; exact hN) hr hS h
/-- append to a list of its own, whatever is appended -/
theorem appO_ownH (hc : SzC sz enc) (hT : AppTy P t sz n) (hy : AppSrcH P H t2 sz y (List.map enc ys)) (hN : Need0 (.own sz v (flat (List.map enc l)) :: L') L) (hS : Hv H L) (hlen : l.length + ys.length ≤ n)
  (hK : ∀ (v' : AV) (H' : AHeap), Hv H' (.own sz v' (flat (List.map enc (l ++ ys))) :: L') → K v' H') : AppE P t t2 v y H K := by
 have hs := hS.need0 hN
 by_cases hys : ys = []
 ·subst hys
  rcases hs.each _ (List.mem_cons_self ..) with ⟨s, rfl, hcs⟩ | ⟨id, len, rfl, hl, hid⟩
  ·obtain ⟨ti, e, te, z, h1, h2, h3, h4, h5, h6, rfl, h9, h10⟩ := hT
   obtain ⟨y', hw, h7⟩ := hy
   obtain rfl := flat_map_nil hc h6 hcs
   refine ⟨y', hw, .inl ⟨ti, e, te, z, [], s, [], .full, h1, h2, h3, h4, h5, h6, h7, rfl, .inr ⟨rfl, rfl⟩, fun _ => ?_, fun h => absurd rfl h⟩⟩
   exact hK _ _ (hs.drop.free (.inl ⟨_, rfl, rfl⟩) rfl)
  ·obtain ⟨ti, e, te, z, h1, h2, h3, h4, h5, h6, rfl, h9, h10⟩ := hT
   obtain ⟨y', hw, h7⟩ := hy
   obtain rfl := flat_map_len hc h6 hl
   have hb := Nat.le_trans (Nat.mul_le_mul_right te.bytes hlen) h9
   refine ⟨y', hw, .inr (.inr (.inr ⟨ti, e, te, z, [], id, l.length, _, h1, h2, h3, h4, h5, h6, h7, rfl, hid, hl, by simpa using hb, by have := Nat.le_trans (Nat.le_mul_of_pos_right (l.length + 0) h10) hb; simp at this ⊢; omega, hK _ _ ?_⟩))⟩
   have h1 : Hv (H.set id .dead) (.tl .full :: L') := hs.set rfl _ (.inl rfl) (fun j h => by cases h)
   have h2 := h1.drop.push (.cells (flat (List.map enc l) ++ flat [])) (x := .own te.size (.sl te.size (H.set id AObj.dead).length 0 (l.length + 0)) (flat (List.map enc (l ++ [])))) (.inr ⟨_, _, rfl, by simpa using hl, by rw [get_new]; simp [flat]⟩) (fun i h => by cases h; rfl)
   simpa using h2
 ·refine app_ownH hT hy .here hs ?_ (fun h => hys (List.map_eq_nil_iff.1 h)) ?_ (by rw [hc.flat, List.length_map])
  ·rw [hc.flat, List.length_map, ← Nat.add_mul]; exact Nat.mul_le_mul_right _ hlen
  ·intro v' H' h
   rw [← flat_append, map_app] at h
   exact hK v' H' h
theorem appO_own (hc : SzC sz enc) (hT : AppTy P t sz n) (hy : AppSrc P t2 sz y (List.map enc ys)) (hN : Need0 (.own sz v (flat (List.map enc l)) :: L') L) (hS : Hv H L) (hlen : l.length + ys.length ≤ n)
  (hK : ∀ (v' : AV) (H' : AHeap), Hv H' (.own sz v' (flat (List.map enc (l ++ ys))) :: L') → K v' H') : AppE P t t2 v y H K := appO_ownH hc hT hy.h hN hS hlen hK
theorem appO_own1 (hc : OneC enc) (hT : AppTy P t 1 n) (hy : AppSrc P t2 1 y (List.map enc ys)) (hN : Need0 (.own 1 v (List.map enc l) :: L') L) (hS : Hv H L) (hlen : l.length + ys.length ≤ n)
  (hK : ∀ (v' : AV) (H' : AHeap), Hv H' (.own 1 v' (List.map enc (l ++ ys)) :: L') → K v' H') : AppE P t t2 v y H K :=
 appO_own hc.toSz hT hy (by rw [flat_one enc hc]; exact hN) hS hlen (fun v' H' h => hK v' H' (by rwa [flat_one enc hc] at h))
theorem appO_nil (hc : SzC sz enc) (hT : AppTy P t sz n) (hy : AppSrc P t2 sz y (List.map enc ys)) {s : Nat} (hS : Hv H L) (hlen : ys.length ≤ n)
  (hK : ∀ (v' : AV) (H' : AHeap), Hv H' (.own sz v' (flat (List.map enc ys)) :: L) → K v' H') : AppE P t t2 (.dl s [] .full) y H K :=
 appO_own (l := []) hc hT hy (.own0 .done) hS (by simpa using hlen) (fun v' H' h => hK v' H' (by simpa using h))
theorem appO_nil1 (hc : OneC enc) (hT : AppTy P t 1 n) (hy : AppSrc P t2 1 y (List.map enc ys)) {s : Nat} (hS : Hv H L) (hlen : ys.length ≤ n)
  (hK : ∀ (v' : AV) (H' : AHeap), Hv H' (.own 1 v' (List.map enc ys) :: L) → K v' H') : AppE P t t2 (.dl s [] .full) y H K :=
 appO_nil hc.toSz hT hy hS hlen (fun v' H' h => hK v' H' (by rwa [flat_one enc hc] at h))
theorem appO_nilH (hc : SzC sz enc) (hT : AppTy P t sz n) (hy : AppSrcH P H t2 sz y (List.map enc ys)) {s : Nat} (hS : Hv H L) (hlen : ys.length ≤ n)
  (hK : ∀ (v' : AV) (H' : AHeap), Hv H' (.own sz v' (flat (List.map enc ys)) :: L) → K v' H') : AppE P t t2 (.dl s [] .full) y H K :=
 appO_ownH (l := []) hc hT hy (.own0 .done) hS (by simpa using hlen) (fun v' H' h => hK v' H' (by simpa using h))
theorem appO_ownH1 (hc : OneC enc) (hT : AppTy P t 1 n) (hy : AppSrcH P H t2 1 y (List.map enc ys)) (hN : Need0 (.own 1 v (List.map enc l) :: L') L) (hS : Hv H L) (hlen : l.length + ys.length ≤ n)
  (hK : ∀ (v' : AV) (H' : AHeap), Hv H' (.own 1 v' (List.map enc (l ++ ys)) :: L') → K v' H') : AppE P t t2 v y H K :=
 appO_ownH hc.toSz hT hy (by rw [flat_one enc hc]; exact hN) hS hlen (fun v' H' h => hK v' H' (by rwa [flat_one enc hc] at h))
theorem appO_nilH1 (hc : OneC enc) (hT : AppTy P t 1 n) (hy : AppSrcH P H t2 1 y (List.map enc ys)) {s : Nat} (hS : Hv H L) (hlen : ys.length ≤ n)
  (hK : ∀ (v' : AV) (H' : AHeap), Hv H' (.own 1 v' (List.map enc ys) :: L) → K v' H') : AppE P t t2 (.dl s [] .full) y H K :=
 appO_nilH hc.toSz hT hy hS hlen (fun v' H' h => hK v' H' (by rwa [flat_one enc hc] at h))
/-- what a part of a list of its own may be appended as -/
def ViewOf (P : Program) (H : AHeap) (sz : Nat) (u : AV) (ys : List AV) : Prop := ∀ (t2 : TypeId) (ti2 : TyA) (e2 : TypeId), tyA P t2 = some ti2 → ti2.kind = .slice e2 → AppSrcH P H t2 sz u ys
theorem ViewOf.src {ys : List AV} {u : AV} {t2 e2 : TypeId} {ti2 : TyA} (h : ViewOf P H sz u ys) (h1 : tyA P t2 = some ti2) (h2 : ti2.kind = .slice e2) : AppSrcH P H t2 sz u ys := h t2 ti2 e2 h1 h2
theorem flatE_drop (hc : SzC sz enc) : ∀ (l : List α) (a : Nat), List.drop (a * sz) (flat (List.map enc l)) = flat (List.map enc (List.drop a l))
 | l, 0 => by simp
 | [], a + 1 => by simp [flat]
 | x :: l, a + 1 => by
  rw [List.map_cons, flat_cons, List.drop_succ_cons, ← flatE_drop hc l a, Nat.succ_mul, Nat.add_comm, ← List.drop_drop]
  congr 1
  rw [← hc x, List.drop_left]
theorem flatE_take (hc : SzC sz enc) : ∀ (l : List α) (a : Nat), List.take (a * sz) (flat (List.map enc l)) = flat (List.map enc (List.take a l))
 | l, 0 => by simp [flat]
 | [], a + 1 => by simp [flat]
 | x :: l, a + 1 => by
  rw [List.map_cons, flat_cons, List.take_succ_cons, List.map_cons, flat_cons, ← flatE_take hc l a, Nat.succ_mul, Nat.add_comm]
  have h : (enc x).cells.length = sz := hc x
  rw [← h, List.take_length_add_append]
/-- a part of a list of its own -/
theorem slice_own {e : TypeId} {ti te : TyA} {lo hi : Option AV} {a b : Nat} (ht : tyA P t = some ti) (hk : ti.kind = .slice e) (he : tyA P e = some te) (hsz : te.size = sz) (hc : SzC sz enc) (h0 : 0 < sz) (hp : Pull L (.own sz v (flat (List.map enc l))) L') (hS : Hv H L)
  (hl : bnd 0 lo = some a) (hh : bnd l.length hi = some b) (hab : a ≤ b ∧ b ≤ l.length) (h : ∀ u, ViewOf P H sz u (List.map enc (List.drop a (List.take b l))) → K u H) : someK (sliceA P t v lo hi none) K H := by
 rcases (hS.pull hp).each _ (List.mem_cons_self ..) with ⟨s, rfl, hcs⟩ | ⟨id, len, rfl, hl2, hid⟩
 ·have := flat_map_nil hc h0 hcs
  subst this
  simp only [List.length_nil] at hh hab
  obtain ⟨hab1, hab2⟩ := hab
  obtain rfl : b = 0 := by omega
  obtain rfl : a = 0 := by omega
  refine ⟨_, by simp [sliceA, ht, hk, he, hl, hh]; rfl, h _ ?_⟩
  intro t2 ti2 e2 h1 h2
  exact ⟨_, wkD.refl _, .inl (by simp [srcA, h1, h2])⟩
 ·obtain rfl := flat_map_len hc h0 hl2
  refine ⟨if a = b ∧ a ≠ 0 then .dl sz [] .none else .sl sz id (a * sz) (b - a), by simp only [sliceA, ht, hk, he, hl, hh, hab, hsz, true_and, and_self, Option.isNone_none, if_true, Nat.zero_add]; split <;> rfl, ?_⟩
  have hlt : (List.drop a (List.take b l)).length = b - a := by simp; omega
  by_cases hz : a = b ∧ a ≠ 0
  ·rw [if_pos hz]
   refine h _ ?_
   intro t2 ti2 e2 h1 h2
   have : List.drop a (List.take b l) = [] := List.eq_nil_of_length_eq_zero (by omega)
   rw [this]
   exact ⟨_, wkD.refl _, .inl (by simp [srcA, h1, h2])⟩
  ·rw [if_neg hz]
   refine h _ ?_
   intro t2 ti2 e2 h1 h2
   refine ⟨_, wkD.refl _, .inr ⟨ti2, e2, id, a * sz, _, h1, h2, by rw [List.length_map, hlt], hid, ?_, ?_, ?_⟩⟩
   ·rw [List.length_map, hlt, hc.flat, ← Nat.add_mul]
    exact Nat.mul_le_mul_right _ (by omega)
   ·intro x hx
    obtain ⟨y, _, rfl⟩ := List.mem_map.1 hx
    exact hc y
   ·rw [List.length_map, hlt, flatE_drop hc, flatE_take hc, List.take_drop, Nat.add_sub_cancel' hab.1]
theorem slice_own1 {e : TypeId} {ti te : TyA} {lo hi : Option AV} {a b : Nat} (ht : tyA P t = some ti) (hk : ti.kind = .slice e) (he : tyA P e = some te) (hsz : te.size = 1) (hc : OneC enc) (hp : Pull L (.own 1 v (List.map enc l)) L') (hS : Hv H L)
  (hl : bnd 0 lo = some a) (hh : bnd l.length hi = some b) (hab : a ≤ b ∧ b ≤ l.length) (h : ∀ u, ViewOf P H 1 u (List.map enc (List.drop a (List.take b l))) → K u H) : someK (sliceA P t v lo hi none) K H :=
 slice_own ht hk he hsz hc.toSz (by decide) (by rw [flat_one enc hc]; exact hp) hS hl hh hab h
theorem own_view (hc : SzC sz enc) (h0 : 0 < sz) (hp : Pull L (.own sz v (flat (List.map enc l))) L') (hS : Hv H L) : ViewOf P H sz v (List.map enc l) := by
 intro t2 ti2 e2 h1 h2
 rcases (hS.pull hp).each _ (List.mem_cons_self ..) with ⟨s, rfl, hcs⟩ | ⟨id, len, rfl, hl2, hid⟩
 ·have := flat_map_nil hc h0 hcs
  subst this
  exact ⟨_, wkD.refl _, .inl (by simp [srcA, h1, h2])⟩
 ·obtain rfl := flat_map_len hc h0 hl2
  refine ⟨_, wkD.refl _, .inr ⟨ti2, e2, id, 0, _, h1, h2, by rw [List.length_map], hid, ?_, ?_, ?_⟩⟩
  ·rw [List.length_map, hl2]; omega
  ·intro x hx
   obtain ⟨y, _, rfl⟩ := List.mem_map.1 hx
   exact hc y
  ·rw [List.length_map, ← hl2, List.drop_zero, List.take_length]
theorem own_view1 (hc : OneC enc) (hp : Pull L (.own 1 v (List.map enc l)) L') (hS : Hv H L) : ViewOf P H 1 v (List.map enc l) :=
 own_view hc.toSz (by decide) (by rw [flat_one enc hc]; exact hp) hS
/-! a list of its own whose block has a name: its value stays told by v -/
theorem ownF {id len : Nat} (hv : v = .sl sz id 0 len) : (AV.cells v = [v]) ∧ (isUndef v = false) ∧ (AV.one v = true) := by subst hv; exact ⟨rfl, rfl, rfl⟩
theorem Hv.reown {id len : Nat} {cs : List AV} (hv : v = .sl sz id 0 len) (hp : Pull L (.obj id (.cells cs)) L') (hl : cs.length = len * sz) (hS : Hv H L) : Hv H (.own sz v cs :: L') := by
 have h := hS.pull hp
 subst hv
 exact h.as (y := .own sz (.sl sz id 0 len) cs) (.inr ⟨_, _, rfl, hl, h.each (.obj _ _) (List.mem_cons_self ..)⟩) (fun i hi => hi)
theorem idx_v {e : TypeId} {ti te : TyA} {id len : Nat} {k : IntKind} {i : Int} (ht : tyA P t = some ti) (hk : ti.kind = .slice e) (he : tyA P e = some te) (hsz : te.size = sz) (hv : v = .sl sz id 0 len) (hi : 0 ≤ i ∧ i < (len : Int)) (h : K (.ptr id (i.toNat * sz)) H) : someK (indexAddrA P t v (.int k i)) K H := by
 subst hv
 exact ⟨_, by simp [indexAddrA, ht, hk, he, hsz, hi.1, hi.2], h⟩
theorem idx_v1 {e : TypeId} {ti te : TyA} {id len : Nat} {k : IntKind} {i : Int} (ht : tyA P t = some ti) (hk : ti.kind = .slice e) (he : tyA P e = some te) (hsz : te.size = 1) (hv : v = .sl 1 id 0 len) (hi : 0 ≤ i ∧ i < (len : Int)) (h : K (.ptr id i.toNat) H) : someK (indexAddrA P t v (.int k i)) K H :=
 idx_v ht hk he hsz hv hi (by rw [Nat.mul_one]; exact h)
theorem len_v {ti : TyA} {e : TypeId} {id len : Nat} (ht : tyA P t = some ti) (hk : ti.kind = .slice e) (hv : v = .sl sz id 0 len) (h : K (.int .i64 (len : Int)) H) : someK (lenA P H t v) K H := by
 subst hv
 exact ⟨_, by simp [lenA, ht, hk], h⟩
theorem atSlice {lo hi mx : Option AV} {x : AV} (h : someK (sliceA P t x lo hi mx) K H) : someK (sliceA P t x lo hi mx) K H := h
/-- the length of a list of its own -/
theorem len_own {ti : TyA} {e : TypeId} (ht : tyA P t = some ti) (hk : ti.kind = .slice e) (hc : SzC sz enc) (h0 : 0 < sz) (hp : Pull L (.own sz v (flat (List.map enc l))) L') (hS : Hv H L) (h : K (.int .i64 (l.length : Int)) H) : someK (lenA P H t v) K H := by
 rcases (hS.pull hp).each _ (List.mem_cons_self ..) with ⟨s, rfl, hcs⟩ | ⟨id, len, rfl, hl, hid⟩
 ·have := flat_map_nil hc h0 hcs
  subst this
  exact ⟨_, by simp [lenA, ht, hk], h⟩
 ·obtain rfl := flat_map_len hc h0 hl
  exact ⟨_, by simp [lenA, ht, hk], h⟩
theorem len_own1 {ti : TyA} {e : TypeId} (ht : tyA P t = some ti) (hk : ti.kind = .slice e) (hc : OneC enc) (hp : Pull L (.own 1 v (List.map enc l)) L') (hS : Hv H L) (h : K (.int .i64 (l.length : Int)) H) : someK (lenA P H t v) K H :=
 len_own ht hk hc.toSz (by decide) (by rw [flat_one enc hc]; exact hp) hS h
/-- a list of its own is nothing or a block -/
theorem split_own {G : AV → Prop} (hc : SzC sz enc) (h0 : 0 < sz) (hp : Pull L (.own sz v (flat (List.map enc l))) L') (hS : Hv H L) (hn : l = [] → ∀ s, G (.dl s [] .full)) (hb : ∀ id, Hv H (.obj id (.cells (flat (List.map enc l))) :: L') → G (.sl sz id 0 l.length)) : G v := by
 have hs := hS.pull hp
 rcases hs.each _ (List.mem_cons_self ..) with ⟨s, rfl, hcs⟩ | ⟨id, len, rfl, hl, hid⟩
 ·exact hn (flat_map_nil hc h0 hcs) s
 ·obtain rfl := flat_map_len hc h0 hl
  exact hb id (hs.as hid (fun i hi => hi))
theorem split_own1 {G : AV → Prop} (hc : OneC enc) (hp : Pull L (.own 1 v (List.map enc l)) L') (hS : Hv H L) (hn : l = [] → ∀ s, G (.dl s [] .full)) (hb : ∀ id, Hv H (.obj id (.cells (List.map enc l)) :: L') → G (.sl 1 id 0 l.length)) : G v :=
 split_own (G := G) hc.toSz (by decide) (by rw [flat_one enc hc]; exact hp) hS hn (fun id h => hb id (by rwa [flat_one enc hc] at h))
theorem atLen {x : AV} (h : someK (lenA P H t x) K H) : someK (lenA P H t x) K H := h
theorem atIdx {x i : AV} (h : someK (indexAddrA P t x i) K H) : someK (indexAddrA P t x i) K H := h
end
end Go.Av
namespace Go.Av
open Go.RowKit
section
variable {P : Program} {B : Nat} {w0 : World} {H : AHeap} {K : AV → AHeap → Prop} {L L' L2 : List Item} {t : TypeId} {v x : AV}
theorem sto_own {te : TyA} {id off sz : Nat} {cs ocs : List AV} (ht : tyA P t = some te) (hp : Pull L (.own sz v ocs) L2) (hq : Pull L (.obj id (.cells cs)) L') (hS : Hv H L) (h4 : te.size = 1) (h5 : off + 1 ≤ cs.length)
  (hK : ∀ H', Hv H' (.obj id (.cells (putA cs off [v])) :: L') → K .undef H') : StoE P t (.ptr id off) v H K := by
 have hv : v.cells = [v] ∧ okCells v = true := by
  rcases (hS.pull hp).each _ (List.mem_cons_self ..) with ⟨s, rfl, _⟩ | ⟨i, len, rfl, _⟩ <;> exact ⟨rfl, rfl⟩
 refine sto_go ht hq hS hv.2 (by rw [hv.1, h4]; rfl) (by rw [h4]; exact h5) ?_
 rw [hv.1]; exact hK
theorem atRetF (h : RetF K x H) : RetF K x H := h
end
end Go.Av
namespace Go.Av
theorem RetF.ownT {K : AV → AHeap → Prop} {H : AHeap} {L L' : List Item} {α : Type} {enc : α → AV} {l : List α} {id len : Nat} {v v' : AV} (hc : OneC enc) (hN : Need0 (.obj id (.cells (List.map enc l)) :: L') L) (hr : Rep (.sl 1 id 0 len) (.dl 1 (List.map enc (List.take len l)) .none) v v') (hS : Hv H L) (hl : len ≤ l.length) (h : ∀ H', Hv H' L' → RetF K v' H') : RetF K v H := by
 have hs := hS.need0 hN
 have hf : H[id]? = some (.cells (List.map enc l)) := hs.each _ (List.mem_cons_self ..)
 refine RetF.frzT (cs := List.map enc l) (by rw [← List.map_take]; exact hr) hf (by simpa using hl) (fun c hc' => by obtain ⟨x, _, rfl⟩ := List.mem_map.1 hc'; exact hc x) (h _ ?_)
 exact (hs.set (y := .tl .full) rfl .dead (.inl rfl) (fun j h => by cases h)).drop
end Go.Av
namespace Go.Av
open Go.RowKit
theorem split9 {H : AHeap} {L L' : List Item} {sz : Nat} {v : AV} {α : Type} {enc : α → AV} {l : List α} (hc : SzC sz enc) (h0 : 0 < sz) (hp : Pull L (.own sz v (flat (List.map enc l))) L') (hS : Hv H L) : (l = [] ∧ ∃ s, v = .dl s [] .full) ∨ ∃ id, v = .sl sz id 0 l.length ∧ Hv H (.obj id (.cells (flat (List.map enc l))) :: L') :=
 split_own (G := fun v => (l = [] ∧ ∃ s, v = .dl s [] .full) ∨ ∃ id, v = .sl sz id 0 l.length ∧ Hv H (.obj id (.cells (flat (List.map enc l))) :: L')) hc h0 hp hS (fun hl s => .inl ⟨hl, s, rfl⟩) (fun id h => .inr ⟨id, rfl, h⟩)
theorem split91 {H : AHeap} {L L' : List Item} {v : AV} {α : Type} {enc : α → AV} {l : List α} (hc : OneC enc) (hp : Pull L (.own 1 v (List.map enc l)) L') (hS : Hv H L) : (l = [] ∧ ∃ s, v = .dl s [] .full) ∨ ∃ id, v = .sl 1 id 0 l.length ∧ Hv H (.obj id (.cells (List.map enc l)) :: L') :=
 split_own1 (G := fun v => (l = [] ∧ ∃ s, v = .dl s [] .full) ∨ ∃ id, v = .sl 1 id 0 l.length ∧ Hv H (.obj id (.cells (List.map enc l)) :: L')) hc hp hS (fun hl s => .inl ⟨hl, s, rfl⟩) (fun id h => .inr ⟨id, rfl, h⟩)
end Go.Av
namespace Go.Av
/-! short names -/
theorem pH {x : Item} {l : List Item} : Pull (x :: l) x l := .here
theorem pT {l l' : List Item} {x z : Item} (h : Pull l x l') : Pull (z :: l) x (z :: l') := .there h
section
variable {l l' : List AV} {x y : AV}
theorem kZ : Wk [] [] := Wk.nil
theorem kR (k : Wk l l') : Wk (x :: l) (x :: l') := Wk.r k
theorem kF {s s' : Nat} (k : Wk l l') : Wk (.dl s [] .full :: l) (.dl s' [] .full :: l') := Wk.cons (wkV.nilf _ _) k
theorem kN {s s' : Nat} {tl : Tail} (k : Wk l l') : Wk (.dl s [] .none :: l) (.dl s' [] tl :: l') := Wk.cons (wkV.nil _ _ _) k
theorem kE {α : Type} {enc : α → AV} {s s' : Nat} {tl : Tail} (k : Wk l l') : Wk (.dl s (List.map enc ([] : List α)) .none :: l) (.dl s' [] tl :: l') := Wk.cons (wkN0 enc _ _ _) k
theorem kI {c : IntKind} {a : Int} {tl : Tail} (k : Wk l l') : Wk (.dl 1 (List.map (AV.int c) [a]) .none :: l) (.dl 1 [.int c a] tl :: l') := Wk.cons (wkI1 _ _ _) k
theorem kT {s : Nat} {es : List AV} {tl : Tail} (k : Wk l l') : Wk (.dl s es .none :: l) (.dl s es tl :: l') := Wk.cons (wkV.tail _ _ _) k
theorem kU (k : Wk l l') : Wk (.undef :: l) (y :: l') := Wk.u k
theorem aZ : WkA [] [] := WkA.nil
theorem aR (k : WkA l l') : WkA (x :: l) (x :: l') := WkA.r k
theorem aF {s s' : Nat} (k : WkA l l') : WkA (.dl s [] .full :: l) (.dl s' [] .full :: l') := WkA.cons (wkA.v (wkV.nilf _ _)) k
theorem aN {s s' : Nat} {tl : Tail} (k : WkA l l') : WkA (.dl s [] .none :: l) (.dl s' [] tl :: l') := WkA.cons (wkA.v (wkV.nil _ _ _)) k
theorem aT {s : Nat} {es : List AV} {tl : Tail} (k : WkA l l') : WkA (.dl s es .none :: l) (.dl s es tl :: l') := WkA.cons (wkA.v (wkV.tail _ _ _)) k
theorem aG {cs cs' : List AV} (h : Wk cs cs') (k : WkA l l') : WkA (.agg cs :: l) (.agg cs' :: l') := WkA.cons (wkA.agg h) k
end
section
variable {h h' n : List Item} {x : Item}
theorem nD : Need h h := .done
theorem nT (p : Pull h x h') (k : Need n h') : Need (x :: n) h := .take p k
theorem nW {id : Nat} {cs cs0 : List AV} (p : Pull h (.obj id (.cells cs)) h') (hw : Wk cs0 cs) (k : Need n h') : Need (.obj id (.cells cs0) :: n) h := .takew p hw k
theorem nX (k : Need n h) : Need n (x :: h) := .drop k
theorem nF (k : Need n h) : Need (.tl .full :: n) h := .full k
theorem nO {sz id len : Nat} {cs : List AV} (p : Pull h (.obj id (.cells cs)) h') (hl : cs.length = len * sz) (k : Need n h') : Need (.own sz (.sl sz id 0 len) cs :: n) h := .own p hl k
theorem nE {sz s : Nat} (k : Need n h) : Need (.own sz (.dl s [] .full) [] :: n) h := .own0 k
theorem nV {sz id len : Nat} {v : AV} {cs : List AV} (hv : v = .sl sz id 0 len) (p : Pull h (.obj id (.cells cs)) h') (hl : cs.length = len * sz) (k : Need n h') : Need (.own sz v cs :: n) h := by subst hv; exact .own p hl k
theorem mV {sz id len : Nat} {v : AV} {cs : List AV} (hv : v = .sl sz id 0 len) (p : Pull h (.obj id (.cells cs)) h') (hl : cs.length = len * sz) (k : Need0 n h') : Need0 (.own sz v cs :: n) h := by subst hv; exact .own p hl k
theorem mD : Need0 h h := .done
theorem mT (p : Pull h x h') (k : Need0 n h') : Need0 (x :: n) h := .take p k
theorem mX (k : Need0 n h) : Need0 n (x :: h) := .drop k
theorem mF (k : Need0 n h) : Need0 (.tl .full :: n) h := .full k
theorem mO {sz id len : Nat} {cs : List AV} (p : Pull h (.obj id (.cells cs)) h') (hl : cs.length = len * sz) (k : Need0 n h') : Need0 (.own sz (.sl sz id 0 len) cs :: n) h := .own p hl k
theorem mE {sz s : Nat} (k : Need0 n h) : Need0 (.own sz (.dl s [] .full) [] :: n) h := .own0 k
end
section
variable {s : List Slot} {a a' : List AV} {v x y : AV}
theorem sZ : W2 [] [] [] := W2.nil
theorem sD (h : W2 s a a') : W2 (.d :: s) (x :: a) (y :: a') := W2.d h
theorem sK (h : W2 s a a') : W2 (.k :: s) (x :: a) (x :: a') := W2.k h
theorem sP (h : W2 s a a') : W2 (.p v :: s) (x :: a) (v :: a') := W2.p h
theorem sF {t t' : Nat} (h : W2 s a a') : W2 (.p (.dl t [] .full) :: s) (x :: a) (.dl t' [] .full :: a') := W2.pw (wkV.nilf _ _) h
theorem sN {t t' : Nat} {tl : Tail} (h : W2 s a a') : W2 (.p (.dl t [] .none) :: s) (x :: a) (.dl t' [] tl :: a') := W2.pw (wkV.nil _ _ _) h
theorem sT {t : Nat} {es : List AV} {tl : Tail} (h : W2 s a a') : W2 (.p (.dl t es .none) :: s) (x :: a) (.dl t es tl :: a') := W2.pw (wkV.tail _ _ _) h
end
end Go.Av
namespace Go.Av
section
variable {x y : AV} {s s' : Nat} {es : List AV} {tl : Tail} {cs cs' : List AV}
theorem rR : wkR x x := wkR.a (wkA.refl _)
theorem rT : wkR (.dl s es .none) (.dl s es tl) := wkR.a (wkA.v (wkV.tail _ _ _))
theorem rF : wkR (.dl s [] .full) (.dl s' [] .full) := wkR.a (wkA.v (wkV.nilf _ _))
theorem rN : wkR (.dl s [] .none) (.dl s' [] tl) := wkR.a (wkA.v (wkV.nil _ _ _))
theorem rG (h : Wk cs cs') : wkR (.agg cs) (.agg cs') := wkR.a (wkA.agg h)
theorem rU (h : WkA cs cs') : wkR (.tup cs) (.tup cs') := wkR.tup h
end
section
variable {α : Type} {x : Option α} {r : α}
theorem gd1 {c : Prop} [Decidable c] (h : (if c then x else none) = some r) : (c = True) ∧ x = some r := guard1 h
theorem gd2 {c d : Prop} [Decidable (c ∧ d)] (h : (if c ∧ d then x else none) = some r) : ((c = True) ∧ (d = True)) ∧ x = some r := guard2 h
theorem gd3 {c d e : Prop} [Decidable (c ∧ d ∧ e)] (h : (if c ∧ d ∧ e then x else none) = some r) : ((c = True) ∧ (d = True) ∧ (e = True)) ∧ x = some r := guard3 h
theorem gd4 {c d e f : Prop} [Decidable (c ∧ d ∧ e ∧ f)] (h : (if c ∧ d ∧ e ∧ f then x else none) = some r) : ((c = True) ∧ (d = True) ∧ (e = True) ∧ (f = True)) ∧ x = some r := guard4 h
end
/-- A loop, round by round. -/
def unr (P : Program) (B : Nat) (w0 : World) (rd : Option Nat) (c : Code) (Q : Exit → List AV → AHeap → Prop) : Nat → List AV → AHeap → Prop
 | 0, _, _ => False
 | n + 1, a, H => AWP P B w0 rd c (thenQ (unr P B w0 rd c Q n) Q) a H
theorem AWP.unroll {P : Program} {B : Nat} {w0 : World} {rd : Option Nat} {c : Code} {Q : Exit → List AV → AHeap → Prop} {a : List AV} {H : AHeap} (n : Nat) (h : unr P B w0 rd c Q n a H) : AWP P B w0 rd (.loop c) Q a H := by
 refine AWP.loop (σ := Nat × List AV) (fun s => s.2) (fun s H' => unr P B w0 rd c Q s.1 s.2 H') (fun s => s.1) ⟨(n, a), Wk.refl _, h⟩ ?_
 rintro ⟨k, s⟩ H' h _
 cases k with
 | zero => exact h.elim
 | succ k => exact h.mono (thenQ_mono fun a' H'' h => ⟨(k, a'), Wk.refl _, h, Nat.lt_succ_self k⟩)
theorem atUnr {P : Program} {B : Nat} {w0 : World} {rd : Option Nat} {Y : Hand} (hY : YSound P B w0 Y) {c : Code} {Q : Exit → List AV → AHeap → Prop} {a : List AV} {H : AHeap} {n : Nat} (h : eawp P B w0 rd Y c (thenQ (unr P B w0 rd c Q n) Q) a H) : unr P B w0 rd c Q (n + 1) a H :=
 eawp_sound hY _ _ _ _ h

theorem oneSl (a b c d : Nat) : AV.one (.sl a b c d) = true := rfl
theorem oneInt (k : IntKind) (i : Int) : AV.one (.int k i) = true := rfl
theorem oneDl (n : Nat) (l : List AV) (t : Tail) : AV.one (.dl n l t) = true := rfl
theorem oneStr (l : List UInt8) : AV.one (.str l) = true := rfl
theorem oneBool (b : Bool) : AV.one (.bool b) = true := rfl

end Go.Av
end

section
namespace Go.Av
section
variable {α : Type} {enc : α → AV} {sz : Nat}
theorem flat_at [Inhabited α] (hc : SzC sz enc) : ∀ (l : List α) (i : Nat), i < l.length → (flat (List.map enc l)).drop (i * sz) = (enc (rdn l i)).cells ++ flat (List.map enc (l.drop (i + 1)))
 | [], _, h => by simp at h
 | x :: l, 0, _ => by simp [flat, rdn]
 | x :: l, i + 1, h => by
  have := flat_at hc l i (by simpa using h)
  have e : (i + 1) * sz = sz + i * sz := by rw [Nat.succ_mul, Nat.add_comm]
  rw [List.map_cons, show flat (enc x :: List.map enc l) = (enc x).cells ++ flat (List.map enc l) from rfl, e, ← List.drop_drop, List.drop_left' (hc x), this]
  rfl
theorem flat_tk (hc : SzC sz enc) : ∀ (l : List α) (i : Nat), (flat (List.map enc l)).take (i * sz) = flat (List.map enc (l.take i))
 | [], i => by simp [flat]
 | x :: l, 0 => by simp [flat]
 | x :: l, i + 1 => by
  have := flat_tk hc l i
  have e : (i + 1) * sz = sz + i * sz := by rw [Nat.succ_mul, Nat.add_comm]
  rw [List.map_cons, show flat (enc x :: List.map enc l) = (enc x).cells ++ flat (List.map enc l) from rfl, e, List.take_add, List.take_left' (hc x), List.drop_left' (hc x), this]
  rfl
theorem headW [Inhabited α] (hc : SzC sz enc) (l : List α) (i f : Nat) (hf : f < sz) (h : i < l.length) : ((flat (List.map enc l)).drop (i * sz + f)).head? = (enc (rdn l i)).cells[f]? := by
 rw [← List.drop_drop, flat_at hc l i h, List.head?_drop, List.getElem?_append_left (by rw [hc]; exact hf)]
theorem takeW [Inhabited α] (hc : SzC sz enc) (l : List α) (i : Nat) (h : i < l.length) : ((flat (List.map enc l)).drop (i * sz)).take sz = (enc (rdn l i)).cells := by
 rw [flat_at hc l i h, List.take_left' (hc _)]
theorem lenW [Inhabited α] (hc : SzC sz enc) (l : List α) (i : Nat) (h : i < l.length) : sz ≤ ((flat (List.map enc l)).drop (i * sz)).length := by
 rw [flat_at hc l i h, List.length_append, hc]; omega
theorem putW [Inhabited α] (hc : SzC sz enc) (l : List α) (i f : Nat) (c : AV) (upd : α) (hu : (enc upd).cells = (enc (rdn l i)).cells.set f c) (hf : f < sz) (h : i < l.length) :
  putA (flat (List.map enc l)) (i * sz + f) [c] = flat (List.map enc (l.set i upd)) := by
 have hlen : (flat (List.map enc l)).length = l.length * sz := SzC.flat hc l
 have h1 : (i + 1) * sz ≤ l.length * sz := Nat.mul_le_mul_right _ h
 have h2 : (i + 1) * sz = i * sz + sz := Nat.succ_mul ..
 have e1 : putA (flat (List.map enc l)) (i * sz + f) [c] = (flat (List.map enc l)).set (i * sz + f) c := by
  unfold putA
  rw [List.set_eq_take_append_cons_drop, if_pos (by omega)]
  simp
 have e2 : flat (List.map enc l) = flat (List.map enc (l.take i)) ++ ((enc (rdn l i)).cells ++ flat (List.map enc (l.drop (i + 1)))) := by
  rw [← flat_tk hc, ← flat_at hc l i h, List.take_append_drop]
 have h3 : (flat (List.map enc (l.take i))).length = i * sz := by
  rw [SzC.flat hc, List.length_take, Nat.min_eq_left (by omega)]
 rw [e1, e2, List.set_append_right _ _ (by omega), h3, Nat.add_sub_cancel_left, List.set_append_left _ _ (by rw [hc]; exact hf), ← hu]
 rw [List.set_eq_take_append_cons_drop, if_pos h]
 simp [flat]
variable {P : Program} {L L' : List Item} {H : AHeap} {K : AV → AHeap → Prop}
/-- a field of an element of a list of one's own is written -/
theorem stoW [Inhabited α] (enc : α → AV) {t : TypeId} {y c : AV} {te : TyA} {id i f : Nat} {l : List α} (upd : α) (ht : tyA P t = some te) (hp : Pull L (.obj id (.cells (flat (List.map enc l)))) L') (hS : Hv H L) (h6 : te.size = 1) (hv : wkD c y) (h1 : c.cells = [c]) (hk : okCells c = true) (hc : SzC sz enc)
  (hu : (enc upd).cells = (enc (rdn l i)).cells.set f c) (hf : f < sz) (hl : i < l.length)
  (hK : ∀ (H' : AHeap), Hv H' (.obj id (.cells (flat (List.map enc (List.set l i upd)))) :: L') → K .undef H') : StoE P t (.ptr id (i * sz + f)) y H K := by
 have hlen : (flat (List.map enc l)).length = l.length * sz := SzC.flat hc l
 have h2 : (i + 1) * sz ≤ l.length * sz := Nat.mul_le_mul_right _ hl
 have h3 : (i + 1) * sz = i * sz + sz := Nat.succ_mul ..
 refine sto_goW ht hv hp hS hk (by rw [h1, h6]; rfl) (by rw [h6]; omega) ?_
 intro H' h
 rw [h1, putW hc l i f c upd hu hf hl] at h
 exact hK H' h
theorem stoW0 [Inhabited α] (enc : α → AV) {t : TypeId} {y c : AV} {te : TyA} {id i : Nat} {l : List α} (upd : α) (ht : tyA P t = some te) (hp : Pull L (.obj id (.cells (flat (List.map enc l)))) L') (hS : Hv H L) (h6 : te.size = 1) (hv : wkD c y) (h1 : c.cells = [c]) (hk : okCells c = true) (hc : SzC sz enc)
  (hu : (enc upd).cells = (enc (rdn l i)).cells.set 0 c) (hf : 0 < sz) (hl : i < l.length)
  (hK : ∀ (H' : AHeap), Hv H' (.obj id (.cells (flat (List.map enc (List.set l i upd)))) :: L') → K .undef H') : StoE P t (.ptr id (i * sz)) y H K :=
 stoW (f := 0) enc upd ht hp hS h6 hv h1 hk hc hu hf hl hK
/-- make: a list of one's own, of zeros -/
theorem makeO {d : α} {t e : TypeId} {ti te : TyA} {z : AV} {k k' : IntKind} {x : Int} {N : Int} (hc : SzC sz enc) (h0 : 0 < sz) (h1 : tyA P t = some ti) (h2 : ti.kind = .slice e) (h3 : tyA P e = some te) (h4 : te.zero = some z) (hz : enc d = z) (h6 : te.size = sz) (hone : z.cells.all AV.one = true)
  (hN : N.toNat * te.bytes ≤ 140737488355328) (hN2 : N ≤ 4611686018427387904) (hS : Hv H L) (hx : 0 ≤ x ∧ x ≤ N) (hK : ∀ (v : AV) (H' : AHeap), Hv H' (.own sz v (flat (List.map enc (List.replicate x.toNat d))) :: L) → K v H') : MakeQ P t (.int k x) (.int k' x) H K := by
 have hx' : x = ((x.toNat : Nat) : Int) := by omega
 have hl : (flat (List.map enc (List.replicate x.toNat d))).length = x.toNat * sz := by rw [SzC.flat hc, List.length_replicate]
 have hr : List.map enc (List.replicate x.toNat d) = List.replicate x.toNat z := by rw [List.map_replicate, hz]
 refine ⟨ti, e, te, z, k, k', x.toNat, h1, h2, h3, h4, by rw [← hz, hc, h6], hone, by omega, by rw [← hx'], by rw [← hx'], Nat.le_trans (Nat.mul_le_mul_right _ (by omega)) hN, by omega, fun q => ?_, fun q => ?_⟩
 ·refine hK _ _ (hS.free (.inl ⟨te.size, rfl, ?_⟩) rfl)
  rw [q]; rfl
 ·refine hK _ _ (hS.push _ (.inr ⟨H.length, x.toNat, by rw [h6], hl, ?_⟩) (fun i h => by cases h; rfl))
  rw [get_new, hr]
theorem makeO1 {d : α} {t e : TypeId} {ti te : TyA} {z : AV} {k k' : IntKind} {x : Int} {N : Int} (hc : OneC enc) (h1 : tyA P t = some ti) (h2 : ti.kind = .slice e) (h3 : tyA P e = some te) (h4 : te.zero = some z) (hz : enc d = z) (h6 : te.size = 1) (hone : z.cells.all AV.one = true)
  (hN : N.toNat * te.bytes ≤ 140737488355328) (hN2 : N ≤ 4611686018427387904) (hS : Hv H L) (hx : 0 ≤ x ∧ x ≤ N) (hK : ∀ (v : AV) (H' : AHeap), Hv H' (.own 1 v (List.map enc (List.replicate x.toNat d)) :: L) → K v H') : MakeQ P t (.int k x) (.int k' x) H K :=
 makeO hc.toSz (by decide) h1 h2 h3 h4 hz h6 hone hN hN2 hS hx (fun v H' h => hK v H' (by rwa [flat_one enc hc] at h))
theorem WkA.same : ∀ (a : List AV), WkA a a
 | [] => WkA.nil
 | _ :: a => WkA.r (WkA.same a)
theorem WkA.setL : ∀ {a : List AV} {t : Nat} {y v : AV}, a[t]? = some y → wkA v y → WkA (a.set t v) a
 | x :: a, 0, y, v, h, hw => by simp at h; subst h; exact WkA.cons hw (WkA.same a)
 | x :: a, t + 1, y, v, h, hw => WkA.cons (wkA.refl x) (WkA.setL (by simpa using h) hw)
 | [], _, _, _, h, _ => by simp at h
/-- a literal list of slices: less is said of its elements -/
theorem AWP.wkLit {B : Nat} {w0 : World} {rd : Option Nat} {c : Code} {Q : Exit → List AV → AHeap → Prop} {a : List AV} (t : Nat) {es es' : List AV} {tl : Tail} (ht : a[t]? = some (.dl 1 es' tl)) (h1 : flat es = es) (h2 : flat es' = es') (hl : es.length = es'.length) (hs : es.all (fun e => e.cells.length == 1) = true) (hw : Wk es es')
  (h : AWP P B w0 rd c Q (a.set t (.dl 1 es tl)) H) : AWP P B w0 rd c Q a H :=
 AWP.wkT (WkA.setL ht (.inl (wkD.elems hl (fun e he => by have := List.all_eq_true.1 hs e he; simpa using this) (by rw [h1, h2]; exact hw)))) h
theorem AWP.litAt {B : Nat} {w0 : World} {rd : Option Nat} {c : Code} {Q : Exit → List AV → AHeap → Prop} {a : List AV} (t : Nat) {es : List AV} {tl : Tail} (_ : a[t]? = some (.dl 1 es tl)) (h : AWP P B w0 rd c Q a H) : AWP P B w0 rd c Q a H := h
theorem allU8_enc : ∀ (l : List Int), allU8 (List.map (AV.int .u8) l) = some l
 | [] => rfl
 | x :: l => by rw [List.map_cons]; show (allU8 (List.map (AV.int .u8) l)).map (x :: ·) = _; rw [allU8_enc l]; rfl
theorem atMake2 {K : AV → AHeap → Prop} {t : TypeId} {x y : AV} {H : AHeap} (d : Nat) (h : MakeQ P t x y H (kAt (some d) K)) : MakeQ P t x y H (kAt (some d) K) := h
end
end Go.Av
end

section
set_option linter.unusedSimpArgs false
set_option linter.unusedVariables false
namespace Go.Av
open Go.RowKit
/-! A closed call, reckoned by the kernel: a function that runs code over abstract states, and that what it answers is so. -/
section
variable {P : Program} {B : Nat} {w0 : World} {μ : Nat → Nat × Nat} {Z : Nat → Nat → Prop} {H : AHeap} {w w' : World}
theorem R.grow (hR : R B w0 μ Z H w) (hb : Below w.heap.size w w') : R B w0 μ Z H w' ∧ Ev μ Z H w μ Z H w' := by
 obtain ⟨b1, b2, b3, b4, b5⟩ := hb
 have hz : ∀ c o, Z c o → w'.cell? ⟨c, o, none⟩ = w.cell? ⟨c, o, none⟩ := fun c o h => World.cell?_of_block (a := ⟨c, o, none⟩) (b5 c (hR.zlt c o h))
 have hs : ∀ c, c < w.heap.size → w'.shape? c = w.shape? c := fun c hc => by unfold World.shape?; rw [b5 c hc]
 refine ⟨⟨hR.below.trans ⟨b1, b2, b3, b4, fun k hk => b5 k (by have := hR.hB; omega)⟩, by have := hR.hB; omega, fun c o h => by have := hR.zlt c o h; omega, fun id o hid => ?_, hR.inj⟩, ?_⟩
 ·have hlt := (List.getElem?_eq_some_iff.1 hid).1
  refine OR.keep (hR.obj id o hid) hlt (Nat.le_refl _) (fun _ _ => rfl) (fun _ _ h => h) hz hs b4 (fun ha => ?_) (fun _ h => h)
  exact b5 _ (hR.lt hid ha)
 ·exact ⟨Nat.le_refl _, fun _ _ => rfl, fun _ _ h => h, hz, hs, b4, fun c hc _ => b5 c hc, fun id o h ha => .inr ⟨id, o, h, ha, rfl⟩, fun _ _ h => .inl h⟩
/-- A call without arguments that answers alike from nothing answers so anywhere. -/
theorem ACall.closed {f : FuncId} {b : Bool} {K : AV → AHeap → Prop} (h : ∀ B w0, ACall P B w0 f [] [] (fun v _ => v = .bool b)) (hK : K (.bool b) H) : ACall P B w0 f [] H K := by
 refine ⟨(h B w0).1, fun μ Z w cargs hR hA => ?_⟩
 have h0 : VRs (fun _ => (0, 0)) (fun c _ => c < w.heap.size) w 0 [] cargs := ⟨hA.1, fun j v hj => by simp at hj⟩
 have h1 := (h w.heap.size w).2 _ _ _ cargs (R.start w) h0
 refine CallsIn.mono (F := FW none) h1 ?_
 rintro e w' ⟨v, cv, μ', Z', H', rfl, q2, q3, _, rfl⟩
 cases q3
 obtain ⟨r1, r2⟩ := hR.grow q2.below
 exact ⟨.bool b, _, μ, Z, H, rfl, r1, .bool _, r2, hK⟩
end
end Go.Av
end
