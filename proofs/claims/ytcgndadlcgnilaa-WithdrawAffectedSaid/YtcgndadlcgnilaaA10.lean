/- the layer over the model, part 10 -/
import Derived.Test.YtcgndadlcgnilaaProg
import Derived.KernelRfl
import Derived.Test.YtcgndadlcgnilaaA9
set_option autoImplicit false
set_option linter.unusedSimpArgs false
set_option linter.unusedVariables false
set_option linter.unnecessarySimpa false
section
set_option linter.unusedSimpArgs false
set_option linter.unusedVariables false
namespace Go.Av
open Go.RowKit
section
variable {P : Program} {B : Nat} {w0 : World} {H : AHeap} {μ : Nat → Nat × Nat} {Z Z' : Nat → Nat → Prop} {w : World} {n : Nat}
/-- A slice over a block of one's own becomes a value, whatever its elements' size. -/
theorem frzG_vr (hR : R B w0 μ Z H w) {id sz : Nat} {es : List AV} {cv : Value} (hid : H[id]? = some (.cells (flat es))) (hs : ∀ e, e ∈ es → e.cells.length = sz) (hv : VR μ Z w H.length (.sl sz id 0 es.length) cv) :
  VR μ (fun c o => Z c o ∨ (c = (μ id).1 ∧ (μ id).2 ≤ o ∧ o < (μ id).2 + (flat es).length)) w H.length (.dl sz es .none) cv := by
 obtain ⟨g1, g2, ccs, e, fr, g3, g4, g5, g6⟩ := hR.obj id _ hid
 have hcell : ∀ j, w.cell? ⟨(μ id).1, j, none⟩ = ccs[j]? := fun j => cell_of_row w _ _ ccs e fr g3
 cases hv with
 | sl _ _ _ _ cap q1 q2 q3 e' N q4 q5 =>
  have hF : ∀ j v, (flat es)[j]? = some v → ∃ u, w.cell? ⟨(μ id).1, (μ id).2 + 0 + j, none⟩ = some u ∧ u.oneCell' = true ∧ VR μ Z w H.length v u := by
   intro j v hj
   obtain ⟨v', p1, p2, p3⟩ := g6 _ _ hj
   exact ⟨v', by rw [hcell, ← p1, Nat.add_zero], p2, p3⟩
  exact VR.dl sz es .none (μ id).1 ((μ id).2 + 0) cap (fun j => (w.cell? ⟨(μ id).1, (μ id).2 + 0 + j, none⟩).getD default) hs q2
   (fun j v hj => by obtain ⟨u, p1, _, _⟩ := hF j v hj; simp only [p1, Option.getD_some])
   (fun j hj => .inr ⟨rfl, by omega, by omega⟩)
   (fun j v hj => by
    obtain ⟨u, p1, _, p3⟩ := hF j v hj
    simp only [p1, Option.getD_some]
    exact p3.mono (Nat.le_refl _) (fun _ _ => rfl) (fun _ _ h => .inl h) (fun _ _ _ => rfl) (fun _ _ => rfl))
   (fun j hj => by
    obtain ⟨u, p1, p2, _⟩ := hF j _ (List.getElem?_eq_getElem hj)
    simp only [p1, Option.getD_some]; exact p2)
   trivial

theorem frzT_vr (hR : R B w0 μ Z H w) {id len : Nat} {cs : List AV} {cv : Value} (hid : H[id]? = some (.cells cs)) (hl : len ≤ cs.length) (h1 : ∀ c, c ∈ cs → c.cells = [c]) (hv : VR μ Z w H.length (.sl 1 id 0 len) cv) :
  VR μ (fun c o => Z c o ∨ (c = (μ id).1 ∧ (μ id).2 ≤ o ∧ o < (μ id).2 + len)) w H.length (.dl 1 (cs.take len) .none) cv := by
 obtain ⟨g1, g2, ccs, e, fr, g3, g4, g5, g6⟩ := hR.obj id _ hid
 have hft : flat (cs.take len) = cs.take len := by
  have : ∀ l : List AV, (∀ c, c ∈ l → c.cells = [c]) → flat l = l := by
   intro l
   induction l with
   | nil => intro _; rfl
   | cons x l ih => intro h; rw [flat_cons, h x (by simp), ih (fun c hc => h c (by simp [hc]))]; rfl
  exact this _ (fun c hc => h1 c (List.mem_of_mem_take hc))
 have hlen : (cs.take len).length = len := by rw [List.length_take]; omega
 have hcell : ∀ j, w.cell? ⟨(μ id).1, j, none⟩ = ccs[j]? := fun j => cell_of_row w _ _ ccs e fr g3
 cases hv with
 | sl _ _ _ _ cap q1 q2 q3 e' N q4 q5 =>
  have hF : ∀ j v, (cs.take len)[j]? = some v → ∃ u, w.cell? ⟨(μ id).1, (μ id).2 + 0 + j, none⟩ = some u ∧ u.oneCell' = true ∧ VR μ Z w H.length v u := by
   intro j v hj
   rw [List.getElem?_take] at hj
   split at hj
   ·obtain ⟨v', p1, p2, p3⟩ := g6 _ _ hj
    exact ⟨v', by rw [hcell, ← p1, Nat.add_zero], p2, p3⟩
   ·cases hj
  have key := VR.dl (μ := μ) (Z := fun c o => Z c o ∨ (c = (μ id).1 ∧ (μ id).2 ≤ o ∧ o < (μ id).2 + len)) (w := w) (n := H.length) 1 (cs.take len) .none (μ id).1 ((μ id).2 + 0) cap
   (fun j => (w.cell? ⟨(μ id).1, (μ id).2 + 0 + j, none⟩).getD default) (fun x hx => by rw [h1 x (List.mem_of_mem_take hx)]; rfl) (by rw [hlen]; exact q2)
   (fun j v hj => by
    rw [hft] at hj
    obtain ⟨u, p1, _, _⟩ := hF j v hj
    simp only [p1, Option.getD_some])
   (fun j hj => by rw [hft, hlen] at hj; exact .inr ⟨rfl, by omega, by omega⟩)
   (fun j v hj => by
    rw [hft] at hj
    obtain ⟨u, p1, _, p3⟩ := hF j v hj
    simp only [p1, Option.getD_some]
    exact p3.mono (Nat.le_refl _) (fun _ _ => rfl) (fun _ _ h => .inl h) (fun _ _ _ => rfl) (fun _ _ => rfl))
   (fun j hj => by
    rw [hft] at hj
    obtain ⟨u, p1, p2, _⟩ := hF j _ (List.getElem?_eq_getElem hj)
    simp only [p1, Option.getD_some]; exact p2)
   trivial
  rw [hlen] at key
  exact key

/-- One place of a value is said otherwise. -/
inductive Rep (x y : AV) : AV → AV → Prop
 | here : Rep x y x y
 | agg {l : List AV} {v v' : AV} (j : Nat) (h : l[j]? = some v) (r : Rep x y v v') : Rep x y (.agg l) (.agg (l.set j v'))
 | tup {l : List AV} {v v' : AV} (j : Nat) (h : l[j]? = some v) (r : Rep x y v v') : Rep x y (.tup l) (.tup (l.set j v'))
theorem Rep.vr {x y : AV} (hz : ∀ c o, Z c o → Z' c o) (hx : ∀ cx, VR μ Z w n x cx → VR μ Z' w n y cx) {v v' : AV} (r : Rep x y v v') : ∀ {cv : Value}, VR μ Z w n v cv → VR μ Z' w n v' cv := by
 have mono : ∀ {u : AV} {cu : Value}, VR μ Z w n u cu → VR μ Z' w n u cu := fun h => h.mono (Nat.le_refl _) (fun _ _ => rfl) hz (fun _ _ _ => rfl) (fun _ _ => rfl)
 induction r with
 | here => exact fun h => hx _ h
 | @agg l v v' j h r ih =>
  intro cv hv
  cases hv with
  | agg _ vs hl f h1 h2 =>
   have hj := (List.getElem?_eq_some_iff.1 h).1
   refine .agg _ vs (by rw [List.length_set]; exact hl) f (fun i u hi => ?_) (fun i u hi => ?_)
   ·by_cases e : j = i
    ·subst e; exact h1 j _ h
    ·rw [List.getElem?_set_ne e] at hi; exact h1 i u hi
   ·by_cases e : j = i
    ·subst e
     rw [List.getElem?_set_self hj] at hi
     cases hi
     exact ih (h2 j _ h)
    ·rw [List.getElem?_set_ne e] at hi; exact mono (h2 i u hi)
 | @tup l v v' j h r ih =>
  intro cv hv
  cases hv with
  | tup _ vs hl f h1 h2 =>
   have hj := (List.getElem?_eq_some_iff.1 h).1
   refine .tup _ vs (by rw [List.length_set]; exact hl) f (fun i u hi => ?_) (fun i u hi => ?_)
   ·by_cases e : j = i
    ·subst e; exact h1 j _ h
    ·rw [List.getElem?_set_ne e] at hi; exact h1 i u hi
   ·by_cases e : j = i
    ·subst e
     rw [List.getElem?_set_self hj] at hi
     cases hi
     exact ih (h2 j _ h)
    ·rw [List.getElem?_set_ne e] at hi; exact mono (h2 i u hi)

/-- What a function comes to, where lists of its own become values. -/
inductive RetF (K : AV → AHeap → Prop) : AV → AHeap → Prop
 | ret {v : AV} {H : AHeap} (h : RetK K v H) : RetF K v H
 | frz {v v' : AV} {H : AHeap} {sz id : Nat} {es : List AV} (hr : Rep (.sl sz id 0 es.length) (.dl sz es .none) v v') (hid : H[id]? = some (.cells (flat es))) (hs : ∀ e, e ∈ es → e.cells.length = sz) (h : RetF K v' (H.set id .dead)) : RetF K v H
 | frzT {v v' : AV} {H : AHeap} {id len : Nat} {cs : List AV} (hr : Rep (.sl 1 id 0 len) (.dl 1 (cs.take len) .none) v v') (hid : H[id]? = some (.cells cs)) (hl : len ≤ cs.length) (h1 : ∀ c, c ∈ cs → c.cells = [c]) (h : RetF K v' (H.set id .dead)) : RetF K v H
 | nil {v v' : AV} {H : AHeap} {sz s : Nat} (hr : Rep (.dl s [] .full) (.dl sz [] .none) v v') (h : RetF K v' H) : RetF K v H
theorem ACall.retF {f : FuncId} {args : List AV} {K : AV → AHeap → Prop} (h : ACall P B w0 f args H (RetF K)) : ACall P B w0 f args H K :=
 ⟨h.1, fun μ Z w cargs h1 h2 => (h.2 μ Z w cargs h1 h2).mono (by
  rintro e w' ⟨v, cv, μ', Z', H', q1, q2, q3, q4, q5⟩
  have key : ∀ {v : AV} {H2 : AHeap}, RetF K v H2 → ∀ {Z2 : Nat → Nat → Prop}, R B w0 μ' Z2 H2 w' → VR μ' Z2 w' H2.length v cv → Ev μ Z H w μ' Z2 H2 w' →
    ∃ v cv' μ' Z' H', e = .returned cv' ∧ R B w0 μ' Z' H' w' ∧ VR μ' Z' w' H'.length v cv' ∧ Ev μ Z H w μ' Z' H' w' ∧ K v H' := by
   intro v H2 hk
   induction hk with
   | @ret v H2 h =>
    intro Z2 p1 p2 p3
    obtain ⟨v', H3, k1, k2, k3⟩ := h
    obtain ⟨r1, r2⟩ := p1.wkH k2
    exact ⟨v', cv, μ', Z2, H3, q1, r1, by rw [k2.1]; exact p2.weakR k1, p3.trans r2, k3⟩
   | @frz v v' H2 sz id es hr hid hs h ih =>
    intro Z2 p1 p2 p3
    have hZ : ∀ cx, VR μ' Z2 w' H2.length (.sl sz id 0 es.length) cx → VR μ' (fun c o => Z2 c o ∨ (c = (μ' id).1 ∧ (μ' id).2 ≤ o ∧ o < (μ' id).2 + (flat es).length)) w' H2.length (.dl sz es .none) cx := by
     intro cx hx
     exact frzG_vr p1 hid hs hx
    obtain ⟨r1, r2⟩ := p1.freeze hid (fun c o => Z2 c o ∨ (c = (μ' id).1 ∧ (μ' id).2 ≤ o ∧ o < (μ' id).2 + (flat es).length)) (fun _ _ h => .inl h) (fun c o h => h.imp (fun h => h) (·.1))
    exact ih r1 (by rw [List.length_set]; exact hr.vr (fun _ _ h => .inl h) hZ p2) (p3.trans r2)
   | @frzT v v' H2 id len cs hr hid hl h1 h ih =>
    intro Z2 p1 p2 p3
    obtain ⟨r1, r2⟩ := p1.freeze hid (fun c o => Z2 c o ∨ (c = (μ' id).1 ∧ (μ' id).2 ≤ o ∧ o < (μ' id).2 + len)) (fun _ _ h => .inl h) (fun c o h => h.imp (fun h => h) (·.1))
    exact ih r1 (by rw [List.length_set]; exact hr.vr (fun _ _ h => .inl h) (fun cx hx => frzT_vr p1 hid hl h1 hx) p2) (p3.trans r2)
   | @nil v v' H2 sz s hr h ih =>
    intro Z2 p1 p2 p3
    exact ih p1 (hr.vr (fun _ _ h => h) (fun cx hx => hx.weak (wkV.nil sz s .full)) p2) p3
  exact key q5 q2 q3 q4)⟩
end
end Go.Av
namespace Go.Av
open Go.RowKit
theorem flat_map_nil {α : Type} {enc : α → AV} {sz : Nat} (hc : SzC sz enc) (h0 : 0 < sz) {l : List α} (h : flat (List.map enc l) = []) : l = [] := by
 have := hc.flat l
 rw [h, List.length_nil] at this
 rcases Nat.mul_eq_zero.1 this.symm with h | h
 ·exact List.length_eq_zero_iff.1 h
 ·omega
theorem flat_map_len {α : Type} {enc : α → AV} {sz len : Nat} (hc : SzC sz enc) (h0 : 0 < sz) {l : List α} (h : (flat (List.map enc l)).length = len * sz) : len = l.length := by
 rw [hc.flat] at h
 exact (Nat.eq_of_mul_eq_mul_right h0 h).symm
section
variable {P : Program} {B : Nat} {w0 : World} {H : AHeap} {K : AV → AHeap → Prop} {L L' : List Item} {t t2 : TypeId} {sz n : Nat} {y v v' v0 : AV} {α : Type} {enc : α → AV} {l ys : List α}
theorem RetF.own (hc : SzC sz enc) (h0 : 0 < sz) (hN : Need0 (.own sz v0 (flat (List.map enc l)) :: L') L) (hr : Rep v0 (.dl sz (List.map enc l) .none) v v') (hS : Hv H L) (h : ∀ H', Hv H' L' → RetF K v' H') : RetF K v H := by
 have hs := hS.need0 hN
 rcases hs.each _ (List.mem_cons_self ..) with ⟨s, rfl, hcs⟩ | ⟨id, len, rfl, hl, hid⟩
 ·have := flat_map_nil hc h0 hcs
  subst this
  exact RetF.nil hr (h H hs.drop)
 ·obtain rfl := flat_map_len hc h0 hl
  refine RetF.frz (es := List.map enc l) (by rwa [List.length_map]) hid (fun e he => by obtain ⟨x, _, rfl⟩ := List.mem_map.1 he; exact hc x) (h _ ?_)
  exact (hs.set (y := .tl .full) rfl .dead (.inl rfl) (fun j h => by cases h)).drop
theorem RetF.own1 (hc : OneC enc) (hN : Need0 (.own 1 v0 (List.map enc l) :: L') L) (hr : Rep v0 (.dl 1 (List.map enc l) .none) v v') (hS : Hv H L) (h : ∀ H', Hv H' L' → RetF K v' H') : RetF K v H :=
 RetF.own hc.toSz (by decide) (by rw [flat_one enc hc]; exact hN) hr hS h
theorem vrs_tup {μ : Nat → Nat × Nat} {Z : Nat → Nat → Prop} {w : World} {n : Nat} {args : List AV} {cargs : Array Value} (h : VR μ Z w n (.tup args) (.tuple cargs)) : VRs μ Z w n args cargs := by
 cases h with
 | tup _ vs hl f h1 h2 => exact ⟨hl, fun j v hj => ⟨f j, h1 j v hj, h2 j v hj⟩⟩
theorem ACall.frzArg {f : FuncId} {args args' : List AV} (hc : SzC sz enc) (h0 : 0 < sz) (hN : Need0 (.own sz v0 (flat (List.map enc l)) :: L') L) (hr : Rep v0 (.dl sz (List.map enc l) .none) (.tup args) (.tup args')) (hS : Hv H L) (h : ∀ H', Hv H' L' → ACall P B w0 f args' H' K) : ACall P B w0 f args H K := by
 have hs := hS.need0 hN
 rcases hs.each _ (List.mem_cons_self ..) with ⟨s, rfl, hcs⟩ | ⟨id, len, rfl, hl, hid⟩
 ·have := flat_map_nil hc h0 hcs
  subst this
  have hk := h H hs.drop
  refine ⟨hk.1, fun μ Z w cargs h1 h2 => hk.2 μ Z w cargs h1 ?_⟩
  exact vrs_tup (hr.vr (fun _ _ h => h) (fun cx hx => hx.weak (wkV.nil sz s .full)) h2.tup)
 ·obtain rfl := flat_map_len hc h0 hl
  have hs' : ∀ e, e ∈ List.map enc l → e.cells.length = sz := fun e he => by obtain ⟨x, _, rfl⟩ := List.mem_map.1 he; exact hc x
  have hd : Hv (H.set id .dead) L' := (hs.set (y := .tl .full) rfl .dead (.inl rfl) (fun j h => by cases h)).drop
  have hk := h _ hd
  refine ⟨hk.1, fun μ Z w cargs h1 h2 => ?_⟩
  obtain ⟨r1, r2⟩ := h1.freeze hid (fun c o => Z c o ∨ (c = (μ id).1 ∧ (μ id).2 ≤ o ∧ o < (μ id).2 + (flat (List.map enc l)).length)) (fun _ _ h => .inl h) (fun c o h => h.imp (fun h => h) (·.1))
  have hv := vrs_tup (hr.vr (Z' := fun c o => Z c o ∨ (c = (μ id).1 ∧ (μ id).2 ≤ o ∧ o < (μ id).2 + (flat (List.map enc l)).length)) (fun _ _ h => .inl h) (fun cx hx => frzG_vr h1 hid hs' (by rwa [List.length_map])) h2.tup)
  refine (hk.2 μ _ w cargs r1 (by rw [List.length_set]; exact hv)).mono ?_
  rintro e w' ⟨v, cv, μ', Z', H', q1, q2, q3, q4, q5⟩
  exact ⟨v, cv, μ', Z', H', q1, q2, q3, r2.trans q4, q5⟩
theorem Wk.setL : ∀ {a : List AV} {t : Nat} {u v : AV}, a[t]? = some u → wkV v u → Wk (a.set t v) a
 | [], _, _, _, h, _ => by simp at h
 | _ :: _, 0, _, _, h, k => by simp at h; subst h; exact ⟨k, Wk.refl _⟩
 | _ :: _, _ + 1, _, _, h, k => ⟨wkV.refl _, Wk.setL (by simpa using h) k⟩
/-- an own list that a variable holds is frozen ahead of a piece of code -/
theorem AWP.frzT {rd : Option Nat} {c : Code} {Q : Exit → List AV → AHeap → Prop} {a : List AV} (t : Nat) (hc : SzC sz enc) (h0 : 0 < sz) (ht : a[t]? = some v0) (hN : Need0 (.own sz v0 (flat (List.map enc l)) :: L') L) (hS : Hv H L) (h : ∀ H', Hv H' L' → AWP P B w0 rd c Q (a.set t (.dl sz (List.map enc l) .none)) H') : AWP P B w0 rd c Q a H := by
 have hs := hS.need0 hN
 rcases hs.each _ (List.mem_cons_self ..) with ⟨s, rfl, hcs⟩ | ⟨id, len, rfl, hl, hid⟩
 ·have := flat_map_nil hc h0 hcs
  subst this
  exact (h H hs.drop).weak (Wk.setL ht (wkV.nil sz s .full))
 ·obtain rfl := flat_map_len hc h0 hl
  have hs' : ∀ e, e ∈ List.map enc l → e.cells.length = sz := fun e he => by obtain ⟨x, _, rfl⟩ := List.mem_map.1 he; exact hc x
  have hd : Hv (H.set id .dead) L' := (hs.set (y := .tl .full) rfl .dead (.inl rfl) (fun j h => by cases h)).drop
  refine AWP.freeze (elems := List.map enc l) ht hid hs' (by simp) ?_ (h _ hd)
  rw [List.drop_zero, List.take_of_length_le (by rw [hl]; exact Nat.le_refl _)]
theorem AWP.frzT1 {rd : Option Nat} {c : Code} {Q : Exit → List AV → AHeap → Prop} {a : List AV} (t : Nat) (hc : OneC enc) (ht : a[t]? = some v0) (hN : Need0 (.own 1 v0 (List.map enc l) :: L') L) (hS : Hv H L) (h : ∀ H', Hv H' L' → AWP P B w0 rd c Q (a.set t (.dl 1 (List.map enc l) .none)) H') : AWP P B w0 rd c Q a H :=
 AWP.frzT t hc.toSz (by decide) ht (by rw [flat_one enc hc]; exact hN) hS h
theorem ACall.frzArg1 {f : FuncId} {args args' : List AV} (hc : OneC enc) (hN : Need0 (.own 1 v0 (List.map enc l) :: L') L) (hr : Rep v0 (.dl 1 (List.map enc l) .none) (.tup args) (.tup args')) (hS : Hv H L) (h : ∀ H', Hv H' L' → ACall P B w0 f args' H' K) : ACall P B w0 f args H K :=
 ACall.frzArg hc.toSz (by decide) (by rw [flat_one enc hc]; exact hN) hr hS h
/-- append to a list of its own, whatever is appended -/
theorem appO_own (hc : SzC sz enc) (hT : AppTy P t sz n) (hy : AppSrc P t2 sz y (List.map enc ys)) (hN : Need0 (.own sz v (flat (List.map enc l)) :: L') L) (hS : Hv H L) (hlen : l.length + ys.length ≤ n)
  (hK : ∀ (v' : AV) (H' : AHeap), Hv H' (.own sz v' (flat (List.map enc (l ++ ys))) :: L') → K v' H') : AppE P t t2 v y H K := by
 have hs := hS.need0 hN
 by_cases hys : ys = []
 ·subst hys
  rcases hs.each _ (List.mem_cons_self ..) with ⟨s, rfl, hcs⟩ | ⟨id, len, rfl, hl, hid⟩
  ·obtain ⟨ti, e, te, z, h1, h2, h3, h4, h5, h6, rfl, h9, h10⟩ := hT
   obtain ⟨y', hw, h7⟩ := hy
   obtain rfl := flat_map_nil hc h6 hcs
   refine ⟨y', hw, .inl ⟨ti, e, te, z, [], s, [], .full, h1, h2, h3, h4, h5, h6, h7, rfl, .inr ⟨rfl, rfl⟩, fun _ => ?_, fun h => absurd rfl h⟩⟩
   exact hK _ _ (hs.drop.free (.inl ⟨_, rfl, rfl⟩) rfl)
  ·obtain ⟨ti, e, te, z, h1, h2, h3, h4, h5, h6, rfl, h9, h10⟩ := hT
   obtain ⟨y', hw, h7⟩ := hy
   obtain rfl := flat_map_len hc h6 hl
   have hb := Nat.le_trans (Nat.mul_le_mul_right te.bytes hlen) h9
   refine ⟨y', hw, .inr (.inr (.inr ⟨ti, e, te, z, [], id, l.length, _, h1, h2, h3, h4, h5, h6, h7, rfl, hid, hl, by simpa using hb, by have := Nat.le_trans (Nat.le_mul_of_pos_right (l.length + 0) h10) hb; simp at this ⊢; omega, hK _ _ ?_⟩))⟩
   have h1 : Hv (H.set id .dead) (.tl .full :: L') := hs.set rfl _ (.inl rfl) (fun j h => by cases h)
   have h2 := h1.drop.push (.cells (flat (List.map enc l) ++ flat [])) (x := .own te.size (.sl te.size (H.set id AObj.dead).length 0 (l.length + 0)) (flat (List.map enc (l ++ [])))) (.inr ⟨_, _, rfl, by simpa using hl, by rw [get_new]; simp [flat]⟩) (fun i h => by cases h; rfl)
   simpa using h2
 ·refine app_own hT hy .here hs ?_ (fun h => hys (List.map_eq_nil_iff.1 h)) ?_ (by rw [hc.flat, List.length_map])
  ·rw [hc.flat, List.length_map, ← Nat.add_mul]; exact Nat.mul_le_mul_right _ hlen
  ·intro v' H' h
   rw [← flat_append, map_app] at h
   exact hK v' H' h
theorem appO_own1 (hc : OneC enc) (hT : AppTy P t 1 n) (hy : AppSrc P t2 1 y (List.map enc ys)) (hN : Need0 (.own 1 v (List.map enc l) :: L') L) (hS : Hv H L) (hlen : l.length + ys.length ≤ n)
  (hK : ∀ (v' : AV) (H' : AHeap), Hv H' (.own 1 v' (List.map enc (l ++ ys)) :: L') → K v' H') : AppE P t t2 v y H K :=
 appO_own hc.toSz hT hy (by rw [flat_one enc hc]; exact hN) hS hlen (fun v' H' h => hK v' H' (by rwa [flat_one enc hc] at h))
theorem appO_nil (hc : SzC sz enc) (hT : AppTy P t sz n) (hy : AppSrc P t2 sz y (List.map enc ys)) {s : Nat} (hS : Hv H L) (hlen : ys.length ≤ n)
  (hK : ∀ (v' : AV) (H' : AHeap), Hv H' (.own sz v' (flat (List.map enc ys)) :: L) → K v' H') : AppE P t t2 (.dl s [] .full) y H K :=
 appO_own (l := []) hc hT hy (.own0 .done) hS (by simpa using hlen) (fun v' H' h => hK v' H' (by simpa using h))
theorem appO_nil1 (hc : OneC enc) (hT : AppTy P t 1 n) (hy : AppSrc P t2 1 y (List.map enc ys)) {s : Nat} (hS : Hv H L) (hlen : ys.length ≤ n)
  (hK : ∀ (v' : AV) (H' : AHeap), Hv H' (.own 1 v' (List.map enc ys) :: L) → K v' H') : AppE P t t2 (.dl s [] .full) y H K :=
 appO_nil hc.toSz hT hy hS hlen (fun v' H' h => hK v' H' (by rwa [flat_one enc hc] at h))
/-- the length of a list of its own -/
theorem len_own {ti : TyA} {e : TypeId} (ht : tyA P t = some ti) (hk : ti.kind = .slice e) (hc : SzC sz enc) (h0 : 0 < sz) (hp : Pull L (.own sz v (flat (List.map enc l))) L') (hS : Hv H L) (h : K (.int .i64 (l.length : Int)) H) : someK (lenA P H t v) K H := by
 rcases (hS.pull hp).each _ (List.mem_cons_self ..) with ⟨s, rfl, hcs⟩ | ⟨id, len, rfl, hl, hid⟩
 ·have := flat_map_nil hc h0 hcs
  subst this
  exact ⟨_, by simp [lenA, ht, hk], h⟩
 ·obtain rfl := flat_map_len hc h0 hl
  exact ⟨_, by simp [lenA, ht, hk], h⟩
theorem len_own1 {ti : TyA} {e : TypeId} (ht : tyA P t = some ti) (hk : ti.kind = .slice e) (hc : OneC enc) (hp : Pull L (.own 1 v (List.map enc l)) L') (hS : Hv H L) (h : K (.int .i64 (l.length : Int)) H) : someK (lenA P H t v) K H :=
 len_own ht hk hc.toSz (by decide) (by rw [flat_one enc hc]; exact hp) hS h
/-- a list of its own is nothing or a block -/
theorem split_own {G : AV → Prop} (hc : SzC sz enc) (h0 : 0 < sz) (hp : Pull L (.own sz v (flat (List.map enc l))) L') (hS : Hv H L) (hn : l = [] → ∀ s, G (.dl s [] .full)) (hb : ∀ id, Hv H (.obj id (.cells (flat (List.map enc l))) :: L') → G (.sl sz id 0 l.length)) : G v := by
 have hs := hS.pull hp
 rcases hs.each _ (List.mem_cons_self ..) with ⟨s, rfl, hcs⟩ | ⟨id, len, rfl, hl, hid⟩
 ·exact hn (flat_map_nil hc h0 hcs) s
 ·obtain rfl := flat_map_len hc h0 hl
  exact hb id (hs.as hid (fun i hi => hi))
theorem split_own1 {G : AV → Prop} (hc : OneC enc) (hp : Pull L (.own 1 v (List.map enc l)) L') (hS : Hv H L) (hn : l = [] → ∀ s, G (.dl s [] .full)) (hb : ∀ id, Hv H (.obj id (.cells (List.map enc l)) :: L') → G (.sl 1 id 0 l.length)) : G v :=
 split_own (G := G) hc.toSz (by decide) (by rw [flat_one enc hc]; exact hp) hS hn (fun id h => hb id (by rwa [flat_one enc hc] at h))
theorem atLen {x : AV} (h : someK (lenA P H t x) K H) : someK (lenA P H t x) K H := h
theorem atIdx {x i : AV} (h : someK (indexAddrA P t x i) K H) : someK (indexAddrA P t x i) K H := h
end
end Go.Av
namespace Go.Av
open Go.RowKit
section
variable {P : Program} {B : Nat} {w0 : World} {H : AHeap} {K : AV → AHeap → Prop} {L L' L2 : List Item} {t : TypeId} {v x : AV}
theorem sto_own {te : TyA} {id off sz : Nat} {cs ocs : List AV} (ht : tyA P t = some te) (hp : Pull L (.own sz v ocs) L2) (hq : Pull L (.obj id (.cells cs)) L') (hS : Hv H L) (h4 : te.size = 1) (h5 : off + 1 ≤ cs.length)
  (hK : ∀ H', Hv H' (.obj id (.cells (putA cs off [v])) :: L') → K .undef H') : StoE P t (.ptr id off) v H K := by
 have hv : v.cells = [v] ∧ okCells v = true := by
  rcases (hS.pull hp).each _ (List.mem_cons_self ..) with ⟨s, rfl, _⟩ | ⟨i, len, rfl, _⟩ <;> exact ⟨rfl, rfl⟩
 refine sto_go ht hq hS hv.2 (by rw [hv.1, h4]; rfl) (by rw [h4]; exact h5) ?_
 rw [hv.1]; exact hK
theorem atRetF (h : RetF K x H) : RetF K x H := h
end
end Go.Av
namespace Go.Av
theorem RetF.ownT {K : AV → AHeap → Prop} {H : AHeap} {L L' : List Item} {α : Type} {enc : α → AV} {l : List α} {id len : Nat} {v v' : AV} (hc : OneC enc) (hN : Need0 (.obj id (.cells (List.map enc l)) :: L') L) (hr : Rep (.sl 1 id 0 len) (.dl 1 (List.map enc (List.take len l)) .none) v v') (hS : Hv H L) (hl : len ≤ l.length) (h : ∀ H', Hv H' L' → RetF K v' H') : RetF K v H := by
 have hs := hS.need0 hN
 have hf : H[id]? = some (.cells (List.map enc l)) := hs.each _ (List.mem_cons_self ..)
 refine RetF.frzT (cs := List.map enc l) (by rw [← List.map_take]; exact hr) hf (by simpa using hl) (fun c hc' => by obtain ⟨x, _, rfl⟩ := List.mem_map.1 hc'; exact hc x) (h _ ?_)
 exact (hs.set (y := .tl .full) rfl .dead (.inl rfl) (fun j h => by cases h)).drop
end Go.Av
namespace Go.Av
open Go.RowKit
theorem split9 {H : AHeap} {L L' : List Item} {sz : Nat} {v : AV} {α : Type} {enc : α → AV} {l : List α} (hc : SzC sz enc) (h0 : 0 < sz) (hp : Pull L (.own sz v (flat (List.map enc l))) L') (hS : Hv H L) : (l = [] ∧ ∃ s, v = .dl s [] .full) ∨ ∃ id, v = .sl sz id 0 l.length ∧ Hv H (.obj id (.cells (flat (List.map enc l))) :: L') :=
 split_own (G := fun v => (l = [] ∧ ∃ s, v = .dl s [] .full) ∨ ∃ id, v = .sl sz id 0 l.length ∧ Hv H (.obj id (.cells (flat (List.map enc l))) :: L')) hc h0 hp hS (fun hl s => .inl ⟨hl, s, rfl⟩) (fun id h => .inr ⟨id, rfl, h⟩)
theorem split91 {H : AHeap} {L L' : List Item} {v : AV} {α : Type} {enc : α → AV} {l : List α} (hc : OneC enc) (hp : Pull L (.own 1 v (List.map enc l)) L') (hS : Hv H L) : (l = [] ∧ ∃ s, v = .dl s [] .full) ∨ ∃ id, v = .sl 1 id 0 l.length ∧ Hv H (.obj id (.cells (List.map enc l)) :: L') :=
 split_own1 (G := fun v => (l = [] ∧ ∃ s, v = .dl s [] .full) ∨ ∃ id, v = .sl 1 id 0 l.length ∧ Hv H (.obj id (.cells (List.map enc l)) :: L')) hc hp hS (fun hl s => .inl ⟨hl, s, rfl⟩) (fun id h => .inr ⟨id, rfl, h⟩)
end Go.Av
namespace Go.Av
/-! short names -/
theorem pH {x : Item} {l : List Item} : Pull (x :: l) x l := .here
theorem pT {l l' : List Item} {x z : Item} (h : Pull l x l') : Pull (z :: l) x (z :: l') := .there h
section
variable {l l' : List AV} {x y : AV}
theorem kZ : Wk [] [] := Wk.nil
theorem kR (k : Wk l l') : Wk (x :: l) (x :: l') := Wk.r k
theorem kF {s s' : Nat} (k : Wk l l') : Wk (.dl s [] .full :: l) (.dl s' [] .full :: l') := Wk.cons (wkV.nilf _ _) k
theorem kN {s s' : Nat} {tl : Tail} (k : Wk l l') : Wk (.dl s [] .none :: l) (.dl s' [] tl :: l') := Wk.cons (wkV.nil _ _ _) k
theorem kE {α : Type} {enc : α → AV} {s s' : Nat} {tl : Tail} (k : Wk l l') : Wk (.dl s (List.map enc ([] : List α)) .none :: l) (.dl s' [] tl :: l') := Wk.cons (wkN0 enc _ _ _) k
theorem kI {c : IntKind} {a : Int} {tl : Tail} (k : Wk l l') : Wk (.dl 1 (List.map (AV.int c) [a]) .none :: l) (.dl 1 [.int c a] tl :: l') := Wk.cons (wkI1 _ _ _) k
theorem kT {s : Nat} {es : List AV} {tl : Tail} (k : Wk l l') : Wk (.dl s es .none :: l) (.dl s es tl :: l') := Wk.cons (wkV.tail _ _ _) k
theorem kU (k : Wk l l') : Wk (.undef :: l) (y :: l') := Wk.u k
theorem aZ : WkA [] [] := WkA.nil
theorem aR (k : WkA l l') : WkA (x :: l) (x :: l') := WkA.r k
theorem aF {s s' : Nat} (k : WkA l l') : WkA (.dl s [] .full :: l) (.dl s' [] .full :: l') := WkA.cons (wkA.v (wkV.nilf _ _)) k
theorem aN {s s' : Nat} {tl : Tail} (k : WkA l l') : WkA (.dl s [] .none :: l) (.dl s' [] tl :: l') := WkA.cons (wkA.v (wkV.nil _ _ _)) k
theorem aT {s : Nat} {es : List AV} {tl : Tail} (k : WkA l l') : WkA (.dl s es .none :: l) (.dl s es tl :: l') := WkA.cons (wkA.v (wkV.tail _ _ _)) k
theorem aG {cs cs' : List AV} (h : Wk cs cs') (k : WkA l l') : WkA (.agg cs :: l) (.agg cs' :: l') := WkA.cons (wkA.agg h) k
end
section
variable {h h' n : List Item} {x : Item}
theorem nD : Need h h := .done
theorem nT (p : Pull h x h') (k : Need n h') : Need (x :: n) h := .take p k
theorem nW {id : Nat} {cs cs0 : List AV} (p : Pull h (.obj id (.cells cs)) h') (hw : Wk cs0 cs) (k : Need n h') : Need (.obj id (.cells cs0) :: n) h := .takew p hw k
theorem nX (k : Need n h) : Need n (x :: h) := .drop k
theorem nF (k : Need n h) : Need (.tl .full :: n) h := .full k
theorem nO {sz id len : Nat} {cs : List AV} (p : Pull h (.obj id (.cells cs)) h') (hl : cs.length = len * sz) (k : Need n h') : Need (.own sz (.sl sz id 0 len) cs :: n) h := .own p hl k
theorem nE {sz s : Nat} (k : Need n h) : Need (.own sz (.dl s [] .full) [] :: n) h := .own0 k
theorem mD : Need0 h h := .done
theorem mT (p : Pull h x h') (k : Need0 n h') : Need0 (x :: n) h := .take p k
theorem mX (k : Need0 n h) : Need0 n (x :: h) := .drop k
theorem mF (k : Need0 n h) : Need0 (.tl .full :: n) h := .full k
theorem mO {sz id len : Nat} {cs : List AV} (p : Pull h (.obj id (.cells cs)) h') (hl : cs.length = len * sz) (k : Need0 n h') : Need0 (.own sz (.sl sz id 0 len) cs :: n) h := .own p hl k
theorem mE {sz s : Nat} (k : Need0 n h) : Need0 (.own sz (.dl s [] .full) [] :: n) h := .own0 k
end
section
variable {s : List Slot} {a a' : List AV} {v x y : AV}
theorem sZ : W2 [] [] [] := W2.nil
theorem sD (h : W2 s a a') : W2 (.d :: s) (x :: a) (y :: a') := W2.d h
theorem sK (h : W2 s a a') : W2 (.k :: s) (x :: a) (x :: a') := W2.k h
theorem sP (h : W2 s a a') : W2 (.p v :: s) (x :: a) (v :: a') := W2.p h
theorem sF {t t' : Nat} (h : W2 s a a') : W2 (.p (.dl t [] .full) :: s) (x :: a) (.dl t' [] .full :: a') := W2.pw (wkV.nilf _ _) h
theorem sN {t t' : Nat} {tl : Tail} (h : W2 s a a') : W2 (.p (.dl t [] .none) :: s) (x :: a) (.dl t' [] tl :: a') := W2.pw (wkV.nil _ _ _) h
theorem sT {t : Nat} {es : List AV} {tl : Tail} (h : W2 s a a') : W2 (.p (.dl t es .none) :: s) (x :: a) (.dl t es tl :: a') := W2.pw (wkV.tail _ _ _) h
end
end Go.Av
namespace Go.Av
section
variable {x y : AV} {s s' : Nat} {es : List AV} {tl : Tail} {cs cs' : List AV}
theorem rR : wkR x x := wkR.a (wkA.refl _)
theorem rT : wkR (.dl s es .none) (.dl s es tl) := wkR.a (wkA.v (wkV.tail _ _ _))
theorem rF : wkR (.dl s [] .full) (.dl s' [] .full) := wkR.a (wkA.v (wkV.nilf _ _))
theorem rN : wkR (.dl s [] .none) (.dl s' [] tl) := wkR.a (wkA.v (wkV.nil _ _ _))
theorem rG (h : Wk cs cs') : wkR (.agg cs) (.agg cs') := wkR.a (wkA.agg h)
theorem rU (h : WkA cs cs') : wkR (.tup cs) (.tup cs') := wkR.tup h
end
section
variable {α : Type} {x : Option α} {r : α}
theorem gd1 {c : Prop} [Decidable c] (h : (if c then x else none) = some r) : (c = True) ∧ x = some r := guard1 h
theorem gd2 {c d : Prop} [Decidable (c ∧ d)] (h : (if c ∧ d then x else none) = some r) : ((c = True) ∧ (d = True)) ∧ x = some r := guard2 h
theorem gd3 {c d e : Prop} [Decidable (c ∧ d ∧ e)] (h : (if c ∧ d ∧ e then x else none) = some r) : ((c = True) ∧ (d = True) ∧ (e = True)) ∧ x = some r := guard3 h
theorem gd4 {c d e f : Prop} [Decidable (c ∧ d ∧ e ∧ f)] (h : (if c ∧ d ∧ e ∧ f then x else none) = some r) : ((c = True) ∧ (d = True) ∧ (e = True) ∧ (f = True)) ∧ x = some r := guard4 h
end
/-- A loop, round by round. -/
def unr (P : Program) (B : Nat) (w0 : World) (rd : Option Nat) (c : Code) (Q : Exit → List AV → AHeap → Prop) : Nat → List AV → AHeap → Prop
 | 0, _, _ => False
 | n + 1, a, H => AWP P B w0 rd c (thenQ (unr P B w0 rd c Q n) Q) a H
theorem AWP.unroll {P : Program} {B : Nat} {w0 : World} {rd : Option Nat} {c : Code} {Q : Exit → List AV → AHeap → Prop} {a : List AV} {H : AHeap} (n : Nat) (h : unr P B w0 rd c Q n a H) : AWP P B w0 rd (.loop c) Q a H := by
 refine AWP.loop (σ := Nat × List AV) (fun s => s.2) (fun s H' => unr P B w0 rd c Q s.1 s.2 H') (fun s => s.1) ⟨(n, a), Wk.refl _, h⟩ ?_
 rintro ⟨k, s⟩ H' h _
 cases k with
 | zero => exact h.elim
 | succ k => exact h.mono (thenQ_mono fun a' H'' h => ⟨(k, a'), Wk.refl _, h, Nat.lt_succ_self k⟩)
theorem atUnr {P : Program} {B : Nat} {w0 : World} {rd : Option Nat} {Y : Hand} (hY : YSound P B w0 Y) {c : Code} {Q : Exit → List AV → AHeap → Prop} {a : List AV} {H : AHeap} {n : Nat} (h : eawp P B w0 rd Y c (thenQ (unr P B w0 rd c Q n) Q) a H) : unr P B w0 rd c Q (n + 1) a H :=
 eawp_sound hY _ _ _ _ h

theorem oneSl (a b c d : Nat) : AV.one (.sl a b c d) = true := rfl
theorem oneInt (k : IntKind) (i : Int) : AV.one (.int k i) = true := rfl
theorem oneDl (n : Nat) (l : List AV) (t : Tail) : AV.one (.dl n l t) = true := rfl
theorem oneStr (l : List UInt8) : AV.one (.str l) = true := rfl
theorem oneBool (b : Bool) : AV.one (.bool b) = true := rfl

end Go.Av
end

section
namespace Go.Av
section
variable {α : Type} {enc : α → AV} {sz : Nat}
theorem flat_at [Inhabited α] (hc : SzC sz enc) : ∀ (l : List α) (i : Nat), i < l.length → (flat (List.map enc l)).drop (i * sz) = (enc (rdn l i)).cells ++ flat (List.map enc (l.drop (i + 1)))
 | [], _, h => by simp at h
 | x :: l, 0, _ => by simp [flat, rdn]
 | x :: l, i + 1, h => by
  have := flat_at hc l i (by simpa using h)
  have e : (i + 1) * sz = sz + i * sz := by rw [Nat.succ_mul, Nat.add_comm]
  rw [List.map_cons, show flat (enc x :: List.map enc l) = (enc x).cells ++ flat (List.map enc l) from rfl, e, ← List.drop_drop, List.drop_left' (hc x), this]
  rfl
theorem flat_tk (hc : SzC sz enc) : ∀ (l : List α) (i : Nat), (flat (List.map enc l)).take (i * sz) = flat (List.map enc (l.take i))
 | [], i => by simp [flat]
 | x :: l, 0 => by simp [flat]
 | x :: l, i + 1 => by
  have := flat_tk hc l i
  have e : (i + 1) * sz = sz + i * sz := by rw [Nat.succ_mul, Nat.add_comm]
  rw [List.map_cons, show flat (enc x :: List.map enc l) = (enc x).cells ++ flat (List.map enc l) from rfl, e, List.take_add, List.take_left' (hc x), List.drop_left' (hc x), this]
  rfl
theorem headW [Inhabited α] (hc : SzC sz enc) (l : List α) (i f : Nat) (hf : f < sz) (h : i < l.length) : ((flat (List.map enc l)).drop (i * sz + f)).head? = (enc (rdn l i)).cells[f]? := by
 rw [← List.drop_drop, flat_at hc l i h, List.head?_drop, List.getElem?_append_left (by rw [hc]; exact hf)]
theorem takeW [Inhabited α] (hc : SzC sz enc) (l : List α) (i : Nat) (h : i < l.length) : ((flat (List.map enc l)).drop (i * sz)).take sz = (enc (rdn l i)).cells := by
 rw [flat_at hc l i h, List.take_left' (hc _)]
theorem lenW [Inhabited α] (hc : SzC sz enc) (l : List α) (i : Nat) (h : i < l.length) : sz ≤ ((flat (List.map enc l)).drop (i * sz)).length := by
 rw [flat_at hc l i h, List.length_append, hc]; omega
theorem putW [Inhabited α] (hc : SzC sz enc) (l : List α) (i f : Nat) (c : AV) (upd : α) (hu : (enc upd).cells = (enc (rdn l i)).cells.set f c) (hf : f < sz) (h : i < l.length) :
  putA (flat (List.map enc l)) (i * sz + f) [c] = flat (List.map enc (l.set i upd)) := by
 have hlen : (flat (List.map enc l)).length = l.length * sz := SzC.flat hc l
 have h1 : (i + 1) * sz ≤ l.length * sz := Nat.mul_le_mul_right _ h
 have h2 : (i + 1) * sz = i * sz + sz := Nat.succ_mul ..
 have e1 : putA (flat (List.map enc l)) (i * sz + f) [c] = (flat (List.map enc l)).set (i * sz + f) c := by
  unfold putA
  rw [List.set_eq_take_append_cons_drop, if_pos (by omega)]
  simp
 have e2 : flat (List.map enc l) = flat (List.map enc (l.take i)) ++ ((enc (rdn l i)).cells ++ flat (List.map enc (l.drop (i + 1)))) := by
  rw [← flat_tk hc, ← flat_at hc l i h, List.take_append_drop]
 have h3 : (flat (List.map enc (l.take i))).length = i * sz := by
  rw [SzC.flat hc, List.length_take, Nat.min_eq_left (by omega)]
 rw [e1, e2, List.set_append_right _ _ (by omega), h3, Nat.add_sub_cancel_left, List.set_append_left _ _ (by rw [hc]; exact hf), ← hu]
 rw [List.set_eq_take_append_cons_drop, if_pos h]
 simp [flat]
variable {P : Program} {L L' : List Item} {H : AHeap} {K : AV → AHeap → Prop}
/-- a field of an element of a list of one's own is written -/
theorem stoW [Inhabited α] (enc : α → AV) {t : TypeId} {y c : AV} {te : TyA} {id i f : Nat} {l : List α} (upd : α) (ht : tyA P t = some te) (hp : Pull L (.obj id (.cells (flat (List.map enc l)))) L') (hS : Hv H L) (h6 : te.size = 1) (hv : wkD c y) (h1 : c.cells = [c]) (hk : okCells c = true) (hc : SzC sz enc)
  (hu : (enc upd).cells = (enc (rdn l i)).cells.set f c) (hf : f < sz) (hl : i < l.length)
  (hK : ∀ (H' : AHeap), Hv H' (.obj id (.cells (flat (List.map enc (List.set l i upd)))) :: L') → K .undef H') : StoE P t (.ptr id (i * sz + f)) y H K := by
 have hlen : (flat (List.map enc l)).length = l.length * sz := SzC.flat hc l
 have h2 : (i + 1) * sz ≤ l.length * sz := Nat.mul_le_mul_right _ hl
 have h3 : (i + 1) * sz = i * sz + sz := Nat.succ_mul ..
 refine sto_goW ht hv hp hS hk (by rw [h1, h6]; rfl) (by rw [h6]; omega) ?_
 intro H' h
 rw [h1, putW hc l i f c upd hu hf hl] at h
 exact hK H' h
theorem stoW0 [Inhabited α] (enc : α → AV) {t : TypeId} {y c : AV} {te : TyA} {id i : Nat} {l : List α} (upd : α) (ht : tyA P t = some te) (hp : Pull L (.obj id (.cells (flat (List.map enc l)))) L') (hS : Hv H L) (h6 : te.size = 1) (hv : wkD c y) (h1 : c.cells = [c]) (hk : okCells c = true) (hc : SzC sz enc)
  (hu : (enc upd).cells = (enc (rdn l i)).cells.set 0 c) (hf : 0 < sz) (hl : i < l.length)
  (hK : ∀ (H' : AHeap), Hv H' (.obj id (.cells (flat (List.map enc (List.set l i upd)))) :: L') → K .undef H') : StoE P t (.ptr id (i * sz)) y H K :=
 stoW (f := 0) enc upd ht hp hS h6 hv h1 hk hc hu hf hl hK
end
end Go.Av
end

section
namespace Go.Av
open Go.Proofs
theorem ty1 : tyA Try.prog 1 = some { kind := .func, size := 1, bytes := 8, zero := some (.nilfn) } := by kernel_rfl
theorem ty2 : tyA Try.prog 2 = some { kind := .int .i64, size := 1, bytes := 8, zero := some (.int .i64 0) } := by kernel_rfl
theorem ty3 : tyA Try.prog 3 = some { kind := .int .i64, size := 1, bytes := 8, zero := some (.int .i64 0) } := by kernel_rfl
theorem ty4 : tyA Try.prog 4 = some { kind := .bool, size := 1, bytes := 1, zero := some (.bool false) } := by kernel_rfl
theorem ty5 : tyA Try.prog 5 = some { kind := .int .u8, size := 1, bytes := 1, zero := some (.int .u8 0) } := by kernel_rfl
theorem ty6 : tyA Try.prog 6 = some { kind := .int .u8, size := 1, bytes := 1, zero := some (.int .u8 0) } := by kernel_rfl
theorem ty7 : tyA Try.prog 7 = some { kind := .struct [(0, 2), (1, 3), (2, 4), (3, 6)], size := 4, bytes := 24, zero := some (.agg [.int .i64 0, .int .i64 0, .bool false, .int .u8 0]) } := by kernel_rfl
theorem ty8 : tyA Try.prog 8 = some { kind := .struct [(0, 2), (1, 3), (2, 4), (3, 6)], size := 4, bytes := 24, zero := some (.agg [.int .i64 0, .int .i64 0, .bool false, .int .u8 0]) } := by kernel_rfl
theorem ty9 : tyA Try.prog 9 = some { kind := .str, size := 1, bytes := 16, zero := some (.str []) } := by kernel_rfl
theorem ty10 : tyA Try.prog 10 = some { kind := .str, size := 1, bytes := 16, zero := some (.str []) } := by kernel_rfl
theorem ty11 : tyA Try.prog 11 = some { kind := .str, size := 1, bytes := 16, zero := some (.str []) } := by kernel_rfl
theorem ty12 : tyA Try.prog 12 = some { kind := .int .u64, size := 1, bytes := 8, zero := some (.int .u64 0) } := by kernel_rfl
theorem ty13 : tyA Try.prog 13 = some { kind := .struct [(0, 9), (1, 12)], size := 2, bytes := 24, zero := some (.agg [.str [], .int .u64 0]) } := by kernel_rfl
theorem ty14 : tyA Try.prog 14 = some { kind := .struct [(0, 9), (1, 12)], size := 2, bytes := 24, zero := some (.agg [.str [], .int .u64 0]) } := by kernel_rfl
theorem ty15 : tyA Try.prog 15 = some { kind := .ptr, size := 1, bytes := 8, zero := some (.nilp) } := by kernel_rfl
theorem ty16 : tyA Try.prog 16 = some { kind := .ptr, size := 1, bytes := 8, zero := some (.nilp) } := by kernel_rfl
theorem ty17 : tyA Try.prog 17 = some { kind := .ptr, size := 1, bytes := 8, zero := some (.nilp) } := by kernel_rfl
theorem ty18 : tyA Try.prog 18 = some { kind := .struct [(0, 17)], size := 1, bytes := 8, zero := some (.agg [.nilp]) } := by kernel_rfl
theorem ty19 : tyA Try.prog 19 = some { kind := .struct [(0, 17)], size := 1, bytes := 8, zero := some (.agg [.nilp]) } := by kernel_rfl
theorem ty20 : tyA Try.prog 20 = some { kind := .iface, size := 1, bytes := 16, zero := some (.nilif) } := by kernel_rfl
theorem ty21 : tyA Try.prog 21 = some { kind := .int .i32, size := 1, bytes := 4, zero := some (.int .i32 0) } := by kernel_rfl
theorem ty22 : tyA Try.prog 22 = some { kind := .slice 3, size := 1, bytes := 24, zero := some (.dl 0 [] .full) } := by kernel_rfl
theorem ty23 : tyA Try.prog 23 = some { kind := .slice 28, size := 1, bytes := 24, zero := some (.dl 0 [] .full) } := by kernel_rfl
theorem ty25 : tyA Try.prog 25 = some { kind := .func, size := 1, bytes := 8, zero := some (.nilfn) } := by kernel_rfl
theorem ty26 : tyA Try.prog 26 = some { kind := .int .u64, size := 1, bytes := 8, zero := some (.int .u64 0) } := by kernel_rfl
theorem ty27 : tyA Try.prog 27 = some { kind := .struct [(0, 3), (1, 9), (2, 3), (3, 3), (4, 3), (5, 26), (6, 4)], size := 7, bytes := 64, zero := some (.agg [.int .i64 0, .str [], .int .i64 0, .int .i64 0, .int .i64 0, .int .u64 0, .bool false]) } := by kernel_rfl
theorem ty28 : tyA Try.prog 28 = some { kind := .struct [(0, 3), (1, 9), (2, 3), (3, 3), (4, 3), (5, 26), (6, 4)], size := 7, bytes := 64, zero := some (.agg [.int .i64 0, .str [], .int .i64 0, .int .i64 0, .int .i64 0, .int .u64 0, .bool false]) } := by kernel_rfl
theorem ty29 : tyA Try.prog 29 = some { kind := .func, size := 1, bytes := 8, zero := some (.nilfn) } := by kernel_rfl
theorem ty30 : tyA Try.prog 30 = some { kind := .func, size := 1, bytes := 8, zero := some (.nilfn) } := by kernel_rfl
theorem ty31 : tyA Try.prog 31 = some { kind := .slice 50, size := 1, bytes := 24, zero := some (.dl 0 [] .full) } := by kernel_rfl
theorem ty32 : tyA Try.prog 32 = some { kind := .func, size := 1, bytes := 8, zero := some (.nilfn) } := by kernel_rfl
theorem ty33 : tyA Try.prog 33 = some { kind := .func, size := 1, bytes := 8, zero := some (.nilfn) } := by kernel_rfl
theorem ty34 : tyA Try.prog 34 = some { kind := .func, size := 1, bytes := 8, zero := some (.nilfn) } := by kernel_rfl
theorem ty35 : tyA Try.prog 35 = some { kind := .slice 42, size := 1, bytes := 24, zero := some (.dl 0 [] .full) } := by kernel_rfl
theorem ty36 : tyA Try.prog 36 = some { kind := .func, size := 1, bytes := 8, zero := some (.nilfn) } := by kernel_rfl
theorem ty37 : tyA Try.prog 37 = some { kind := .slice 40, size := 1, bytes := 24, zero := some (.dl 0 [] .full) } := by kernel_rfl
theorem ty38 : tyA Try.prog 38 = some { kind := .func, size := 1, bytes := 8, zero := some (.nilfn) } := by kernel_rfl
theorem ty39 : tyA Try.prog 39 = some { kind := .func, size := 1, bytes := 8, zero := some (.nilfn) } := by kernel_rfl
theorem ty40 : tyA Try.prog 40 = some { kind := .slice 57, size := 1, bytes := 24, zero := some (.dl 0 [] .full) } := by kernel_rfl
theorem ty41 : tyA Try.prog 41 = some { kind := .func, size := 1, bytes := 8, zero := some (.nilfn) } := by kernel_rfl
theorem ty42 : tyA Try.prog 42 = some { kind := .slice 56, size := 1, bytes := 24, zero := some (.dl 0 [] .full) } := by kernel_rfl
theorem ty43 : tyA Try.prog 43 = some { kind := .func, size := 1, bytes := 8, zero := some (.nilfn) } := by kernel_rfl
theorem ty44 : tyA Try.prog 44 = some { kind := .func, size := 1, bytes := 8, zero := some (.nilfn) } := by kernel_rfl
theorem ty45 : tyA Try.prog 45 = some { kind := .func, size := 1, bytes := 8, zero := some (.nilfn) } := by kernel_rfl
theorem ty46 : tyA Try.prog 46 = some { kind := .func, size := 1, bytes := 8, zero := some (.nilfn) } := by kernel_rfl
theorem ty47 : tyA Try.prog 47 = some { kind := .func, size := 1, bytes := 8, zero := some (.nilfn) } := by kernel_rfl
theorem ty48 : tyA Try.prog 48 = some { kind := .slice 9, size := 1, bytes := 24, zero := some (.dl 0 [] .full) } := by kernel_rfl
theorem ty49 : tyA Try.prog 49 = some { kind := .struct [(0, 3), (1, 3), (2, 9), (3, 3), (4, 3), (5, 3), (6, 26), (7, 4)], size := 8, bytes := 72, zero := some (.agg [.int .i64 0, .int .i64 0, .str [], .int .i64 0, .int .i64 0, .int .i64 0, .int .u64 0, .bool false]) } := by kernel_rfl
theorem ty50 : tyA Try.prog 50 = some { kind := .struct [(0, 3), (1, 3), (2, 9), (3, 3), (4, 3), (5, 3), (6, 26), (7, 4)], size := 8, bytes := 72, zero := some (.agg [.int .i64 0, .int .i64 0, .str [], .int .i64 0, .int .i64 0, .int .i64 0, .int .u64 0, .bool false]) } := by kernel_rfl
theorem ty51 : tyA Try.prog 51 = some { kind := .func, size := 1, bytes := 8, zero := some (.nilfn) } := by kernel_rfl
theorem ty52 : tyA Try.prog 52 = some { kind := .struct [(0, 3), (1, 3), (2, 3)], size := 3, bytes := 24, zero := some (.agg [.int .i64 0, .int .i64 0, .int .i64 0]) } := by kernel_rfl
theorem ty53 : tyA Try.prog 53 = some { kind := .struct [(0, 3), (1, 3), (2, 3)], size := 3, bytes := 24, zero := some (.agg [.int .i64 0, .int .i64 0, .int .i64 0]) } := by kernel_rfl
theorem ty54 : tyA Try.prog 54 = some { kind := .slice 26, size := 1, bytes := 24, zero := some (.dl 0 [] .full) } := by kernel_rfl
theorem ty55 : tyA Try.prog 55 = some { kind := .struct [(0, 53), (3, 26), (4, 54), (5, 54), (6, 26)], size := 7, bytes := 88, zero := some (.agg [.int .i64 0, .int .i64 0, .int .i64 0, .int .u64 0, .dl 0 [] .full, .dl 0 [] .full, .int .u64 0]) } := by kernel_rfl
theorem ty56 : tyA Try.prog 56 = some { kind := .struct [(0, 53), (3, 26), (4, 54), (5, 54), (6, 26)], size := 7, bytes := 88, zero := some (.agg [.int .i64 0, .int .i64 0, .int .i64 0, .int .u64 0, .dl 0 [] .full, .dl 0 [] .full, .int .u64 0]) } := by kernel_rfl
theorem ty57 : tyA Try.prog 57 = some { kind := .struct [(0, 53), (3, 26), (4, 54), (5, 54), (6, 26)], size := 7, bytes := 88, zero := some (.agg [.int .i64 0, .int .i64 0, .int .i64 0, .int .u64 0, .dl 0 [] .full, .dl 0 [] .full, .int .u64 0]) } := by kernel_rfl
theorem ty58 : tyA Try.prog 58 = some { kind := .func, size := 1, bytes := 8, zero := some (.nilfn) } := by kernel_rfl
theorem ty59 : tyA Try.prog 59 = some { kind := .func, size := 1, bytes := 8, zero := some (.nilfn) } := by kernel_rfl
theorem ty60 : tyA Try.prog 60 = some { kind := .func, size := 1, bytes := 8, zero := some (.nilfn) } := by kernel_rfl
theorem ty61 : tyA Try.prog 61 = some { kind := .slice 5, size := 1, bytes := 24, zero := some (.dl 0 [] .full) } := by kernel_rfl
theorem ty62 : tyA Try.prog 62 = some { kind := .func, size := 1, bytes := 8, zero := some (.nilfn) } := by kernel_rfl
theorem ty63 : tyA Try.prog 63 = some { kind := .func, size := 1, bytes := 8, zero := some (.nilfn) } := by kernel_rfl
theorem ty64 : tyA Try.prog 64 = some { kind := .func, size := 1, bytes := 8, zero := some (.nilfn) } := by kernel_rfl
theorem ty65 : tyA Try.prog 65 = some { kind := .struct [(0, 3), (1, 3), (2, 22), (3, 22), (4, 54), (5, 54), (6, 54)], size := 7, bytes := 136, zero := some (.agg [.int .i64 0, .int .i64 0, .dl 0 [] .full, .dl 0 [] .full, .dl 0 [] .full, .dl 0 [] .full, .dl 0 [] .full]) } := by kernel_rfl
theorem ty66 : tyA Try.prog 66 = some { kind := .struct [(0, 3), (1, 3), (2, 22), (3, 22), (4, 54), (5, 54), (6, 54)], size := 7, bytes := 136, zero := some (.agg [.int .i64 0, .int .i64 0, .dl 0 [] .full, .dl 0 [] .full, .dl 0 [] .full, .dl 0 [] .full, .dl 0 [] .full]) } := by kernel_rfl
theorem ty67 : tyA Try.prog 67 = some { kind := .int .i64, size := 1, bytes := 8, zero := some (.int .i64 0) } := by kernel_rfl
theorem ty69 : tyA Try.prog 69 = some { kind := .func, size := 1, bytes := 8, zero := some (.nilfn) } := by kernel_rfl
theorem ty70 : tyA Try.prog 70 = some { kind := .func, size := 1, bytes := 8, zero := some (.nilfn) } := by kernel_rfl
theorem ty71 : tyA Try.prog 71 = some { kind := .func, size := 1, bytes := 8, zero := some (.nilfn) } := by kernel_rfl
theorem ty72 : tyA Try.prog 72 = some { kind := .func, size := 1, bytes := 8, zero := some (.nilfn) } := by kernel_rfl
theorem ty73 : tyA Try.prog 73 = some { kind := .func, size := 1, bytes := 8, zero := some (.nilfn) } := by kernel_rfl
theorem ty74 : tyA Try.prog 74 = some { kind := .func, size := 1, bytes := 8, zero := some (.nilfn) } := by kernel_rfl
theorem ty75 : tyA Try.prog 75 = some { kind := .func, size := 1, bytes := 8, zero := some (.nilfn) } := by kernel_rfl
theorem ty76 : tyA Try.prog 76 = some { kind := .func, size := 1, bytes := 8, zero := some (.nilfn) } := by kernel_rfl
theorem ty77 : tyA Try.prog 77 = some { kind := .struct [(0, 61)], size := 1, bytes := 24, zero := some (.agg [.dl 0 [] .full]) } := by kernel_rfl
theorem ty78 : tyA Try.prog 78 = some { kind := .struct [(0, 61)], size := 1, bytes := 24, zero := some (.agg [.dl 0 [] .full]) } := by kernel_rfl
theorem ty79 : tyA Try.prog 79 = some { kind := .func, size := 1, bytes := 8, zero := some (.nilfn) } := by kernel_rfl
theorem ty80 : tyA Try.prog 80 = some { kind := .func, size := 1, bytes := 8, zero := some (.nilfn) } := by kernel_rfl
theorem ty81 : tyA Try.prog 81 = some { kind := .func, size := 1, bytes := 8, zero := some (.nilfn) } := by kernel_rfl
theorem ty82 : tyA Try.prog 82 = some { kind := .ptr, size := 1, bytes := 8, zero := some (.nilp) } := by kernel_rfl
theorem ty83 : tyA Try.prog 83 = some { kind := .func, size := 1, bytes := 8, zero := some (.nilfn) } := by kernel_rfl
theorem ty84 : tyA Try.prog 84 = some { kind := .func, size := 1, bytes := 8, zero := some (.nilfn) } := by kernel_rfl
theorem ty85 : tyA Try.prog 85 = some { kind := .func, size := 1, bytes := 8, zero := some (.nilfn) } := by kernel_rfl
theorem ty86 : tyA Try.prog 86 = some { kind := .func, size := 1, bytes := 8, zero := some (.nilfn) } := by kernel_rfl
theorem ty87 : tyA Try.prog 87 = some { kind := .func, size := 1, bytes := 8, zero := some (.nilfn) } := by kernel_rfl
theorem ty88 : tyA Try.prog 88 = some { kind := .func, size := 1, bytes := 8, zero := some (.nilfn) } := by kernel_rfl
theorem ty89 : tyA Try.prog 89 = some { kind := .func, size := 1, bytes := 8, zero := some (.nilfn) } := by kernel_rfl
theorem ty90 : tyA Try.prog 90 = some { kind := .func, size := 1, bytes := 8, zero := some (.nilfn) } := by kernel_rfl
theorem ty91 : tyA Try.prog 91 = some { kind := .func, size := 1, bytes := 8, zero := some (.nilfn) } := by kernel_rfl
theorem ty92 : tyA Try.prog 92 = some { kind := .func, size := 1, bytes := 8, zero := some (.nilfn) } := by kernel_rfl
theorem ty93 : tyA Try.prog 93 = some { kind := .func, size := 1, bytes := 8, zero := some (.nilfn) } := by kernel_rfl
theorem ty94 : tyA Try.prog 94 = some { kind := .func, size := 1, bytes := 8, zero := some (.nilfn) } := by kernel_rfl
theorem ty95 : tyA Try.prog 95 = some { kind := .int .u64, size := 1, bytes := 8, zero := some (.int .u64 0) } := by kernel_rfl
theorem ty96 : tyA Try.prog 96 = some { kind := .func, size := 1, bytes := 8, zero := some (.nilfn) } := by kernel_rfl
theorem ty97 : tyA Try.prog 97 = some { kind := .func, size := 1, bytes := 8, zero := some (.nilfn) } := by kernel_rfl
theorem ty98 : tyA Try.prog 98 = some { kind := .func, size := 1, bytes := 8, zero := some (.nilfn) } := by kernel_rfl
theorem ty99 : tyA Try.prog 99 = some { kind := .func, size := 1, bytes := 8, zero := some (.nilfn) } := by kernel_rfl
theorem ty100 : tyA Try.prog 100 = some { kind := .func, size := 1, bytes := 8, zero := some (.nilfn) } := by kernel_rfl
theorem ty101 : tyA Try.prog 101 = some { kind := .func, size := 1, bytes := 8, zero := some (.nilfn) } := by kernel_rfl
theorem ty102 : tyA Try.prog 102 = some { kind := .func, size := 1, bytes := 8, zero := some (.nilfn) } := by kernel_rfl
theorem ty103 : tyA Try.prog 103 = some { kind := .func, size := 1, bytes := 8, zero := some (.nilfn) } := by kernel_rfl
theorem ty104 : tyA Try.prog 104 = some { kind := .int .i64, size := 1, bytes := 8, zero := some (.int .i64 0) } := by kernel_rfl
theorem ty106 : tyA Try.prog 106 = some { kind := .func, size := 1, bytes := 8, zero := some (.nilfn) } := by kernel_rfl
theorem ty107 : tyA Try.prog 107 = some { kind := .func, size := 1, bytes := 8, zero := some (.nilfn) } := by kernel_rfl
theorem ty108 : tyA Try.prog 108 = some { kind := .func, size := 1, bytes := 8, zero := some (.nilfn) } := by kernel_rfl
theorem ty110 : tyA Try.prog 110 = some { kind := .func, size := 1, bytes := 8, zero := some (.nilfn) } := by kernel_rfl
theorem ty111 : tyA Try.prog 111 = some { kind := .func, size := 1, bytes := 8, zero := some (.nilfn) } := by kernel_rfl
theorem ty112 : tyA Try.prog 112 = some { kind := .int .u32, size := 1, bytes := 4, zero := some (.int .u32 0) } := by kernel_rfl
theorem ty113 : tyA Try.prog 113 = some { kind := .func, size := 1, bytes := 8, zero := some (.nilfn) } := by kernel_rfl
theorem ty114 : tyA Try.prog 114 = some { kind := .func, size := 1, bytes := 8, zero := some (.nilfn) } := by kernel_rfl
theorem ty115 : tyA Try.prog 115 = some { kind := .func, size := 1, bytes := 8, zero := some (.nilfn) } := by kernel_rfl
theorem ty116 : tyA Try.prog 116 = some { kind := .func, size := 1, bytes := 8, zero := some (.nilfn) } := by kernel_rfl
theorem ty117 : tyA Try.prog 117 = some { kind := .func, size := 1, bytes := 8, zero := some (.nilfn) } := by kernel_rfl
theorem ty118 : tyA Try.prog 118 = some { kind := .int .u64, size := 1, bytes := 8, zero := some (.int .u64 0) } := by kernel_rfl
theorem ty119 : tyA Try.prog 119 = some { kind := .func, size := 1, bytes := 8, zero := some (.nilfn) } := by kernel_rfl
theorem ty120 : tyA Try.prog 120 = some { kind := .func, size := 1, bytes := 8, zero := some (.nilfn) } := by kernel_rfl
theorem ty121 : tyA Try.prog 121 = some { kind := .func, size := 1, bytes := 8, zero := some (.nilfn) } := by kernel_rfl
theorem ty122 : tyA Try.prog 122 = some { kind := .ptr, size := 1, bytes := 8, zero := some (.nilp) } := by kernel_rfl
theorem ty123 : tyA Try.prog 123 = some { kind := .func, size := 1, bytes := 8, zero := some (.nilfn) } := by kernel_rfl
theorem ty124 : tyA Try.prog 124 = some { kind := .func, size := 1, bytes := 8, zero := some (.nilfn) } := by kernel_rfl
theorem ty125 : tyA Try.prog 125 = some { kind := .func, size := 1, bytes := 8, zero := some (.nilfn) } := by kernel_rfl
theorem ty126 : tyA Try.prog 126 = some { kind := .func, size := 1, bytes := 8, zero := some (.nilfn) } := by kernel_rfl
theorem ty127 : tyA Try.prog 127 = some { kind := .func, size := 1, bytes := 8, zero := some (.nilfn) } := by kernel_rfl
theorem ty128 : tyA Try.prog 128 = some { kind := .func, size := 1, bytes := 8, zero := some (.nilfn) } := by kernel_rfl
theorem ty129 : tyA Try.prog 129 = some { kind := .func, size := 1, bytes := 8, zero := some (.nilfn) } := by kernel_rfl
theorem ty130 : tyA Try.prog 130 = some { kind := .func, size := 1, bytes := 8, zero := some (.nilfn) } := by kernel_rfl
theorem ty131 : tyA Try.prog 131 = some { kind := .ptr, size := 1, bytes := 8, zero := some (.nilp) } := by kernel_rfl
theorem ty133 : tyA Try.prog 133 = some { kind := .func, size := 1, bytes := 8, zero := some (.nilfn) } := by kernel_rfl
theorem ty134 : tyA Try.prog 134 = some { kind := .func, size := 1, bytes := 8, zero := some (.nilfn) } := by kernel_rfl
theorem ty135 : tyA Try.prog 135 = some { kind := .func, size := 1, bytes := 8, zero := some (.nilfn) } := by kernel_rfl
theorem ty136 : tyA Try.prog 136 = some { kind := .func, size := 1, bytes := 8, zero := some (.nilfn) } := by kernel_rfl
theorem ty137 : tyA Try.prog 137 = some { kind := .func, size := 1, bytes := 8, zero := some (.nilfn) } := by kernel_rfl
theorem ty138 : tyA Try.prog 138 = some { kind := .struct [(0, 17), (1, 17), (2, 17), (3, 9)], size := 4, bytes := 40, zero := some (.agg [.nilp, .nilp, .nilp, .str []]) } := by kernel_rfl
theorem ty139 : tyA Try.prog 139 = some { kind := .struct [(0, 17), (1, 17), (2, 17), (3, 9)], size := 4, bytes := 40, zero := some (.agg [.nilp, .nilp, .nilp, .str []]) } := by kernel_rfl
theorem ty140 : tyA Try.prog 140 = some { kind := .array 0 16, size := 0, bytes := 0, zero := some (.agg []) } := by kernel_rfl
theorem ty141 : tyA Try.prog 141 = some { kind := .struct [(0, 140)], size := 0, bytes := 0, zero := some (.agg []) } := by kernel_rfl
theorem ty142 : tyA Try.prog 142 = some { kind := .struct [(0, 140)], size := 0, bytes := 0, zero := some (.agg []) } := by kernel_rfl
theorem ty143 : tyA Try.prog 143 = some { kind := .func, size := 1, bytes := 8, zero := some (.nilfn) } := by kernel_rfl
theorem ty144 : tyA Try.prog 144 = some { kind := .int .u8, size := 1, bytes := 1, zero := some (.int .u8 0) } := by kernel_rfl
theorem ty145 : tyA Try.prog 145 = some { kind := .int .u8, size := 1, bytes := 1, zero := some (.int .u8 0) } := by kernel_rfl
theorem ty146 : tyA Try.prog 146 = some { kind := .func, size := 1, bytes := 8, zero := some (.nilfn) } := by kernel_rfl
theorem ty147 : tyA Try.prog 147 = some { kind := .ptr, size := 1, bytes := 8, zero := some (.nilp) } := by kernel_rfl
theorem ty148 : tyA Try.prog 148 = some { kind := .int .i32, size := 1, bytes := 4, zero := some (.int .i32 0) } := by kernel_rfl
theorem ty149 : tyA Try.prog 149 = some { kind := .int .i32, size := 1, bytes := 4, zero := some (.int .i32 0) } := by kernel_rfl
theorem ty150 : tyA Try.prog 150 = some { kind := .struct [(0, 12), (1, 12), (2, 112), (3, 144), (4, 5), (5, 5), (6, 145), (7, 146), (8, 147), (9, 148), (10, 149)], size := 11, bytes := 48, zero := some (.agg [.int .u64 0, .int .u64 0, .int .u32 0, .int .u8 0, .int .u8 0, .int .u8 0, .int .u8 0, .nilfn, .nilp, .int .i32 0, .int .i32 0]) } := by kernel_rfl
theorem ty151 : tyA Try.prog 151 = some { kind := .struct [(0, 12), (1, 12), (2, 112), (3, 144), (4, 5), (5, 5), (6, 145), (7, 146), (8, 147), (9, 148), (10, 149)], size := 11, bytes := 48, zero := some (.agg [.int .u64 0, .int .u64 0, .int .u32 0, .int .u8 0, .int .u8 0, .int .u8 0, .int .u8 0, .nilfn, .nilp, .int .i32 0, .int .i32 0]) } := by kernel_rfl
theorem ty152 : tyA Try.prog 152 = some { kind := .func, size := 1, bytes := 8, zero := some (.nilfn) } := by kernel_rfl
end Go.Av
end

section
namespace Go.Av
def encL0 (x : List Int) : AV := .dl 1 (x.map (AV.int .u64)) .none
structure S1 where
 c0 : Int
 c1 : Int
 c2 : Int
 c3 : Int
 c4 : (List Int)
 c5 : (List Int)
 c6 : Int
 deriving Inhabited, DecidableEq
def encS1 (x : S1) : AV := .agg [.int .i64 x.c0, .int .i64 x.c1, .int .i64 x.c2, .int .u64 x.c3, .dl 1 (x.c4.map (AV.int .u64)) .none, .dl 1 (x.c5.map (AV.int .u64)) .none, .int .u64 x.c6]
structure S2 where
 c0 : Int
 c1 : (List UInt8)
 c2 : Int
 c3 : Int
 c4 : Int
 c5 : Int
 c6 : Bool
 deriving Inhabited, DecidableEq
def encS2 (x : S2) : AV := .agg [.int .i64 x.c0, .str x.c1, .int .i64 x.c2, .int .i64 x.c3, .int .i64 x.c4, .int .u64 x.c5, .bool x.c6]
structure S3 where
 c0 : Int
 c1 : Int
 c2 : (List UInt8)
 c3 : Int
 c4 : Int
 c5 : Int
 c6 : Int
 c7 : Bool
 deriving Inhabited, DecidableEq
def encS3 (x : S3) : AV := .agg [.int .i64 x.c0, .int .i64 x.c1, .str x.c2, .int .i64 x.c3, .int .i64 x.c4, .int .i64 x.c5, .int .u64 x.c6, .bool x.c7]
def encL4 (x : List S1) : AV := .dl 7 (x.map encS1) .none
def encL5 (x : List Int) : AV := .dl 1 (x.map (AV.int .u8)) .none
structure S6 where
 c0 : (List Int)
 deriving Inhabited, DecidableEq
def encS6 (x : S6) : AV := .agg [.dl 1 (x.c0.map (AV.int .u8)) .none]
def encL7 (x : List Int) : AV := .dl 1 (x.map (AV.int .i64)) .none
structure S8 where
 c0 : Int
 c1 : Int
 c2 : (List Int)
 c3 : (List Int)
 c4 : (List Int)
 c5 : (List Int)
 c6 : (List Int)
 deriving Inhabited, DecidableEq
def encS8 (x : S8) : AV := .agg [.int .i64 x.c0, .int .i64 x.c1, .dl 1 (x.c2.map (AV.int .i64)) .none, .dl 1 (x.c3.map (AV.int .i64)) .none, .dl 1 (x.c4.map (AV.int .u64)) .none, .dl 1 (x.c5.map (AV.int .u64)) .none, .dl 1 (x.c6.map (AV.int .u64)) .none]
end Go.Av
end
