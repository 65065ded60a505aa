/- the layer over the model, part 10 -/
import Derived.Test.YtjmhdecofadfnaaGreatA9
set_option autoImplicit false
set_option linter.unusedSimpArgs false
set_option linter.unusedVariables false
set_option linter.unnecessarySimpa false
section
set_option linter.unusedSimpArgs false
set_option linter.unusedVariables false
namespace Go.Av
open Go.RowKit
section
variable {P : Program} {B : Nat} {w0 : World} {H : AHeap} {μ : Nat → Nat × Nat} {Z Z' : Nat → Nat → Prop} {w : World} {n : Nat}
/-- A slice over a block of one's own becomes a value, whatever its elements' size. -/
theorem frzG_vr (hR : R B w0 μ Z H w) {id sz : Nat} {es : List AV} {cv : Value} (hid : H[id]? = some (.cells (flat es))) (hs : ∀ e, e ∈ es → e.cells.length = sz) (hv : VR μ Z w H.length (.sl sz id 0 es.length) cv) :
  VR μ (fun c o => Z c o ∨ (c = (μ id).1 ∧ (μ id).2 ≤ o ∧ o < (μ id).2 + (flat es).length)) w H.length (.dl sz es .none) cv := by
 obtain ⟨g1, g2, ccs, e, fr, g3, g4, g5, g6⟩ := hR.obj id _ hid
 have hcell : ∀ j, w.cell? ⟨(μ id).1, j, none⟩ = ccs[j]? := fun j => cell_of_row w _ _ ccs e fr g3
 cases hv with
 | sl _ _ _ _ cap q1 q2 q3 e' N q4 q5 =>
  have hF : ∀ j v, (flat es)[j]? = some v → ∃ u, w.cell? ⟨(μ id).1, (μ id).2 + 0 + j, none⟩ = some u ∧ u.oneCell' = true ∧ VR μ Z w H.length v u := by
   intro j v hj
   obtain ⟨v', p1, p2, p3⟩ := g6 _ _ hj
   exact ⟨v', by rw [hcell, ← p1, Nat.add_zero], p2, p3⟩
  exact VR.dl sz es .none (μ id).1 ((μ id).2 + 0) cap (fun j => (w.cell? ⟨(μ id).1, (μ id).2 + 0 + j, none⟩).getD default) hs q2
   (fun j v hj => by obtain ⟨u, p1, _, _⟩ := hF j v hj; simp only [p1, Option.getD_some])
   (fun j hj => .inr ⟨rfl, by omega, by omega⟩)
   (fun j v hj => by
    obtain ⟨u, p1, _, p3⟩ := hF j v hj
    simp only [p1, Option.getD_some]
    exact p3.mono (Nat.le_refl _) (fun _ _ => rfl) (fun _ _ h => .inl h) (fun _ _ _ => rfl) (fun _ _ => rfl))
   (fun j hj => by
    obtain ⟨u, p1, p2, _⟩ := hF j _ (List.getElem?_eq_getElem hj)
    simp only [p1, Option.getD_some]; exact p2)
   trivial

theorem frzT_vr (hR : R B w0 μ Z H w) {id len : Nat} {cs : List AV} {cv : Value} (hid : H[id]? = some (.cells cs)) (hl : len ≤ cs.length) (h1 : ∀ c, c ∈ cs → c.cells = [c]) (hv : VR μ Z w H.length (.sl 1 id 0 len) cv) :
  VR μ (fun c o => Z c o ∨ (c = (μ id).1 ∧ (μ id).2 ≤ o ∧ o < (μ id).2 + len)) w H.length (.dl 1 (cs.take len) .none) cv := by
 obtain ⟨g1, g2, ccs, e, fr, g3, g4, g5, g6⟩ := hR.obj id _ hid
 have hft : flat (cs.take len) = cs.take len := by
  have : ∀ l : List AV, (∀ c, c ∈ l → c.cells = [c]) → flat l = l := by
   intro l
   induction l with
   | nil => intro _; rfl
   | cons x l ih => intro h; rw [flat_cons, h x (by simp), ih (fun c hc => h c (by simp [hc]))]; rfl
  exact this _ (fun c hc => h1 c (List.mem_of_mem_take hc))
 have hlen : (cs.take len).length = len := by rw [List.length_take]; omega
 have hcell : ∀ j, w.cell? ⟨(μ id).1, j, none⟩ = ccs[j]? := fun j => cell_of_row w _ _ ccs e fr g3
 cases hv with
 | sl _ _ _ _ cap q1 q2 q3 e' N q4 q5 =>
  have hF : ∀ j v, (cs.take len)[j]? = some v → ∃ u, w.cell? ⟨(μ id).1, (μ id).2 + 0 + j, none⟩ = some u ∧ u.oneCell' = true ∧ VR μ Z w H.length v u := by
   intro j v hj
   rw [List.getElem?_take] at hj
   split at hj
   ·obtain ⟨v', p1, p2, p3⟩ := g6 _ _ hj
    exact ⟨v', by rw [hcell, ← p1, Nat.add_zero], p2, p3⟩
   ·cases hj
  have key := VR.dl (μ := μ) (Z := fun c o => Z c o ∨ (c = (μ id).1 ∧ (μ id).2 ≤ o ∧ o < (μ id).2 + len)) (w := w) (n := H.length) 1 (cs.take len) .none (μ id).1 ((μ id).2 + 0) cap
   (fun j => (w.cell? ⟨(μ id).1, (μ id).2 + 0 + j, none⟩).getD default) (fun x hx => by rw [h1 x (List.mem_of_mem_take hx)]; rfl) (by rw [hlen]; exact q2)
   (fun j v hj => by
    rw [hft] at hj
    obtain ⟨u, p1, _, _⟩ := hF j v hj
    simp only [p1, Option.getD_some])
   (fun j hj => by rw [hft, hlen] at hj; exact .inr ⟨rfl, by omega, by omega⟩)
   (fun j v hj => by
    rw [hft] at hj
    obtain ⟨u, p1, _, p3⟩ := hF j v hj
    simp only [p1, Option.getD_some]
    exact p3.mono (Nat.le_refl _) (fun _ _ => rfl) (fun _ _ h => .inl h) (fun _ _ _ => rfl) (fun _ _ => rfl))
   (fun j hj => by
    rw [hft] at hj
    obtain ⟨u, p1, p2, _⟩ := hF j _ (List.getElem?_eq_getElem hj)
    simp only [p1, Option.getD_some]; exact p2)
   trivial
  rw [hlen] at key
  exact key

/-- One place of a value is said otherwise. -/
inductive Rep (x y : AV) : AV → AV → Prop
 | here : Rep x y x y
 | agg {l : List AV} {v v' : AV} (j : Nat) (h : l[j]? = some v) (r : Rep x y v v') : Rep x y (.agg l) (.agg (l.set j v'))
 | tup {l : List AV} {v v' : AV} (j : Nat) (h : l[j]? = some v) (r : Rep x y v v') : Rep x y (.tup l) (.tup (l.set j v'))
theorem Rep.vr {x y : AV} (hz : ∀ c o, Z c o → Z' c o) (hx : ∀ cx, VR μ Z w n x cx → VR μ Z' w n y cx) {v v' : AV} (r : Rep x y v v') : ∀ {cv : Value}, VR μ Z w n v cv → VR μ Z' w n v' cv := by
 have mono : ∀ {u : AV} {cu : Value}, VR μ Z w n u cu → VR μ Z' w n u cu := fun h => h.mono (Nat.le_refl _) (fun _ _ => rfl) hz (fun _ _ _ => rfl) (fun _ _ => rfl)
 induction r with
 | here => exact fun h => hx _ h
 | @agg l v v' j h r ih =>
  intro cv hv
  cases hv with
  | agg _ vs hl f h1 h2 =>
   have hj := (List.getElem?_eq_some_iff.1 h).1
   refine .agg _ vs (by rw [List.length_set]; exact hl) f (fun i u hi => ?_) (fun i u hi => ?_)
   ·by_cases e : j = i
    ·subst e; exact h1 j _ h
    ·rw [List.getElem?_set_ne e] at hi; exact h1 i u hi
   ·by_cases e : j = i
    ·subst e
     rw [List.getElem?_set_self hj] at hi
     cases hi
     exact ih (h2 j _ h)
    ·rw [List.getElem?_set_ne e] at hi; exact mono (h2 i u hi)
 | @tup l v v' j h r ih =>
  intro cv hv
  cases hv with
  | tup _ vs hl f h1 h2 =>
   have hj := (List.getElem?_eq_some_iff.1 h).1
   refine .tup _ vs (by rw [List.length_set]; exact hl) f (fun i u hi => ?_) (fun i u hi => ?_)
   ·by_cases e : j = i
    ·subst e; exact h1 j _ h
    ·rw [List.getElem?_set_ne e] at hi; exact h1 i u hi
   ·by_cases e : j = i
    ·subst e
     rw [List.getElem?_set_self hj] at hi
     cases hi
     exact ih (h2 j _ h)
    ·rw [List.getElem?_set_ne e] at hi; exact mono (h2 i u hi)

/-- What a function comes to, where lists of its own become values. -/
inductive RetF (K : AV → AHeap → Prop) : AV → AHeap → Prop
 | ret {v : AV} {H : AHeap} (h : RetK K v H) : RetF K v H
 | frz {v v' : AV} {H : AHeap} {sz id : Nat} {es : List AV} (hr : Rep (.sl sz id 0 es.length) (.dl sz es .none) v v') (hid : H[id]? = some (.cells (flat es))) (hs : ∀ e, e ∈ es → e.cells.length = sz) (h : RetF K v' (H.set id .dead)) : RetF K v H
 | frzT {v v' : AV} {H : AHeap} {id len : Nat} {cs : List AV} (hr : Rep (.sl 1 id 0 len) (.dl 1 (cs.take len) .none) v v') (hid : H[id]? = some (.cells cs)) (hl : len ≤ cs.length) (h1 : ∀ c, c ∈ cs → c.cells = [c]) (h : RetF K v' (H.set id .dead)) : RetF K v H
 | nil {v v' : AV} {H : AHeap} {sz s : Nat} (hr : Rep (.dl s [] .full) (.dl sz [] .none) v v') (h : RetF K v' H) : RetF K v H
theorem ACall.retF {f : FuncId} {args : List AV} {K : AV → AHeap → Prop} (h : ACall P B w0 f args H (RetF K)) : ACall P B w0 f args H K :=
 ⟨h.1, fun μ Z w cargs h1 h2 => (h.2 μ Z w cargs h1 h2).mono (by
  rintro e w' ⟨v, cv, μ', Z', H', q1, q2, q3, q4, q5⟩
  have key : ∀ {v : AV} {H2 : AHeap}, RetF K v H2 → ∀ {Z2 : Nat → Nat → Prop}, R B w0 μ' Z2 H2 w' → VR μ' Z2 w' H2.length v cv → Ev μ Z H w μ' Z2 H2 w' →
    ∃ v cv' μ' Z' H', e = .returned cv' ∧ R B w0 μ' Z' H' w' ∧ VR μ' Z' w' H'.length v cv' ∧ Ev μ Z H w μ' Z' H' w' ∧ K v H' := by
   intro v H2 hk
   induction hk with
   | @ret v H2 h =>
    intro Z2 p1 p2 p3
    obtain ⟨v', H3, k1, k2, k3⟩ := h
    obtain ⟨r1, r2⟩ := p1.wkH k2
    exact ⟨v', cv, μ', Z2, H3, q1, r1, by rw [k2.1]; exact p2.weakR k1, p3.trans r2, k3⟩
   | @frz v v' H2 sz id es hr hid hs h ih =>
    intro Z2 p1 p2 p3
    have hZ : ∀ cx, VR μ' Z2 w' H2.length (.sl sz id 0 es.length) cx → VR μ' (fun c o => Z2 c o ∨ (c = (μ' id).1 ∧ (μ' id).2 ≤ o ∧ o < (μ' id).2 + (flat es).length)) w' H2.length (.dl sz es .none) cx := by
     intro cx hx
     exact frzG_vr p1 hid hs hx
    obtain ⟨r1, r2⟩ := p1.freeze hid (fun c o => Z2 c o ∨ (c = (μ' id).1 ∧ (μ' id).2 ≤ o ∧ o < (μ' id).2 + (flat es).length)) (fun _ _ h => .inl h) (fun c o h => h.imp (fun h => h) (·.1))
    exact ih r1 (by rw [List.length_set]; exact hr.vr (fun _ _ h => .inl h) hZ p2) (p3.trans r2)
   | @frzT v v' H2 id len cs hr hid hl h1 h ih =>
    intro Z2 p1 p2 p3
    obtain ⟨r1, r2⟩ := p1.freeze hid (fun c o => Z2 c o ∨ (c = (μ' id).1 ∧ (μ' id).2 ≤ o ∧ o < (μ' id).2 + len)) (fun _ _ h => .inl h) (fun c o h => h.imp (fun h => h) (·.1))
    exact ih r1 (by rw [List.length_set]; exact hr.vr (fun _ _ h => .inl h) (fun cx hx => frzT_vr p1 hid hl h1 hx) p2) (p3.trans r2)
   | @nil v v' H2 sz s hr h ih =>
    intro Z2 p1 p2 p3
    exact ih p1 (hr.vr (fun _ _ h => h) (fun cx hx => hx.weak (wkV.nil sz s .full)) p2) p3
  exact key q5 q2 q3 q4)⟩
end
end Go.Av
namespace Go.Av
open Go.RowKit
theorem flat_map_nil {α : Type} {enc : α → AV} {sz : Nat} (hc : SzC sz enc) (h0 : 0 < sz) {l : List α} (h : flat (List.map enc l) = []) : l = [] := by
 have := hc.flat l
 rw [h, List.length_nil] at this
 rcases Nat.mul_eq_zero.1 this.symm with h | h
 ·exact List.length_eq_zero_iff.1 h
 ·omega
theorem flat_map_len {α : Type} {enc : α → AV} {sz len : Nat} (hc : SzC sz enc) (h0 : 0 < sz) {l : List α} (h : (flat (List.map enc l)).length = len * sz) : len = l.length := by
 rw [hc.flat] at h
 exact (Nat.eq_of_mul_eq_mul_right h0 h).symm
section
variable {P : Program} {B : Nat} {w0 : World} {H : AHeap} {K : AV → AHeap → Prop} {L L' : List Item} {t t2 : TypeId} {sz n : Nat} {y v v' v0 : AV} {α : Type} {enc : α → AV} {l ys : List α}
theorem RetF.own (hc : SzC sz enc) (h0 : 0 < sz) (hN : Need0 (.own sz v0 (flat (List.map enc l)) :: L') L) (hr : Rep v0 (.dl sz (List.map enc l) .none) v v') (hS : Hv H L) (h : ∀ H', Hv H' L' → RetF K v' H') : RetF K v H := by
 have hs := hS.need0 hN
 rcases hs.each _ (List.mem_cons_self ..) with ⟨s, rfl, hcs⟩ | ⟨id, len, rfl, hl, hid⟩
 ·have := flat_map_nil hc h0 hcs
  subst this
  exact RetF.nil hr (h H hs.drop)
 ·obtain rfl := flat_map_len hc h0 hl
  refine RetF.frz (es := List.map enc l) (by rwa [List.length_map]) hid (fun e he => by obtain ⟨x, _, rfl⟩ := List.mem_map.1 he; exact hc x) (h _ ?_)
  exact (hs.set (y := .tl .full) rfl .dead (.inl rfl) (fun j h => by cases h)).drop
theorem RetF.own1 (hc : OneC enc) (hN : Need0 (.own 1 v0 (List.map enc l) :: L') L) (hr : Rep v0 (.dl 1 (List.map enc l) .none) v v') (hS : Hv H L) (h : ∀ H', Hv H' L' → RetF K v' H') : RetF K v H :=
 RetF.own hc.toSz (by decide) (by rw [flat_one enc hc]; exact hN) hr hS h
theorem vrs_tup {μ : Nat → Nat × Nat} {Z : Nat → Nat → Prop} {w : World} {n : Nat} {args : List AV} {cargs : Array Value} (h : VR μ Z w n (.tup args) (.tuple cargs)) : VRs μ Z w n args cargs := by
 cases h with
 | tup _ vs hl f h1 h2 => exact ⟨hl, fun j v hj => ⟨f j, h1 j v hj, h2 j v hj⟩⟩
theorem ACall.frzArg {f : FuncId} {args args' : List AV} (hc : SzC sz enc) (h0 : 0 < sz) (hN : Need0 (.own sz v0 (flat (List.map enc l)) :: L') L) (hr : Rep v0 (.dl sz (List.map enc l) .none) (.tup args) (.tup args')) (hS : Hv H L) (h : ∀ H', Hv H' L' → ACall P B w0 f args' H' K) : ACall P B w0 f args H K := by
 have hs := hS.need0 hN
 rcases hs.each _ (List.mem_cons_self ..) with ⟨s, rfl, hcs⟩ | ⟨id, len, rfl, hl, hid⟩
 ·have := flat_map_nil hc h0 hcs
  subst this
  have hk := h H hs.drop
  refine ⟨hk.1, fun μ Z w cargs h1 h2 => hk.2 μ Z w cargs h1 ?_⟩
  exact vrs_tup (hr.vr (fun _ _ h => h) (fun cx hx => hx.weak (wkV.nil sz s .full)) h2.tup)
 ·obtain rfl := flat_map_len hc h0 hl
  have hs' : ∀ e, e ∈ List.map enc l → e.cells.length = sz := fun e he => by obtain ⟨x, _, rfl⟩ := List.mem_map.1 he; exact hc x
  have hd : Hv (H.set id .dead) L' := (hs.set (y := .tl .full) rfl .dead (.inl rfl) (fun j h => by cases h)).drop
  have hk := h _ hd
  refine ⟨hk.1, fun μ Z w cargs h1 h2 => ?_⟩
  obtain ⟨r1, r2⟩ := h1.freeze hid (fun c o => Z c o ∨ (c = (μ id).1 ∧ (μ id).2 ≤ o ∧ o < (μ id).2 + (flat (List.map enc l)).length)) (fun _ _ h => .inl h) (fun c o h => h.imp (fun h => h) (·.1))
  have hv := vrs_tup (hr.vr (Z' := fun c o => Z c o ∨ (c = (μ id).1 ∧ (μ id).2 ≤ o ∧ o < (μ id).2 + (flat (List.map enc l)).length)) (fun _ _ h => .inl h) (fun cx hx => frzG_vr h1 hid hs' (by rwa [List.length_map])) h2.tup)
  refine (hk.2 μ _ w cargs r1 (by rw [List.length_set]; exact hv)).mono ?_
  rintro e w' ⟨v, cv, μ', Z', H', q1, q2, q3, q4, q5⟩
  exact ⟨v, cv, μ', Z', H', q1, q2, q3, r2.trans q4, q5⟩
theorem Wk.setL : ∀ {a : List AV} {t : Nat} {u v : AV}, a[t]? = some u → wkV v u → Wk (a.set t v) a
 | [], _, _, _, h, _ => by simp at h
 | _ :: _, 0, _, _, h, k => by simp at h; subst h; exact ⟨k, Wk.refl _⟩
 | _ :: _, _ + 1, _, _, h, k => ⟨wkV.refl _, Wk.setL (by simpa using h) k⟩
/-- an own list that a variable holds is frozen ahead of a piece of code -/
theorem AWP.frzT {rd : Option Nat} {c : Code} {Q : Exit → List AV → AHeap → Prop} {a : List AV} (t : Nat) (hc : SzC sz enc) (h0 : 0 < sz) (ht : a[t]? = some v0) (hN : Need0 (.own sz v0 (flat (List.map enc l)) :: L') L) (hS : Hv H L) (h : ∀ H', Hv H' L' → AWP P B w0 rd c Q (a.set t (.dl sz (List.map enc l) .none)) H') : AWP P B w0 rd c Q a H := by
 have hs := hS.need0 hN
 rcases hs.each _ (List.mem_cons_self ..) with ⟨s, rfl, hcs⟩ | ⟨id, len, rfl, hl, hid⟩
 ·have := flat_map_nil hc h0 hcs
  subst this
  exact (h H hs.drop).weak (Wk.setL ht (wkV.nil sz s .full))
 ·obtain rfl := flat_map_len hc h0 hl
  have hs' : ∀ e, e ∈ List.map enc l → e.cells.length = sz := fun e he => by obtain ⟨x, _, rfl⟩ := List.mem_map.1 he; exact hc x
  have hd : Hv (H.set id .dead) L' := (hs.set (y := .tl .full) rfl .dead (.inl rfl) (fun j h => by cases h)).drop
  refine AWP.freeze (elems := List.map enc l) ht hid hs' (by simp) ?_ (h _ hd)
  rw [List.drop_zero, List.take_of_length_le (by rw [hl]; exact Nat.le_refl _)]
theorem AWP.frzT1 {rd : Option Nat} {c : Code} {Q : Exit → List AV → AHeap → Prop} {a : List AV} (t : Nat) (hc : OneC enc) (ht : a[t]? = some v0) (hN : Need0 (.own 1 v0 (List.map enc l) :: L') L) (hS : Hv H L) (h : ∀ H', Hv H' L' → AWP P B w0 rd c Q (a.set t (.dl 1 (List.map enc l) .none)) H') : AWP P B w0 rd c Q a H :=
 AWP.frzT t hc.toSz (by decide) ht (by rw [flat_one enc hc]; exact hN) hS h
theorem ACall.frzArg1 {f : FuncId} {args args' : List AV} (hc : OneC enc) (hN : Need0 (.own 1 v0 (List.map enc l) :: L') L) (hr : Rep v0 (.dl 1 (List.map enc l) .none) (.tup args) (.tup args')) (hS : Hv H L) (h : ∀ H', Hv H' L' → ACall P B w0 f args' H' K) : ACall P B w0 f args H K :=
 ACall.frzArg hc.toSz (by decide) (by rw [flat_one enc hc]; exact hN) hr hS h
/-- append to a list of its own, whatever is appended -/
theorem appO_own (hc : SzC sz enc) (hT : AppTy P t sz n) (hy : AppSrc P t2 sz y (List.map enc ys)) (hN : Need0 (.own sz v (flat (List.map enc l)) :: L') L) (hS : Hv H L) (hlen : l.length + ys.length ≤ n)
  (hK : ∀ (v' : AV) (H' : AHeap), Hv H' (.own sz v' (flat (List.map enc (l ++ ys))) :: L') → K v' H') : AppE P t t2 v y H K := by
 have hs := hS.need0 hN
 by_cases hys : ys = []
 ·subst hys
  rcases hs.each _ (List.mem_cons_self ..) with ⟨s, rfl, hcs⟩ | ⟨id, len, rfl, hl, hid⟩
  ·obtain ⟨ti, e, te, z, h1, h2, h3, h4, h5, h6, rfl, h9, h10⟩ := hT
   obtain ⟨y', hw, h7⟩ := hy
   obtain rfl := flat_map_nil hc h6 hcs
   refine ⟨y', hw, .inl ⟨ti, e, te, z, [], s, [], .full, h1, h2, h3, h4, h5, h6, h7, rfl, .inr ⟨rfl, rfl⟩, fun _ => ?_, fun h => absurd rfl h⟩⟩
   exact hK _ _ (hs.drop.free (.inl ⟨_, rfl, rfl⟩) rfl)
  ·obtain ⟨ti, e, te, z, h1, h2, h3, h4, h5, h6, rfl, h9, h10⟩ := hT
   obtain ⟨y', hw, h7⟩ := hy
   obtain rfl := flat_map_len hc h6 hl
   have hb := Nat.le_trans (Nat.mul_le_mul_right te.bytes hlen) h9
   refine ⟨y', hw, .inr (.inr (.inr ⟨ti, e, te, z, [], id, l.length, _, h1, h2, h3, h4, h5, h6, h7, rfl, hid, hl, by simpa using hb, by have := Nat.le_trans (Nat.le_mul_of_pos_right (l.length + 0) h10) hb; simp at this ⊢; omega, hK _ _ ?_⟩))⟩
   have h1 : Hv (H.set id .dead) (.tl .full :: L') := hs.set rfl _ (.inl rfl) (fun j h => by cases h)
   have h2 := h1.drop.push (.cells (flat (List.map enc l) ++ flat [])) (x := .own te.size (.sl te.size (H.set id AObj.dead).length 0 (l.length + 0)) (flat (List.map enc (l ++ [])))) (.inr ⟨_, _, rfl, by simpa using hl, by rw [get_new]; simp [flat]⟩) (fun i h => by cases h; rfl)
   simpa using h2
 ·refine app_own hT hy .here hs ?_ (fun h => hys (List.map_eq_nil_iff.1 h)) ?_ (by rw [hc.flat, List.length_map])
  ·rw [hc.flat, List.length_map, ← Nat.add_mul]; exact Nat.mul_le_mul_right _ hlen
  ·intro v' H' h
   rw [← flat_append, map_app] at h
   exact hK v' H' h
theorem appO_own1 (hc : OneC enc) (hT : AppTy P t 1 n) (hy : AppSrc P t2 1 y (List.map enc ys)) (hN : Need0 (.own 1 v (List.map enc l) :: L') L) (hS : Hv H L) (hlen : l.length + ys.length ≤ n)
  (hK : ∀ (v' : AV) (H' : AHeap), Hv H' (.own 1 v' (List.map enc (l ++ ys)) :: L') → K v' H') : AppE P t t2 v y H K :=
 appO_own hc.toSz hT hy (by rw [flat_one enc hc]; exact hN) hS hlen (fun v' H' h => hK v' H' (by rwa [flat_one enc hc] at h))
theorem appO_nil (hc : SzC sz enc) (hT : AppTy P t sz n) (hy : AppSrc P t2 sz y (List.map enc ys)) {s : Nat} (hS : Hv H L) (hlen : ys.length ≤ n)
  (hK : ∀ (v' : AV) (H' : AHeap), Hv H' (.own sz v' (flat (List.map enc ys)) :: L) → K v' H') : AppE P t t2 (.dl s [] .full) y H K :=
 appO_own (l := []) hc hT hy (.own0 .done) hS (by simpa using hlen) (fun v' H' h => hK v' H' (by simpa using h))
theorem appO_nil1 (hc : OneC enc) (hT : AppTy P t 1 n) (hy : AppSrc P t2 1 y (List.map enc ys)) {s : Nat} (hS : Hv H L) (hlen : ys.length ≤ n)
  (hK : ∀ (v' : AV) (H' : AHeap), Hv H' (.own 1 v' (List.map enc ys) :: L) → K v' H') : AppE P t t2 (.dl s [] .full) y H K :=
 appO_nil hc.toSz hT hy hS hlen (fun v' H' h => hK v' H' (by rwa [flat_one enc hc] at h))
/-- the length of a list of its own -/
theorem len_own {ti : TyA} {e : TypeId} (ht : tyA P t = some ti) (hk : ti.kind = .slice e) (hc : SzC sz enc) (h0 : 0 < sz) (hp : Pull L (.own sz v (flat (List.map enc l))) L') (hS : Hv H L) (h : K (.int .i64 (l.length : Int)) H) : someK (lenA P H t v) K H := by
 rcases (hS.pull hp).each _ (List.mem_cons_self ..) with ⟨s, rfl, hcs⟩ | ⟨id, len, rfl, hl, hid⟩
 ·have := flat_map_nil hc h0 hcs
  subst this
  exact ⟨_, by simp [lenA, ht, hk], h⟩
 ·obtain rfl := flat_map_len hc h0 hl
  exact ⟨_, by simp [lenA, ht, hk], h⟩
theorem len_own1 {ti : TyA} {e : TypeId} (ht : tyA P t = some ti) (hk : ti.kind = .slice e) (hc : OneC enc) (hp : Pull L (.own 1 v (List.map enc l)) L') (hS : Hv H L) (h : K (.int .i64 (l.length : Int)) H) : someK (lenA P H t v) K H :=
 len_own ht hk hc.toSz (by decide) (by rw [flat_one enc hc]; exact hp) hS h
/-- a list of its own is nothing or a block -/
theorem split_own {G : AV → Prop} (hc : SzC sz enc) (h0 : 0 < sz) (hp : Pull L (.own sz v (flat (List.map enc l))) L') (hS : Hv H L) (hn : l = [] → ∀ s, G (.dl s [] .full)) (hb : ∀ id, Hv H (.obj id (.cells (flat (List.map enc l))) :: L') → G (.sl sz id 0 l.length)) : G v := by
 have hs := hS.pull hp
 rcases hs.each _ (List.mem_cons_self ..) with ⟨s, rfl, hcs⟩ | ⟨id, len, rfl, hl, hid⟩
 ·exact hn (flat_map_nil hc h0 hcs) s
 ·obtain rfl := flat_map_len hc h0 hl
  exact hb id (hs.as hid (fun i hi => hi))
theorem split_own1 {G : AV → Prop} (hc : OneC enc) (hp : Pull L (.own 1 v (List.map enc l)) L') (hS : Hv H L) (hn : l = [] → ∀ s, G (.dl s [] .full)) (hb : ∀ id, Hv H (.obj id (.cells (List.map enc l)) :: L') → G (.sl 1 id 0 l.length)) : G v :=
 split_own (G := G) hc.toSz (by decide) (by rw [flat_one enc hc]; exact hp) hS hn (fun id h => hb id (by rwa [flat_one enc hc] at h))
theorem atLen {x : AV} (h : someK (lenA P H t x) K H) : someK (lenA P H t x) K H := h
theorem atIdx {x i : AV} (h : someK (indexAddrA P t x i) K H) : someK (indexAddrA P t x i) K H := h
end
end Go.Av
namespace Go.Av
open Go.RowKit
section
variable {P : Program} {B : Nat} {w0 : World} {H : AHeap} {K : AV → AHeap → Prop} {L L' L2 : List Item} {t : TypeId} {v x : AV}
theorem sto_own {te : TyA} {id off sz : Nat} {cs ocs : List AV} (ht : tyA P t = some te) (hp : Pull L (.own sz v ocs) L2) (hq : Pull L (.obj id (.cells cs)) L') (hS : Hv H L) (h4 : te.size = 1) (h5 : off + 1 ≤ cs.length)
  (hK : ∀ H', Hv H' (.obj id (.cells (putA cs off [v])) :: L') → K .undef H') : StoE P t (.ptr id off) v H K := by
 have hv : v.cells = [v] ∧ okCells v = true := by
  rcases (hS.pull hp).each _ (List.mem_cons_self ..) with ⟨s, rfl, _⟩ | ⟨i, len, rfl, _⟩ <;> exact ⟨rfl, rfl⟩
 refine sto_go ht hq hS hv.2 (by rw [hv.1, h4]; rfl) (by rw [h4]; exact h5) ?_
 rw [hv.1]; exact hK
theorem atRetF (h : RetF K x H) : RetF K x H := h
end
end Go.Av
namespace Go.Av
theorem RetF.ownT {K : AV → AHeap → Prop} {H : AHeap} {L L' : List Item} {α : Type} {enc : α → AV} {l : List α} {id len : Nat} {v v' : AV} (hc : OneC enc) (hN : Need0 (.obj id (.cells (List.map enc l)) :: L') L) (hr : Rep (.sl 1 id 0 len) (.dl 1 (List.map enc (List.take len l)) .none) v v') (hS : Hv H L) (hl : len ≤ l.length) (h : ∀ H', Hv H' L' → RetF K v' H') : RetF K v H := by
 have hs := hS.need0 hN
 have hf : H[id]? = some (.cells (List.map enc l)) := hs.each _ (List.mem_cons_self ..)
 refine RetF.frzT (cs := List.map enc l) (by rw [← List.map_take]; exact hr) hf (by simpa using hl) (fun c hc' => by obtain ⟨x, _, rfl⟩ := List.mem_map.1 hc'; exact hc x) (h _ ?_)
 exact (hs.set (y := .tl .full) rfl .dead (.inl rfl) (fun j h => by cases h)).drop
end Go.Av
namespace Go.Av
open Go.RowKit
theorem split9 {H : AHeap} {L L' : List Item} {sz : Nat} {v : AV} {α : Type} {enc : α → AV} {l : List α} (hc : SzC sz enc) (h0 : 0 < sz) (hp : Pull L (.own sz v (flat (List.map enc l))) L') (hS : Hv H L) : (l = [] ∧ ∃ s, v = .dl s [] .full) ∨ ∃ id, v = .sl sz id 0 l.length ∧ Hv H (.obj id (.cells (flat (List.map enc l))) :: L') :=
 split_own (G := fun v => (l = [] ∧ ∃ s, v = .dl s [] .full) ∨ ∃ id, v = .sl sz id 0 l.length ∧ Hv H (.obj id (.cells (flat (List.map enc l))) :: L')) hc h0 hp hS (fun hl s => .inl ⟨hl, s, rfl⟩) (fun id h => .inr ⟨id, rfl, h⟩)
theorem split91 {H : AHeap} {L L' : List Item} {v : AV} {α : Type} {enc : α → AV} {l : List α} (hc : OneC enc) (hp : Pull L (.own 1 v (List.map enc l)) L') (hS : Hv H L) : (l = [] ∧ ∃ s, v = .dl s [] .full) ∨ ∃ id, v = .sl 1 id 0 l.length ∧ Hv H (.obj id (.cells (List.map enc l)) :: L') :=
 split_own1 (G := fun v => (l = [] ∧ ∃ s, v = .dl s [] .full) ∨ ∃ id, v = .sl 1 id 0 l.length ∧ Hv H (.obj id (.cells (List.map enc l)) :: L')) hc hp hS (fun hl s => .inl ⟨hl, s, rfl⟩) (fun id h => .inr ⟨id, rfl, h⟩)
end Go.Av
namespace Go.Av
/-! short names -/
theorem pH {x : Item} {l : List Item} : Pull (x :: l) x l := .here
theorem pT {l l' : List Item} {x z : Item} (h : Pull l x l') : Pull (z :: l) x (z :: l') := .there h
section
variable {l l' : List AV} {x y : AV}
theorem kZ : Wk [] [] := Wk.nil
theorem kR (k : Wk l l') : Wk (x :: l) (x :: l') := Wk.r k
theorem kF {s s' : Nat} (k : Wk l l') : Wk (.dl s [] .full :: l) (.dl s' [] .full :: l') := Wk.cons (wkV.nilf _ _) k
theorem kN {s s' : Nat} {tl : Tail} (k : Wk l l') : Wk (.dl s [] .none :: l) (.dl s' [] tl :: l') := Wk.cons (wkV.nil _ _ _) k
theorem kE {α : Type} {enc : α → AV} {s s' : Nat} {tl : Tail} (k : Wk l l') : Wk (.dl s (List.map enc ([] : List α)) .none :: l) (.dl s' [] tl :: l') := Wk.cons (wkN0 enc _ _ _) k
theorem kI {c : IntKind} {a : Int} {tl : Tail} (k : Wk l l') : Wk (.dl 1 (List.map (AV.int c) [a]) .none :: l) (.dl 1 [.int c a] tl :: l') := Wk.cons (wkI1 _ _ _) k
theorem kT {s : Nat} {es : List AV} {tl : Tail} (k : Wk l l') : Wk (.dl s es .none :: l) (.dl s es tl :: l') := Wk.cons (wkV.tail _ _ _) k
theorem kU (k : Wk l l') : Wk (.undef :: l) (y :: l') := Wk.u k
theorem aZ : WkA [] [] := WkA.nil
theorem aR (k : WkA l l') : WkA (x :: l) (x :: l') := WkA.r k
theorem aF {s s' : Nat} (k : WkA l l') : WkA (.dl s [] .full :: l) (.dl s' [] .full :: l') := WkA.cons (wkA.v (wkV.nilf _ _)) k
theorem aN {s s' : Nat} {tl : Tail} (k : WkA l l') : WkA (.dl s [] .none :: l) (.dl s' [] tl :: l') := WkA.cons (wkA.v (wkV.nil _ _ _)) k
theorem aT {s : Nat} {es : List AV} {tl : Tail} (k : WkA l l') : WkA (.dl s es .none :: l) (.dl s es tl :: l') := WkA.cons (wkA.v (wkV.tail _ _ _)) k
theorem aG {cs cs' : List AV} (h : Wk cs cs') (k : WkA l l') : WkA (.agg cs :: l) (.agg cs' :: l') := WkA.cons (wkA.agg h) k
end
section
variable {h h' n : List Item} {x : Item}
theorem nD : Need h h := .done
theorem nT (p : Pull h x h') (k : Need n h') : Need (x :: n) h := .take p k
theorem nW {id : Nat} {cs cs0 : List AV} (p : Pull h (.obj id (.cells cs)) h') (hw : Wk cs0 cs) (k : Need n h') : Need (.obj id (.cells cs0) :: n) h := .takew p hw k
theorem nX (k : Need n h) : Need n (x :: h) := .drop k
theorem nF (k : Need n h) : Need (.tl .full :: n) h := .full k
theorem nO {sz id len : Nat} {cs : List AV} (p : Pull h (.obj id (.cells cs)) h') (hl : cs.length = len * sz) (k : Need n h') : Need (.own sz (.sl sz id 0 len) cs :: n) h := .own p hl k
theorem nE {sz s : Nat} (k : Need n h) : Need (.own sz (.dl s [] .full) [] :: n) h := .own0 k
theorem mD : Need0 h h := .done
theorem mT (p : Pull h x h') (k : Need0 n h') : Need0 (x :: n) h := .take p k
theorem mX (k : Need0 n h) : Need0 n (x :: h) := .drop k
theorem mF (k : Need0 n h) : Need0 (.tl .full :: n) h := .full k
theorem mO {sz id len : Nat} {cs : List AV} (p : Pull h (.obj id (.cells cs)) h') (hl : cs.length = len * sz) (k : Need0 n h') : Need0 (.own sz (.sl sz id 0 len) cs :: n) h := .own p hl k
theorem mE {sz s : Nat} (k : Need0 n h) : Need0 (.own sz (.dl s [] .full) [] :: n) h := .own0 k
end
section
variable {s : List Slot} {a a' : List AV} {v x y : AV}
theorem sZ : W2 [] [] [] := W2.nil
theorem sD (h : W2 s a a') : W2 (.d :: s) (x :: a) (y :: a') := W2.d h
theorem sK (h : W2 s a a') : W2 (.k :: s) (x :: a) (x :: a') := W2.k h
theorem sP (h : W2 s a a') : W2 (.p v :: s) (x :: a) (v :: a') := W2.p h
theorem sF {t t' : Nat} (h : W2 s a a') : W2 (.p (.dl t [] .full) :: s) (x :: a) (.dl t' [] .full :: a') := W2.pw (wkV.nilf _ _) h
theorem sN {t t' : Nat} {tl : Tail} (h : W2 s a a') : W2 (.p (.dl t [] .none) :: s) (x :: a) (.dl t' [] tl :: a') := W2.pw (wkV.nil _ _ _) h
theorem sT {t : Nat} {es : List AV} {tl : Tail} (h : W2 s a a') : W2 (.p (.dl t es .none) :: s) (x :: a) (.dl t es tl :: a') := W2.pw (wkV.tail _ _ _) h
end
end Go.Av
namespace Go.Av
section
variable {x y : AV} {s s' : Nat} {es : List AV} {tl : Tail} {cs cs' : List AV}
theorem rR : wkR x x := wkR.a (wkA.refl _)
theorem rT : wkR (.dl s es .none) (.dl s es tl) := wkR.a (wkA.v (wkV.tail _ _ _))
theorem rF : wkR (.dl s [] .full) (.dl s' [] .full) := wkR.a (wkA.v (wkV.nilf _ _))
theorem rN : wkR (.dl s [] .none) (.dl s' [] tl) := wkR.a (wkA.v (wkV.nil _ _ _))
theorem rG (h : Wk cs cs') : wkR (.agg cs) (.agg cs') := wkR.a (wkA.agg h)
theorem rU (h : WkA cs cs') : wkR (.tup cs) (.tup cs') := wkR.tup h
end
section
variable {α : Type} {x : Option α} {r : α}
theorem gd1 {c : Prop} [Decidable c] (h : (if c then x else none) = some r) : (c = True) ∧ x = some r := guard1 h
theorem gd2 {c d : Prop} [Decidable (c ∧ d)] (h : (if c ∧ d then x else none) = some r) : ((c = True) ∧ (d = True)) ∧ x = some r := guard2 h
theorem gd3 {c d e : Prop} [Decidable (c ∧ d ∧ e)] (h : (if c ∧ d ∧ e then x else none) = some r) : ((c = True) ∧ (d = True) ∧ (e = True)) ∧ x = some r := guard3 h
theorem gd4 {c d e f : Prop} [Decidable (c ∧ d ∧ e ∧ f)] (h : (if c ∧ d ∧ e ∧ f then x else none) = some r) : ((c = True) ∧ (d = True) ∧ (e = True) ∧ (f = True)) ∧ x = some r := guard4 h
end
/-- A loop, round by round. -/
def unr (P : Program) (B : Nat) (w0 : World) (rd : Option Nat) (c : Code) (Q : Exit → List AV → AHeap → Prop) : Nat → List AV → AHeap → Prop
 | 0, _, _ => False
 | n + 1, a, H => AWP P B w0 rd c (thenQ (unr P B w0 rd c Q n) Q) a H
theorem AWP.unroll {P : Program} {B : Nat} {w0 : World} {rd : Option Nat} {c : Code} {Q : Exit → List AV → AHeap → Prop} {a : List AV} {H : AHeap} (n : Nat) (h : unr P B w0 rd c Q n a H) : AWP P B w0 rd (.loop c) Q a H := by
 refine AWP.loop (σ := Nat × List AV) (fun s => s.2) (fun s H' => unr P B w0 rd c Q s.1 s.2 H') (fun s => s.1) ⟨(n, a), Wk.refl _, h⟩ ?_
 rintro ⟨k, s⟩ H' h _
 cases k with
 | zero => exact h.elim
 | succ k => exact h.mono (thenQ_mono fun a' H'' h => ⟨(k, a'), Wk.refl _, h, Nat.lt_succ_self k⟩)
theorem atUnr {P : Program} {B : Nat} {w0 : World} {rd : Option Nat} {Y : Hand} (hY : YSound P B w0 Y) {c : Code} {Q : Exit → List AV → AHeap → Prop} {a : List AV} {H : AHeap} {n : Nat} (h : eawp P B w0 rd Y c (thenQ (unr P B w0 rd c Q n) Q) a H) : unr P B w0 rd c Q (n + 1) a H :=
 eawp_sound hY _ _ _ _ h

theorem oneSl (a b c d : Nat) : AV.one (.sl a b c d) = true := rfl
theorem oneInt (k : IntKind) (i : Int) : AV.one (.int k i) = true := rfl
theorem oneDl (n : Nat) (l : List AV) (t : Tail) : AV.one (.dl n l t) = true := rfl
theorem oneStr (l : List UInt8) : AV.one (.str l) = true := rfl
theorem oneBool (b : Bool) : AV.one (.bool b) = true := rfl

end Go.Av
end

section
namespace Go.Av
section
variable {α : Type} {enc : α → AV} {sz : Nat}
theorem flat_at [Inhabited α] (hc : SzC sz enc) : ∀ (l : List α) (i : Nat), i < l.length → (flat (List.map enc l)).drop (i * sz) = (enc (rdn l i)).cells ++ flat (List.map enc (l.drop (i + 1)))
 | [], _, h => by simp at h
 | x :: l, 0, _ => by simp [flat, rdn]
 | x :: l, i + 1, h => by
  have := flat_at hc l i (by simpa using h)
  have e : (i + 1) * sz = sz + i * sz := by rw [Nat.succ_mul, Nat.add_comm]
  rw [List.map_cons, show flat (enc x :: List.map enc l) = (enc x).cells ++ flat (List.map enc l) from rfl, e, ← List.drop_drop, List.drop_left' (hc x), this]
  rfl
theorem flat_tk (hc : SzC sz enc) : ∀ (l : List α) (i : Nat), (flat (List.map enc l)).take (i * sz) = flat (List.map enc (l.take i))
 | [], i => by simp [flat]
 | x :: l, 0 => by simp [flat]
 | x :: l, i + 1 => by
  have := flat_tk hc l i
  have e : (i + 1) * sz = sz + i * sz := by rw [Nat.succ_mul, Nat.add_comm]
  rw [List.map_cons, show flat (enc x :: List.map enc l) = (enc x).cells ++ flat (List.map enc l) from rfl, e, List.take_add, List.take_left' (hc x), List.drop_left' (hc x), this]
  rfl
theorem headW [Inhabited α] (hc : SzC sz enc) (l : List α) (i f : Nat) (hf : f < sz) (h : i < l.length) : ((flat (List.map enc l)).drop (i * sz + f)).head? = (enc (rdn l i)).cells[f]? := by
 rw [← List.drop_drop, flat_at hc l i h, List.head?_drop, List.getElem?_append_left (by rw [hc]; exact hf)]
theorem takeW [Inhabited α] (hc : SzC sz enc) (l : List α) (i : Nat) (h : i < l.length) : ((flat (List.map enc l)).drop (i * sz)).take sz = (enc (rdn l i)).cells := by
 rw [flat_at hc l i h, List.take_left' (hc _)]
theorem lenW [Inhabited α] (hc : SzC sz enc) (l : List α) (i : Nat) (h : i < l.length) : sz ≤ ((flat (List.map enc l)).drop (i * sz)).length := by
 rw [flat_at hc l i h, List.length_append, hc]; omega
theorem putW [Inhabited α] (hc : SzC sz enc) (l : List α) (i f : Nat) (c : AV) (upd : α) (hu : (enc upd).cells = (enc (rdn l i)).cells.set f c) (hf : f < sz) (h : i < l.length) :
  putA (flat (List.map enc l)) (i * sz + f) [c] = flat (List.map enc (l.set i upd)) := by
 have hlen : (flat (List.map enc l)).length = l.length * sz := SzC.flat hc l
 have h1 : (i + 1) * sz ≤ l.length * sz := Nat.mul_le_mul_right _ h
 have h2 : (i + 1) * sz = i * sz + sz := Nat.succ_mul ..
 have e1 : putA (flat (List.map enc l)) (i * sz + f) [c] = (flat (List.map enc l)).set (i * sz + f) c := by
  unfold putA
  rw [List.set_eq_take_append_cons_drop, if_pos (by omega)]
  simp
 have e2 : flat (List.map enc l) = flat (List.map enc (l.take i)) ++ ((enc (rdn l i)).cells ++ flat (List.map enc (l.drop (i + 1)))) := by
  rw [← flat_tk hc, ← flat_at hc l i h, List.take_append_drop]
 have h3 : (flat (List.map enc (l.take i))).length = i * sz := by
  rw [SzC.flat hc, List.length_take, Nat.min_eq_left (by omega)]
 rw [e1, e2, List.set_append_right _ _ (by omega), h3, Nat.add_sub_cancel_left, List.set_append_left _ _ (by rw [hc]; exact hf), ← hu]
 rw [List.set_eq_take_append_cons_drop, if_pos h]
 simp [flat]
variable {P : Program} {L L' : List Item} {H : AHeap} {K : AV → AHeap → Prop}
/-- a field of an element of a list of one's own is written -/
theorem stoW [Inhabited α] (enc : α → AV) {t : TypeId} {y c : AV} {te : TyA} {id i f : Nat} {l : List α} (upd : α) (ht : tyA P t = some te) (hp : Pull L (.obj id (.cells (flat (List.map enc l)))) L') (hS : Hv H L) (h6 : te.size = 1) (hv : wkD c y) (h1 : c.cells = [c]) (hk : okCells c = true) (hc : SzC sz enc)
  (hu : (enc upd).cells = (enc (rdn l i)).cells.set f c) (hf : f < sz) (hl : i < l.length)
  (hK : ∀ (H' : AHeap), Hv H' (.obj id (.cells (flat (List.map enc (List.set l i upd)))) :: L') → K .undef H') : StoE P t (.ptr id (i * sz + f)) y H K := by
 have hlen : (flat (List.map enc l)).length = l.length * sz := SzC.flat hc l
 have h2 : (i + 1) * sz ≤ l.length * sz := Nat.mul_le_mul_right _ hl
 have h3 : (i + 1) * sz = i * sz + sz := Nat.succ_mul ..
 refine sto_goW ht hv hp hS hk (by rw [h1, h6]; rfl) (by rw [h6]; omega) ?_
 intro H' h
 rw [h1, putW hc l i f c upd hu hf hl] at h
 exact hK H' h
theorem stoW0 [Inhabited α] (enc : α → AV) {t : TypeId} {y c : AV} {te : TyA} {id i : Nat} {l : List α} (upd : α) (ht : tyA P t = some te) (hp : Pull L (.obj id (.cells (flat (List.map enc l)))) L') (hS : Hv H L) (h6 : te.size = 1) (hv : wkD c y) (h1 : c.cells = [c]) (hk : okCells c = true) (hc : SzC sz enc)
  (hu : (enc upd).cells = (enc (rdn l i)).cells.set 0 c) (hf : 0 < sz) (hl : i < l.length)
  (hK : ∀ (H' : AHeap), Hv H' (.obj id (.cells (flat (List.map enc (List.set l i upd)))) :: L') → K .undef H') : StoE P t (.ptr id (i * sz)) y H K :=
 stoW (f := 0) enc upd ht hp hS h6 hv h1 hk hc hu hf hl hK
/-- make: a list of one's own, of zeros -/
theorem makeO {d : α} {t e : TypeId} {ti te : TyA} {z : AV} {k k' : IntKind} {x : Int} {N : Int} (hc : SzC sz enc) (h0 : 0 < sz) (h1 : tyA P t = some ti) (h2 : ti.kind = .slice e) (h3 : tyA P e = some te) (h4 : te.zero = some z) (hz : enc d = z) (h6 : te.size = sz) (hone : z.cells.all AV.one = true)
  (hN : N.toNat * te.bytes ≤ 140737488355328) (hN2 : N ≤ 4611686018427387904) (hS : Hv H L) (hx : 0 ≤ x ∧ x ≤ N) (hK : ∀ (v : AV) (H' : AHeap), Hv H' (.own sz v (flat (List.map enc (List.replicate x.toNat d))) :: L) → K v H') : MakeQ P t (.int k x) (.int k' x) H K := by
 have hx' : x = ((x.toNat : Nat) : Int) := by omega
 have hl : (flat (List.map enc (List.replicate x.toNat d))).length = x.toNat * sz := by rw [SzC.flat hc, List.length_replicate]
 have hr : List.map enc (List.replicate x.toNat d) = List.replicate x.toNat z := by rw [List.map_replicate, hz]
 refine ⟨ti, e, te, z, k, k', x.toNat, h1, h2, h3, h4, by rw [← hz, hc, h6], hone, by omega, by rw [← hx'], by rw [← hx'], Nat.le_trans (Nat.mul_le_mul_right _ (by omega)) hN, by omega, fun q => ?_, fun q => ?_⟩
 ·refine hK _ _ (hS.free (.inl ⟨te.size, rfl, ?_⟩) rfl)
  rw [q]; rfl
 ·refine hK _ _ (hS.push _ (.inr ⟨H.length, x.toNat, by rw [h6], hl, ?_⟩) (fun i h => by cases h; rfl))
  rw [get_new, hr]
theorem makeO1 {d : α} {t e : TypeId} {ti te : TyA} {z : AV} {k k' : IntKind} {x : Int} {N : Int} (hc : OneC enc) (h1 : tyA P t = some ti) (h2 : ti.kind = .slice e) (h3 : tyA P e = some te) (h4 : te.zero = some z) (hz : enc d = z) (h6 : te.size = 1) (hone : z.cells.all AV.one = true)
  (hN : N.toNat * te.bytes ≤ 140737488355328) (hN2 : N ≤ 4611686018427387904) (hS : Hv H L) (hx : 0 ≤ x ∧ x ≤ N) (hK : ∀ (v : AV) (H' : AHeap), Hv H' (.own 1 v (List.map enc (List.replicate x.toNat d)) :: L) → K v H') : MakeQ P t (.int k x) (.int k' x) H K :=
 makeO hc.toSz (by decide) h1 h2 h3 h4 hz h6 hone hN hN2 hS hx (fun v H' h => hK v H' (by rwa [flat_one enc hc] at h))
theorem WkA.same : ∀ (a : List AV), WkA a a
 | [] => WkA.nil
 | _ :: a => WkA.r (WkA.same a)
theorem WkA.setL : ∀ {a : List AV} {t : Nat} {y v : AV}, a[t]? = some y → wkA v y → WkA (a.set t v) a
 | x :: a, 0, y, v, h, hw => by simp at h; subst h; exact WkA.cons hw (WkA.same a)
 | x :: a, t + 1, y, v, h, hw => WkA.cons (wkA.refl x) (WkA.setL (by simpa using h) hw)
 | [], _, _, _, h, _ => by simp at h
/-- a literal list of slices: less is said of its elements -/
theorem AWP.wkLit {B : Nat} {w0 : World} {rd : Option Nat} {c : Code} {Q : Exit → List AV → AHeap → Prop} {a : List AV} (t : Nat) {es es' : List AV} {tl : Tail} (ht : a[t]? = some (.dl 1 es' tl)) (h1 : flat es = es) (h2 : flat es' = es') (hl : es.length = es'.length) (hs : es.all (fun e => e.cells.length == 1) = true) (hw : Wk es es')
  (h : AWP P B w0 rd c Q (a.set t (.dl 1 es tl)) H) : AWP P B w0 rd c Q a H :=
 AWP.wkT (WkA.setL ht (.inl (wkD.elems hl (fun e he => by have := List.all_eq_true.1 hs e he; simpa using this) (by rw [h1, h2]; exact hw)))) h
theorem AWP.litAt {B : Nat} {w0 : World} {rd : Option Nat} {c : Code} {Q : Exit → List AV → AHeap → Prop} {a : List AV} (t : Nat) {es : List AV} {tl : Tail} (_ : a[t]? = some (.dl 1 es tl)) (h : AWP P B w0 rd c Q a H) : AWP P B w0 rd c Q a H := h
theorem allU8_enc : ∀ (l : List Int), allU8 (List.map (AV.int .u8) l) = some l
 | [] => rfl
 | x :: l => by rw [List.map_cons]; show (allU8 (List.map (AV.int .u8) l)).map (x :: ·) = _; rw [allU8_enc l]; rfl
theorem atMake2 {K : AV → AHeap → Prop} {t : TypeId} {x y : AV} {H : AHeap} (d : Nat) (h : MakeQ P t x y H (kAt (some d) K)) : MakeQ P t x y H (kAt (some d) K) := h
end
end Go.Av
end

section
set_option linter.unusedSimpArgs false
set_option linter.unusedVariables false
namespace Go.Av
open Go.RowKit
/-! A closed call, reckoned by the kernel: a function that runs code over abstract states, and that what it answers is so. -/
section
variable {P : Program} {B : Nat} {w0 : World} {μ : Nat → Nat × Nat} {Z : Nat → Nat → Prop} {H : AHeap} {w w' : World}
theorem R.grow (hR : R B w0 μ Z H w) (hb : Below w.heap.size w w') : R B w0 μ Z H w' ∧ Ev μ Z H w μ Z H w' := by
 obtain ⟨b1, b2, b3, b4, b5⟩ := hb
 have hz : ∀ c o, Z c o → w'.cell? ⟨c, o, none⟩ = w.cell? ⟨c, o, none⟩ := fun c o h => World.cell?_of_block (a := ⟨c, o, none⟩) (b5 c (hR.zlt c o h))
 have hs : ∀ c, c < w.heap.size → w'.shape? c = w.shape? c := fun c hc => by unfold World.shape?; rw [b5 c hc]
 refine ⟨⟨hR.below.trans ⟨b1, b2, b3, b4, fun k hk => b5 k (by have := hR.hB; omega)⟩, by have := hR.hB; omega, fun c o h => by have := hR.zlt c o h; omega, fun id o hid => ?_, hR.inj⟩, ?_⟩
 ·have hlt := (List.getElem?_eq_some_iff.1 hid).1
  refine OR.keep (hR.obj id o hid) hlt (Nat.le_refl _) (fun _ _ => rfl) (fun _ _ h => h) hz hs b4 (fun ha => ?_) (fun _ h => h)
  exact b5 _ (hR.lt hid ha)
 ·exact ⟨Nat.le_refl _, fun _ _ => rfl, fun _ _ h => h, hz, hs, b4, fun c hc _ => b5 c hc, fun id o h ha => .inr ⟨id, o, h, ha, rfl⟩, fun _ _ h => .inl h⟩
/-- A call without arguments that answers alike from nothing answers so anywhere. -/
theorem ACall.closed {f : FuncId} {b : Bool} {K : AV → AHeap → Prop} (h : ∀ B w0, ACall P B w0 f [] [] (fun v _ => v = .bool b)) (hK : K (.bool b) H) : ACall P B w0 f [] H K := by
 refine ⟨(h B w0).1, fun μ Z w cargs hR hA => ?_⟩
 have h0 : VRs (fun _ => (0, 0)) (fun c _ => c < w.heap.size) w 0 [] cargs := ⟨hA.1, fun j v hj => by simp at hj⟩
 have h1 := (h w.heap.size w).2 _ _ _ cargs (R.start w) h0
 refine CallsIn.mono (F := FW none) h1 ?_
 rintro e w' ⟨v, cv, μ', Z', H', rfl, q2, q3, _, rfl⟩
 cases q3
 obtain ⟨r1, r2⟩ := hR.grow q2.below
 exact ⟨.bool b, _, μ, Z, H, rfl, r1, .bool _, r2, hK⟩
end
end Go.Av
end

section
set_option linter.unusedSimpArgs false
set_option linter.unusedVariables false
namespace Go.Av
open Go.RowKit
/-- what a draw's check is told -/
structure PlanT where
 rt : List (List Nat)
 plan : List St
 lt : List Nat
 lg : List Nat
 la : Option Nat := none
inductive Task where
 | code (rd : Option Nat) (c : Code) (a : List AV) (H : AHeap)
 | ops (all rest : List Oper) (a : List AV) (H : AHeap)
 | dops (all : List Oper) (pl : List St) (a : List AV) (H : AHeap)
 | op (o : Op) (a : List AV) (H : AHeap)
 | call (f : FuncId) (args : List AV) (H : AHeap)
def Task.heap : Task → AHeap
 | .code _ _ _ H => H
 | .ops _ _ _ H => H
 | .dops _ _ _ H => H
 | .op _ _ H => H
 | .call _ _ H => H
abbrev Res := Exit × List AV × AHeap
/-- The loops that are under way stay. -/
def LpInv (H H' : AHeap) : Prop := ∀ (l : Nat) (env : List AV) (ps : Array Tmp) (as bd : Code) (pe : Option Code) (rdy : Bool), H[l]? = some (AObj.loop env ps as bd pe rdy) → ∃ (pe' : Option Code) (rdy' : Bool), H'[l]? = some (AObj.loop env ps as bd pe' rdy')
theorem LpInv.refl (H : AHeap) : LpInv H H := fun _ _ _ _ _ pe rdy h => ⟨pe, rdy, h⟩
theorem LpInv.trans {H H' H'' : AHeap} (h : LpInv H H') (k : LpInv H' H'') : LpInv H H'' := fun l env ps as bd pe rdy q => by
 obtain ⟨pe', rdy', q'⟩ := h l env ps as bd pe rdy q
 exact k l env ps as bd pe' rdy' q'
theorem LpInv.push {H H' : AHeap} (h : LpInv H H') (L : AHeap) : LpInv H (H' ++ L) := fun l env ps as bd pe rdy q => by
 obtain ⟨pe', rdy', q'⟩ := h l env ps as bd pe rdy q
 exact ⟨pe', rdy', by rw [List.getElem?_append_left (List.getElem?_eq_some_iff.1 q').1]; exact q'⟩
def notLoop : AObj → Bool
 | .loop .. => false
 | _ => true
theorem LpInv.set {H H' : AHeap} (h : LpInv H H') {i : Nat} {o : AObj} (hi : H'[i]? = some o) (hn : notLoop o = true) (o' : AObj) : LpInv H (H'.set i o') := fun l env ps as bd pe rdy q => by
 obtain ⟨pe', rdy', q'⟩ := h l env ps as bd pe rdy q
 refine ⟨pe', rdy', ?_⟩
 have hne : i ≠ l := fun e => by subst e; rw [hi] at q'; cases q'; cases hn
 rw [List.getElem?_set_ne hne]; exact q'
theorem LpInv.setLoop {H H' : AHeap} (h : LpInv H H') {i : Nat} {env : List AV} {ps : Array Tmp} {as bd : Code} {pe0 pe1 : Option Code} {r0 r1 : Bool} (hi : H'[i]? = some (.loop env ps as bd pe0 r0)) : LpInv H (H'.set i (.loop env ps as bd pe1 r1)) := fun l env' ps' as' bd' pe rdy q => by
 obtain ⟨pe', rdy', q'⟩ := h l env' ps' as' bd' pe rdy q
 by_cases hne : i = l
 ·subst hne
  rw [hi] at q'; cases q'
  exact ⟨pe1, r1, List.getElem?_set_self (List.getElem?_eq_some_iff.1 hi).1⟩
 ·exact ⟨pe', rdy', by rw [List.getElem?_set_ne hne]; exact q'⟩
theorem LpInv.setNew {H H' : AHeap} (h : LpInv H H') {i : Nat} (hi : H.length ≤ i) (o' : AObj) : LpInv H (H'.set i o') := fun l env ps as bd pe rdy q => by
 obtain ⟨pe', rdy', q'⟩ := h l env ps as bd pe rdy q
 have hl := (List.getElem?_eq_some_iff.1 q).1
 refine ⟨pe', rdy', ?_⟩
 rw [List.getElem?_set_ne (by omega)]; exact q'
theorem LpInv.less {H H' L : AHeap} (h : LpInv (H ++ L) H') : LpInv H H' := fun l env ps as bd pe rdy q =>
 h l env ps as bd pe rdy (by rw [List.getElem?_append_left (List.getElem?_eq_some_iff.1 q).1]; exact q)

/-! operations that call nobody -/
def xbin (P : Program) (op : BinOp) (t : TypeId) (x y : AV) : Bool → Option Bool → Option AV
 | true, some b => if isSliceT P t then (match x with
   | .dl _ es _ => if es.isEmpty then none else some (.bool b)
   | .sl _ _ _ _ => some (.bool b)
   | _ => none) else none
 | _, _ => binA P op t x y
def xsto (P : Program) (t : TypeId) (ad v : AV) (H : AHeap) : Option AHeap :=
 match ad with
 | .ptr id off => match H[id]? with
  | some (.cells cs) => match tyA P t with
   | some te => if v.cells.length = te.size ∧ off + te.size ≤ cs.length ∧ okCells v = true then some (H.set id (.cells (putA cs off v.cells))) else none
   | none => none
  | _ => none
 | _ => none
def growB (H : AHeap) : Tail → Bool
 | .none => false
 | .full => true
 | .tok t => match H[t]? with
  | some .tok => true
  | _ => false
/-- append: as to blocks of one's own for the types ow -/
def xapp (P : Program) (ow : List TypeId) (t t2 : TypeId) (x y : AV) (H : AHeap) : Option (AV × AHeap) :=
 match tyA P t with
 | some ti => match ti.kind with
  | .slice e => match tyA P e with
   | some te => match te.zero with
    | some z => if z.cells.length = te.size ∧ 0 < te.size then
      (match srcA P te.size t2 y with
      | some ys => match x with
       | .sl sz id off len => match H[id]? with
        | some (.cells cs) => if sz = te.size ∧ off = 0 ∧ cs.length = len * te.size ∧ (len + ys.length) * te.bytes ≤ 140737488355328 ∧ len + ys.length ≤ 4611686018427387904
          then some (.sl te.size H.length 0 (len + ys.length), H.set id .dead ++ [.cells (cs ++ flat ys)]) else none
        | _ => none
       | .dl sz es tl => if ow.contains t = true ∧ es = [] ∧ tl = .full ∧ ys ≠ [] then
          (if ys.length * te.bytes ≤ 140737488355328 ∧ ys.length ≤ 4611686018427387904 then some (.sl te.size H.length 0 ys.length, H ++ [.cells (flat ys)]) else none)
         else if sz = te.size ∨ (es = [] ∧ tl = .full) then
          (if ys = [] then some (.dl te.size es tl, H)
          else if growB H tl = true ∧ (es.length + ys.length) * te.bytes ≤ 140737488355328 ∧ es.length + ys.length ≤ 4611686018427387904 then some (.dl te.size (es ++ ys) (.tok H.length), kill H tl ++ [.tok]) else none)
         else none
       | _ => none
      | none => match tyA P t2, x, y with
       | some i2, .dl _ [] .full, .int _ m => match i2.kind with
        | .int _ => if z.cells.all AV.one = true ∧ 0 < m ∧ m.toNat * te.bytes ≤ 140737488355328 ∧ m.toNat ≤ 4611686018427387904 then some (.sl te.size H.length 0 m.toNat, H ++ [.cells (flat (List.replicate m.toNat z))]) else none
        | _ => none
       | _, _, _ => none)
     else none
    | none => none
   | none => none
  | _ => none
 | none => none
def xclr (P : Program) (t : TypeId) (x : AV) (H : AHeap) : Option (AV × AHeap) :=
 match tyA P t with
 | some ti => match ti.kind with
  | .slice e => match tyA P e with
   | some te => match te.zero with
    | some z => if z.cells.length = te.size ∧ z.cells.all AV.one = true ∧ 0 < te.size then
      (match x with
      | .dl _ [] _ => some (.tup [], H)
      | .sl sz id off len => match H[id]? with
       | some (.cells cs) => if sz = te.size ∧ off + len * te.size ≤ cs.length then some (.tup [], H.set id (.cells (putA cs off (flat (List.replicate len z))))) else none
       | _ => none
      | _ => none) else none
    | none => none
   | none => none
  | _ => none
 | none => none
def xop (P : Program) (ow : List TypeId) (a : List AV) (H : AHeap) (op : Op) : Option (AV × AHeap) :=
 match op with
 | .move x => some (ev a x, H)
 | .assign x => some (ev a x, H)
 | .pick c x y => (pickA (ev a c) (ev a x) (ev a y)).map (·, H)
 | .binOp op t x y _ => (xbin P op t (ev a x) (ev a y) (isNil y) (isNe op)).map (·, H)
 | .unOp op _ x => (unA op (ev a x)).map (·, H)
 | .convert s d x => (convB P s d (ev a x)).map (·, H)
 | .makeFunc fn first cap => match fn with
  | .func k => some (.fn (.func k) (first.toList.map (ev a)) (cap.toList.map (ev a)), H)
  | _ => none
 | .fieldAddr s x f => (fieldAddrA P s (ev a x) f).map (·, H)
 | .field t x f => (fieldA P t (ev a x) f).map (·, H)
 | .indexAddr t x i => (indexAddrA P t (ev a x) (ev a i)).map (·, H)
 | .index t x i => (indexA P t (ev a x) (ev a i)).map (·, H)
 | .slice t x lo hi mx => (sliceA P t (ev a x) (lo.map (ev a)) (hi.map (ev a)) (mx.map (ev a))).map (·, H)
 | .extract x i => (extractA (ev a x) i).map (·, H)
 | .nilCheck x => (nilCheckA (ev a x)).map (·, H)
 | .build t parts => (buildA P t (parts.toList.map fun p => (p.1, ev a p.2))).map (·, H)
 | .load t x => ((cellsAt H (ev a x)).bind (loadA P t)).map (·, H)
 | .alloc e => effV P a H (.alloc e)
 | .box e x => effV P a H (.box e x)
 | .buildSlice t len parts => effV P a H (.buildSlice t len parts)
 | .store t ad x => (xsto P t (ev a ad) (ev a x) H).map (AV.undef, ·)
 | .call c => match c.callee, c.args.toList, c.argTypes.toList with
  | .builtin .append, [x, y], [t, t2] => xapp P ow t t2 (ev a x) (ev a y) H
  | .builtin .len, [x], [t] => (lenA P H t (ev a x)).map (·, H)
  | .builtin .clear, [x], [t] => xclr P t (ev a x) H
  | .builtin .cap, [x], [t] => (capA P t (ev a x)).map (·, H)
  | .builtin .min, [x, y], _ => (minA (ev a x) (ev a y)).map (·, H)
  | .builtin .max, [x, y], _ => (maxA (ev a x) (ev a y)).map (·, H)
  | _, _, _ => none
 | _ => none

section
variable {P : Program} {ow : List TypeId} {a : List AV} {H H' : AHeap} {v : AV}
theorem xapp_sound {t t2 : TypeId} {x y : AV} (h : xapp P ow t t2 x y H = some (v, H')) : LpInv H H' ∧ ∀ K : AV → AHeap → Prop, K v H' → AppE P t t2 x y H K := by
 unfold xapp at h
 split at h <;> try (cases h; done)
 rename_i ti h1
 split at h <;> try (cases h; done)
 rename_i e h2
 split at h <;> try (cases h; done)
 rename_i te h3
 split at h <;> try (cases h; done)
 rename_i z h4
 split at h <;> try (cases h; done)
 rename_i h56
 obtain ⟨h5, h6⟩ := h56
 split at h
 ·rename_i ys h7
  split at h
  ·rename_i sz id off len
   split at h <;> try (cases h; done)
   rename_i cs hid
   split at h <;> try (cases h; done)
   rename_i hc
   obtain ⟨rfl, rfl, c1, c2, c3⟩ := hc
   cases h
   exact ⟨((LpInv.refl H).set hid rfl _).push _, fun K hK => ⟨_, wkD.refl _, .inr (.inr (.inr ⟨ti, e, te, z, ys, id, len, cs, h1, h2, h3, h4, h5, h6, h7, rfl, hid, c1, c2, c3, hK⟩))⟩⟩
  ·rename_i sz es tl
   split at h
   ·rename_i hc
    obtain ⟨_, rfl, rfl, c4⟩ := hc
    split at h <;> try (cases h; done)
    rename_i hc
    cases h
    exact ⟨(LpInv.refl H).push _, fun K hK => ⟨_, wkD.refl _, .inr (.inl ⟨ti, e, te, z, ys, sz, h1, h2, h3, h4, h5, h6, h7, rfl, c4, hc.1, hc.2, hK⟩)⟩⟩
   ·split at h <;> try (cases h; done)
    rename_i hs
    split at h
    ·rename_i hy
     cases h
     exact ⟨LpInv.refl H, fun K hK => ⟨_, wkD.refl _, .inl ⟨ti, e, te, z, ys, sz, es, tl, h1, h2, h3, h4, h5, h6, h7, rfl, hs, fun _ => hK, fun q => absurd hy q⟩⟩⟩
    ·rename_i hy
     split at h <;> try (cases h; done)
     rename_i hc
     cases h
     obtain ⟨g, c1, c2⟩ := hc
     have hg : mayGrow H tl := by
      cases tl with
      | none => cases g
      | full => trivial
      | tok t =>
       simp only [growB] at g
       split at g
       ·rename_i q; exact q
       ·cases g
     refine ⟨?_, fun K hK => ⟨_, wkD.refl _, .inl ⟨ti, e, te, z, ys, sz, es, tl, h1, h2, h3, h4, h5, h6, h7, rfl, hs, fun q => absurd q hy, fun _ => ⟨hg, c1, c2, hK⟩⟩⟩⟩
     cases tl with
     | none => cases g
     | full => exact (LpInv.refl H).push _
     | tok t => exact ((LpInv.refl H).set hg rfl _).push _
  ·cases h
 ·split at h <;> try (cases h; done)
  rename_i i2 sz k2 m q1 _
  split at h <;> try (cases h; done)
  rename_i k q2
  split at h <;> try (cases h; done)
  rename_i hc
  obtain ⟨c1, c2, c3, c4⟩ := hc
  cases h
  refine ⟨(LpInv.refl H).push _, fun K hK => ⟨_, wkD.refl _, .inr (.inr (.inl ⟨ti, e, te, z, i2, k, k2, m.toNat, sz, h1, h2, h3, h4, h5, c1, h6, q1, q2, rfl, ?_, by omega, c3, c4, hK⟩))⟩⟩
  rw [Int.toNat_of_nonneg (by omega)]
theorem xclr_sound {t : TypeId} {x : AV} (h : xclr P t x H = some (v, H')) : LpInv H H' ∧ ∀ K : AV → AHeap → Prop, K v H' → Clr P t x H K := by
 unfold xclr at h
 split at h <;> try (cases h; done)
 rename_i ti h1
 split at h <;> try (cases h; done)
 rename_i e h2
 split at h <;> try (cases h; done)
 rename_i te h3
 split at h <;> try (cases h; done)
 rename_i z h4
 split at h <;> try (cases h; done)
 rename_i hc
 obtain ⟨h5, h6, h7⟩ := hc
 split at h
 ·cases h
  exact ⟨LpInv.refl _, fun K hK => ⟨ti, e, te, z, h1, h2, h3, h4, h5, h6, h7, .inl ⟨_, _, rfl, hK⟩⟩⟩
 ·rename_i sz id off len
  split at h <;> try (cases h; done)
  rename_i cs hid
  split at h <;> try (cases h; done)
  rename_i hc
  obtain ⟨rfl, c1⟩ := hc
  cases h
  exact ⟨(LpInv.refl H).set hid rfl _, fun K hK => ⟨ti, e, te, z, h1, h2, h3, h4, h5, h6, h7, .inr ⟨id, off, len, cs, rfl, hid, c1, hK⟩⟩⟩
 ·cases h
theorem xsto_sound {t : TypeId} {ad v : AV} (h : xsto P t ad v H = some H') : LpInv H H' ∧ ∀ K : AV → AHeap → Prop, K .undef H' → StoE P t ad v H K := by
 unfold xsto at h
 split at h <;> try (cases h; done)
 rename_i id off
 split at h <;> try (cases h; done)
 rename_i cs hid
 split at h <;> try (cases h; done)
 rename_i te ht
 split at h <;> try (cases h; done)
 rename_i hc
 obtain ⟨c1, c2, c3⟩ := hc
 cases h
 obtain ⟨k1, k2⟩ := okCells_spec c3
 exact ⟨(LpInv.refl H).set hid rfl _, fun K hK => ⟨v, wkD.refl _, id, off, cs, te, rfl, hid, ht, c1, c2, k1, k2, hK⟩⟩
theorem xbin_sound {op : BinOp} {t : TypeId} {x y : AV} : ∀ {b : Bool} {o : Option Bool}, xbin P op t x y b o = some v → ∀ (K : AV → AHeap → Prop), K v H → binE P H K op t x y b o
 | false, o, h, K, hK => by
  rw [binE_plain]
  have e : xbin P op t x y false o = binA P op t x y := by cases o <;> rfl
  exact ⟨v, e ▸ h, hK⟩
 | true, none, h, K, hK => by rw [binE_none]; exact ⟨v, h, hK⟩
 | true, some ne, h, K, hK => by
  rw [binE_nil]
  replace h : (if isSliceT P t then (match x with
   | .dl _ es _ => if es.isEmpty then none else some (.bool ne)
   | .sl _ _ _ _ => some (.bool ne)
   | _ => none) else none) = some v := h
  split at h <;> try (cases h; done)
  rename_i hs
  refine ⟨hs, ?_⟩
  split at h
  ·rename_i sz es tl
   cases es with
   | nil => cases h
   | cons e es => cases h; exact Br.neg (by simp) hK
  ·cases h; exact hK
  ·cases h
theorem mapH {o : Option AV} (h : o.map (·, H) = some (v, H')) : H' = H ∧ o = some v := by
 cases o with
 | none => cases h
 | some x => cases h; exact ⟨rfl, rfl⟩
theorem effV_inv {op : Op} (h : effV P a H op = some (v, H')) : LpInv H H' := by
 unfold effV at h
 repeat' (split at h)
 all_goals first | (cases h; done) | (cases h; exact (LpInv.refl H).push _) | (cases h; exact LpInv.refl H) | (cases h; exact (LpInv.refl H).set (by assumption) rfl _)
theorem xop_sound {op : Op} (h : xop P ow a H op = some (v, H')) : LpInv H H' ∧ ∀ {B : Nat} {w0 : World} {Y : Hand} (K : AV → AHeap → Prop), K v H' → eop P B w0 Y a H op K := by
 have M : ∀ {o : Option AV}, o.map (·, H) = some (v, H') → (∀ {B : Nat} {w0 : World} {Y : Hand} (K : AV → AHeap → Prop), someK o K H → eop P B w0 Y a H op K) → LpInv H H' ∧ ∀ {B : Nat} {w0 : World} {Y : Hand} (K : AV → AHeap → Prop), K v H' → eop P B w0 Y a H op K := by
  intro o h k
  obtain ⟨e, h2⟩ := mapH h
  subst e
  exact ⟨LpInv.refl _, fun K hK => k K ⟨v, h2, hK⟩⟩
 have E : effV P a H op = some (v, H') → (∀ {B : Nat} {w0 : World} {Y : Hand} (K : AV → AHeap → Prop), someK2 (effV P a H op) K → eop P B w0 Y a H op K) → LpInv H H' ∧ ∀ {B : Nat} {w0 : World} {Y : Hand} (K : AV → AHeap → Prop), K v H' → eop P B w0 Y a H op K :=
  fun h k => ⟨effV_inv h, fun K hK => k K ⟨v, H', h, hK⟩⟩
 cases op with
 | move x => cases h; exact ⟨LpInv.refl _, fun K hK => hK⟩
 | assign x => cases h; exact ⟨LpInv.refl _, fun K hK => hK⟩
 | pick c x y => exact M h fun K k => k
 | binOp op t x y ty =>
  obtain ⟨e, h2⟩ := mapH h
  subst e
  exact ⟨LpInv.refl _, fun K hK => xbin_sound h2 K hK⟩
 | unOp op t x => exact M h fun K k => k
 | convert s d x => exact M h fun K k => k
 | makeFunc fn first cap => cases fn with
  | func k => cases h; exact ⟨LpInv.refl _, fun K hK => hK⟩
  | _ => cases h
 | fieldAddr s x f => exact M h fun K k => k
 | field t x f => exact M h fun K k => k
 | indexAddr t x i => exact M h fun K k => k
 | index t x i => exact M h fun K k => k
 | slice t x lo hi mx => exact M h fun K k => k
 | extract x i => exact M h fun K k => k
 | nilCheck x => exact M h fun K k => k
 | build t parts => exact M h fun K k => k
 | load t x => exact M h fun K k => k
 | alloc e => exact E h fun K k => k
 | box e x => exact E h fun K k => k
 | buildSlice t len parts => exact E h fun K k => k
 | store t ad x =>
  have h' : (xsto P t (ev a ad) (ev a x) H).map (AV.undef, ·) = some (v, H') := h
  cases q : xsto P t (ev a ad) (ev a x) H with
  | none => rw [q] at h'; cases h'
  | some H2 =>
   rw [q] at h'; cases h'
   obtain ⟨k1, k2⟩ := xsto_sound q
   exact ⟨k1, fun K hK => k2 K hK⟩
 | call c =>
  obtain ⟨callee, args, tys⟩ := c
  unfold xop at h
  simp only at h
  split at h
  ·rename_i e1 e2 e3
   obtain ⟨k1, k2⟩ := xapp_sound h
   refine ⟨k1, fun K hK => ?_⟩
   show callE P _ _ _ a H K _ args.toList tys.toList
   rw [e2, e3]; exact k2 K hK
  ·rename_i e1 e2 e3
   exact M h fun K k => by show callE P _ _ _ a H K _ args.toList tys.toList; rw [e2, e3]; exact k
  ·rename_i e1 e2 e3
   obtain ⟨k1, k2⟩ := xclr_sound h
   refine ⟨k1, fun K hK => ?_⟩
   show callE P _ _ _ a H K _ args.toList tys.toList
   rw [e2, e3]; exact k2 K hK
  ·rename_i e1 e2 e3
   exact M h fun K k => by show callE P _ _ _ a H K _ args.toList tys.toList; rw [e2, e3]; exact k
  ·rename_i e1 e2
   exact M h fun K k => by show callE P _ _ _ a H K _ args.toList tys.toList; rw [e2]; exact k
  ·rename_i e1 e2
   exact M h fun K k => by show callE P _ _ _ a H K _ args.toList tys.toList; rw [e2]; exact k
  ·cases h
 | _ => cases h
end
end Go.Av
end
