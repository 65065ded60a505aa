/- the layer over the model, part 10 -/
import Derived.Test.YtcgndadlcgnilaaGreatProg
import Derived.KernelRfl
import Derived.Test.YtcgndadlcgnilaaGreatA9
set_option autoImplicit false
set_option linter.unusedSimpArgs false
set_option linter.unusedVariables false
set_option linter.unnecessarySimpa false
section
set_option linter.unusedSimpArgs false
set_option linter.unusedVariables false
namespace Go.Av
open Go.RowKit
section
variable {P : Program} {B : Nat} {w0 : World} {H : AHeap} {μ : Nat → Nat × Nat} {Z Z' : Nat → Nat → Prop} {w : World} {n : Nat}
/-- A slice over a block of one's own becomes a value, whatever its elements' size. -/
theorem frzG_vr (hR : R B w0 μ Z H w) {id sz : Nat} {es : List AV} {cv : Value} (hid : H[id]? = some (.cells (flat es))) (hs : ∀ e, e ∈ es → e.cells.length = sz) (hv : VR μ Z w H.length (.sl sz id 0 es.length) cv) :
  VR μ (fun c o => Z c o ∨ (c = (μ id).1 ∧ (μ id).2 ≤ o ∧ o < (μ id).2 + (flat es).length)) w H.length (.dl sz es .none) cv := by
 obtain ⟨g1, g2, ccs, e, fr, g3, g4, g5, g6⟩ := hR.obj id _ hid
 have hcell : ∀ j, w.cell? ⟨(μ id).1, j, none⟩ = ccs[j]? := fun j => cell_of_row w _ _ ccs e fr g3
 cases hv with
 | sl _ _ _ _ cap q1 q2 q3 e' N q4 q5 =>
  have hF : ∀ j v, (flat es)[j]? = some v → ∃ u, w.cell? ⟨(μ id).1, (μ id).2 + 0 + j, none⟩ = some u ∧ u.oneCell' = true ∧ VR μ Z w H.length v u := by
   intro j v hj
   obtain ⟨v', p1, p2, p3⟩ := g6 _ _ hj
   exact ⟨v', by rw [hcell, ← p1, Nat.add_zero], p2, p3⟩
  exact VR.dl sz es .none (μ id).1 ((μ id).2 + 0) cap (fun j => (w.cell? ⟨(μ id).1, (μ id).2 + 0 + j, none⟩).getD default) hs q2
   (fun j v hj => by obtain ⟨u, p1, _, _⟩ := hF j v hj; simp only [p1, Option.getD_some])
   (fun j hj => .inr ⟨rfl, by omega, by omega⟩)
   (fun j v hj => by
    obtain ⟨u, p1, _, p3⟩ := hF j v hj
    simp only [p1, Option.getD_some]
    exact p3.mono (Nat.le_refl _) (fun _ _ => rfl) (fun _ _ h => .inl h) (fun _ _ _ => rfl) (fun _ _ => rfl))
   (fun j hj => by
    obtain ⟨u, p1, p2, _⟩ := hF j _ (List.getElem?_eq_getElem hj)
    simp only [p1, Option.getD_some]; exact p2)
   trivial

theorem frzT_vr (hR : R B w0 μ Z H w) {id len : Nat} {cs : List AV} {cv : Value} (hid : H[id]? = some (.cells cs)) (hl : len ≤ cs.length) (h1 : ∀ c, c ∈ cs → c.cells = [c]) (hv : VR μ Z w H.length (.sl 1 id 0 len) cv) :
  VR μ (fun c o => Z c o ∨ (c = (μ id).1 ∧ (μ id).2 ≤ o ∧ o < (μ id).2 + len)) w H.length (.dl 1 (cs.take len) .none) cv := by
 obtain ⟨g1, g2, ccs, e, fr, g3, g4, g5, g6⟩ := hR.obj id _ hid
 have hft : flat (cs.take len) = cs.take len := by
  have : ∀ l : List AV, (∀ c, c ∈ l → c.cells = [c]) → flat l = l := by
   intro l
   induction l with
   | nil => intro _; rfl
   | cons x l ih => intro h; rw [flat_cons, h x (by simp), ih (fun c hc => h c (by simp [hc]))]; rfl
  exact this _ (fun c hc => h1 c (List.mem_of_mem_take hc))
 have hlen : (cs.take len).length = len := by rw [List.length_take]; omega
 have hcell : ∀ j, w.cell? ⟨(μ id).1, j, none⟩ = ccs[j]? := fun j => cell_of_row w _ _ ccs e fr g3
 cases hv with
 | sl _ _ _ _ cap q1 q2 q3 e' N q4 q5 =>
  have hF : ∀ j v, (cs.take len)[j]? = some v → ∃ u, w.cell? ⟨(μ id).1, (μ id).2 + 0 + j, none⟩ = some u ∧ u.oneCell' = true ∧ VR μ Z w H.length v u := by
   intro j v hj
   rw [List.getElem?_take] at hj
   split at hj
   ·obtain ⟨v', p1, p2, p3⟩ := g6 _ _ hj
    exact ⟨v', by rw [hcell, ← p1, Nat.add_zero], p2, p3⟩
   ·cases hj
  have key := VR.dl (μ := μ) (Z := fun c o => Z c o ∨ (c = (μ id).1 ∧ (μ id).2 ≤ o ∧ o < (μ id).2 + len)) (w := w) (n := H.length) 1 (cs.take len) .none (μ id).1 ((μ id).2 + 0) cap
   (fun j => (w.cell? ⟨(μ id).1, (μ id).2 + 0 + j, none⟩).getD default) (fun x hx => by rw [h1 x (List.mem_of_mem_take hx)]; rfl) (by rw [hlen]; exact q2)
   (fun j v hj => by
    rw [hft] at hj
    obtain ⟨u, p1, _, _⟩ := hF j v hj
    simp only [p1, Option.getD_some])
   (fun j hj => by rw [hft, hlen] at hj; exact .inr ⟨rfl, by omega, by omega⟩)
   (fun j v hj => by
    rw [hft] at hj
    obtain ⟨u, p1, _, p3⟩ := hF j v hj
    simp only [p1, Option.getD_some]
    exact p3.mono (Nat.le_refl _) (fun _ _ => rfl) (fun _ _ h => .inl h) (fun _ _ _ => rfl) (fun _ _ => rfl))
   (fun j hj => by
    rw [hft] at hj
    obtain ⟨u, p1, p2, _⟩ := hF j _ (List.getElem?_eq_getElem hj)
    simp only [p1, Option.getD_some]; exact p2)
   trivial
  rw [hlen] at key
  exact key

/-- One place of a value is said otherwise. -/
inductive Rep (x y : AV) : AV → AV → Prop
 | here : Rep x y x y
 | agg {l : List AV} {v v' : AV} (j : Nat) (h : l[j]? = some v) (r : Rep x y v v') : Rep x y (.agg l) (.agg (l.set j v'))
 | tup {l : List AV} {v v' : AV} (j : Nat) (h : l[j]? = some v) (r : Rep x y v v') : Rep x y (.tup l) (.tup (l.set j v'))
theorem Rep.vr {x y : AV} (hz : ∀ c o, Z c o → Z' c o) (hx : ∀ cx, VR μ Z w n x cx → VR μ Z' w n y cx) {v v' : AV} (r : Rep x y v v') : ∀ {cv : Value}, VR μ Z w n v cv → VR μ Z' w n v' cv := by
 have mono : ∀ {u : AV} {cu : Value}, VR μ Z w n u cu → VR μ Z' w n u cu := fun h => h.mono (Nat.le_refl _) (fun _ _ => rfl) hz (fun _ _ _ => rfl) (fun _ _ => rfl)
 induction r with
 | here => exact fun h => hx _ h
 | @agg l v v' j h r ih =>
  intro cv hv
  cases hv with
  | agg _ vs hl f h1 h2 =>
   have hj := (List.getElem?_eq_some_iff.1 h).1
   refine .agg _ vs (by rw [List.length_set]; exact hl) f (fun i u hi => ?_) (fun i u hi => ?_)
   ·by_cases e : j = i
    ·subst e; exact h1 j _ h
    ·rw [List.getElem?_set_ne e] at hi; exact h1 i u hi
   ·by_cases e : j = i
    ·subst e
     rw [List.getElem?_set_self hj] at hi
     cases hi
     exact ih (h2 j _ h)
    ·rw [List.getElem?_set_ne e] at hi; exact mono (h2 i u hi)
 | @tup l v v' j h r ih =>
  intro cv hv
  cases hv with
  | tup _ vs hl f h1 h2 =>
   have hj := (List.getElem?_eq_some_iff.1 h).1
   refine .tup _ vs (by rw [List.length_set]; exact hl) f (fun i u hi => ?_) (fun i u hi => ?_)
   ·by_cases e : j = i
    ·subst e; exact h1 j _ h
    ·rw [List.getElem?_set_ne e] at hi; exact h1 i u hi
   ·by_cases e : j = i
    ·subst e
     rw [List.getElem?_set_self hj] at hi
     cases hi
     exact ih (h2 j _ h)
    ·rw [List.getElem?_set_ne e] at hi; exact mono (h2 i u hi)

/-- What a function comes to, where lists of its own become values. -/
inductive RetF (K : AV → AHeap → Prop) : AV → AHeap → Prop
 | ret {v : AV} {H : AHeap} (h : RetK K v H) : RetF K v H
 | frz {v v' : AV} {H : AHeap} {sz id : Nat} {es : List AV} (hr : Rep (.sl sz id 0 es.length) (.dl sz es .none) v v') (hid : H[id]? = some (.cells (flat es))) (hs : ∀ e, e ∈ es → e.cells.length = sz) (h : RetF K v' (H.set id .dead)) : RetF K v H
 | frzT {v v' : AV} {H : AHeap} {id len : Nat} {cs : List AV} (hr : Rep (.sl 1 id 0 len) (.dl 1 (cs.take len) .none) v v') (hid : H[id]? = some (.cells cs)) (hl : len ≤ cs.length) (h1 : ∀ c, c ∈ cs → c.cells = [c]) (h : RetF K v' (H.set id .dead)) : RetF K v H
 | nil {v v' : AV} {H : AHeap} {sz s : Nat} (hr : Rep (.dl s [] .full) (.dl sz [] .none) v v') (h : RetF K v' H) : RetF K v H
theorem ACall.retF {f : FuncId} {args : List AV} {K : AV → AHeap → Prop} (h : ACall P B w0 f args H (RetF K)) : ACall P B w0 f args H K :=
 ⟨h.1, fun μ Z w cargs h1 h2 => (h.2 μ Z w cargs h1 h2).mono (by
  rintro e w' ⟨v, cv, μ', Z', H', q1, q2, q3, q4, q5⟩
  have key : ∀ {v : AV} {H2 : AHeap}, RetF K v H2 → ∀ {Z2 : Nat → Nat → Prop}, R B w0 μ' Z2 H2 w' → VR μ' Z2 w' H2.length v cv → Ev μ Z H w μ' Z2 H2 w' →
    ∃ v cv' μ' Z' H', e = .returned cv' ∧ R B w0 μ' Z' H' w' ∧ VR μ' Z' w' H'.length v cv' ∧ Ev μ Z H w μ' Z' H' w' ∧ K v H' := by
   intro v H2 hk
   induction hk with
   | @ret v H2 h =>
    intro Z2 p1 p2 p3
    obtain ⟨v', H3, k1, k2, k3⟩ := h
    obtain ⟨r1, r2⟩ := p1.wkH k2
    exact ⟨v', cv, μ', Z2, H3, q1, r1, by rw [k2.1]; exact p2.weakR k1, p3.trans r2, k3⟩
   | @frz v v' H2 sz id es hr hid hs h ih =>
    intro Z2 p1 p2 p3
    have hZ : ∀ cx, VR μ' Z2 w' H2.length (.sl sz id 0 es.length) cx → VR μ' (fun c o => Z2 c o ∨ (c = (μ' id).1 ∧ (μ' id).2 ≤ o ∧ o < (μ' id).2 + (flat es).length)) w' H2.length (.dl sz es .none) cx := by
     intro cx hx
     exact frzG_vr p1 hid hs hx
    obtain ⟨r1, r2⟩ := p1.freeze hid (fun c o => Z2 c o ∨ (c = (μ' id).1 ∧ (μ' id).2 ≤ o ∧ o < (μ' id).2 + (flat es).length)) (fun _ _ h => .inl h) (fun c o h => h.imp (fun h => h) (·.1))
    exact ih r1 (by rw [List.length_set]; exact hr.vr (fun _ _ h => .inl h) hZ p2) (p3.trans r2)
   | @frzT v v' H2 id len cs hr hid hl h1 h ih =>
    intro Z2 p1 p2 p3
    obtain ⟨r1, r2⟩ := p1.freeze hid (fun c o => Z2 c o ∨ (c = (μ' id).1 ∧ (μ' id).2 ≤ o ∧ o < (μ' id).2 + len)) (fun _ _ h => .inl h) (fun c o h => h.imp (fun h => h) (·.1))
    exact ih r1 (by rw [List.length_set]; exact hr.vr (fun _ _ h => .inl h) (fun cx hx => frzT_vr p1 hid hl h1 hx) p2) (p3.trans r2)
   | @nil v v' H2 sz s hr h ih =>
    intro Z2 p1 p2 p3
    exact ih p1 (hr.vr (fun _ _ h => h) (fun cx hx => hx.weak (wkV.nil sz s .full)) p2) p3
  exact key q5 q2 q3 q4)⟩
end
end Go.Av
namespace Go.Av
open Go.RowKit
theorem flat_map_nil {α : Type} {enc : α → AV} {sz : Nat} (hc : SzC sz enc) (h0 : 0 < sz) {l : List α} (h : flat (List.map enc l) = []) : l = [] := by
 have := hc.flat l
 rw [h, List.length_nil] at this
 rcases Nat.mul_eq_zero.1 this.symm with h | h
 ·exact List.length_eq_zero_iff.1 h
 ·omega
theorem flat_map_len {α : Type} {enc : α → AV} {sz len : Nat} (hc : SzC sz enc) (h0 : 0 < sz) {l : List α} (h : (flat (List.map enc l)).length = len * sz) : len = l.length := by
 rw [hc.flat] at h
 exact (Nat.eq_of_mul_eq_mul_right h0 h).symm
section
variable {P : Program} {B : Nat} {w0 : World} {H : AHeap} {K : AV → AHeap → Prop} {L L' : List Item} {t t2 : TypeId} {sz n : Nat} {y v v' v0 : AV} {α : Type} {enc : α → AV} {l ys : List α}
theorem RetF.own (hc : SzC sz enc) (h0 : 0 < sz) (hN : Need0 (.own sz v0 (flat (List.map enc l)) :: L') L) (hr : Rep v0 (.dl sz (List.map enc l) .none) v v') (hS : Hv H L) (h : ∀ H', Hv H' L' → RetF K v' H') : RetF K v H := by
 have hs := hS.need0 hN
 rcases hs.each _ (List.mem_cons_self ..) with ⟨s, rfl, hcs⟩ | ⟨id, len, rfl, hl, hid⟩
 ·have := flat_map_nil hc h0 hcs
  subst this
  exact RetF.nil hr (h H hs.drop)
 ·obtain rfl := flat_map_len hc h0 hl
  refine RetF.frz (es := List.map enc l) (by rwa [List.length_map]) hid (fun e he => by obtain ⟨x, _, rfl⟩ := List.mem_map.1 he; exact hc x) (h _ ?_)
  exact (hs.set (y := .tl .full) rfl .dead (.inl rfl) (fun j h => by cases h)).drop
theorem RetF.own1 (hc : OneC enc) (hN : Need0 (.own 1 v0 (List.map enc l) :: L') L) (hr : Rep v0 (.dl 1 (List.map enc l) .none) v v') (hS : Hv H L) (h : ∀ H', Hv H' L' → RetF K v' H') : RetF K v H :=
 RetF.own hc.toSz (by decide) (by rw [flat_one enc hc]; exact hN) hr hS h
theorem vrs_tup {μ : Nat → Nat × Nat} {Z : Nat → Nat → Prop} {w : World} {n : Nat} {args : List AV} {cargs : Array Value} (h : VR μ Z w n (.tup args) (.tuple cargs)) : VRs μ Z w n args cargs := by
 cases h with
 | tup _ vs hl f h1 h2 => exact ⟨hl, fun j v hj => ⟨f j, h1 j v hj, h2 j v hj⟩⟩
theorem ACall.frzArg {f : FuncId} {args args' : List AV} (hc : SzC sz enc) (h0 : 0 < sz) (hN : Need0 (.own sz v0 (flat (List.map enc l)) :: L') L) (hr : Rep v0 (.dl sz (List.map enc l) .none) (.tup args) (.tup args')) (hS : Hv H L) (h : ∀ H', Hv H' L' → ACall P B w0 f args' H' K) : ACall P B w0 f args H K := by
 have hs := hS.need0 hN
 rcases hs.each _ (List.mem_cons_self ..) with ⟨s, rfl, hcs⟩ | ⟨id, len, rfl, hl, hid⟩
 ·have := flat_map_nil hc h0 hcs
  subst this
  have hk := h H hs.drop
  refine ⟨hk.1, fun μ Z w cargs h1 h2 => hk.2 μ Z w cargs h1 ?_⟩
  exact vrs_tup (hr.vr (fun _ _ h => h) (fun cx hx => hx.weak (wkV.nil sz s .full)) h2.tup)
 ·obtain rfl := flat_map_len hc h0 hl
  have hs' : ∀ e, e ∈ List.map enc l → e.cells.length = sz := fun e he => by obtain ⟨x, _, rfl⟩ := List.mem_map.1 he; exact hc x
  have hd : Hv (H.set id .dead) L' := (hs.set (y := .tl .full) rfl .dead (.inl rfl) (fun j h => by cases h)).drop
  have hk := h _ hd
  refine ⟨hk.1, fun μ Z w cargs h1 h2 => ?_⟩
  obtain ⟨r1, r2⟩ := h1.freeze hid (fun c o => Z c o ∨ (c = (μ id).1 ∧ (μ id).2 ≤ o ∧ o < (μ id).2 + (flat (List.map enc l)).length)) (fun _ _ h => .inl h) (fun c o h => h.imp (fun h => h) (·.1))
  have hv := vrs_tup (hr.vr (Z' := fun c o => Z c o ∨ (c = (μ id).1 ∧ (μ id).2 ≤ o ∧ o < (μ id).2 + (flat (List.map enc l)).length)) (fun _ _ h => .inl h) (fun cx hx => frzG_vr h1 hid hs' (by rwa [List.length_map])) h2.tup)
  refine (hk.2 μ _ w cargs r1 (by rw [List.length_set]; exact hv)).mono ?_
  rintro e w' ⟨v, cv, μ', Z', H', q1, q2, q3, q4, q5⟩
  exact ⟨v, cv, μ', Z', H', q1, q2, q3, r2.trans q4, q5⟩
theorem ACall.frzArg1 {f : FuncId} {args args' : List AV} (hc : OneC enc) (hN : Need0 (.own 1 v0 (List.map enc l) :: L') L) (hr : Rep v0 (.dl 1 (List.map enc l) .none) (.tup args) (.tup args')) (hS : Hv H L) (h : ∀ H', Hv H' L' → ACall P B w0 f args' H' K) : ACall P B w0 f args H K :=
 ACall.frzArg hc.toSz (by decide) (by rw [flat_one enc hc]; exact hN) hr hS h
/-- append to a list of its own, whatever is appended -/
theorem appO_own (hc : SzC sz enc) (hT : AppTy P t sz n) (hy : AppSrc P t2 sz y (List.map enc ys)) (hN : Need0 (.own sz v (flat (List.map enc l)) :: L') L) (hS : Hv H L) (hlen : l.length + ys.length ≤ n)
  (hK : ∀ (v' : AV) (H' : AHeap), Hv H' (.own sz v' (flat (List.map enc (l ++ ys))) :: L') → K v' H') : AppE P t t2 v y H K := by
 have hs := hS.need0 hN
 by_cases hys : ys = []
 ·subst hys
  rcases hs.each _ (List.mem_cons_self ..) with ⟨s, rfl, hcs⟩ | ⟨id, len, rfl, hl, hid⟩
  ·obtain ⟨ti, e, te, z, h1, h2, h3, h4, h5, h6, rfl, h9, h10⟩ := hT
   obtain ⟨y', hw, h7⟩ := hy
   obtain rfl := flat_map_nil hc h6 hcs
   refine ⟨y', hw, .inl ⟨ti, e, te, z, [], s, [], .full, h1, h2, h3, h4, h5, h6, h7, rfl, .inr ⟨rfl, rfl⟩, fun _ => ?_, fun h => absurd rfl h⟩⟩
   exact hK _ _ (hs.drop.free (.inl ⟨_, rfl, rfl⟩) rfl)
  ·obtain ⟨ti, e, te, z, h1, h2, h3, h4, h5, h6, rfl, h9, h10⟩ := hT
   obtain ⟨y', hw, h7⟩ := hy
   obtain rfl := flat_map_len hc h6 hl
   have hb := Nat.le_trans (Nat.mul_le_mul_right te.bytes hlen) h9
   refine ⟨y', hw, .inr (.inr (.inr ⟨ti, e, te, z, [], id, l.length, _, h1, h2, h3, h4, h5, h6, h7, rfl, hid, hl, by simpa using hb, by have := Nat.le_trans (Nat.le_mul_of_pos_right (l.length + 0) h10) hb; simp at this ⊢; omega, hK _ _ ?_⟩))⟩
   have h1 : Hv (H.set id .dead) (.tl .full :: L') := hs.set rfl _ (.inl rfl) (fun j h => by cases h)
   have h2 := h1.drop.push (.cells (flat (List.map enc l) ++ flat [])) (x := .own te.size (.sl te.size (H.set id AObj.dead).length 0 (l.length + 0)) (flat (List.map enc (l ++ [])))) (.inr ⟨_, _, rfl, by simpa using hl, by rw [get_new]; simp [flat]⟩) (fun i h => by cases h; rfl)
   simpa using h2
 ·refine app_own hT hy .here hs ?_ (fun h => hys (List.map_eq_nil_iff.1 h)) ?_ (by rw [hc.flat, List.length_map])
  ·rw [hc.flat, List.length_map, ← Nat.add_mul]; exact Nat.mul_le_mul_right _ hlen
  ·intro v' H' h
   rw [← flat_append, map_app] at h
   exact hK v' H' h
theorem appO_own1 (hc : OneC enc) (hT : AppTy P t 1 n) (hy : AppSrc P t2 1 y (List.map enc ys)) (hN : Need0 (.own 1 v (List.map enc l) :: L') L) (hS : Hv H L) (hlen : l.length + ys.length ≤ n)
  (hK : ∀ (v' : AV) (H' : AHeap), Hv H' (.own 1 v' (List.map enc (l ++ ys)) :: L') → K v' H') : AppE P t t2 v y H K :=
 appO_own hc.toSz hT hy (by rw [flat_one enc hc]; exact hN) hS hlen (fun v' H' h => hK v' H' (by rwa [flat_one enc hc] at h))
theorem appO_nil (hc : SzC sz enc) (hT : AppTy P t sz n) (hy : AppSrc P t2 sz y (List.map enc ys)) {s : Nat} (hS : Hv H L) (hlen : ys.length ≤ n)
  (hK : ∀ (v' : AV) (H' : AHeap), Hv H' (.own sz v' (flat (List.map enc ys)) :: L) → K v' H') : AppE P t t2 (.dl s [] .full) y H K :=
 appO_own (l := []) hc hT hy (.own0 .done) hS (by simpa using hlen) (fun v' H' h => hK v' H' (by simpa using h))
theorem appO_nil1 (hc : OneC enc) (hT : AppTy P t 1 n) (hy : AppSrc P t2 1 y (List.map enc ys)) {s : Nat} (hS : Hv H L) (hlen : ys.length ≤ n)
  (hK : ∀ (v' : AV) (H' : AHeap), Hv H' (.own 1 v' (List.map enc ys) :: L) → K v' H') : AppE P t t2 (.dl s [] .full) y H K :=
 appO_nil hc.toSz hT hy hS hlen (fun v' H' h => hK v' H' (by rwa [flat_one enc hc] at h))
/-- the length of a list of its own -/
theorem len_own {ti : TyA} {e : TypeId} (ht : tyA P t = some ti) (hk : ti.kind = .slice e) (hc : SzC sz enc) (h0 : 0 < sz) (hp : Pull L (.own sz v (flat (List.map enc l))) L') (hS : Hv H L) (h : K (.int .i64 (l.length : Int)) H) : someK (lenA P H t v) K H := by
 rcases (hS.pull hp).each _ (List.mem_cons_self ..) with ⟨s, rfl, hcs⟩ | ⟨id, len, rfl, hl, hid⟩
 ·have := flat_map_nil hc h0 hcs
  subst this
  exact ⟨_, by simp [lenA, ht, hk], h⟩
 ·obtain rfl := flat_map_len hc h0 hl
  exact ⟨_, by simp [lenA, ht, hk], h⟩
theorem len_own1 {ti : TyA} {e : TypeId} (ht : tyA P t = some ti) (hk : ti.kind = .slice e) (hc : OneC enc) (hp : Pull L (.own 1 v (List.map enc l)) L') (hS : Hv H L) (h : K (.int .i64 (l.length : Int)) H) : someK (lenA P H t v) K H :=
 len_own ht hk hc.toSz (by decide) (by rw [flat_one enc hc]; exact hp) hS h
/-- a list of its own is nothing or a block -/
theorem split_own {G : AV → Prop} (hc : SzC sz enc) (h0 : 0 < sz) (hp : Pull L (.own sz v (flat (List.map enc l))) L') (hS : Hv H L) (hn : l = [] → ∀ s, G (.dl s [] .full)) (hb : ∀ id, Hv H (.obj id (.cells (flat (List.map enc l))) :: L') → G (.sl sz id 0 l.length)) : G v := by
 have hs := hS.pull hp
 rcases hs.each _ (List.mem_cons_self ..) with ⟨s, rfl, hcs⟩ | ⟨id, len, rfl, hl, hid⟩
 ·exact hn (flat_map_nil hc h0 hcs) s
 ·obtain rfl := flat_map_len hc h0 hl
  exact hb id (hs.as hid (fun i hi => hi))
theorem split_own1 {G : AV → Prop} (hc : OneC enc) (hp : Pull L (.own 1 v (List.map enc l)) L') (hS : Hv H L) (hn : l = [] → ∀ s, G (.dl s [] .full)) (hb : ∀ id, Hv H (.obj id (.cells (List.map enc l)) :: L') → G (.sl 1 id 0 l.length)) : G v :=
 split_own (G := G) hc.toSz (by decide) (by rw [flat_one enc hc]; exact hp) hS hn (fun id h => hb id (by rwa [flat_one enc hc] at h))
theorem atLen {x : AV} (h : someK (lenA P H t x) K H) : someK (lenA P H t x) K H := h
theorem atIdx {x i : AV} (h : someK (indexAddrA P t x i) K H) : someK (indexAddrA P t x i) K H := h
end
end Go.Av
namespace Go.Av
open Go.RowKit
section
variable {P : Program} {B : Nat} {w0 : World} {H : AHeap} {K : AV → AHeap → Prop} {L L' L2 : List Item} {t : TypeId} {v x : AV}
theorem sto_own {te : TyA} {id off sz : Nat} {cs ocs : List AV} (ht : tyA P t = some te) (hp : Pull L (.own sz v ocs) L2) (hq : Pull L (.obj id (.cells cs)) L') (hS : Hv H L) (h4 : te.size = 1) (h5 : off + 1 ≤ cs.length)
  (hK : ∀ H', Hv H' (.obj id (.cells (putA cs off [v])) :: L') → K .undef H') : StoE P t (.ptr id off) v H K := by
 have hv : v.cells = [v] ∧ okCells v = true := by
  rcases (hS.pull hp).each _ (List.mem_cons_self ..) with ⟨s, rfl, _⟩ | ⟨i, len, rfl, _⟩ <;> exact ⟨rfl, rfl⟩
 refine sto_go ht hq hS hv.2 (by rw [hv.1, h4]; rfl) (by rw [h4]; exact h5) ?_
 rw [hv.1]; exact hK
theorem atRetF (h : RetF K x H) : RetF K x H := h
end
end Go.Av
namespace Go.Av
theorem RetF.ownT {K : AV → AHeap → Prop} {H : AHeap} {L L' : List Item} {α : Type} {enc : α → AV} {l : List α} {id len : Nat} {v v' : AV} (hc : OneC enc) (hN : Need0 (.obj id (.cells (List.map enc l)) :: L') L) (hr : Rep (.sl 1 id 0 len) (.dl 1 (List.map enc (List.take len l)) .none) v v') (hS : Hv H L) (hl : len ≤ l.length) (h : ∀ H', Hv H' L' → RetF K v' H') : RetF K v H := by
 have hs := hS.need0 hN
 have hf : H[id]? = some (.cells (List.map enc l)) := hs.each _ (List.mem_cons_self ..)
 refine RetF.frzT (cs := List.map enc l) (by rw [← List.map_take]; exact hr) hf (by simpa using hl) (fun c hc' => by obtain ⟨x, _, rfl⟩ := List.mem_map.1 hc'; exact hc x) (h _ ?_)
 exact (hs.set (y := .tl .full) rfl .dead (.inl rfl) (fun j h => by cases h)).drop
end Go.Av
namespace Go.Av
open Go.RowKit
theorem split9 {H : AHeap} {L L' : List Item} {sz : Nat} {v : AV} {α : Type} {enc : α → AV} {l : List α} (hc : SzC sz enc) (h0 : 0 < sz) (hp : Pull L (.own sz v (flat (List.map enc l))) L') (hS : Hv H L) : (l = [] ∧ ∃ s, v = .dl s [] .full) ∨ ∃ id, v = .sl sz id 0 l.length ∧ Hv H (.obj id (.cells (flat (List.map enc l))) :: L') :=
 split_own (G := fun v => (l = [] ∧ ∃ s, v = .dl s [] .full) ∨ ∃ id, v = .sl sz id 0 l.length ∧ Hv H (.obj id (.cells (flat (List.map enc l))) :: L')) hc h0 hp hS (fun hl s => .inl ⟨hl, s, rfl⟩) (fun id h => .inr ⟨id, rfl, h⟩)
theorem split91 {H : AHeap} {L L' : List Item} {v : AV} {α : Type} {enc : α → AV} {l : List α} (hc : OneC enc) (hp : Pull L (.own 1 v (List.map enc l)) L') (hS : Hv H L) : (l = [] ∧ ∃ s, v = .dl s [] .full) ∨ ∃ id, v = .sl 1 id 0 l.length ∧ Hv H (.obj id (.cells (List.map enc l)) :: L') :=
 split_own1 (G := fun v => (l = [] ∧ ∃ s, v = .dl s [] .full) ∨ ∃ id, v = .sl 1 id 0 l.length ∧ Hv H (.obj id (.cells (List.map enc l)) :: L')) hc hp hS (fun hl s => .inl ⟨hl, s, rfl⟩) (fun id h => .inr ⟨id, rfl, h⟩)
end Go.Av
end

section
namespace Go.Av
open Go.Proofs
theorem ty2 : tyA Tryz.prog 2 = some { kind := .int .i64, size := 1, bytes := 8, zero := some (.int .i64 0) } := by kernel_rfl
theorem ty3 : tyA Tryz.prog 3 = some { kind := .int .i64, size := 1, bytes := 8, zero := some (.int .i64 0) } := by kernel_rfl
theorem ty4 : tyA Tryz.prog 4 = some { kind := .bool, size := 1, bytes := 1, zero := some (.bool false) } := by kernel_rfl
theorem ty5 : tyA Tryz.prog 5 = some { kind := .int .u8, size := 1, bytes := 1, zero := some (.int .u8 0) } := by kernel_rfl
theorem ty6 : tyA Tryz.prog 6 = some { kind := .int .u8, size := 1, bytes := 1, zero := some (.int .u8 0) } := by kernel_rfl
theorem ty7 : tyA Tryz.prog 7 = some { kind := .struct [(0, 2), (1, 3), (2, 4), (3, 6)], size := 4, bytes := 24, zero := some (.agg [.int .i64 0, .int .i64 0, .bool false, .int .u8 0]) } := by kernel_rfl
theorem ty8 : tyA Tryz.prog 8 = some { kind := .struct [(0, 2), (1, 3), (2, 4), (3, 6)], size := 4, bytes := 24, zero := some (.agg [.int .i64 0, .int .i64 0, .bool false, .int .u8 0]) } := by kernel_rfl
theorem ty9 : tyA Tryz.prog 9 = some { kind := .str, size := 1, bytes := 16, zero := some (.str []) } := by kernel_rfl
theorem ty10 : tyA Tryz.prog 10 = some { kind := .str, size := 1, bytes := 16, zero := some (.str []) } := by kernel_rfl
theorem ty11 : tyA Tryz.prog 11 = some { kind := .str, size := 1, bytes := 16, zero := some (.str []) } := by kernel_rfl
theorem ty12 : tyA Tryz.prog 12 = some { kind := .int .u64, size := 1, bytes := 8, zero := some (.int .u64 0) } := by kernel_rfl
theorem ty13 : tyA Tryz.prog 13 = some { kind := .struct [(0, 9), (1, 12)], size := 2, bytes := 24, zero := some (.agg [.str [], .int .u64 0]) } := by kernel_rfl
theorem ty14 : tyA Tryz.prog 14 = some { kind := .struct [(0, 9), (1, 12)], size := 2, bytes := 24, zero := some (.agg [.str [], .int .u64 0]) } := by kernel_rfl
theorem ty15 : tyA Tryz.prog 15 = some { kind := .ptr, size := 1, bytes := 8, zero := some (.nilp) } := by kernel_rfl
theorem ty16 : tyA Tryz.prog 16 = some { kind := .ptr, size := 1, bytes := 8, zero := some (.nilp) } := by kernel_rfl
theorem ty17 : tyA Tryz.prog 17 = some { kind := .ptr, size := 1, bytes := 8, zero := some (.nilp) } := by kernel_rfl
theorem ty18 : tyA Tryz.prog 18 = some { kind := .struct [(0, 17)], size := 1, bytes := 8, zero := some (.agg [.nilp]) } := by kernel_rfl
theorem ty19 : tyA Tryz.prog 19 = some { kind := .struct [(0, 17)], size := 1, bytes := 8, zero := some (.agg [.nilp]) } := by kernel_rfl
theorem ty21 : tyA Tryz.prog 21 = some { kind := .int .i32, size := 1, bytes := 4, zero := some (.int .i32 0) } := by kernel_rfl
theorem ty22 : tyA Tryz.prog 22 = some { kind := .slice 3, size := 1, bytes := 24, zero := some (.dl 0 [] .full) } := by kernel_rfl
theorem ty24 : tyA Tryz.prog 24 = some { kind := .slice 80, size := 1, bytes := 24, zero := some (.dl 0 [] .full) } := by kernel_rfl
theorem ty27 : tyA Tryz.prog 27 = some { kind := .slice 53, size := 1, bytes := 24, zero := some (.dl 0 [] .full) } := by kernel_rfl
theorem ty29 : tyA Tryz.prog 29 = some { kind := .slice 52, size := 1, bytes := 24, zero := some (.dl 0 [] .full) } := by kernel_rfl
theorem ty31 : tyA Tryz.prog 31 = some { kind := .slice 24, size := 1, bytes := 24, zero := some (.dl 0 [] .full) } := by kernel_rfl
theorem ty32 : tyA Tryz.prog 32 = some { kind := .struct [(0, 3), (1, 3), (2, 22), (3, 22), (4, 27), (5, 27), (6, 27)], size := 7, bytes := 136, zero := some (.agg [.int .i64 0, .int .i64 0, .dl 0 [] .full, .dl 0 [] .full, .dl 0 [] .full, .dl 0 [] .full, .dl 0 [] .full]) } := by kernel_rfl
theorem ty33 : tyA Tryz.prog 33 = some { kind := .struct [(0, 3), (1, 3), (2, 22), (3, 22), (4, 27), (5, 27), (6, 27)], size := 7, bytes := 136, zero := some (.agg [.int .i64 0, .int .i64 0, .dl 0 [] .full, .dl 0 [] .full, .dl 0 [] .full, .dl 0 [] .full, .dl 0 [] .full]) } := by kernel_rfl
theorem ty34 : tyA Tryz.prog 34 = some { kind := .int .i64, size := 1, bytes := 8, zero := some (.int .i64 0) } := by kernel_rfl
theorem ty37 : tyA Tryz.prog 37 = some { kind := .slice 85, size := 1, bytes := 24, zero := some (.dl 0 [] .full) } := by kernel_rfl
theorem ty39 : tyA Tryz.prog 39 = some { kind := .slice 63, size := 1, bytes := 24, zero := some (.dl 0 [] .full) } := by kernel_rfl
theorem ty41 : tyA Tryz.prog 41 = some { kind := .struct [(0, 3), (1, 3), (2, 22), (3, 22), (4, 27), (5, 27), (6, 27)], size := 7, bytes := 136, zero := some (.agg [.int .i64 0, .int .i64 0, .dl 0 [] .full, .dl 0 [] .full, .dl 0 [] .full, .dl 0 [] .full, .dl 0 [] .full]) } := by kernel_rfl
theorem ty51 : tyA Tryz.prog 51 = some { kind := .slice 41, size := 1, bytes := 24, zero := some (.dl 0 [] .full) } := by kernel_rfl
theorem ty52 : tyA Tryz.prog 52 = some { kind := .slice 57, size := 1, bytes := 24, zero := some (.dl 0 [] .full) } := by kernel_rfl
theorem ty53 : tyA Tryz.prog 53 = some { kind := .int .u64, size := 1, bytes := 8, zero := some (.int .u64 0) } := by kernel_rfl
theorem ty54 : tyA Tryz.prog 54 = some { kind := .struct [(0, 3), (1, 3), (2, 3)], size := 3, bytes := 24, zero := some (.agg [.int .i64 0, .int .i64 0, .int .i64 0]) } := by kernel_rfl
theorem ty55 : tyA Tryz.prog 55 = some { kind := .struct [(0, 3), (1, 3), (2, 3)], size := 3, bytes := 24, zero := some (.agg [.int .i64 0, .int .i64 0, .int .i64 0]) } := by kernel_rfl
theorem ty56 : tyA Tryz.prog 56 = some { kind := .struct [(0, 55), (3, 53), (4, 27), (5, 27), (6, 53)], size := 7, bytes := 88, zero := some (.agg [.int .i64 0, .int .i64 0, .int .i64 0, .int .u64 0, .dl 0 [] .full, .dl 0 [] .full, .int .u64 0]) } := by kernel_rfl
theorem ty57 : tyA Tryz.prog 57 = some { kind := .struct [(0, 55), (3, 53), (4, 27), (5, 27), (6, 53)], size := 7, bytes := 88, zero := some (.agg [.int .i64 0, .int .i64 0, .int .i64 0, .int .u64 0, .dl 0 [] .full, .dl 0 [] .full, .int .u64 0]) } := by kernel_rfl
theorem ty58 : tyA Tryz.prog 58 = some { kind := .slice 29, size := 1, bytes := 24, zero := some (.dl 0 [] .full) } := by kernel_rfl
theorem ty63 : tyA Tryz.prog 63 = some { kind := .slice 64, size := 1, bytes := 24, zero := some (.dl 0 [] .full) } := by kernel_rfl
theorem ty64 : tyA Tryz.prog 64 = some { kind := .struct [(0, 55), (3, 53), (4, 27), (5, 27), (6, 53)], size := 7, bytes := 88, zero := some (.agg [.int .i64 0, .int .i64 0, .int .i64 0, .int .u64 0, .dl 0 [] .full, .dl 0 [] .full, .int .u64 0]) } := by kernel_rfl
theorem ty67 : tyA Tryz.prog 67 = some { kind := .slice 5, size := 1, bytes := 24, zero := some (.dl 0 [] .full) } := by kernel_rfl
theorem ty70 : tyA Tryz.prog 70 = some { kind := .ptr, size := 1, bytes := 8, zero := some (.nilp) } := by kernel_rfl
theorem ty76 : tyA Tryz.prog 76 = some { kind := .slice 67, size := 1, bytes := 24, zero := some (.dl 0 [] .full) } := by kernel_rfl
theorem ty78 : tyA Tryz.prog 78 = some { kind := .slice 9, size := 1, bytes := 24, zero := some (.dl 0 [] .full) } := by kernel_rfl
theorem ty79 : tyA Tryz.prog 79 = some { kind := .struct [(0, 3), (1, 9), (2, 3), (3, 3), (4, 3), (5, 53), (6, 4)], size := 7, bytes := 64, zero := some (.agg [.int .i64 0, .str [], .int .i64 0, .int .i64 0, .int .i64 0, .int .u64 0, .bool false]) } := by kernel_rfl
theorem ty80 : tyA Tryz.prog 80 = some { kind := .struct [(0, 3), (1, 9), (2, 3), (3, 3), (4, 3), (5, 53), (6, 4)], size := 7, bytes := 64, zero := some (.agg [.int .i64 0, .str [], .int .i64 0, .int .i64 0, .int .i64 0, .int .u64 0, .bool false]) } := by kernel_rfl
theorem ty84 : tyA Tryz.prog 84 = some { kind := .struct [(0, 3), (1, 3), (2, 9), (3, 3), (4, 3), (5, 3), (6, 53), (7, 4)], size := 8, bytes := 72, zero := some (.agg [.int .i64 0, .int .i64 0, .str [], .int .i64 0, .int .i64 0, .int .i64 0, .int .u64 0, .bool false]) } := by kernel_rfl
theorem ty85 : tyA Tryz.prog 85 = some { kind := .struct [(0, 3), (1, 3), (2, 9), (3, 3), (4, 3), (5, 3), (6, 53), (7, 4)], size := 8, bytes := 72, zero := some (.agg [.int .i64 0, .int .i64 0, .str [], .int .i64 0, .int .i64 0, .int .i64 0, .int .u64 0, .bool false]) } := by kernel_rfl
theorem ty100 : tyA Tryz.prog 100 = some { kind := .ptr, size := 1, bytes := 8, zero := some (.nilp) } := by kernel_rfl
theorem ty101 : tyA Tryz.prog 101 = some { kind := .struct [(0, 67)], size := 1, bytes := 24, zero := some (.agg [.dl 0 [] .full]) } := by kernel_rfl
theorem ty102 : tyA Tryz.prog 102 = some { kind := .struct [(0, 67)], size := 1, bytes := 24, zero := some (.agg [.dl 0 [] .full]) } := by kernel_rfl
theorem ty108 : tyA Tryz.prog 108 = some { kind := .ptr, size := 1, bytes := 8, zero := some (.nilp) } := by kernel_rfl
theorem ty109 : tyA Tryz.prog 109 = some { kind := .slice 108, size := 1, bytes := 24, zero := some (.dl 0 [] .full) } := by kernel_rfl
theorem ty113 : tyA Tryz.prog 113 = some { kind := .struct [(0, 67), (1, 34)], size := 2, bytes := 32, zero := some (.agg [.dl 0 [] .full, .int .i64 0]) } := by kernel_rfl
theorem ty114 : tyA Tryz.prog 114 = some { kind := .struct [(0, 67), (1, 34)], size := 2, bytes := 32, zero := some (.agg [.dl 0 [] .full, .int .i64 0]) } := by kernel_rfl
theorem ty138 : tyA Tryz.prog 138 = some { kind := .int .u64, size := 1, bytes := 8, zero := some (.int .u64 0) } := by kernel_rfl
theorem ty146 : tyA Tryz.prog 146 = some { kind := .int .i64, size := 1, bytes := 8, zero := some (.int .i64 0) } := by kernel_rfl
theorem ty155 : tyA Tryz.prog 155 = some { kind := .int .u32, size := 1, bytes := 4, zero := some (.int .u32 0) } := by kernel_rfl
theorem ty158 : tyA Tryz.prog 158 = some { kind := .int .u64, size := 1, bytes := 8, zero := some (.int .u64 0) } := by kernel_rfl
theorem ty161 : tyA Tryz.prog 161 = some { kind := .ptr, size := 1, bytes := 8, zero := some (.nilp) } := by kernel_rfl
theorem ty168 : tyA Tryz.prog 168 = some { kind := .ptr, size := 1, bytes := 8, zero := some (.nilp) } := by kernel_rfl
theorem ty176 : tyA Tryz.prog 176 = some { kind := .struct [(0, 17), (1, 17), (2, 17), (3, 9)], size := 4, bytes := 40, zero := some (.agg [.nilp, .nilp, .nilp, .str []]) } := by kernel_rfl
theorem ty177 : tyA Tryz.prog 177 = some { kind := .struct [(0, 17), (1, 17), (2, 17), (3, 9)], size := 4, bytes := 40, zero := some (.agg [.nilp, .nilp, .nilp, .str []]) } := by kernel_rfl
theorem ty178 : tyA Tryz.prog 178 = some { kind := .array 0 16, size := 0, bytes := 0, zero := some (.agg []) } := by kernel_rfl
theorem ty179 : tyA Tryz.prog 179 = some { kind := .struct [(0, 178)], size := 0, bytes := 0, zero := some (.agg []) } := by kernel_rfl
theorem ty180 : tyA Tryz.prog 180 = some { kind := .struct [(0, 178)], size := 0, bytes := 0, zero := some (.agg []) } := by kernel_rfl
theorem ty181 : tyA Tryz.prog 181 = some { kind := .int .u8, size := 1, bytes := 1, zero := some (.int .u8 0) } := by kernel_rfl
theorem ty182 : tyA Tryz.prog 182 = some { kind := .int .u8, size := 1, bytes := 1, zero := some (.int .u8 0) } := by kernel_rfl
theorem ty184 : tyA Tryz.prog 184 = some { kind := .ptr, size := 1, bytes := 8, zero := some (.nilp) } := by kernel_rfl
theorem ty185 : tyA Tryz.prog 185 = some { kind := .int .i32, size := 1, bytes := 4, zero := some (.int .i32 0) } := by kernel_rfl
theorem ty186 : tyA Tryz.prog 186 = some { kind := .int .i32, size := 1, bytes := 4, zero := some (.int .i32 0) } := by kernel_rfl
theorem ty187 : tyA Tryz.prog 187 = some { kind := .struct [(0, 12), (1, 12), (2, 155), (3, 181), (4, 5), (5, 5), (6, 182), (7, 183), (8, 184), (9, 185), (10, 186)], size := 11, bytes := 48, zero := some (.agg [.int .u64 0, .int .u64 0, .int .u32 0, .int .u8 0, .int .u8 0, .int .u8 0, .int .u8 0, .nilfn, .nilp, .int .i32 0, .int .i32 0]) } := by kernel_rfl
theorem ty188 : tyA Tryz.prog 188 = some { kind := .struct [(0, 12), (1, 12), (2, 155), (3, 181), (4, 5), (5, 5), (6, 182), (7, 183), (8, 184), (9, 185), (10, 186)], size := 11, bytes := 48, zero := some (.agg [.int .u64 0, .int .u64 0, .int .u32 0, .int .u8 0, .int .u8 0, .int .u8 0, .int .u8 0, .nilfn, .nilp, .int .i32 0, .int .i32 0]) } := by kernel_rfl
end Go.Av
end

section
namespace Go.Av
def encL0 (x : List Int) : AV := .dl 1 (x.map (AV.int .u64)) .none
structure S1 where
 c0 : Int
 c1 : Int
 c2 : Int
 c3 : Int
 c4 : (List Int)
 c5 : (List Int)
 c6 : Int
 deriving Inhabited, DecidableEq
def encS1 (x : S1) : AV := .agg [.int .i64 x.c0, .int .i64 x.c1, .int .i64 x.c2, .int .u64 x.c3, .dl 1 (x.c4.map (AV.int .u64)) .none, .dl 1 (x.c5.map (AV.int .u64)) .none, .int .u64 x.c6]
structure S2 where
 c0 : Int
 c1 : (List UInt8)
 c2 : Int
 c3 : Int
 c4 : Int
 c5 : Int
 c6 : Bool
 deriving Inhabited, DecidableEq
def encS2 (x : S2) : AV := .agg [.int .i64 x.c0, .str x.c1, .int .i64 x.c2, .int .i64 x.c3, .int .i64 x.c4, .int .u64 x.c5, .bool x.c6]
def encL3 (x : List S1) : AV := .dl 7 (x.map encS1) .none
def encL4 (x : List Int) : AV := .dl 1 (x.map (AV.int .u8)) .none
structure S5 where
 c0 : (List Int)
 deriving Inhabited, DecidableEq
def encS5 (x : S5) : AV := .agg [.dl 1 (x.c0.map (AV.int .u8)) .none]
structure S6 where
 c0 : Int
 c1 : Int
 c2 : (List UInt8)
 c3 : Int
 c4 : Int
 c5 : Int
 c6 : Int
 c7 : Bool
 deriving Inhabited, DecidableEq
def encS6 (x : S6) : AV := .agg [.int .i64 x.c0, .int .i64 x.c1, .str x.c2, .int .i64 x.c3, .int .i64 x.c4, .int .i64 x.c5, .int .u64 x.c6, .bool x.c7]
def encL7 (x : List Int) : AV := .dl 1 (x.map (AV.int .i64)) .none
structure S8 where
 c0 : Int
 c1 : Int
 c2 : (List Int)
 c3 : (List Int)
 c4 : (List Int)
 c5 : (List Int)
 c6 : (List Int)
 deriving Inhabited, DecidableEq
def encS8 (x : S8) : AV := .agg [.int .i64 x.c0, .int .i64 x.c1, .dl 1 (x.c2.map (AV.int .i64)) .none, .dl 1 (x.c3.map (AV.int .i64)) .none, .dl 1 (x.c4.map (AV.int .u64)) .none, .dl 1 (x.c5.map (AV.int .u64)) .none, .dl 1 (x.c6.map (AV.int .u64)) .none]
structure S9 where
 c0 : (List Int)
 c1 : Int
 deriving Inhabited, DecidableEq
def encS9 (x : S9) : AV := .agg [.dl 1 (x.c0.map (AV.int .u8)) .none, .int .i64 x.c1]
end Go.Av
end

section
set_option maxRecDepth 10000
namespace Go.Av
open Go.Proofs
theorem ev0 : ((((type_of% @eawp_skip) ∧ ((type_of% @eawp_region) ∧ (type_of% @eawp_seq))) ∧ ((type_of% @eawp_cond) ∧ ((type_of% @eawp_block) ∧ (type_of% @eawp_exit)))) ∧ (((type_of% @eawp_ret) ∧ ((type_of% @eawp_loop) ∧ (type_of% @thenQ_normal))) ∧ ((type_of% @thenQ_exit) ∧ ((type_of% @thenQ_ret) ∧ (type_of% @blockQ_normal))))) ∧ ((((type_of% @blockQ_ret) ∧ ((type_of% @blockQ_exit) ∧ (type_of% @bodyQ_ret))) ∧ ((type_of% @bodyQ_normal) ∧ ((type_of% @resOne.eq_1) ∧ (type_of% @resOne.eq_2)))) ∧ (((type_of% @eops_nil) ∧ ((type_of% @eops_guard) ∧ (type_of% @guardV_t))) ∧ ((type_of% @guardV_f) ∧ ((type_of% @gval.eq_1) ∧ (type_of% @eopsK_eq))))) :=
 ⟨⟨⟨⟨@eawp_skip, ⟨@eawp_region, @eawp_seq⟩⟩, ⟨@eawp_cond, ⟨@eawp_block, @eawp_exit⟩⟩⟩, ⟨⟨@eawp_ret, ⟨@eawp_loop, @thenQ_normal⟩⟩, ⟨@thenQ_exit, ⟨@thenQ_ret, @blockQ_normal⟩⟩⟩⟩, ⟨⟨⟨@blockQ_ret, ⟨@blockQ_exit, @bodyQ_ret⟩⟩, ⟨@bodyQ_normal, ⟨@resOne.eq_1, @resOne.eq_2⟩⟩⟩, ⟨⟨@eops_nil, ⟨@eops_guard, @guardV_t⟩⟩, ⟨@guardV_f, ⟨@gval.eq_1, @eopsK_eq⟩⟩⟩⟩⟩
theorem ev1 : ((((type_of% @eopS_eq) ∧ ((type_of% @eop_move) ∧ (type_of% @eop_assign))) ∧ ((type_of% @eop_pick) ∧ ((type_of% @eop_binOp) ∧ (type_of% @eop_unOp)))) ∧ (((type_of% @eop_convert) ∧ ((type_of% @eop_makeFunc) ∧ (type_of% @eop_fieldAddr))) ∧ ((type_of% @eop_field) ∧ ((type_of% @eop_indexAddr) ∧ (type_of% @eop_index))))) ∧ ((((type_of% @eop_slice) ∧ ((type_of% @eop_extract) ∧ (type_of% @eop_nilCheck))) ∧ ((type_of% @eop_build) ∧ ((type_of% @eop_load) ∧ (type_of% @eop_buildSlice)))) ∧ (((type_of% @eop_call) ∧ ((type_of% @callE_value) ∧ (type_of% @callE_append))) ∧ ((type_of% @callE_clear) ∧ ((type_of% @callE_len) ∧ (type_of% @callE_min))))) :=
 ⟨⟨⟨⟨@eopS_eq, ⟨@eop_move, @eop_assign⟩⟩, ⟨@eop_pick, ⟨@eop_binOp, @eop_unOp⟩⟩⟩, ⟨⟨@eop_convert, ⟨@eop_makeFunc, @eop_fieldAddr⟩⟩, ⟨@eop_field, ⟨@eop_indexAddr, @eop_index⟩⟩⟩⟩, ⟨⟨⟨@eop_slice, ⟨@eop_extract, @eop_nilCheck⟩⟩, ⟨@eop_build, ⟨@eop_load, @eop_buildSlice⟩⟩⟩, ⟨⟨@eop_call, ⟨@callE_value, @callE_append⟩⟩, ⟨@callE_clear, ⟨@callE_len, @callE_min⟩⟩⟩⟩⟩
theorem ev2 : ((((type_of% @callE_max) ∧ ((type_of% @callV_func) ∧ (type_of% @callV_yield))) ∧ ((type_of% @binE_plain) ∧ ((type_of% @binE_none) ∧ (type_of% @binE_nil)))) ∧ (((type_of% @effV.eq_1) ∧ ((type_of% @effV.eq_2) ∧ (type_of% @effV.eq_3))) ∧ ((type_of% @effV.eq_4) ∧ ((type_of% @effV.eq_5) ∧ (type_of% @biA.eq_1))))) ∧ ((((type_of% @someK_some) ∧ ((type_of% @someK2_some) ∧ (type_of% @branch_true))) ∧ ((type_of% @branch_false) ∧ ((type_of% @branch_dec) ∧ (type_of% @branch_not)))) ∧ (((type_of% @branch_and) ∧ ((type_of% @branch_or) ∧ (type_of% @ev.eq_1))) ∧ ((type_of% @ev.eq_2) ∧ ((type_of% @ev.eq_3) ∧ (type_of% @ev.eq_4))))) :=
 ⟨⟨⟨⟨@callE_max, ⟨@callV_func, @callV_yield⟩⟩, ⟨@binE_plain, ⟨@binE_none, @binE_nil⟩⟩⟩, ⟨⟨@effV.eq_1, ⟨@effV.eq_2, @effV.eq_3⟩⟩, ⟨@effV.eq_4, ⟨@effV.eq_5, @biA.eq_1⟩⟩⟩⟩, ⟨⟨⟨@someK_some, ⟨@someK2_some, @branch_true⟩⟩, ⟨@branch_false, ⟨@branch_dec, @branch_not⟩⟩⟩, ⟨⟨@branch_and, ⟨@branch_or, @ev.eq_1⟩⟩, ⟨@ev.eq_2, ⟨@ev.eq_3, @ev.eq_4⟩⟩⟩⟩⟩
theorem ev3 : ((((type_of% @putD.eq_1) ∧ ((type_of% @putD.eq_2) ∧ (type_of% @binA.eq_1))) ∧ ((type_of% @binA.eq_2) ∧ ((type_of% @binA.eq_3) ∧ (type_of% @binA.eq_4)))) ∧ (((type_of% @binA.eq_5) ∧ ((type_of% @binA.eq_6) ∧ (type_of% @binA.eq_7))) ∧ ((type_of% @binA.eq_8) ∧ ((type_of% @binA.eq_9) ∧ (type_of% @binA.eq_10))))) ∧ ((((type_of% @binA.eq_11) ∧ ((type_of% @binA.eq_12) ∧ (type_of% @binA.eq_13))) ∧ ((type_of% @binA.eq_14) ∧ ((type_of% @binA.eq_15) ∧ (type_of% @binA.eq_16)))) ∧ (((type_of% @binA.eq_17) ∧ ((type_of% @binA.eq_18) ∧ (type_of% @binA.eq_19))) ∧ ((type_of% @binA.eq_20) ∧ ((type_of% @binA.eq_21) ∧ (type_of% @binA.eq_22))))) :=
 ⟨⟨⟨⟨@putD.eq_1, ⟨@putD.eq_2, @binA.eq_1⟩⟩, ⟨@binA.eq_2, ⟨@binA.eq_3, @binA.eq_4⟩⟩⟩, ⟨⟨@binA.eq_5, ⟨@binA.eq_6, @binA.eq_7⟩⟩, ⟨@binA.eq_8, ⟨@binA.eq_9, @binA.eq_10⟩⟩⟩⟩, ⟨⟨⟨@binA.eq_11, ⟨@binA.eq_12, @binA.eq_13⟩⟩, ⟨@binA.eq_14, ⟨@binA.eq_15, @binA.eq_16⟩⟩⟩, ⟨⟨@binA.eq_17, ⟨@binA.eq_18, @binA.eq_19⟩⟩, ⟨@binA.eq_20, ⟨@binA.eq_21, @binA.eq_22⟩⟩⟩⟩⟩
theorem ev4 : ((((type_of% @binA.eq_23) ∧ ((type_of% @binI.eq_1) ∧ (type_of% @binI.eq_2))) ∧ ((type_of% @binI.eq_3) ∧ ((type_of% @binI.eq_4) ∧ (type_of% @binI.eq_5)))) ∧ (((type_of% @binI.eq_6) ∧ ((type_of% @binI.eq_7) ∧ (type_of% @binI.eq_8))) ∧ ((type_of% @binI.eq_9) ∧ ((type_of% @binI.eq_10) ∧ (type_of% @binI.eq_11))))) ∧ ((((type_of% @binI.eq_12) ∧ ((type_of% @binI.eq_13) ∧ (type_of% @binI.eq_14))) ∧ ((type_of% @binI.eq_15) ∧ ((type_of% @binI.eq_16) ∧ (type_of% @binS.eq_1)))) ∧ (((type_of% @binS.eq_2) ∧ ((type_of% @binS.eq_3) ∧ (type_of% @binS.eq_4))) ∧ ((type_of% @binS.eq_5) ∧ ((type_of% @binS.eq_6) ∧ (type_of% @binS.eq_7))))) :=
 ⟨⟨⟨⟨@binA.eq_23, ⟨@binI.eq_1, @binI.eq_2⟩⟩, ⟨@binI.eq_3, ⟨@binI.eq_4, @binI.eq_5⟩⟩⟩, ⟨⟨@binI.eq_6, ⟨@binI.eq_7, @binI.eq_8⟩⟩, ⟨@binI.eq_9, ⟨@binI.eq_10, @binI.eq_11⟩⟩⟩⟩, ⟨⟨⟨@binI.eq_12, ⟨@binI.eq_13, @binI.eq_14⟩⟩, ⟨@binI.eq_15, ⟨@binI.eq_16, @binS.eq_1⟩⟩⟩, ⟨⟨@binS.eq_2, ⟨@binS.eq_3, @binS.eq_4⟩⟩, ⟨@binS.eq_5, ⟨@binS.eq_6, @binS.eq_7⟩⟩⟩⟩⟩
theorem ev5 : ((((type_of% @binS.eq_8) ∧ ((type_of% @unA.eq_1) ∧ (type_of% @unA.eq_2))) ∧ ((type_of% @unA.eq_3) ∧ ((type_of% @unA.eq_4) ∧ (type_of% @convA.eq_1)))) ∧ (((type_of% @pickA.eq_1) ∧ ((type_of% @pickA.eq_2) ∧ (type_of% @fieldAddrA.eq_1))) ∧ ((type_of% @fieldA.eq_1) ∧ ((type_of% @indexA.eq_def) ∧ (type_of% @sliceA.eq_1))))) ∧ ((((type_of% @extractA.eq_1) ∧ ((type_of% @extractA.eq_2) ∧ (type_of% @nilCheckA.eq_1))) ∧ ((type_of% @nilCheckA.eq_2) ∧ ((type_of% @nilCheckA.eq_3) ∧ (type_of% @nilCheckA.eq_4)))) ∧ (((type_of% @buildA.eq_1) ∧ ((type_of% @loadA.eq_1) ∧ (type_of% @cellsAt.eq_1))) ∧ ((type_of% @cellsAt.eq_2) ∧ ((type_of% @cellsAt.eq_3) ∧ (type_of% @plus.eq_1))))) :=
 ⟨⟨⟨⟨@binS.eq_8, ⟨@unA.eq_1, @unA.eq_2⟩⟩, ⟨@unA.eq_3, ⟨@unA.eq_4, @convA.eq_1⟩⟩⟩, ⟨⟨@pickA.eq_1, ⟨@pickA.eq_2, @fieldAddrA.eq_1⟩⟩, ⟨@fieldA.eq_1, ⟨@indexA.eq_def, @sliceA.eq_1⟩⟩⟩⟩, ⟨⟨⟨@extractA.eq_1, ⟨@extractA.eq_2, @nilCheckA.eq_1⟩⟩, ⟨@nilCheckA.eq_2, ⟨@nilCheckA.eq_3, @nilCheckA.eq_4⟩⟩⟩, ⟨⟨@buildA.eq_1, ⟨@loadA.eq_1, @cellsAt.eq_1⟩⟩, ⟨@cellsAt.eq_2, ⟨@cellsAt.eq_3, @plus.eq_1⟩⟩⟩⟩⟩
theorem ev6 : ((((type_of% @plus.eq_2) ∧ ((type_of% @plus.eq_3) ∧ (type_of% @bnd.eq_1))) ∧ ((type_of% @bnd.eq_2) ∧ ((type_of% @bnd.eq_3) ∧ (type_of% @isK.eq_1)))) ∧ (((type_of% @isBoolK.eq_1) ∧ ((type_of% @isBoolK.eq_2) ∧ (type_of% @isPtrK.eq_1))) ∧ ((type_of% @isPtrK.eq_2) ∧ ((type_of% @isFuncK.eq_1) ∧ (type_of% @isFuncK.eq_2))))) ∧ ((((type_of% @isAggK.eq_1) ∧ ((type_of% @isAggK.eq_2) ∧ (type_of% @isAggK.eq_3))) ∧ ((type_of% @ofVal.eq_1) ∧ ((type_of% @ofVal.eq_2) ∧ (type_of% @ofVal1.eq_1)))) ∧ (((type_of% @ofVal1.eq_2) ∧ ((type_of% @ofVal1.eq_3) ∧ (type_of% @ofVal1.eq_4))) ∧ ((type_of% @ofVal1.eq_5) ∧ ((type_of% @ofVal1.eq_6) ∧ (type_of% @ofVal1.eq_7))))) :=
 ⟨⟨⟨⟨@plus.eq_2, ⟨@plus.eq_3, @bnd.eq_1⟩⟩, ⟨@bnd.eq_2, ⟨@bnd.eq_3, @isK.eq_1⟩⟩⟩, ⟨⟨@isBoolK.eq_1, ⟨@isBoolK.eq_2, @isPtrK.eq_1⟩⟩, ⟨@isPtrK.eq_2, ⟨@isFuncK.eq_1, @isFuncK.eq_2⟩⟩⟩⟩, ⟨⟨⟨@isAggK.eq_1, ⟨@isAggK.eq_2, @isAggK.eq_3⟩⟩, ⟨@ofVal.eq_1, ⟨@ofVal.eq_2, @ofVal1.eq_1⟩⟩⟩, ⟨⟨@ofVal1.eq_2, ⟨@ofVal1.eq_3, @ofVal1.eq_4⟩⟩, ⟨@ofVal1.eq_5, ⟨@ofVal1.eq_6, @ofVal1.eq_7⟩⟩⟩⟩⟩
theorem ev7 : ((((type_of% @ofVal1.eq_8) ∧ ((type_of% @ofVal1.eq_9) ∧ (type_of% @okCells.eq_1))) ∧ ((type_of% @isUndef.eq_1) ∧ ((type_of% @isUndef.eq_2) ∧ (type_of% @partOk.eq_1)))) ∧ (((type_of% @AV.cells.eq_1) ∧ ((type_of% @AV.cells.eq_2) ∧ (type_of% @AV.one.eq_1))) ∧ ((type_of% @AV.one.eq_2) ∧ ((type_of% @AV.one.eq_3) ∧ (type_of% @AV.one.eq_4))))) ∧ ((((type_of% @putA.eq_1) ∧ ((type_of% @fillA.eq_def) ∧ (type_of% @placeA.eq_1))) ∧ ((type_of% @placeA.eq_2) ∧ ((type_of% @placeA.eq_3) ∧ (type_of% @allTy.eq_1)))) ∧ (((type_of% @allTy.eq_2) ∧ ((type_of% @allTy.eq_3) ∧ (type_of% @setAll.eq_1))) ∧ ((type_of% @List.getD_cons_zero.{0}) ∧ ((type_of% @List.getD_cons_succ.{0}) ∧ (type_of% @List.set_cons_zero.{0}))))) :=
 ⟨⟨⟨⟨@ofVal1.eq_8, ⟨@ofVal1.eq_9, @okCells.eq_1⟩⟩, ⟨@isUndef.eq_1, ⟨@isUndef.eq_2, @partOk.eq_1⟩⟩⟩, ⟨⟨@AV.cells.eq_1, ⟨@AV.cells.eq_2, @AV.one.eq_1⟩⟩, ⟨@AV.one.eq_2, ⟨@AV.one.eq_3, @AV.one.eq_4⟩⟩⟩⟩, ⟨⟨⟨@putA.eq_1, ⟨@fillA.eq_def, @placeA.eq_1⟩⟩, ⟨@placeA.eq_2, ⟨@placeA.eq_3, @allTy.eq_1⟩⟩⟩, ⟨⟨@allTy.eq_2, ⟨@allTy.eq_3, @setAll.eq_1⟩⟩, ⟨@List.getD_cons_zero.{0}, ⟨@List.getD_cons_succ.{0}, @List.set_cons_zero.{0}⟩⟩⟩⟩⟩
theorem ev8 : ((((type_of% @List.set_cons_succ.{0}) ∧ ((type_of% @List.getElem?_cons_zero.{0}) ∧ (type_of% @List.getElem?_cons_succ.{0}))) ∧ ((type_of% @List.map_cons.{0,0}) ∧ ((type_of% @List.map_nil.{0,0}) ∧ (type_of% @List.length_cons.{0})))) ∧ (((type_of% @List.length_nil.{0}) ∧ ((type_of% @List.all_cons.{0}) ∧ (type_of% @List.all_nil.{0}))) ∧ ((type_of% @List.drop_succ_cons.{0}) ∧ ((type_of% @List.drop_zero.{0}) ∧ (type_of% @List.drop_nil.{0}))))) ∧ ((((type_of% @List.take_succ_cons.{0}) ∧ ((type_of% @List.take_zero.{0}) ∧ (type_of% @List.take_nil.{0}))) ∧ ((type_of% @List.cons_append.{0}) ∧ ((type_of% @List.nil_append.{0}) ∧ (type_of% @List.append_nil.{0})))) ∧ (((type_of% @List.head?_cons.{0}) ∧ ((type_of% @List.foldl_cons.{0,0}) ∧ (type_of% @List.foldl_nil.{0,0}))) ∧ ((type_of% @List.replicate.eq_1.{0}) ∧ ((type_of% @List.replicate.eq_2.{0}) ∧ (type_of% @Bool.and_true))))) :=
 ⟨⟨⟨⟨@List.set_cons_succ.{0}, ⟨@List.getElem?_cons_zero.{0}, @List.getElem?_cons_succ.{0}⟩⟩, ⟨@List.map_cons.{0,0}, ⟨@List.map_nil.{0,0}, @List.length_cons.{0}⟩⟩⟩, ⟨⟨@List.length_nil.{0}, ⟨@List.all_cons.{0}, @List.all_nil.{0}⟩⟩, ⟨@List.drop_succ_cons.{0}, ⟨@List.drop_zero.{0}, @List.drop_nil.{0}⟩⟩⟩⟩, ⟨⟨⟨@List.take_succ_cons.{0}, ⟨@List.take_zero.{0}, @List.take_nil.{0}⟩⟩, ⟨@List.cons_append.{0}, ⟨@List.nil_append.{0}, @List.append_nil.{0}⟩⟩⟩, ⟨⟨@List.head?_cons.{0}, ⟨@List.foldl_cons.{0,0}, @List.foldl_nil.{0,0}⟩⟩, ⟨@List.replicate.eq_1.{0}, ⟨@List.replicate.eq_2.{0}, @Bool.and_true⟩⟩⟩⟩⟩
theorem ev9 : ((((type_of% @Bool.true_and) ∧ ((type_of% @Bool.not_false) ∧ (type_of% @cond_true.{1}))) ∧ ((type_of% @cond_false.{1}) ∧ ((type_of% @Bool.not_true) ∧ (type_of% @Option.bind_some.{0,0})))) ∧ (((type_of% @Option.map_some.{0,0}) ∧ ((type_of% @Option.map_none.{0,0}) ∧ (type_of% @Option.toList.eq_1.{0}))) ∧ ((type_of% @Option.toList.eq_2.{0}) ∧ ((type_of% @Option.isSome_some.{0}) ∧ (type_of% @Option.isNone_none.{0}))))) ∧ ((((type_of% @Option.isSome_none.{0}) ∧ ((type_of% @Option.isNone_some.{0}) ∧ (type_of% @Nat.zero_add))) ∧ ((type_of% @Nat.add_zero) ∧ ((type_of% @BEq.rfl.{0}) ∧ (type_of% @decide_true)))) ∧ (((type_of% @decide_false) ∧ ((type_of% @if_true.{1}) ∧ (type_of% @ne_eq.{1}))) ∧ ((type_of% @not_false_eq_true) ∧ ((type_of% @not_true_eq_false) ∧ (type_of% @true_and))))) :=
 ⟨⟨⟨⟨@Bool.true_and, ⟨@Bool.not_false, @cond_true.{1}⟩⟩, ⟨@cond_false.{1}, ⟨@Bool.not_true, @Option.bind_some.{0,0}⟩⟩⟩, ⟨⟨@Option.map_some.{0,0}, ⟨@Option.map_none.{0,0}, @Option.toList.eq_1.{0}⟩⟩, ⟨@Option.toList.eq_2.{0}, ⟨@Option.isSome_some.{0}, @Option.isNone_none.{0}⟩⟩⟩⟩, ⟨⟨⟨@Option.isSome_none.{0}, ⟨@Option.isNone_some.{0}, @Nat.zero_add⟩⟩, ⟨@Nat.add_zero, ⟨@BEq.rfl.{0}, @decide_true⟩⟩⟩, ⟨⟨@decide_false, ⟨@if_true.{1}, @ne_eq.{1}⟩⟩, ⟨@not_false_eq_true, ⟨@not_true_eq_false, @true_and⟩⟩⟩⟩⟩
theorem ev10 : ((((type_of% @and_true) ∧ ((type_of% @and_self) ∧ (type_of% @isNil.eq_1))) ∧ ((type_of% @isNil.eq_2) ∧ ((type_of% @isNe.eq_1) ∧ (type_of% @isNe.eq_2)))) ∧ (((type_of% @isNe.eq_3) ∧ ((type_of% @NilE.eq_1) ∧ (type_of% @NilE.eq_2))) ∧ ((type_of% @NilE.eq_3) ∧ ((type_of% @isSliceT.eq_1) ∧ (type_of% @eawp_rangeFunc))))) ∧ ((((type_of% @eawp_draw) ∧ ((type_of% @roundQ_normal) ∧ (type_of% @assignQ_normal))) ∧ ((type_of% @setArgs.eq_1) ∧ ((type_of% @List.zip_cons_cons.{0,0}) ∧ (type_of% @List.zip_nil_left.{0,0})))) ∧ (((type_of% @List.zip_nil_right.{0,0}) ∧ ((type_of% @shl_u64_1) ∧ (type_of% @shr_u64_1))) ∧ ((type_of% @shl_u64_2) ∧ ((type_of% @shr_u64_2) ∧ (type_of% @shl_u64_3))))) :=
 ⟨⟨⟨⟨@and_true, ⟨@and_self, @isNil.eq_1⟩⟩, ⟨@isNil.eq_2, ⟨@isNe.eq_1, @isNe.eq_2⟩⟩⟩, ⟨⟨@isNe.eq_3, ⟨@NilE.eq_1, @NilE.eq_2⟩⟩, ⟨@NilE.eq_3, ⟨@isSliceT.eq_1, @eawp_rangeFunc⟩⟩⟩⟩, ⟨⟨⟨@eawp_draw, ⟨@roundQ_normal, @assignQ_normal⟩⟩, ⟨@setArgs.eq_1, ⟨@List.zip_cons_cons.{0,0}, @List.zip_nil_left.{0,0}⟩⟩⟩, ⟨⟨@List.zip_nil_right.{0,0}, ⟨@shl_u64_1, @shr_u64_1⟩⟩, ⟨@shl_u64_2, ⟨@shr_u64_2, @shl_u64_3⟩⟩⟩⟩⟩
theorem ev11 : ((((type_of% @shr_u64_3) ∧ ((type_of% @shl_u64_4) ∧ (type_of% @shr_u64_4))) ∧ ((type_of% @shl_u64_6) ∧ ((type_of% @shr_u64_6) ∧ (type_of% @shl_u64_7)))) ∧ (((type_of% @shr_u64_7) ∧ ((type_of% @shl_u64_8) ∧ (type_of% @shr_u64_8))) ∧ ((type_of% @shl_u64_16) ∧ ((type_of% @shr_u64_16) ∧ (type_of% @shl_u64_24))))) ∧ ((((type_of% @shr_u64_24) ∧ ((type_of% @shl_u64_32) ∧ (type_of% @shr_u64_32))) ∧ ((type_of% @shl_u64_40) ∧ ((type_of% @shr_u64_40) ∧ (type_of% @shl_u64_48)))) ∧ (((type_of% @shr_u64_48) ∧ ((type_of% @shl_u64_56) ∧ (type_of% @shr_u64_56))) ∧ ((type_of% @shl_u64_63) ∧ ((type_of% @shr_u64_63) ∧ (type_of% @shl_i64_1))))) :=
 ⟨⟨⟨⟨@shr_u64_3, ⟨@shl_u64_4, @shr_u64_4⟩⟩, ⟨@shl_u64_6, ⟨@shr_u64_6, @shl_u64_7⟩⟩⟩, ⟨⟨@shr_u64_7, ⟨@shl_u64_8, @shr_u64_8⟩⟩, ⟨@shl_u64_16, ⟨@shr_u64_16, @shl_u64_24⟩⟩⟩⟩, ⟨⟨⟨@shr_u64_24, ⟨@shl_u64_32, @shr_u64_32⟩⟩, ⟨@shl_u64_40, ⟨@shr_u64_40, @shl_u64_48⟩⟩⟩, ⟨⟨@shr_u64_48, ⟨@shl_u64_56, @shr_u64_56⟩⟩, ⟨@shl_u64_63, ⟨@shr_u64_63, @shl_i64_1⟩⟩⟩⟩⟩
theorem ev12 : ((((type_of% @shr_i64_1) ∧ ((type_of% @shl_i64_2) ∧ (type_of% @shr_i64_2))) ∧ ((type_of% @shl_i64_3) ∧ ((type_of% @shr_i64_3) ∧ (type_of% @shl_i64_4)))) ∧ (((type_of% @shr_i64_4) ∧ ((type_of% @shl_i64_6) ∧ (type_of% @shr_i64_6))) ∧ ((type_of% @shl_i64_7) ∧ ((type_of% @shr_i64_7) ∧ (type_of% @shl_i64_8))))) ∧ ((((type_of% @shr_i64_8) ∧ ((type_of% @shl_i64_16) ∧ (type_of% @shr_i64_16))) ∧ ((type_of% @shl_i64_24) ∧ ((type_of% @shr_i64_24) ∧ (type_of% @shl_i64_32)))) ∧ (((type_of% @shr_i64_32) ∧ ((type_of% @shl_i64_40) ∧ (type_of% @shr_i64_40))) ∧ ((type_of% @shl_i64_48) ∧ ((type_of% @shr_i64_48) ∧ (type_of% @shl_i64_56))))) :=
 ⟨⟨⟨⟨@shr_i64_1, ⟨@shl_i64_2, @shr_i64_2⟩⟩, ⟨@shl_i64_3, ⟨@shr_i64_3, @shl_i64_4⟩⟩⟩, ⟨⟨@shr_i64_4, ⟨@shl_i64_6, @shr_i64_6⟩⟩, ⟨@shl_i64_7, ⟨@shr_i64_7, @shl_i64_8⟩⟩⟩⟩, ⟨⟨⟨@shr_i64_8, ⟨@shl_i64_16, @shr_i64_16⟩⟩, ⟨@shl_i64_24, ⟨@shr_i64_24, @shl_i64_32⟩⟩⟩, ⟨⟨@shr_i64_32, ⟨@shl_i64_40, @shr_i64_40⟩⟩, ⟨@shl_i64_48, ⟨@shr_i64_48, @shl_i64_56⟩⟩⟩⟩⟩
theorem ev13 : ((((type_of% @shr_i64_56) ∧ ((type_of% @shl_i64_63) ∧ (type_of% @shr_i64_63))) ∧ ((type_of% @shl_u8_1) ∧ ((type_of% @shr_u8_1) ∧ (type_of% @shl_u8_2)))) ∧ (((type_of% @shr_u8_2) ∧ ((type_of% @shl_u8_3) ∧ (type_of% @shr_u8_3))) ∧ ((type_of% @shl_u8_4) ∧ ((type_of% @shr_u8_4) ∧ (type_of% @shl_u8_6))))) ∧ ((((type_of% @shr_u8_6) ∧ ((type_of% @shl_u8_7) ∧ (type_of% @shr_u8_7))) ∧ ((type_of% @shl_u8_8) ∧ ((type_of% @shr_u8_8) ∧ (type_of% @shl_u8_16)))) ∧ (((type_of% @shr_u8_16) ∧ ((type_of% @shl_u8_24) ∧ (type_of% @shr_u8_24))) ∧ ((type_of% @shl_u8_32) ∧ ((type_of% @shr_u8_32) ∧ (type_of% @shl_u8_40))))) :=
 ⟨⟨⟨⟨@shr_i64_56, ⟨@shl_i64_63, @shr_i64_63⟩⟩, ⟨@shl_u8_1, ⟨@shr_u8_1, @shl_u8_2⟩⟩⟩, ⟨⟨@shr_u8_2, ⟨@shl_u8_3, @shr_u8_3⟩⟩, ⟨@shl_u8_4, ⟨@shr_u8_4, @shl_u8_6⟩⟩⟩⟩, ⟨⟨⟨@shr_u8_6, ⟨@shl_u8_7, @shr_u8_7⟩⟩, ⟨@shl_u8_8, ⟨@shr_u8_8, @shl_u8_16⟩⟩⟩, ⟨⟨@shr_u8_16, ⟨@shl_u8_24, @shr_u8_24⟩⟩, ⟨@shl_u8_32, ⟨@shr_u8_32, @shl_u8_40⟩⟩⟩⟩⟩
theorem ev14 : ((((type_of% @shr_u8_40) ∧ ((type_of% @shl_u8_48) ∧ (type_of% @shr_u8_48))) ∧ ((type_of% @shl_u8_56) ∧ ((type_of% @shr_u8_56) ∧ (type_of% @shl_u8_63)))) ∧ (((type_of% @shr_u8_63) ∧ ((type_of% @shl_u32_1) ∧ (type_of% @shr_u32_1))) ∧ ((type_of% @shl_u32_2) ∧ ((type_of% @shr_u32_2) ∧ (type_of% @shl_u32_3))))) ∧ ((((type_of% @shr_u32_3) ∧ ((type_of% @shl_u32_4) ∧ (type_of% @shr_u32_4))) ∧ ((type_of% @shl_u32_6) ∧ ((type_of% @shr_u32_6) ∧ (type_of% @shl_u32_7)))) ∧ (((type_of% @shr_u32_7) ∧ ((type_of% @shl_u32_8) ∧ (type_of% @shr_u32_8))) ∧ ((type_of% @shl_u32_16) ∧ ((type_of% @shr_u32_16) ∧ (type_of% @shl_u32_24))))) :=
 ⟨⟨⟨⟨@shr_u8_40, ⟨@shl_u8_48, @shr_u8_48⟩⟩, ⟨@shl_u8_56, ⟨@shr_u8_56, @shl_u8_63⟩⟩⟩, ⟨⟨@shr_u8_63, ⟨@shl_u32_1, @shr_u32_1⟩⟩, ⟨@shl_u32_2, ⟨@shr_u32_2, @shl_u32_3⟩⟩⟩⟩, ⟨⟨⟨@shr_u32_3, ⟨@shl_u32_4, @shr_u32_4⟩⟩, ⟨@shl_u32_6, ⟨@shr_u32_6, @shl_u32_7⟩⟩⟩, ⟨⟨@shr_u32_7, ⟨@shl_u32_8, @shr_u32_8⟩⟩, ⟨@shl_u32_16, ⟨@shr_u32_16, @shl_u32_24⟩⟩⟩⟩⟩
theorem ev15 : ((((type_of% @shr_u32_24) ∧ ((type_of% @shl_u32_32) ∧ (type_of% @shr_u32_32))) ∧ ((type_of% @shl_u32_40) ∧ ((type_of% @shr_u32_40) ∧ (type_of% @shl_u32_48)))) ∧ (((type_of% @shr_u32_48) ∧ ((type_of% @shl_u32_56) ∧ (type_of% @shr_u32_56))) ∧ ((type_of% @shl_u32_63) ∧ ((type_of% @shr_u32_63) ∧ (type_of% @shl_i32_1))))) ∧ ((((type_of% @shr_i32_1) ∧ ((type_of% @shl_i32_2) ∧ (type_of% @shr_i32_2))) ∧ ((type_of% @shl_i32_3) ∧ ((type_of% @shr_i32_3) ∧ (type_of% @shl_i32_4)))) ∧ (((type_of% @shr_i32_4) ∧ ((type_of% @shl_i32_6) ∧ (type_of% @shr_i32_6))) ∧ ((type_of% @shl_i32_7) ∧ ((type_of% @shr_i32_7) ∧ (type_of% @shl_i32_8))))) :=
 ⟨⟨⟨⟨@shr_u32_24, ⟨@shl_u32_32, @shr_u32_32⟩⟩, ⟨@shl_u32_40, ⟨@shr_u32_40, @shl_u32_48⟩⟩⟩, ⟨⟨@shr_u32_48, ⟨@shl_u32_56, @shr_u32_56⟩⟩, ⟨@shl_u32_63, ⟨@shr_u32_63, @shl_i32_1⟩⟩⟩⟩, ⟨⟨⟨@shr_i32_1, ⟨@shl_i32_2, @shr_i32_2⟩⟩, ⟨@shl_i32_3, ⟨@shr_i32_3, @shl_i32_4⟩⟩⟩, ⟨⟨@shr_i32_4, ⟨@shl_i32_6, @shr_i32_6⟩⟩, ⟨@shl_i32_7, ⟨@shr_i32_7, @shl_i32_8⟩⟩⟩⟩⟩
theorem ev16 : ((((type_of% @shr_i32_8) ∧ ((type_of% @shl_i32_16) ∧ (type_of% @shr_i32_16))) ∧ ((type_of% @shl_i32_24) ∧ ((type_of% @shr_i32_24) ∧ (type_of% @shl_i32_32)))) ∧ (((type_of% @shr_i32_32) ∧ ((type_of% @shl_i32_40) ∧ (type_of% @shr_i32_40))) ∧ ((type_of% @shl_i32_48) ∧ ((type_of% @shr_i32_48) ∧ (type_of% @shl_i32_56))))) ∧ ((((type_of% @shr_i32_56) ∧ ((type_of% @shl_i32_63) ∧ (type_of% @shr_i32_63))) ∧ ((type_of% @Int.toNat_natCast) ∧ ((type_of% @Nat.le_refl) ∧ (type_of% @Nat.zero_le)))) ∧ (((type_of% @dops_nil) ∧ ((type_of% @dops_cons) ∧ (type_of% @dopsO_some))) ∧ ((type_of% @opK_guard) ∧ ((type_of% @opC_eq) ∧ (type_of% @opF_eq))))) :=
 ⟨⟨⟨⟨@shr_i32_8, ⟨@shl_i32_16, @shr_i32_16⟩⟩, ⟨@shl_i32_24, ⟨@shr_i32_24, @shl_i32_32⟩⟩⟩, ⟨⟨@shr_i32_32, ⟨@shl_i32_40, @shr_i32_40⟩⟩, ⟨@shl_i32_48, ⟨@shr_i32_48, @shl_i32_56⟩⟩⟩⟩, ⟨⟨⟨@shr_i32_56, ⟨@shl_i32_63, @shr_i32_63⟩⟩, ⟨@Int.toNat_natCast, ⟨@Nat.le_refl, @Nat.zero_le⟩⟩⟩, ⟨⟨@dops_nil, ⟨@dops_cons, @dopsO_some⟩⟩, ⟨@opK_guard, ⟨@opC_eq, @opF_eq⟩⟩⟩⟩⟩
theorem ev17 : ((((type_of% @reK_eq) ∧ ((type_of% @reAll.eq_1) ∧ (type_of% @reAll.eq_2))) ∧ ((type_of% @reOne.eq_1) ∧ ((type_of% @flV.eq_1) ∧ (type_of% @flV.eq_2)))) ∧ (((type_of% @flV.eq_3) ∧ ((type_of% @pureA.eq_1) ∧ (type_of% @pureA.eq_2))) ∧ ((type_of% @pureA.eq_3) ∧ ((type_of% @pureA.eq_4) ∧ (type_of% @pureA.eq_5))))) ∧ ((((type_of% @pureA.eq_6) ∧ ((type_of% @pureA.eq_7) ∧ (type_of% @pureA.eq_8))) ∧ ((type_of% @pureA.eq_9) ∧ ((type_of% @pureA.eq_10) ∧ (type_of% @pureA.eq_11)))) ∧ (((type_of% @pureA.eq_12) ∧ ((type_of% @pureA.eq_13) ∧ (type_of% @pureA.eq_14))) ∧ ((type_of% @pureA.eq_15) ∧ ((type_of% @pureA.eq_16) ∧ (type_of% @pureA.eq_17))))) :=
 ⟨⟨⟨⟨@reK_eq, ⟨@reAll.eq_1, @reAll.eq_2⟩⟩, ⟨@reOne.eq_1, ⟨@flV.eq_1, @flV.eq_2⟩⟩⟩, ⟨⟨@flV.eq_3, ⟨@pureA.eq_1, @pureA.eq_2⟩⟩, ⟨@pureA.eq_3, ⟨@pureA.eq_4, @pureA.eq_5⟩⟩⟩⟩, ⟨⟨⟨@pureA.eq_6, ⟨@pureA.eq_7, @pureA.eq_8⟩⟩, ⟨@pureA.eq_9, ⟨@pureA.eq_10, @pureA.eq_11⟩⟩⟩, ⟨⟨@pureA.eq_12, ⟨@pureA.eq_13, @pureA.eq_14⟩⟩, ⟨@pureA.eq_15, ⟨@pureA.eq_16, @pureA.eq_17⟩⟩⟩⟩⟩
theorem ev18 : ((((type_of% @pureA.eq_18) ∧ ((type_of% @wantA.eq_1) ∧ (type_of% @wantA.eq_2))) ∧ ((type_of% @List.length_map.{0,0}) ∧ ((type_of% @Int.cast_ofNat_Int) ∧ (type_of% @Int.natCast_zero)))) ∧ (((type_of% @minA.eq_1) ∧ ((type_of% @minA.eq_2) ∧ (type_of% @maxA.eq_1))) ∧ ((type_of% @maxA.eq_2) ∧ ((type_of% @and_false) ∧ (type_of% @false_and))))) ∧ ((((type_of% @Nat.sub_zero) ∧ ((type_of% @Bool.true_beq) ∧ (type_of% @Bool.false_beq))) ∧ ((type_of% @convB.eq_1) ∧ ((type_of% @bytesA.eq_1) ∧ (type_of% @isU8.eq_1)))) ∧ (((type_of% @isU8.eq_2) ∧ ((type_of% @callE_cap) ∧ (type_of% @capA.eq_1))) ∧ ((type_of% @List.toList_toArray.{0}) ∧ ((type_of% @eq_self.{1}) ∧ (type_of% @true_or))))) :=
 ⟨⟨⟨⟨@pureA.eq_18, ⟨@wantA.eq_1, @wantA.eq_2⟩⟩, ⟨@List.length_map.{0,0}, ⟨@Int.cast_ofNat_Int, @Int.natCast_zero⟩⟩⟩, ⟨⟨@minA.eq_1, ⟨@minA.eq_2, @maxA.eq_1⟩⟩, ⟨@maxA.eq_2, ⟨@and_false, @false_and⟩⟩⟩⟩, ⟨⟨⟨@Nat.sub_zero, ⟨@Bool.true_beq, @Bool.false_beq⟩⟩, ⟨@convB.eq_1, ⟨@bytesA.eq_1, @isU8.eq_1⟩⟩⟩, ⟨⟨@isU8.eq_2, ⟨@callE_cap, @capA.eq_1⟩⟩, ⟨@List.toList_toArray.{0}, ⟨@eq_self.{1}, @true_or⟩⟩⟩⟩⟩
theorem ev19 : ((((type_of% @or_true) ∧ ((type_of% @resA_nil) ∧ (type_of% @resA_one))) ∧ ((type_of% @Nat.mul_one) ∧ ((type_of% @List.take_length.{0}) ∧ (type_of% @resA_two)))) ∧ (((type_of% @resA_three) ∧ ((type_of% @resA_four) ∧ (type_of% @ty2))) ∧ ((type_of% @ty3) ∧ ((type_of% @ty4) ∧ (type_of% @ty5))))) ∧ ((((type_of% @ty6) ∧ ((type_of% @ty7) ∧ (type_of% @ty8))) ∧ ((type_of% @ty9) ∧ ((type_of% @ty10) ∧ (type_of% @ty11)))) ∧ (((type_of% @ty12) ∧ ((type_of% @ty13) ∧ (type_of% @ty14))) ∧ ((type_of% @ty15) ∧ ((type_of% @ty16) ∧ (type_of% @ty17))))) :=
 ⟨⟨⟨⟨@or_true, ⟨@resA_nil, @resA_one⟩⟩, ⟨@Nat.mul_one, ⟨@List.take_length.{0}, @resA_two⟩⟩⟩, ⟨⟨@resA_three, ⟨@resA_four, @ty2⟩⟩, ⟨@ty3, ⟨@ty4, @ty5⟩⟩⟩⟩, ⟨⟨⟨@ty6, ⟨@ty7, @ty8⟩⟩, ⟨@ty9, ⟨@ty10, @ty11⟩⟩⟩, ⟨⟨@ty12, ⟨@ty13, @ty14⟩⟩, ⟨@ty15, ⟨@ty16, @ty17⟩⟩⟩⟩⟩
theorem ev20 : ((((type_of% @ty18) ∧ ((type_of% @ty19) ∧ (type_of% @ty21))) ∧ ((type_of% @ty22) ∧ ((type_of% @ty24) ∧ (type_of% @ty27)))) ∧ (((type_of% @ty29) ∧ ((type_of% @ty31) ∧ (type_of% @ty32))) ∧ ((type_of% @ty33) ∧ ((type_of% @ty34) ∧ (type_of% @ty37))))) ∧ ((((type_of% @ty39) ∧ ((type_of% @ty41) ∧ (type_of% @ty51))) ∧ ((type_of% @ty52) ∧ ((type_of% @ty53) ∧ (type_of% @ty54)))) ∧ (((type_of% @ty55) ∧ ((type_of% @ty56) ∧ (type_of% @ty57))) ∧ ((type_of% @ty58) ∧ ((type_of% @ty63) ∧ (type_of% @ty64))))) :=
 ⟨⟨⟨⟨@ty18, ⟨@ty19, @ty21⟩⟩, ⟨@ty22, ⟨@ty24, @ty27⟩⟩⟩, ⟨⟨@ty29, ⟨@ty31, @ty32⟩⟩, ⟨@ty33, ⟨@ty34, @ty37⟩⟩⟩⟩, ⟨⟨⟨@ty39, ⟨@ty41, @ty51⟩⟩, ⟨@ty52, ⟨@ty53, @ty54⟩⟩⟩, ⟨⟨@ty55, ⟨@ty56, @ty57⟩⟩, ⟨@ty58, ⟨@ty63, @ty64⟩⟩⟩⟩⟩
theorem ev21 : ((((type_of% @ty67) ∧ ((type_of% @ty70) ∧ (type_of% @ty76))) ∧ ((type_of% @ty78) ∧ ((type_of% @ty79) ∧ (type_of% @ty80)))) ∧ (((type_of% @ty84) ∧ ((type_of% @ty85) ∧ (type_of% @ty100))) ∧ ((type_of% @ty101) ∧ ((type_of% @ty102) ∧ (type_of% @ty108))))) ∧ ((((type_of% @ty109) ∧ ((type_of% @ty113) ∧ (type_of% @ty114))) ∧ ((type_of% @ty138) ∧ ((type_of% @ty146) ∧ (type_of% @ty155)))) ∧ (((type_of% @ty158) ∧ ((type_of% @ty161) ∧ (type_of% @ty168))) ∧ ((type_of% @ty176) ∧ ((type_of% @ty177) ∧ (type_of% @ty178))))) :=
 ⟨⟨⟨⟨@ty67, ⟨@ty70, @ty76⟩⟩, ⟨@ty78, ⟨@ty79, @ty80⟩⟩⟩, ⟨⟨@ty84, ⟨@ty85, @ty100⟩⟩, ⟨@ty101, ⟨@ty102, @ty108⟩⟩⟩⟩, ⟨⟨⟨@ty109, ⟨@ty113, @ty114⟩⟩, ⟨@ty138, ⟨@ty146, @ty155⟩⟩⟩, ⟨⟨@ty158, ⟨@ty161, @ty168⟩⟩, ⟨@ty176, ⟨@ty177, @ty178⟩⟩⟩⟩⟩
theorem ev22 : ((((type_of% @ty179) ∧ ((type_of% @ty180) ∧ (type_of% @ty181))) ∧ ((type_of% @ty182) ∧ ((type_of% @ty184) ∧ (type_of% @ty185)))) ∧ (((type_of% @ty186) ∧ ((type_of% @ty187) ∧ (type_of% @ty188))) ∧ ((type_of% @encL0.eq_1) ∧ ((type_of% @encS1.eq_1) ∧ (type_of% @encS2.eq_1))))) ∧ ((((type_of% @encL3.eq_1) ∧ ((type_of% @encL4.eq_1) ∧ (type_of% @encS5.eq_1))) ∧ ((type_of% @encS6.eq_1) ∧ ((type_of% @encL7.eq_1) ∧ (type_of% @encS8.eq_1)))) ∧ (((type_of% @encS9.eq_1) ∧ ((type_of% @lenTs.eq_1) ∧ (type_of% @lenTs.eq_2))) ∧ ((type_of% @lenStr.eq_1) ∧ ((type_of% @lenStr.eq_2) ∧ (type_of% @idxD.eq_1))))) :=
 ⟨⟨⟨⟨@ty179, ⟨@ty180, @ty181⟩⟩, ⟨@ty182, ⟨@ty184, @ty185⟩⟩⟩, ⟨⟨@ty186, ⟨@ty187, @ty188⟩⟩, ⟨@encL0.eq_1, ⟨@encS1.eq_1, @encS2.eq_1⟩⟩⟩⟩, ⟨⟨⟨@encL3.eq_1, ⟨@encL4.eq_1, @encS5.eq_1⟩⟩, ⟨@encS6.eq_1, ⟨@encL7.eq_1, @encS8.eq_1⟩⟩⟩, ⟨⟨@encS9.eq_1, ⟨@lenTs.eq_1, @lenTs.eq_2⟩⟩, ⟨@lenStr.eq_1, ⟨@lenStr.eq_2, @idxD.eq_1⟩⟩⟩⟩⟩
theorem ev23 : ((((type_of% @idxD.eq_2) ∧ ((type_of% @idxS.eq_1) ∧ (type_of% @idxS.eq_2))) ∧ ((type_of% @lenA_dl) ∧ ((type_of% @lenA_sl) ∧ (type_of% @lenA_str)))) ∧ (((type_of% @idxA_dl) ∧ ((type_of% @idxA_sl) ∧ (type_of% @kAt_eq))) ∧ ((type_of% @eops_plainA) ∧ ((type_of% @eopR_eqA) ∧ (type_of% @opK_plainA))))) ∧ ((((type_of% @opT_eqA) ∧ ((type_of% @Br_true) ∧ (type_of% @Br_false))) ∧ ((type_of% @take_enc) ∧ ((type_of% @drop_enc) ∧ (type_of% @head_enc2)))) ∧ (((type_of% @head_enc0) ∧ ((type_of% @eop_store) ∧ (type_of% @getD_enc))) ∧ ((type_of% @getD_enc0) ∧ ((type_of% @map_app) ∧ (type_of% @eop_boxE))))) :=
 ⟨⟨⟨⟨@idxD.eq_2, ⟨@idxS.eq_1, @idxS.eq_2⟩⟩, ⟨@lenA_dl, ⟨@lenA_sl, @lenA_str⟩⟩⟩, ⟨⟨@idxA_dl, ⟨@idxA_sl, @kAt_eq⟩⟩, ⟨@eops_plainA, ⟨@eopR_eqA, @opK_plainA⟩⟩⟩⟩, ⟨⟨⟨@opT_eqA, ⟨@Br_true, @Br_false⟩⟩, ⟨@take_enc, ⟨@drop_enc, @head_enc2⟩⟩⟩, ⟨⟨@head_enc0, ⟨@eop_store, @getD_enc⟩⟩, ⟨@getD_enc0, ⟨@map_app, @eop_boxE⟩⟩⟩⟩⟩
theorem EVA : ((((type_of% ev0) ∧ ((type_of% ev1) ∧ (type_of% ev2))) ∧ ((type_of% ev3) ∧ ((type_of% ev4) ∧ (type_of% ev5)))) ∧ (((type_of% ev6) ∧ ((type_of% ev7) ∧ (type_of% ev8))) ∧ ((type_of% ev9) ∧ ((type_of% ev10) ∧ (type_of% ev11))))) ∧ ((((type_of% ev12) ∧ ((type_of% ev13) ∧ (type_of% ev14))) ∧ ((type_of% ev15) ∧ ((type_of% ev16) ∧ (type_of% ev17)))) ∧ (((type_of% ev18) ∧ ((type_of% ev19) ∧ (type_of% ev20))) ∧ ((type_of% ev21) ∧ ((type_of% ev22) ∧ (type_of% ev23))))) :=
 ⟨⟨⟨⟨ev0, ⟨ev1, ev2⟩⟩, ⟨ev3, ⟨ev4, ev5⟩⟩⟩, ⟨⟨ev6, ⟨ev7, ev8⟩⟩, ⟨ev9, ⟨ev10, ev11⟩⟩⟩⟩, ⟨⟨⟨ev12, ⟨ev13, ev14⟩⟩, ⟨ev15, ⟨ev16, ev17⟩⟩⟩, ⟨⟨ev18, ⟨ev19, ev20⟩⟩, ⟨ev21, ⟨ev22, ev23⟩⟩⟩⟩⟩
end Go.Av
end
