/- the layer over the model, part 10 -/
import Derived.Test.YtahhhfgmcdajhaaA9
set_option autoImplicit false
set_option linter.unusedSimpArgs false
set_option linter.unusedVariables false
set_option linter.unnecessarySimpa false
section
set_option linter.unusedSimpArgs false
set_option linter.unusedVariables false
namespace Go.Av
open Go.RowKit

theorem bind_some {α β : Type} {x : Option α} {f : α → Option β} {r : β} (h : x.bind f = some r) : ∃ v, x = some v ∧ f v = some r := by
 cases x with
 | none => cases h
 | some v => exact ⟨v, rfl, h⟩
theorem guard_some {c : Prop} [Decidable c] {α : Type} {x : Option α} {r : α} (h : (if c then x else none) = some r) : c ∧ x = some r := by
 split at h
 ·rename_i hc; exact ⟨hc, h⟩
 ·cases h
theorem ite_some {c : Prop} [Decidable c] {α : Type} {x y : Option α} {r : α} (h : (if c then x else y) = some r) : (c ∧ x = some r) ∨ (¬ c ∧ y = some r) := by
 split at h
 ·rename_i hc; exact .inl ⟨hc, h⟩
 ·rename_i hc; exact .inr ⟨hc, h⟩

/-- An element of a list. -/
def rd {α : Type} [Inhabited α] (l : List α) (i : Int) : α := l.getD i.toNat default
theorem rd_map {α : Type} [Inhabited α] (f : α → AV) {l : List α} {i : Int} (h : 0 ≤ i ∧ i < (l.length : Int)) : (l.map f).getD i.toNat .undef = f (rd l i) := by
 have h1 : i.toNat < l.length := by omega
 simp [rd, List.getD, h1]

/-- Two ends that are not one. -/
def tlNe (a b : Tail) : Prop := a = .full ∨ a ≠ b
theorem tlNe.full (b : Tail) : tlNe .full b := .inl rfl
theorem tlNe.symm {a b : Tail} (h : tlNe a b) : tlNe b a := by
 rcases h with rfl | h
 ·by_cases hb : b = .full
  ·exact .inl hb
  ·exact .inr hb
 ·exact .inr (Ne.symm h)
theorem tlNe.full' (b : Tail) : tlNe b .full := (tlNe.full b).symm
theorem Free.ne {H0 H H' : AHeap} {tl tl2 : Tail} (h : Free H0 H tl2) (k : Free H H' tl) : tlNe tl tl2 := by
 rcases k with rfl | ⟨t, rfl, k1, k2⟩
 ·exact .inl rfl
 ·rcases h with rfl | ⟨t2, rfl, h1, h2⟩
  ·exact .inr (by intro e; cases e)
  ·refine .inr (fun e => ?_)
   cases e
   have := (List.getElem?_eq_some_iff.1 h2).1
   omega
theorem Free.keep {H0 H H' : AHeap} {tl : Tail} (h : Free H0 H tl) {id : Nat} {cs : List AV} (hid : H[id]? = some (.cells cs)) (hp : ∀ (i : Nat) (o : AObj), i ≠ id → H[i]? = some o → H'[i]? = some o) : Free H0 H' tl := by
 rcases h with rfl | ⟨t, rfl, h1, h2⟩
 ·exact .inl rfl
 ·refine .inr ⟨t, rfl, h1, hp t _ (fun e => ?_) h2⟩
  subst e; rw [h2] at hid; cases hid

theorem eop_alloc_go {P : Program} {B : Nat} {w0 : World} {Y : Hand} {a : List AV} {H0 H : AHeap} {K : AV → AHeap → Prop} {t : TypeId} {te : TyA} {z : AV} (h1 : tyA P t = some te) (h2 : te.zero = some z) (h3 : z.cells.all AV.one = true) (hE : Ext H0 H)
  (hK : ∀ (id : Nat) (H' : AHeap), Ext H0 H' → Ext H H' → H0.length ≤ id → H'[id]? = some (.cells z.cells) → (∀ (i : Nat) (o : AObj), H[i]? = some o → i ≠ id) → K (.ptr id 0) H') : eop P B w0 Y a H (.alloc t) K := by
 refine ⟨.ptr H.length 0, H ++ [.cells z.cells], ?_, hK H.length _ (hE.push _) ((Ext.refl H).push _) hE.1 (get_new _ _) (fun i o h e => ?_)⟩
 ·simp only [effV, h1, h2, h3, if_true]
 ·have := (List.getElem?_eq_some_iff.1 h).1; omega
theorem eop_box_go {P : Program} {B : Nat} {w0 : World} {Y : Hand} {a : List AV} {H0 H : AHeap} {K : AV → AHeap → Prop} {t : TypeId} {x : Operand} {v : AV} (hv : ev a x = v) (h3 : okCells v = true) (hE : Ext H0 H)
  (hK : ∀ (id : Nat) (H' : AHeap), Ext H0 H' → Ext H H' → H0.length ≤ id → H'[id]? = some (.cells v.cells) → (∀ (i : Nat) (o : AObj), H[i]? = some o → i ≠ id) → K (.ptr id 0) H') : eop P B w0 Y a H (.box t x) K := by
 subst hv
 refine ⟨.ptr H.length 0, H ++ [.cells (ev a x).cells], ?_, hK H.length _ (hE.push _) ((Ext.refl H).push _) hE.1 (get_new _ _) (fun i o h e => ?_)⟩
 ·simp only [effV, h3, if_true]
 ·have := (List.getElem?_eq_some_iff.1 h).1; omega
theorem eop_store_goW {P : Program} {B : Nat} {w0 : World} {Y : Hand} {a : List AV} {H0 H : AHeap} {K : AV → AHeap → Prop} {t : TypeId} {x y : Operand} {v : AV} {te : TyA} {id off : Nat} {cs : List AV} (hx : ev a x = .ptr id off) (hv : wkD v (ev a y)) (hf : H[id]? = some (.cells cs)) (ht : tyA P t = some te) (h3 : okCells v = true)
  (h4 : v.cells.length = te.size) (h5 : off + te.size ≤ cs.length) (hE : Ext H0 H) (hg : H0.length ≤ id)
  (hK : ∀ (H' : AHeap), Ext H0 H' → H'[id]? = some (.cells (putA cs off v.cells)) → (∀ (i : Nat) (o : AObj), i ≠ id → H[i]? = some o → H'[i]? = some o) → H'.length = H.length → K .undef H') : eop P B w0 Y a H (.store t x y) K := by
 obtain ⟨c1, c2⟩ := okCells_spec h3
 rw [eop_store]
 exact ⟨v, hv, id, off, cs, te, hx, hf, ht, h4, h5, c1, c2, hK _ (hE.set _ hg) (get_set_self _ hf) (fun i o hne h => by rw [get_set_ne _ (Ne.symm hne)]; exact h) (by simp)⟩
theorem eop_store_go {P : Program} {B : Nat} {w0 : World} {Y : Hand} {a : List AV} {H0 H : AHeap} {K : AV → AHeap → Prop} {t : TypeId} {x y : Operand} {v : AV} {te : TyA} {id off : Nat} {cs : List AV} (hx : ev a x = .ptr id off) (hv : ev a y = v) (hf : H[id]? = some (.cells cs)) (ht : tyA P t = some te) (h3 : okCells v = true)
  (h4 : v.cells.length = te.size) (h5 : off + te.size ≤ cs.length) (hE : Ext H0 H) (hg : H0.length ≤ id)
  (hK : ∀ (H' : AHeap), Ext H0 H' → H'[id]? = some (.cells (putA cs off v.cells)) → (∀ (i : Nat) (o : AObj), i ≠ id → H[i]? = some o → H'[i]? = some o) → H'.length = H.length → K .undef H') : eop P B w0 Y a H (.store t x y) K := by
 exact eop_store_goW hx (hv ▸ wkD.refl _) hf ht h3 h4 h5 hE hg hK

/-- append to a list that is held in the value. -/
theorem AppE.goM {P : Program} {t t2 : TypeId} {H0 H : AHeap} {K : AV → AHeap → Prop} {ti te : TyA} {e : TypeId} {z : AV} {sz : Nat} {α : Type} (enc : α → AV) (l ys : List α) {tl : Tail} {y : AV} {n : Nat}
  (h1 : tyA P t = some ti) (h2 : ti.kind = .slice e) (h3 : tyA P e = some te) (h4 : te.zero = some z) (h5 : z.cells.length = te.size) (h6 : 0 < te.size) (y' : AV) (hw : wkD y' y) (h7 : srcA P te.size t2 y' = some (ys.map enc))
  (h8 : sz = te.size ∨ (l = [] ∧ tl = .full)) (hlen : l.length + ys.length ≤ n) (h9 : n * te.bytes ≤ 140737488355328) (h10 : 0 < te.bytes) (hE : Ext H0 H) (hF : Free H0 H tl)
  (hK : ∀ tl' H', Ext H0 H' → Free H0 H' tl' → (∀ (i : Nat) (o : AObj), o ≠ .tok → H[i]? = some o → H'[i]? = some o) → (∀ tl2, Free H0 H tl2 → tlNe tl tl2 → Free H0 H' tl2 ∧ tlNe tl' tl2) → H.length ≤ H'.length → K (.dl te.size ((l ++ ys).map enc) tl') H') :
  AppE P t t2 (.dl sz (l.map enc) tl) y H K := by
 have hb : (l.length + ys.length) * te.bytes ≤ 140737488355328 := Nat.le_trans (Nat.mul_le_mul_right _ hlen) h9
 refine ⟨y', hw, .inl ⟨ti, e, te, z, ys.map enc, sz, l.map enc, tl, h1, h2, h3, h4, h5, h6, .inl h7, rfl, ?_, ?_, ?_⟩⟩
 ·rcases h8 with h | ⟨h, h'⟩
  ·exact .inl h
  ·exact .inr ⟨by rw [h]; rfl, h'⟩
 ·intro he
  have hys : ys = [] := by simpa using he
  subst hys
  have := hK tl H hE hF (fun _ _ _ h => h) (fun _ h k => ⟨h, k⟩) (Nat.le_refl _)
  rwa [List.append_nil] at this
 ·intro _
  have hl : (kill H tl).length = H.length := by cases tl <;> simp [kill]
  refine ⟨?_, by simpa using hb, by
   simp only [List.length_map]
   have := Nat.le_trans (Nat.le_mul_of_pos_right (l.length + ys.length) h10) hb
   omega, ?_⟩
  ·rcases hF with rfl | ⟨t, rfl, _, h⟩
   ·trivial
   ·exact h
  ·have := hK (.tok H.length) (kill H tl ++ [.tok]) ?_ ?_ ?_ ?_ ?_
   ·rwa [List.map_append] at this
   ·rcases hF with rfl | ⟨t, rfl, ht, h⟩
    ·exact hE.push _
    ·exact (hE.set .dead ht).push _
   ·refine .inr ⟨H.length, rfl, hE.1, ?_⟩
    rw [← hl]; simp
   ·intro i o hno ho
    have hlt := (List.getElem?_eq_some_iff.1 ho).1
    rw [List.getElem?_append_left (by omega)]
    rcases hF with rfl | ⟨t, rfl, ht, h⟩
    ·exact ho
    ·simp only [kill]
     rw [List.getElem?_set, if_neg (fun e => by subst e; rw [h] at ho; cases ho; exact hno rfl)]; exact ho
   ·intro tl2 k1 k2
    rcases k1 with rfl | ⟨t2, rfl, m1, m2⟩
    ·exact ⟨.inl rfl, .inr (by intro e; cases e)⟩
    ·have hlt := (List.getElem?_eq_some_iff.1 m2).1
     refine ⟨.inr ⟨t2, rfl, m1, ?_⟩, .inr (by intro e; cases e; omega)⟩
     rw [List.getElem?_append_left (by omega)]
     rcases hF with rfl | ⟨t, rfl, ht, h⟩
     ·exact m2
     ·simp only [kill]
      rw [List.getElem?_set, if_neg (fun e => ?_)]
      ·exact m2
      ·subst e
       rcases k2 with k2 | k2
       ·cases k2
       ·exact k2 rfl
   ·rw [List.length_append, hl]; omega

theorem wkV.refl (x : AV) : wkV x x := .inr (.inl rfl)
theorem wkV.und (x : AV) : wkV .undef x := .inl rfl
theorem wkV.tail (s : Nat) (es : List AV) (tl : Tail) : wkV (.dl s es .none) (.dl s es tl) := .inr (.inr ⟨s, s, es, .none, tl, rfl, rfl, .inr rfl, .inl rfl⟩)
theorem wkV.nil (s s' : Nat) (tl : Tail) : wkV (.dl s [] .none) (.dl s' [] tl) := .inr (.inr ⟨s, s', [], .none, tl, rfl, rfl, .inr rfl, .inr ⟨rfl, by simp⟩⟩)
theorem wkV.nilf (s s' : Nat) : wkV (.dl s [] .full) (.dl s' [] .full) := .inr (.inr ⟨s, s', [], .full, .full, rfl, rfl, .inl rfl, .inr ⟨rfl, by simp⟩⟩)
theorem Wk.cons {x y : AV} {l l' : List AV} (h : wkV x y) (k : Wk l l') : Wk (x :: l) (y :: l') := ⟨h, k⟩
theorem Wk.nil : Wk [] [] := trivial
theorem Wk.u {y : AV} {l l' : List AV} (k : Wk l l') : Wk (.undef :: l) (y :: l') := Wk.cons (wkV.und y) k
theorem Wk.r {x : AV} {l l' : List AV} (k : Wk l l') : Wk (x :: l) (x :: l') := Wk.cons (wkV.refl x) k

/-- Less may be said of a value, of its parts too. -/
def wkA (x y : AV) : Prop := wkD x y ∨ ∃ cs cs', x = .agg cs ∧ y = .agg cs' ∧ Wk cs cs'
theorem wkA.refl (x : AV) : wkA x x := .inl (wkD.refl x)
theorem wkA.v {x y : AV} (h : wkV x y) : wkA x y := .inl (.inl h)
theorem wkA.agg {cs cs' : List AV} (h : Wk cs cs') : wkA (.agg cs) (.agg cs') := .inr ⟨cs, cs', rfl, rfl, h⟩
def WkA : List AV → List AV → Prop
 | [], [] => True
 | x :: l, y :: l' => wkA x y ∧ WkA l l'
 | _, _ => False
theorem WkA.cons {x y : AV} {l l' : List AV} (h : wkA x y) (k : WkA l l') : WkA (x :: l) (y :: l') := ⟨h, k⟩
theorem WkA.r {x : AV} {l l' : List AV} (k : WkA l l') : WkA (x :: l) (x :: l') := WkA.cons (wkA.refl x) k
theorem WkA.nil : WkA [] [] := trivial
section
variable {μ : Nat → Nat × Nat} {Z : Nat → Nat → Prop} {w : World} {n : Nat}
theorem VR.weakA {x y : AV} {cv : Value} (h : VR μ Z w n y cv) (k : wkA x y) : VR μ Z w n x cv := by
 rcases k with k | ⟨cs, cs', rfl, rfl, k⟩
 ·exact h.weakD k
 ·obtain ⟨k1, k2⟩ := k.spec
  cases h with
  | agg _ vs hl f h1 h2 =>
   refine .agg cs vs (k1.trans hl) f (fun j v hj => ?_) (fun j v hj => ?_)
   ·obtain ⟨v', q1, _⟩ := k2 j v hj; exact h1 j v' q1
   ·obtain ⟨v', q1, q2⟩ := k2 j v hj; exact (h2 j v' q1).weak q2
theorem WkA.spec : ∀ {l l' : List AV}, WkA l l' → l.length = l'.length ∧ ∀ (j : Nat) (v : AV), l[j]? = some v → ∃ v', l'[j]? = some v' ∧ wkA v v'
 | [], [], _ => ⟨rfl, fun j v h => by simp at h⟩
 | x :: l, y :: l', h => by
  obtain ⟨h1, h2⟩ := h
  obtain ⟨k1, k2⟩ := WkA.spec h2
  refine ⟨by simp [k1], fun j v hj => ?_⟩
  cases j with
  | zero =>
   simp at hj ⊢
   subst hj
   exact h1
  | succ j => simpa using k2 j v (by simpa using hj)
 | [], _ :: _, h => h.elim
 | _ :: _, [], h => h.elim
theorem VRs.weakA {l l' : List AV} {vs : Array Value} (h : VRs μ Z w n l' vs) (k : WkA l l') : VRs μ Z w n l vs := by
 obtain ⟨k1, k2⟩ := k.spec
 refine ⟨k1.trans h.1, fun j v hj => ?_⟩
 obtain ⟨v', q1, q2⟩ := k2 j v hj
 obtain ⟨cv, q3, q4⟩ := h.2 j v' q1
 exact ⟨cv, q3, q4.weakA q2⟩
/-- Less may be said of a result. -/
def wkR (x y : AV) : Prop := wkA x y ∨ ∃ cs cs', x = .tup cs ∧ y = .tup cs' ∧ WkA cs cs'
theorem wkR.a {x y : AV} (h : wkA x y) : wkR x y := .inl h
theorem wkR.tup {cs cs' : List AV} (h : WkA cs cs') : wkR (.tup cs) (.tup cs') := .inr ⟨cs, cs', rfl, rfl, h⟩
theorem VR.weakR {x y : AV} {cv : Value} (h : VR μ Z w n y cv) (k : wkR x y) : VR μ Z w n x cv := by
 rcases k with k | ⟨cs, cs', rfl, rfl, k⟩
 ·exact h.weakA k
 ·obtain ⟨k1, k2⟩ := k.spec
  cases h with
  | tup _ vs hl f h1 h2 =>
   refine .tup cs vs (k1.trans hl) f (fun j v hj => ?_) (fun j v hj => ?_)
   ·obtain ⟨v', q1, _⟩ := k2 j v hj; exact h1 j v' q1
   ·obtain ⟨v', q1, q2⟩ := k2 j v hj; exact (h2 j v' q1).weakA q2
end
theorem ACall.wkA {P : Program} {B : Nat} {w0 : World} {f : FuncId} {args args' : List AV} {H : AHeap} {K : AV → AHeap → Prop} (h : ACall P B w0 f args H K) (hw : WkA args args') : ACall P B w0 f args' H K :=
 ⟨h.1, fun μ Z w cargs h1 h2 => h.2 μ Z w cargs h1 (h2.weakA hw)⟩
theorem ACall.wkR {P : Program} {B : Nat} {w0 : World} {f : FuncId} {args : List AV} {H : AHeap} {K : AV → AHeap → Prop} (h : ACall P B w0 f args H (fun v H' => ∃ v', wkR v' v ∧ K v' H')) : ACall P B w0 f args H K :=
 ⟨h.1, fun μ Z w cargs h1 h2 => (h.2 μ Z w cargs h1 h2).mono (by
  rintro e w' ⟨v, cv, μ', Z', H', q1, q2, q3, q4, v', q5, q6⟩
  exact ⟨v', cv, μ', Z', H', q1, q2, q3.weakR q5, q4, q6⟩)⟩
theorem wkD.one {sz : Nat} {x y : AV} {tl : Tail} (hx : x.cells.length = sz) (h : Wk x.cells y.cells) : wkD (.dl sz [x] tl) (.dl sz [y] tl) :=
 .inr ⟨sz, [x], [y], tl, rfl, rfl, rfl, by simpa using hx, by simpa [flat] using h⟩
end Go.Av
namespace Go.Av
section
variable (P : Program) (H : AHeap) (a : List AV) (x y z u : ResultVar)
theorem resA_two : resA P H a [x, y] = (resOne P H a x).bind fun p => (resOne P H a y).bind fun q => some (.tup [p, q]) := by
 simp only [resA, List.mapM_cons, List.mapM_nil]
 cases resOne P H a x <;> cases resOne P H a y <;> rfl
theorem resA_three : resA P H a [x, y, z] = (resOne P H a x).bind fun p => (resOne P H a y).bind fun q => (resOne P H a z).bind fun r => some (.tup [p, q, r]) := by
 simp only [resA, List.mapM_cons, List.mapM_nil]
 cases resOne P H a x <;> cases resOne P H a y <;> cases resOne P H a z <;> rfl
theorem resA_four : resA P H a [x, y, z, u] = (resOne P H a x).bind fun p => (resOne P H a y).bind fun q => (resOne P H a z).bind fun r => (resOne P H a u).bind fun t => some (.tup [p, q, r, t]) := by
 simp only [resA, List.mapM_cons, List.mapM_nil]
 cases resOne P H a x <;> cases resOne P H a y <;> cases resOne P H a z <;> cases resOne P H a u <;> rfl
end
end Go.Av
namespace Go.Av
open Go.RowKit
theorem resA_nil (P : Program) (H : AHeap) (a : List AV) : resA P H a [] = some (.tup []) := rfl

/-- What others hold, and keep. -/
def FrObj (H : AHeap) (fs : List (Nat × AObj)) : Prop := ∀ p, p ∈ fs → H[p.1]? = some p.2 ∧ p.2 ≠ .tok
def FrTl (H0 H : AHeap) (ts : List Tail) : Prop := ∀ t, t ∈ ts → Free H0 H t
def Nf (fs : List (Nat × AObj)) (id : Nat) : Prop := ∀ p, p ∈ fs → p.1 ≠ id
def Dt (t : Tail) (ts : List Tail) : Prop := ∀ t2, t2 ∈ ts → tlNe t t2
theorem cnt (cs : List AV) : AObj.cells cs ≠ .tok := by simp
theorem FrObj.nil (H : AHeap) : FrObj H [] := fun _ h => by cases h
theorem FrObj.cons {H : AHeap} {fs : List (Nat × AObj)} {id : Nat} {o : AObj} (h : H[id]? = some o) (ho : o ≠ .tok) (k : FrObj H fs) : FrObj H ((id, o) :: fs) := fun p hp => by
 rcases List.mem_cons.1 hp with rfl | hp
 ·exact ⟨h, ho⟩
 ·exact k p hp
theorem FrObj.head {H : AHeap} {fs : List (Nat × AObj)} {id : Nat} {o : AObj} (h : FrObj H ((id, o) :: fs)) : H[id]? = some o := (h (id, o) (by simp)).1
theorem FrObj.tail {H : AHeap} {fs : List (Nat × AObj)} {x : Nat × AObj} (h : FrObj H (x :: fs)) : FrObj H fs := fun p hp => h p (List.mem_cons_of_mem _ hp)
theorem FrTl.nil (H0 H : AHeap) : FrTl H0 H [] := fun _ h => by cases h
theorem FrTl.cons {H0 H : AHeap} {ts : List Tail} {t : Tail} (h : Free H0 H t) (k : FrTl H0 H ts) : FrTl H0 H (t :: ts) := fun p hp => by
 rcases List.mem_cons.1 hp with rfl | hp
 ·exact h
 ·exact k p hp
theorem FrTl.head {H0 H : AHeap} {ts : List Tail} {t : Tail} (h : FrTl H0 H (t :: ts)) : Free H0 H t := h t (by simp)
theorem FrTl.tail {H0 H : AHeap} {ts : List Tail} {t : Tail} (h : FrTl H0 H (t :: ts)) : FrTl H0 H ts := fun p hp => h p (List.mem_cons_of_mem _ hp)
theorem Nf.nil (id : Nat) : Nf [] id := fun _ h => by cases h
theorem Nf.cons {fs : List (Nat × AObj)} {id i : Nat} {o : AObj} (h : i ≠ id) (k : Nf fs id) : Nf ((i, o) :: fs) id := fun p hp => by
 rcases List.mem_cons.1 hp with rfl | hp
 ·exact h
 ·exact k p hp
theorem Dt.nil (t : Tail) : Dt t [] := fun _ h => by cases h
theorem Dt.full (ts : List Tail) : Dt .full ts := fun t _ => tlNe.full t
theorem Dt.cons {t t2 : Tail} {ts : List Tail} (h : tlNe t t2) (k : Dt t ts) : Dt t (t2 :: ts) := fun p hp => by
 rcases List.mem_cons.1 hp with rfl | hp
 ·exact h
 ·exact k p hp
theorem Dt.head {t t2 : Tail} {ts : List Tail} (h : Dt t (t2 :: ts)) : tlNe t t2 := h t2 (by simp)
theorem Dt.tail {t t2 : Tail} {ts : List Tail} (h : Dt t (t2 :: ts)) : Dt t ts := fun p hp => h p (List.mem_cons_of_mem _ hp)
theorem FrObj.ext {H H' : AHeap} {fs : List (Nat × AObj)} (h : FrObj H fs) (x : Ext H H') : FrObj H' fs := fun p hp => ⟨x.2 _ _ (h p hp).1, (h p hp).2⟩
theorem FrTl.ext {H0 H H' : AHeap} {ts : List Tail} (h : FrTl H0 H ts) (x : Ext H H') : FrTl H0 H' ts := fun t ht => (h t ht).mono x
theorem FrObj.nf {H : AHeap} {fs : List (Nat × AObj)} {id : Nat} (h : FrObj H fs) (n : ∀ (i : Nat) (o : AObj), H[i]? = some o → i ≠ id) : Nf fs id := fun p hp => n _ _ (h p hp).1
theorem FrObj.keep {H H' : AHeap} {fs : List (Nat × AObj)} {id : Nat} (h : FrObj H fs) (nf : Nf fs id) (p : ∀ (i : Nat) (o : AObj), i ≠ id → H[i]? = some o → H'[i]? = some o) : FrObj H' fs := fun x hx => ⟨p _ _ (nf x hx) (h x hx).1, (h x hx).2⟩
theorem FrTl.keep {H0 H H' : AHeap} {ts : List Tail} {id : Nat} {cs : List AV} (h : FrTl H0 H ts) (hid : H[id]? = some (.cells cs)) (p : ∀ (i : Nat) (o : AObj), i ≠ id → H[i]? = some o → H'[i]? = some o) : FrTl H0 H' ts := fun t ht => (h t ht).keep hid p
theorem FrObj.app {H H' : AHeap} {fs : List (Nat × AObj)} (h : FrObj H fs) (p : ∀ (i : Nat) (o : AObj), o ≠ .tok → H[i]? = some o → H'[i]? = some o) : FrObj H' fs := fun x hx => ⟨p _ _ (h x hx).2 (h x hx).1, (h x hx).2⟩
theorem FrTl.app {H0 H H' : AHeap} {ts : List Tail} {t t' : Tail} (h : FrTl H0 H ts) (d : Dt t ts) (q : ∀ tl2, Free H0 H tl2 → tlNe t tl2 → Free H0 H' tl2 ∧ tlNe t' tl2) : FrTl H0 H' ts ∧ Dt t' ts :=
 ⟨fun x hx => (q x (h x hx) (d x hx)).1, fun x hx => (q x (h x hx) (d x hx)).2⟩
theorem FrTl.dt {H0 H H' : AHeap} {ts : List Tail} {t : Tail} (h : FrTl H0 H ts) (f : Free H H' t) : Dt t ts := fun x hx => (h x hx).ne f

/-- Heaps of which less is said. -/
def WkO (x y : AObj) : Prop := x = y ∨ ∃ cs cs', x = .cells cs ∧ y = .cells cs' ∧ Wk cs cs'
def WkH (H' H : AHeap) : Prop := H'.length = H.length ∧ ∀ (i : Nat) (o : AObj), H'[i]? = some o → ∃ o', H[i]? = some o' ∧ WkO o o'
theorem WkH.set {H : AHeap} {id : Nat} {cs cs' : List AV} (hid : H[id]? = some (.cells cs)) (hw : Wk cs' cs) : WkH (H.set id (.cells cs')) H := by
 refine ⟨by simp, fun i o hi => ?_⟩
 by_cases hii : id = i
 ·subst hii
  rw [List.getElem?_set_self (List.getElem?_eq_some_iff.1 hid).1] at hi
  cases hi
  exact ⟨_, hid, .inr ⟨_, _, rfl, rfl, hw⟩⟩
 ·rw [getElem?_set_ne hii] at hi; exact ⟨o, hi, .inl rfl⟩
theorem WkH.refl (H : AHeap) : WkH H H := ⟨rfl, fun _ o h => ⟨o, h, .inl rfl⟩⟩
section
variable {P : Program} {B : Nat} {w0 : World} {rd : Option Nat} {a : List AV} {H : AHeap} {μ μ' : Nat → Nat × Nat} {Z Z' : Nat → Nat → Prop} {w w' : World} {n n' : Nat} {E0 : Nat} {ca : Act}
theorem WkO.alive {x y : AObj} (h : WkO x y) : x.alive = y.alive := by
 rcases h with rfl | ⟨cs, cs', rfl, rfl, _⟩ <;> rfl
theorem R.wkH {H' : AHeap} (hR : R B w0 μ Z H w) (hw : WkH H' H) : R B w0 μ Z H' w ∧ Ev μ Z H w μ Z H' w := by
 obtain ⟨hl, h⟩ := hw
 refine ⟨⟨hR.below, hR.hB, hR.zlt, fun i o hi => ?_, fun i j oi oj hi hj hai haj he => ?_⟩, ?_⟩
 ·obtain ⟨o', h1, h2⟩ := h i o hi
  rw [hl]
  rcases h2 with rfl | ⟨cs, cs', rfl, rfl, hw⟩
  ·exact hR.obj i _ h1
  ·obtain ⟨g1, g2, ccs, e, fr, g3, g4, g5, g6⟩ := hR.obj i _ h1
   obtain ⟨k1, k2⟩ := hw.spec
   refine ⟨g1, g2, ccs, e, fr, g3, g4, by omega, fun j v hj => ?_⟩
   obtain ⟨v', q1, q2⟩ := k2 j v hj
   obtain ⟨u, p1, p2, p3⟩ := g6 j v' q1
   exact ⟨u, p1, p2, p3.weak q2⟩
 ·obtain ⟨o1, p1, p2⟩ := h i oi hi
  obtain ⟨o2, q1, q2⟩ := h j oj hj
  exact hR.inj i j o1 o2 p1 q1 (p2.alive ▸ hai) (q2.alive ▸ haj) he
 ·refine ⟨by omega, fun _ _ => rfl, fun _ _ h => h, fun _ _ _ => rfl, fun _ _ => rfl, Nat.le_refl _, fun _ _ _ => rfl, fun i o hi ha => ?_, fun _ _ h => .inl h⟩
  obtain ⟨o1, p1, p2⟩ := h i o hi
  exact .inr ⟨i, o1, p1, p2.alive ▸ ha, rfl⟩
theorem AWP.wkH {c : Code} {Q : Exit → List AV → AHeap → Prop} {H' : AHeap} (hw : WkH H' H) (h : AWP P B w0 rd c Q a H') : AWP P B w0 rd c Q a H := by
 intro E0 μ Z w ca hR hA h3
 obtain ⟨hR', hE⟩ := hR.wkH hw
 have := h E0 μ Z w ca hR' (hA.evolve hR hE) (fun l hl => by rw [hw.1]; exact h3 l hl)
 refine wpIn_mono this ?_
 rintro e' ca2 w2 ⟨μ2, Z2, a2, H2, p1, p2, p3, p4⟩
 exact ⟨μ2, Z2, a2, H2, p1, p2, hE.trans p3, p4⟩
theorem ACall.wkH {f : FuncId} {args : List AV} {K : AV → AHeap → Prop} {H' : AHeap} (hw : WkH H' H) (h : ACall P B w0 f args H' K) : ACall P B w0 f args H K :=
 ⟨h.1, fun μ Z w cargs hR hA => by
  obtain ⟨hR', hE⟩ := hR.wkH hw
  refine (h.2 μ Z w cargs hR' (by rw [hw.1]; exact hA)).mono ?_
  rintro e w' ⟨v, cv, μ', Z', H'', q1, q2, q3, q4, q5⟩
  exact ⟨v, cv, μ', Z', H'', q1, q2, q3, hE.trans q4, q5⟩⟩
/-- Less may be said of the heap that a call leaves. -/
theorem ACall.wkE {f : FuncId} {args : List AV} {K : AV → AHeap → Prop} (h : ACall P B w0 f args H (fun v H' => ∃ H'', WkH H'' H' ∧ K v H'')) : ACall P B w0 f args H K :=
 ⟨h.1, fun μ Z w cargs h1 h2 => (h.2 μ Z w cargs h1 h2).mono (by
  rintro e w' ⟨v, cv, μ', Z', H', q1, q2, q3, q4, H'', hw, q5⟩
  obtain ⟨r1, r2⟩ := q2.wkH hw
  exact ⟨v, cv, μ', Z', H'', q1, r1, by rw [hw.1]; exact q3, q4.trans r2, q5⟩)⟩
end
/-- An object of which less is said. -/
theorem wk_obj {H0 H : AHeap} {KK : AHeap → Prop} {id : Nat} {cs cs' : List AV} (f : H[id]? = some (.cells cs)) (hw : Wk cs' cs) (hE : Ext H0 H) (hg : H0.length ≤ id)
  (h : ∀ H', WkH H' H → Ext H0 H' → H'[id]? = some (.cells cs') → (∀ (i : Nat) (o : AObj), i ≠ id → H[i]? = some o → H'[i]? = some o) → H'.length = H.length → KK H') : ∃ H', WkH H' H ∧ KK H' :=
 ⟨_, WkH.set f hw, h _ (WkH.set f hw) (hE.set _ hg) (get_set_self _ f) (fun i o hne h => by rw [get_set_ne _ (Ne.symm hne)]; exact h) (by simp)⟩
theorem AWP.wkGo {P : Program} {B : Nat} {w0 : World} {rd : Option Nat} {c : Code} {Q : Exit → List AV → AHeap → Prop} {a : List AV} {H0 H : AHeap} {id : Nat} {cs cs' : List AV} (f : H[id]? = some (.cells cs)) (hw : Wk cs' cs) (hE : Ext H0 H) (hg : H0.length ≤ id)
  (h : ∀ H', Ext H0 H' → H'[id]? = some (.cells cs') → (∀ (i : Nat) (o : AObj), i ≠ id → H[i]? = some o → H'[i]? = some o) → H'.length = H.length → AWP P B w0 rd c Q a H') : AWP P B w0 rd c Q a H := by
 obtain ⟨H', h1, h2⟩ := wk_obj (KK := fun H' => AWP P B w0 rd c Q a H') f hw hE hg (fun H' _ e q p l => h H' e q p l)
 exact AWP.wkH h1 h2
theorem ACall.wkGo {P : Program} {B : Nat} {w0 : World} {f : FuncId} {args : List AV} {K : AV → AHeap → Prop} {H0 H : AHeap} {id : Nat} {cs cs' : List AV} (fo : H[id]? = some (.cells cs)) (hw : Wk cs' cs) (hE : Ext H0 H) (hg : H0.length ≤ id)
  (h : ∀ H', Ext H0 H' → H'[id]? = some (.cells cs') → (∀ (i : Nat) (o : AObj), i ≠ id → H[i]? = some o → H'[i]? = some o) → H'.length = H.length → ACall P B w0 f args H' K) : ACall P B w0 f args H K := by
 obtain ⟨H', h1, h2⟩ := wk_obj (KK := fun H' => ACall P B w0 f args H' K) fo hw hE hg (fun H' _ e q p l => h H' e q p l)
 exact ACall.wkH h1 h2

/-- An element, by its place. -/
def rdn {α : Type} [Inhabited α] (l : List α) (i : Nat) : α := l.getD i default
theorem rdn_map {α : Type} [Inhabited α] (f : α → AV) {l : List α} {i : Nat} (h : i < l.length) : (List.drop i (List.map f l)).head? = some (f (rdn l i)) := by
 simp [rdn, List.getD, h]
theorem rdn_map0 {α : Type} [Inhabited α] (f : α → AV) {l : List α} (h : 0 < l.length) : (List.map f l).head? = some (f (rdn l 0)) := by
 have := rdn_map f h; rwa [List.drop_zero] at this
theorem eop_storeL_goW {P : Program} {B : Nat} {w0 : World} {Y : Hand} {a : List AV} {H0 H : AHeap} {K : AV → AHeap → Prop} {t : TypeId} {x y : Operand} {te : TyA} {id off : Nat} {α : Type} (enc : α → AV) {l : List α} {v : α} (hx : ev a x = .ptr id off) (hv : wkD (enc v) (ev a y)) (hf : H[id]? = some (.cells (List.map enc l))) (ht : tyA P t = some te) (h3 : okCells (enc v) = true)
  (h4 : (enc v).cells = [enc v]) (h6 : te.size = 1) (h5 : off < l.length) (hE : Ext H0 H) (hg : H0.length ≤ id)
  (hK : ∀ (H' : AHeap), Ext H0 H' → H'[id]? = some (.cells (List.map enc (l.set off v))) → (∀ (i : Nat) (o : AObj), i ≠ id → H[i]? = some o → H'[i]? = some o) → H'.length = H.length → K .undef H') : eop P B w0 Y a H (.store t x y) K := by
 refine eop_store_goW (v := enc v) hx hv hf ht h3 (by rw [h4, h6]; rfl) (by rw [h6, List.length_map]; omega) hE hg ?_
 intro H' k1 k2 k3 k4
 refine hK H' k1 ?_ k3 k4
 rw [k2]
 congr 2
 simp only [putA, h4, List.length_singleton, List.map_set]
 rw [List.set_eq_take_append_cons_drop, if_pos (by simpa using h5)]
 simp
theorem eop_storeL_go {P : Program} {B : Nat} {w0 : World} {Y : Hand} {a : List AV} {H0 H : AHeap} {K : AV → AHeap → Prop} {t : TypeId} {x y : Operand} {te : TyA} {id off : Nat} {α : Type} (enc : α → AV) {l : List α} {v : α} (hx : ev a x = .ptr id off) (hv : ev a y = enc v) (hf : H[id]? = some (.cells (List.map enc l))) (ht : tyA P t = some te) (h3 : okCells (enc v) = true)
  (h4 : (enc v).cells = [enc v]) (h6 : te.size = 1) (h5 : off < l.length) (hE : Ext H0 H) (hg : H0.length ≤ id)
  (hK : ∀ (H' : AHeap), Ext H0 H' → H'[id]? = some (.cells (List.map enc (l.set off v))) → (∀ (i : Nat) (o : AObj), i ≠ id → H[i]? = some o → H'[i]? = some o) → H'.length = H.length → K .undef H') : eop P B w0 Y a H (.store t x y) K := by
 exact eop_storeL_goW enc hx (hv ▸ wkD.refl _) hf ht h3 h4 h6 h5 hE hg hK
end Go.Av
namespace Go.Av
theorem wk_objE {H0 H : AHeap} {id : Nat} {cs cs' : List AV} (f : H[id]? = some (.cells cs)) (hw : Wk cs' cs) (hE : Ext H0 H) (hg : H0.length ≤ id) :
  ∃ H', WkH H' H ∧ Ext H0 H' ∧ H'[id]? = some (.cells cs') ∧ (∀ (i : Nat) (o : AObj), i ≠ id → H[i]? = some o → H'[i]? = some o) ∧ H'.length = H.length :=
 ⟨_, WkH.set f hw, hE.set _ hg, get_set_self _ f, fun i o hne h => by rw [get_set_ne _ (Ne.symm hne)]; exact h, by simp⟩
end Go.Av
namespace Go.Av
theorem resA_one (P : Program) (H : AHeap) (a : List AV) (x : ResultVar) : resA P H a [x] = resOne P H a x := rfl
def SameH (H H' : AHeap) : Prop := H = H'
def ObjAt (H : AHeap) (id : Nat) (cs : List AV) : Prop := H[id]? = some (.cells cs)
def ObjW (H : AHeap) (id : Nat) (cs0 : List AV) : Prop := ∃ cs, H[id]? = some (.cells cs) ∧ Wk cs0 cs
end Go.Av
namespace Go.Av
open Go.RowKit
theorem Free.keepLoop {H0 H H' : AHeap} {tl : Tail} (h : Free H0 H tl) {l : Nat} {env : List AV} {ps : Array Tmp} {as bd : Code} {pe : Option Code} {rdy : Bool} (hid : H[l]? = some (.loop env ps as bd pe rdy)) (hp : ∀ (i : Nat) (o : AObj), i ≠ l → H[i]? = some o → H'[i]? = some o) : Free H0 H' tl := by
 rcases h with rfl | ⟨t, rfl, h1, h2⟩
 ·exact .inl rfl
 ·refine .inr ⟨t, rfl, h1, hp t _ (fun e => ?_) h2⟩
  subst e; rw [h2] at hid; cases hid
theorem FrTl.keepLoop {H0 H H' : AHeap} {ts : List Tail} (h : FrTl H0 H ts) {l : Nat} {env : List AV} {ps : Array Tmp} {as bd : Code} {pe : Option Code} {rdy : Bool} (hid : H[l]? = some (.loop env ps as bd pe rdy)) (p : ∀ (i : Nat) (o : AObj), i ≠ l → H[i]? = some o → H'[i]? = some o) : FrTl H0 H' ts := fun t ht => (h t ht).keepLoop hid p
/-- A loop's record is set. -/
theorem loop_set {H0 H : AHeap} {KK : AHeap → Prop} {l : Nat} {o o' : AObj} (f : H[l]? = some o) (hE : Ext H0 H) (hg : H0.length ≤ l)
  (h : ∀ H', Ext H0 H' → H'[l]? = some o' → (∀ (i : Nat) (o : AObj), i ≠ l → H[i]? = some o → H'[i]? = some o) → H'.length = H.length → KK H') : KK (H.set l o') :=
 h _ (hE.set _ hg) (get_set_self _ f) (fun i o hne h => by rw [get_set_ne _ (Ne.symm hne)]; exact h) (by simp)
/-- A range over a function: the record is new. -/
theorem AWP.rangeGo {P : Program} {B : Nat} {w0 : World} {rd : Option Nat} {a : List AV} {H0 H : AHeap} {g : Operand} {ps : Array Tmp} {assign body : Code} {Q : Exit → List AV → AHeap → Prop} {k : Nat} {first cap : List AV}
  (hrd : ∀ l0, rd = some l0 → ∃ env ps as bd pe rdy, H[l0]? = some (.loop env ps as bd pe rdy)) (hg : ev a g = .fn (.func k) first cap) (hE : Ext H0 H)
  (h : ∀ (l : Nat) (H1 : AHeap), Ext H0 H1 → Ext H H1 → H1[l]? = some (.loop a ps assign body none true) → H0.length ≤ l → (∀ (i : Nat) (o : AObj), H[i]? = some o → i ≠ l) →
   ACall P B w0 k (first ++ [.fn (.yield l) [] []] ++ cap) H1 (rangeEnd P B w0 rd Q a l ps assign body)) : AWP P B w0 rd (.rangeFunc g ps assign body) Q a H :=
 AWP.rangeFunc hrd hg (h H.length _ (hE.push _) ((Ext.refl H).push _) (get_new _ _) hE.1 (fun i o h e => by have := (List.getElem?_eq_some_iff.1 h).1; omega))
/-- A range over a function has ended without a jump. -/
theorem rangeEnd_go {P : Program} {B : Nat} {w0 : World} {rd : Option Nat} {Q : Exit → List AV → AHeap → Prop} {a : List AV} {l : Nat} {ps : Array Tmp} {assign body : Code} {v : AV} {H0 H : AHeap} (f : H[l]? = some (.loop a ps assign body none true)) (hE : Ext H0 H) (hg : H0.length ≤ l)
  (h : ∀ H', Ext H0 H' → (∀ (i : Nat) (o : AObj), i ≠ l → H[i]? = some o → H'[i]? = some o) → H'.length = H.length → Q .normal a H') : rangeEnd P B w0 rd Q a l ps assign body v H :=
 ⟨none, true, f, .inl rfl, h _ (hE.set _ hg) (fun i o hne h => by rw [get_set_ne _ (Ne.symm hne)]; exact h) (by simp)⟩
end Go.Av
namespace Go.Av
open Go.RowKit
theorem flat_replicate1 {z : AV} (h5 : z.cells = [z]) (n : Nat) : flat (List.replicate n z) = List.replicate n z := by
 induction n with
 | zero => rfl
 | succ n ih => rw [List.replicate_succ, flat_cons, h5, ih]; rfl
/-- clear, of a part of a list of one's own. -/
theorem clrL_go {P : Program} {H0 H : AHeap} {K : AV → AHeap → Prop} {t e : TypeId} {ti te : TyA} {z : AV} {id off len : Nat} {α : Type} (enc : α → AV) {l : List α} {zv : α} (h1 : tyA P t = some ti) (h2 : ti.kind = .slice e) (h3 : tyA P e = some te) (h4 : te.zero = some z) (h5 : z.cells = [z]) (h6 : z.one = true) (h7 : te.size = 1) (hz : enc zv = z)
  (hf : H[id]? = some (.cells (List.map enc l))) (hl : off + len ≤ l.length) (hE : Ext H0 H) (hg : H0.length ≤ id)
  (hK : ∀ (H' : AHeap), Ext H0 H' → H'[id]? = some (.cells (List.map enc (l.take off ++ List.replicate len zv ++ l.drop (off + len)))) → (∀ (i : Nat) (o : AObj), i ≠ id → H[i]? = some o → H'[i]? = some o) → H'.length = H.length → K (.tup []) H') : Clr P t (.sl 1 id off len) H K := by
 have hfl : flat (List.replicate len z) = List.replicate len z := flat_replicate1 h5 len
 refine ⟨ti, e, te, z, h1, h2, h3, h4, by rw [h5, h7]; rfl, by rw [h5]; simp [h6], by omega, .inr ⟨id, off, len, _, by rw [h7], hf, by rw [h7, List.length_map]; omega, ?_⟩⟩
 refine hK _ (hE.set _ hg) ?_ (fun i o hne h => by rw [get_set_ne _ (Ne.symm hne)]; exact h) (by simp)
 rw [get_set_self _ hf]
 congr 2
 simp only [putA, hfl, List.length_replicate, List.map_append, List.map_take, List.map_drop, List.map_replicate, hz]
end Go.Av
namespace Go.Av
open Go.RowKit
theorem Free.keepO {H0 H H' : AHeap} {tl : Tail} (h : Free H0 H tl) {l : Nat} {o : AObj} (hid : H[l]? = some o) (ho : o ≠ .tok) (hp : ∀ (i : Nat) (o : AObj), i ≠ l → H[i]? = some o → H'[i]? = some o) : Free H0 H' tl := by
 rcases h with rfl | ⟨t, rfl, h1, h2⟩
 ·exact .inl rfl
 ·refine .inr ⟨t, rfl, h1, hp t _ (fun e => ?_) h2⟩
  subst e; rw [h2] at hid; cases hid; exact ho rfl
theorem FrTl.keepO {H0 H H' : AHeap} {ts : List Tail} (h : FrTl H0 H ts) {l : Nat} {o : AObj} (hid : H[l]? = some o) (ho : o ≠ .tok) (p : ∀ (i : Nat) (o : AObj), i ≠ l → H[i]? = some o → H'[i]? = some o) : FrTl H0 H' ts := fun t ht => (h t ht).keepO hid ho p
def doneQ (a2 : List AV) (H2 : AHeap) : Exit → List AV → AHeap → Prop
 | .normal, a, H => a = a2 ∧ H = H2
 | _, _, _ => False
theorem doneQ_normal (a2 : List AV) (H2 : AHeap) (a : List AV) (H : AHeap) : doneQ a2 H2 .normal a H = (a = a2 ∧ H = H2) := Eq.trans rfl rfl
theorem AWP.rangeGo2 {P : Program} {B : Nat} {w0 : World} {rd : Option Nat} {a : List AV} {H0 H : AHeap} {g : Operand} {ps : Array Tmp} {assign body : Code} {Q : Exit → List AV → AHeap → Prop} {k : Nat} {first cap : List AV}
  (hrd : ∀ l0, rd = some l0 → ∃ env ps as bd pe rdy, H[l0]? = some (.loop env ps as bd pe rdy)) (hg : ev a g = .fn (.func k) first cap) (hE : Ext H0 H)
  (h : ∀ (l : Nat) (H1 : AHeap) (lp : AObj) (KE : AV → AHeap → Prop), lp ≠ .tok →
   (∀ (args : List AV) (H : AHeap) (K : AV → AHeap → Prop) (a2 : List AV), H[l]? = some lp → args.length = ps.size → eawp P B w0 (some l) noY assign (doneQ a2 H) (setArgs a ps.toList args) H → Ext H0 H →
    (∀ (H' : AHeap) (lp2 : AObj) (Qr : Exit → List AV → AHeap → Prop), lp2 ≠ .tok → Ext H0 H' → H'[l]? = some lp2 → (∀ (i : Nat) (o : AObj), i ≠ l → H[i]? = some o → H'[i]? = some o) → H'.length = H.length →
     (∀ (a3 : List AV) (H3 : AHeap), Ext H0 H3 → H3[l]? = some lp2 → (∀ H4, Ext H0 H4 → H4[l]? = some lp → (∀ (i : Nat) (o : AObj), i ≠ l → H3[i]? = some o → H4[i]? = some o) → H4.length = H3.length → K (.bool true) H4) → Qr .normal a3 H3) →
     AWP P B w0 (some l) body Qr a2 H') → roundY P B w0 l args H K) →
   (∀ (v : AV) (H : AHeap), Ext H0 H → H[l]? = some lp → (∀ H', Ext H0 H' → (∀ (i : Nat) (o : AObj), i ≠ l → H[i]? = some o → H'[i]? = some o) → H'.length = H.length → Q .normal a H') → KE v H) →
   Ext H0 H1 → Ext H H1 → H1[l]? = some lp → H0.length ≤ l → (∀ (i : Nat) (o : AObj), H[i]? = some o → i ≠ l) → ACall P B w0 k (first ++ [.fn (.yield l) [] []] ++ cap) H1 KE) : AWP P B w0 rd (.rangeFunc g ps assign body) Q a H := by
 refine AWP.rangeGo hrd hg hE fun l H1 e1 e2 f1 g1 n1 => h l H1 _ _ (by simp) ?_ ?_ e1 e2 f1 g1 n1
 ·intro args H2 K a2 f2 hps hA hE2 hB
  refine ⟨a, ps, assign, body, f2, hps, (eawp_sound noY_sound _ _ _ _ hA).mono ?_⟩
  rintro e a' H' hd
  cases e with
  | normal =>
   obtain ⟨rfl, rfl⟩ := hd
   refine ⟨f2, ?_⟩
   refine loop_set (KK := fun H' => AWP P B w0 (some l) body _ _ H') f2 hE2 g1 ?_
   intro H3 hE3 f3 p3 l3
   refine hB H3 _ _ (by simp) hE3 f3 p3 l3 ?_
   intro a3 H4 hE4 f4 k4
   refine ⟨f4, ?_⟩
   exact loop_set (KK := fun H' => K (.bool true) H') f4 hE4 g1 k4
  | _ => exact hd.elim
 ·intro v H2 hE2 f2 k2
  exact rangeEnd_go f2 hE2 g1 k2
end Go.Av
namespace Go.Av
open Go.RowKit
section
variable {P : Program} {B : Nat} {w0 : World} {H : AHeap} {μ : Nat → Nat × Nat} {Z : Nat → Nat → Prop} {w : World}
/-- A slice over a block of one's own becomes a value. -/
theorem R.frz (hR : R B w0 μ Z H w) {id len : Nat} {cs : List AV} {cv : Value} (hid : H[id]? = some (.cells cs)) (hl : len ≤ cs.length) (h1 : ∀ c, c ∈ cs → c.cells = [c]) (hv : VR μ Z w H.length (.sl 1 id 0 len) cv) :
  ∃ Z', R B w0 μ Z' (H.set id .dead) w ∧ Ev μ Z H w μ Z' (H.set id .dead) w ∧ VR μ Z' w (H.set id .dead).length (.dl 1 (cs.take len) .none) cv := by
 obtain ⟨g1, g2, ccs, e, fr, g3, g4, g5, g6⟩ := hR.obj id _ hid
 obtain ⟨r1, r2⟩ := hR.freeze hid (fun c o => Z c o ∨ (c = (μ id).1 ∧ (μ id).2 ≤ o ∧ o < (μ id).2 + len)) (fun _ _ h => .inl h) (fun c o h => h.imp (fun h => h) (·.1))
 refine ⟨_, r1, r2, ?_⟩
 have hfl : ∀ l : List AV, (∀ c, c ∈ l → c.cells = [c]) → flat l = l := by
  intro l
  induction l with
  | nil => intro _; rfl
  | cons x l ih => intro h; rw [flat_cons, h x (by simp), ih (fun c hc => h c (by simp [hc]))]; rfl
 have hft : flat (cs.take len) = cs.take len := hfl _ (fun c hc => h1 c (List.mem_of_mem_take hc))
 have hlen : (cs.take len).length = len := by rw [List.length_take]; omega
 have hcell : ∀ j, w.cell? ⟨(μ id).1, j, none⟩ = ccs[j]? := fun j => cell_of_row w _ _ ccs e fr g3
 cases hv with
 | sl _ _ _ _ cap q1 q2 q3 e' N q4 q5 =>
  have hF : ∀ j v, (cs.take len)[j]? = some v → ∃ u, w.cell? ⟨(μ id).1, (μ id).2 + 0 + j, none⟩ = some u ∧ u.oneCell' = true ∧ VR μ Z w H.length v u := by
   intro j v hj
   rw [List.getElem?_take] at hj
   split at hj
   ·obtain ⟨v', p1, p2, p3⟩ := g6 _ _ hj
    exact ⟨v', by rw [hcell, ← p1, Nat.add_zero], p2, p3⟩
   ·cases hj
  have key := VR.dl (μ := μ) (Z := fun c o => Z c o ∨ (c = (μ id).1 ∧ (μ id).2 ≤ o ∧ o < (μ id).2 + len)) (w := w) (n := (H.set id .dead).length) 1 (cs.take len) .none (μ id).1 ((μ id).2 + 0) cap
   (fun j => (w.cell? ⟨(μ id).1, (μ id).2 + 0 + j, none⟩).getD default) (fun x hx => by rw [h1 x (List.mem_of_mem_take hx)]; rfl) (by rw [hlen]; exact q2)
   (fun j v hj => by
    rw [hft] at hj
    obtain ⟨u, p1, _, _⟩ := hF j v hj
    simp only [p1, Option.getD_some])
   (fun j hj => by rw [hft, hlen] at hj; exact .inr ⟨rfl, by omega, by omega⟩)
   (fun j v hj => by
    rw [hft] at hj
    obtain ⟨u, p1, _, p3⟩ := hF j v hj
    simp only [p1, Option.getD_some]
    exact p3.mono (by simp) (fun _ _ => rfl) (fun _ _ h => .inl h) (fun _ _ _ => rfl) (fun _ _ => rfl))
   (fun j hj => by
    rw [hft] at hj
    obtain ⟨u, p1, p2, _⟩ := hF j _ (List.getElem?_eq_getElem hj)
    simp only [p1, Option.getD_some]; exact p2)
   trivial
  rw [hlen] at key
  exact key
theorem ACall.frz {f : FuncId} {args : List AV} {K : AV → AHeap → Prop} (h : ACall P B w0 f args H (fun v H' => (∃ v', Go.Av.wkR v' v ∧ K v' H') ∨ ∃ id len cs, v = .sl 1 id 0 len ∧ H'[id]? = some (.cells cs) ∧ len ≤ cs.length ∧ (∀ c, c ∈ cs → c.cells = [c]) ∧ K (.dl 1 (cs.take len) .none) (H'.set id .dead))) : ACall P B w0 f args H K :=
 ⟨h.1, fun μ Z w cargs h1 h2 => (h.2 μ Z w cargs h1 h2).mono (by
  rintro e w' ⟨v, cv, μ', Z', H', q1, q2, q3, q4, q5⟩
  rcases q5 with ⟨v', q5, q6⟩ | ⟨id, len, cs, rfl, m1, m2, m3, m4⟩
  ·exact ⟨v', cv, μ', Z', H', q1, q2, q3.weakR q5, q4, q6⟩
  ·obtain ⟨Z2, r1, r2, r3⟩ := q2.frz m1 m2 m3 q3
   exact ⟨_, cv, μ', Z2, _, q1, r1, r3, q4.trans r2, m4⟩)⟩
theorem ACall.frzA {f : FuncId} {args : List AV} {K : AV → AHeap → Prop} (h : ACall P B w0 f args H (fun v H' => (∃ v', Go.Av.wkR v' v ∧ K v' H') ∨ ∃ (cs : List AV) (j id len : Nat) (cells : List AV) (v' : AV), v = .agg cs ∧ cs[j]? = some (.sl 1 id 0 len) ∧ H'[id]? = some (.cells cells) ∧ len ≤ cells.length ∧ (∀ c, c ∈ cells → c.cells = [c]) ∧ Go.Av.wkR v' (.agg (cs.set j (.dl 1 (cells.take len) .none))) ∧ K v' (H'.set id .dead))) : ACall P B w0 f args H K :=
 ⟨h.1, fun μ Z w cargs h1 h2 => (h.2 μ Z w cargs h1 h2).mono (by
  rintro e w' ⟨v, cv, μ', Z', H', q1, q2, q3, q4, q5⟩
  rcases q5 with ⟨v', q5, q6⟩ | ⟨cs, j, id, len, cells, v', rfl, m0, m1, m2, m3, m4, m5⟩
  ·exact ⟨v', cv, μ', Z', H', q1, q2, q3.weakR q5, q4, q6⟩
  ·cases q3 with
   | agg _ vs hl f g1 g2 =>
    obtain ⟨Z2, r1, r2, r3⟩ := q2.frz m1 m2 m3 (g2 j _ m0)
    have hj : j < cs.length := (List.getElem?_eq_some_iff.1 m0).1
    have key : VR μ' Z2 w' (H'.set id .dead).length (.agg (cs.set j (.dl 1 (cells.take len) .none))) (.agg vs) := by
     refine .agg _ vs (by rw [List.length_set]; exact hl) f (fun i v hi => ?_) (fun i v hi => ?_)
     ·by_cases hij : j = i
      ·subst hij; exact g1 j _ m0
      ·rw [List.getElem?_set_ne hij] at hi; exact g1 i v hi
     ·by_cases hij : j = i
      ·subst hij
       rw [List.getElem?_set_self hj] at hi
       obtain rfl := Option.some.inj hi
       exact r3
      ·rw [List.getElem?_set_ne hij] at hi; exact (g2 i v hi).ev r2
    exact ⟨v', _, μ', Z2, _, q1, r1, key.weakR m4, q4.trans r2, m5⟩)⟩
end
theorem frz_map {α : Type} (enc : α → AV) (h : ∀ x, (enc x).cells = [enc x]) (l : List α) : ∀ c, c ∈ List.map enc l → c.cells = [c] := by
 intro c hc
 obtain ⟨x, _, rfl⟩ := List.mem_map.1 hc
 exact h x
end Go.Av
namespace Go.Av
open Go.RowKit
section
variable {P : Program} {B : Nat} {w0 : World} {H : AHeap} {μ : Nat → Nat × Nat} {Z : Nat → Nat → Prop} {w : World}
/-- An empty slice over a block of one's own: the block becomes its spare room. -/
theorem R.rel (hR : R B w0 μ Z H w) {id sz : Nat} {cs : List AV} {cv : Value} (hid : H[id]? = some (.cells cs)) (hv : VR μ Z w H.length (.sl sz id 0 0) cv) :
  R B w0 μ Z (H.set id .tok) w ∧ Ev μ Z H w μ Z (H.set id .tok) w ∧ VR μ Z w (H.set id .tok).length (.dl sz [] (.tok id)) cv := by
 have hidl := (List.getElem?_eq_some_iff.1 hid).1
 have back : ∀ (i : Nat) (o : AObj), (H.set id .tok)[i]? = some o → o.alive = true → ∃ o' : AObj, H[i]? = some o' ∧ o'.alive = true := by
  intro i o hi ha
  by_cases hii : id = i
  ·subst hii; exact ⟨_, hid, rfl⟩
  ·rw [getElem?_set_ne hii] at hi; exact ⟨o, hi, ha⟩
 refine ⟨⟨hR.below, hR.hB, hR.zlt, fun i o hi => ?_, fun i j oi oj hi hj hai haj he => ?_⟩, ?_, ?_⟩
 ·rw [List.length_set]
  by_cases hii : id = i
  ·subst hii
   rw [List.getElem?_set_self hidl] at hi
   cases hi
   obtain ⟨g1, g2, ccs, e, fr, g3, g4, g5, g6⟩ := hR.obj id _ hid
   exact ⟨g1, fun o ho => absurd ho (g2 o), ccs, e, fr, g3, g4⟩
  ·rw [getElem?_set_ne hii] at hi; exact hR.obj i o hi
 ·obtain ⟨o1, p1, p2⟩ := back i oi hi hai
  obtain ⟨o2, q1, q2⟩ := back j oj hj haj
  exact hR.inj i j o1 o2 p1 q1 p2 q2 he
 ·refine ⟨by simp, fun _ _ => rfl, fun _ _ h => h, fun _ _ _ => rfl, fun _ _ => rfl, Nat.le_refl _, fun _ _ _ => rfl, fun i o hi ha => ?_, fun _ _ h => .inl h⟩
  obtain ⟨o1, p1, p2⟩ := back i o hi ha
  exact .inr ⟨i, o1, p1, p2, rfl⟩
 ·rw [List.length_set]
  cases hv with
  | sl _ _ _ _ cap q1 q2 q3 e N q4 q5 =>
   exact .dl sz [] (.tok id) (μ id).1 ((μ id).2 + 0) cap (fun _ => default) (by simp) q2 (by simp [flat]) (by simp [flat]) (by simp [flat]) (by simp [flat]) ⟨q1, by simp, q3, e, N, q4, by simpa using q5⟩
theorem ACall.rel {f : FuncId} {args : List AV} {K : AV → AHeap → Prop} (h : ACall P B w0 f args H (fun v H' => (∃ v', Go.Av.wkR v' v ∧ K v' H') ∨ ∃ sz id cs, v = .sl sz id 0 0 ∧ H'[id]? = some (.cells cs) ∧ K (.dl sz [] (.tok id)) (H'.set id .tok))) : ACall P B w0 f args H K :=
 ⟨h.1, fun μ Z w cargs h1 h2 => (h.2 μ Z w cargs h1 h2).mono (by
  rintro e w' ⟨v, cv, μ', Z', H', q1, q2, q3, q4, q5⟩
  rcases q5 with ⟨v', q5, q6⟩ | ⟨sz, id, cs, rfl, m1, m4⟩
  ·exact ⟨v', cv, μ', Z', H', q1, q2, q3.weakR q5, q4, q6⟩
  ·obtain ⟨r1, r2, r3⟩ := q2.rel m1 q3
   exact ⟨_, cv, μ', Z', _, q1, r1, r3, q4.trans r2, m4⟩)⟩
end
/-- append of as many zeros to nothing. -/
theorem AppE.zeros {P : Program} {t t2 : TypeId} {H : AHeap} {K : AV → AHeap → Prop} {ti te i2 : TyA} {e : TypeId} {z : AV} {sz : Nat} {k k2 : IntKind} {n : Int} (h1 : tyA P t = some ti) (h2 : ti.kind = .slice e) (h3 : tyA P e = some te) (h4 : te.zero = some z) (h5 : z.cells.length = te.size) (h5' : z.cells.all AV.one = true) (h6 : 0 < te.size) (h7 : tyA P t2 = some i2) (h7' : i2.kind = .int k)
  (hn : 0 < n) (h8 : n.toNat * te.bytes ≤ 140737488355328) (h9 : n.toNat ≤ 4611686018427387904) (hK : K (.sl te.size H.length 0 n.toNat) (H ++ [.cells (flat (List.replicate n.toNat z))])) : AppE P t t2 (.dl sz [] .full) (.int k2 n) H K :=
 ⟨_, wkD.refl _, .inr (.inr (.inl ⟨ti, e, te, z, i2, k, k2, n.toNat, sz, h1, h2, h3, h4, h5, h5', h6, h7, h7', rfl, by rw [Int.toNat_of_nonneg (by omega)], by omega, h8, h9, hK⟩))⟩
end Go.Av
namespace Go.Av
theorem AWP.wkT {P : Program} {B : Nat} {w0 : World} {rd : Option Nat} {c : Code} {Q : Exit → List AV → AHeap → Prop} {a a' : List AV} {H : AHeap} (hw : WkA a' a) (h : AWP P B w0 rd c Q a' H) : AWP P B w0 rd c Q a H :=
 fun E0 μ Z w ca h1 h2 h3 => h E0 μ Z w ca h1 ⟨h2.tmps.weakA hw, h2.e0, h2.marks⟩ h3
theorem wkD.elems {sz : Nat} {es es' : List AV} {tl : Tail} (hl : es.length = es'.length) (hs : ∀ e, e ∈ es → e.cells.length = sz) (h : Wk (flat es) (flat es')) : wkD (.dl sz es tl) (.dl sz es' tl) := .inr ⟨sz, es, es', tl, rfl, rfl, hl, hs, h⟩
/-- append onto nothing: a block of one's own -/
theorem AppE.mutGo {P : Program} {t t2 : TypeId} {H0 H : AHeap} {K : AV → AHeap → Prop} {ti te : TyA} {e : TypeId} {z : AV} {sz : Nat} {α : Type} (enc : α → AV) (hc : ∀ x, (enc x).cells = [enc x]) (ys : List α) {y : AV} {n : Nat}
  (h1 : tyA P t = some ti) (h2 : ti.kind = .slice e) (h3 : tyA P e = some te) (h4 : te.zero = some z) (h5 : z.cells.length = te.size) (h6 : te.size = 1) (h7 : srcA P te.size t2 y = some (ys.map enc)) (h8 : ys ≠ [])
  (hlen : ys.length ≤ n) (h9 : n * te.bytes ≤ 140737488355328) (h10 : n ≤ 4611686018427387904) (hE : Ext H0 H)
  (hK : ∀ (id : Nat) (H' : AHeap), Ext H0 H' → Ext H H' → H0.length ≤ id → H'[id]? = some (.cells (List.map enc ys)) → (∀ (i : Nat) (o : AObj), H[i]? = some o → i ≠ id) → K (.sl 1 id 0 ys.length) H') : AppE P t t2 (.dl sz [] .full) y H K := by
 refine AppE.mut h1 h2 h3 h4 h5 (by omega) h7 (fun h => h8 (List.map_eq_nil_iff.1 h)) (by rw [List.length_map]; exact Nat.le_trans (Nat.mul_le_mul_right _ hlen) h9) (by rw [List.length_map]; exact Nat.le_trans hlen h10) ?_
 rw [flat_one enc hc, h6, List.length_map]
 exact hK H.length _ (hE.push _) ((Ext.refl H).push _) hE.1 (get_new _ _) (fun i o h e => by have := (List.getElem?_eq_some_iff.1 h).1; omega)
/-- a slice over a block of one's own becomes a value: at a statement's end -/
theorem AWP.frzGo {P : Program} {B : Nat} {w0 : World} {rd : Option Nat} {H0 H : AHeap} {a : List AV} {c : Code} {Q : Exit → List AV → AHeap → Prop} (t : Nat) {id len : Nat} {α : Type} (enc : α → AV) {l : List α} (ht : a[t]? = some (.sl 1 id 0 len)) (hid : H[id]? = some (.cells (List.map enc l)))
  (hc : ∀ x, (enc x).cells = [enc x]) (hl : len ≤ l.length) (hE : Ext H0 H) (hg : H0.length ≤ id)
  (hK : ∀ (H' : AHeap), Ext H0 H' → (∀ (i : Nat) (o : AObj), i ≠ id → H[i]? = some o → H'[i]? = some o) → H'.length = H.length → AWP P B w0 rd c Q (a.set t (.dl 1 (List.map enc (List.take len l)) .none)) H') : AWP P B w0 rd c Q a H := by
 refine AWP.freeze (elems := List.map enc (List.take len l)) ht hid ?_ (by simp; omega) ?_ (hK _ (hE.set _ hg) (fun i o hne h => by rw [get_set_ne _ (Ne.symm hne)]; exact h) (by simp))
 ·intro e he
  obtain ⟨x, _, rfl⟩ := List.mem_map.1 he
  rw [hc]; rfl
 ·rw [flat_one enc hc, List.drop_zero, Nat.mul_one, List.map_take]
end Go.Av
end

section
set_option linter.unusedSimpArgs false
set_option linter.unusedVariables false
namespace Go.Av
open Go.RowKit

/-- What is read in an argument that is a list of numbers. -/
def IsRow (k : IntKind) (w : World) (a : Option Addr) (len cap : Nat) (zs : List Int) : Prop :=
 (a = none ∧ len = 0 ∧ cap = 0 ∧ zs = []) ∨
 ∃ x, a = some x ∧ len ≤ cap ∧ cap ≤ maxLen ∧ zs.length = cap ∧ (∀ i, i < zs.length → w.cell? (x.add i) = some (.int k (zs.getD i 0))) ∧ ∀ n ∈ zs, (Lit.int k n).wf = true

theorem R.start (W : World) : R W.heap.size W (fun _ => (0, 0)) (fun c _ => c < W.heap.size) [] W :=
 ⟨Below.refl _ _, Nat.le_refl _, fun _ _ h => h, fun id o h => by simp at h, fun i j oi oj h => by simp at h⟩

theorem IsRow.vr {k : IntKind} {W : World} {a : Option Addr} {len cap : Nat} {zs : List Int} (h : IsRow k W a len cap zs) (μ : Nat → Nat × Nat) (n : Nat) :
  VR μ (fun c _ => c < W.heap.size) W n (.dl 1 (List.map (AV.int k) (zs.take len)) .none) (.slice a len cap) := by
 rcases h with ⟨rfl, rfl, rfl, rfl⟩ | ⟨x, rfl, h1, h2, h3, h4, h5⟩
 ·exact .dl0 _ _ _ _ (fun e => by cases e) (fun t e => by cases e)
 ·by_cases h0 : len = 0
  ·subst h0
   exact .dl0 _ _ _ _ (fun e => by cases e) (fun t e => by cases e)
  ·have hl : len ≤ zs.length := by omega
   have hfl : flat (List.map (AV.int k) (zs.take len)) = List.map (AV.int k) (zs.take len) := flat_ints k _
   have hlen : (List.map (AV.int k) (zs.take len)).length = len := by simp; omega
   have hcu : ∀ (y : Addr) (v : Value), W.cell? y = some v → y.block < W.heap.size ∧ y.spot = none := by
    intro y v hy
    unfold World.cell? at hy
    cases hx : W.heap[y.block]? with
    | none => rw [hx] at hy; cases hy
    | some ob =>
     have hlt : y.block < W.heap.size := (Array.getElem?_eq_some_iff.1 hx).1
     rw [hx] at hy
     cases ob with
     | cells c e fr =>
      simp only at hy
      split at hy
      ·cases hy
      ·rename_i hsp
       exact ⟨hlt, by simpa using hsp⟩
     | _ => cases hy
   obtain ⟨bl, off, sp⟩ := x
   have h40 := h4 0 (by omega)
   have hadd0 : (⟨bl, off, sp⟩ : Addr).add 0 = ⟨bl, off, sp⟩ := by unfold Addr.add; simp
   rw [hadd0] at h40
   obtain ⟨hblt, hspot⟩ := hcu _ _ h40
   simp only at hblt hspot
   subst hspot
   have hadd : ∀ i, (⟨bl, off, none⟩ : Addr).add i = ⟨bl, off + i, none⟩ := by
    intro i; unfold Addr.add
    split <;> simp_all
   have hcell : ∀ i, i < len → W.cell? ⟨bl, off + i, none⟩ = some (.int k (zs.getD i 0)) := by
    intro i hi
    have := h4 i (by omega)
    rwa [hadd] at this
   have key := VR.dl (μ := μ) (Z := fun c _ => c < W.heap.size) (w := W) (n := n) 1 (List.map (AV.int k) (zs.take len)) .none bl off cap (fun j => .int k (zs.getD j 0))
    (fun e he => by obtain ⟨y, _, rfl⟩ := List.mem_map.1 he; rfl) (by omega)
    (fun j v hj => by
     rw [hfl] at hj
     have hjl := (List.getElem?_eq_some_iff.1 hj).1
     exact hcell j (by omega))
    (fun j hj => hblt)
    (fun j v hj => by
     rw [hfl] at hj
     have hjl := (List.getElem?_eq_some_iff.1 hj).1
     rw [hlen] at hjl
     have hz : j < zs.length := by omega
     rw [List.getElem?_map, List.getElem?_take_of_lt hjl, List.getElem?_eq_getElem hz] at hj
     simp at hj
     subst hj
     have : zs.getD j 0 = zs[j] := by simp [List.getD, hz]
     rw [this]
     exact .int _ _)
    (fun j hj => rfl) trivial
   rw [hlen] at key
   exact key

/-- A law's call, out of what is known of it abstractly. -/
theorem ACall.law {P : Program} {W : World} {f : FuncId} {args : List AV} {cargs : Array Value} (h : ACall P W.heap.size W f args [] (fun v _ => v = .bool true)) (hargs : VRs (fun _ => (0, 0)) (fun c _ => c < W.heap.size) W 0 args cargs) :
  Calls P f cargs W fun e w' => e = .returned (.bool true) ∧ Below W.heap.size W w' := by
 have h1 := h.2 _ _ _ cargs (R.start W) hargs
 have h2 : CallsIn Fence.wide 0 P f cargs W fun e w' => e = .returned (.bool true) ∧ Below W.heap.size W w' := by
  refine CallsIn.mono (F := FW none) h1 ?_
  rintro e w' ⟨v, cv, μ', Z', H', rfl, q2, q3, _, rfl⟩
  cases q3
  exact ⟨rfl, q2.below⟩
 exact callsIn_wide.1 h2
theorem VRs.cons {μ : Nat → Nat × Nat} {Z : Nat → Nat → Prop} {w : World} {n : Nat} {v : AV} {cv : Value} {l : List AV} {vs : List Value} (h : VR μ Z w n v cv) (k : VRs μ Z w n l vs.toArray) : VRs μ Z w n (v :: l) (cv :: vs).toArray := by
 refine ⟨by simpa using k.1, fun j u hj => ?_⟩
 cases j with
 | zero => simp at hj; subst hj; exact ⟨cv, by simp, h⟩
 | succ j => obtain ⟨u', q1, q2⟩ := k.2 j u (by simpa using hj); exact ⟨u', by simpa using q1, q2⟩
theorem VRs.nil {μ : Nat → Nat × Nat} {Z : Nat → Nat → Prop} {w : World} {n : Nat} : VRs μ Z w n [] ([] : List Value).toArray := ⟨rfl, by simp⟩
end Go.Av
end
