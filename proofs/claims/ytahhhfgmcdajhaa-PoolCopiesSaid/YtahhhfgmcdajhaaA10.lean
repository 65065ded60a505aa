/- the layer over the model, part 10 -/
import Derived.Test.YtahhhfgmcdajhaaA9
set_option autoImplicit false
set_option linter.unusedSimpArgs false
set_option linter.unusedVariables false
set_option linter.unnecessarySimpa false
section
set_option linter.unusedSimpArgs false
set_option linter.unusedVariables false
namespace Go.Av
open Go.RowKit

theorem bind_some {α β : Type} {x : Option α} {f : α → Option β} {r : β} (h : x.bind f = some r) : ∃ v, x = some v ∧ f v = some r := by
 cases x with
 | none => cases h
 | some v => exact ⟨v, rfl, h⟩
theorem guard_some {c : Prop} [Decidable c] {α : Type} {x : Option α} {r : α} (h : (if c then x else none) = some r) : c ∧ x = some r := by
 split at h
 ·rename_i hc; exact ⟨hc, h⟩
 ·cases h
/-- An element of a list. -/
def rd {α : Type} [Inhabited α] (l : List α) (i : Int) : α := l.getD i.toNat default
theorem rd_map {α : Type} [Inhabited α] (f : α → AV) {l : List α} {i : Int} (h : 0 ≤ i ∧ i < (l.length : Int)) : (l.map f).getD i.toNat .undef = f (rd l i) := by
 have h1 : i.toNat < l.length := by omega
 simp [rd, List.getD, h1]

/-- Two ends that are not one. -/
def tlNe (a b : Tail) : Prop := a = .full ∨ a ≠ b
theorem tlNe.full (b : Tail) : tlNe .full b := .inl rfl
theorem tlNe.symm {a b : Tail} (h : tlNe a b) : tlNe b a := by
 rcases h with rfl | h
 ·by_cases hb : b = .full
  ·exact .inl hb
  ·exact .inr hb
 ·exact .inr (Ne.symm h)
theorem Free.ne {H0 H H' : AHeap} {tl tl2 : Tail} (h : Free H0 H tl2) (k : Free H H' tl) : tlNe tl tl2 := by
 rcases k with rfl | ⟨t, rfl, k1, k2⟩
 ·exact .inl rfl
 ·rcases h with rfl | ⟨t2, rfl, h1, h2⟩
  ·exact .inr (by intro e; cases e)
  ·refine .inr (fun e => ?_)
   cases e
   have := (List.getElem?_eq_some_iff.1 h2).1
   omega
theorem Free.keep {H0 H H' : AHeap} {tl : Tail} (h : Free H0 H tl) {id : Nat} {cs : List AV} (hid : H[id]? = some (.cells cs)) (hp : ∀ (i : Nat) (o : AObj), i ≠ id → H[i]? = some o → H'[i]? = some o) : Free H0 H' tl := by
 rcases h with rfl | ⟨t, rfl, h1, h2⟩
 ·exact .inl rfl
 ·refine .inr ⟨t, rfl, h1, hp t _ (fun e => ?_) h2⟩
  subst e; rw [h2] at hid; cases hid

theorem wkV.refl (x : AV) : wkV x x := .inr (.inl rfl)
theorem wkV.und (x : AV) : wkV .undef x := .inl rfl
theorem wkV.tail (s : Nat) (es : List AV) (tl : Tail) : wkV (.dl s es .none) (.dl s es tl) := .inr (.inr ⟨s, s, es, .none, tl, rfl, rfl, .inr rfl, .inl rfl⟩)
theorem wkV.nil (s s' : Nat) (tl : Tail) : wkV (.dl s [] .none) (.dl s' [] tl) := .inr (.inr ⟨s, s', [], .none, tl, rfl, rfl, .inr rfl, .inr ⟨rfl, by simp⟩⟩)
theorem wkV.nilf (s s' : Nat) : wkV (.dl s [] .full) (.dl s' [] .full) := .inr (.inr ⟨s, s', [], .full, .full, rfl, rfl, .inl rfl, .inr ⟨rfl, by simp⟩⟩)
theorem Wk.cons {x y : AV} {l l' : List AV} (h : wkV x y) (k : Wk l l') : Wk (x :: l) (y :: l') := ⟨h, k⟩
theorem Wk.nil : Wk [] [] := trivial
theorem Wk.u {y : AV} {l l' : List AV} (k : Wk l l') : Wk (.undef :: l) (y :: l') := Wk.cons (wkV.und y) k
theorem Wk.r {x : AV} {l l' : List AV} (k : Wk l l') : Wk (x :: l) (x :: l') := Wk.cons (wkV.refl x) k

/-- Less may be said of a value, of its parts too. -/
def wkA (x y : AV) : Prop := wkD x y ∨ ∃ cs cs', x = .agg cs ∧ y = .agg cs' ∧ Wk cs cs'
theorem wkA.refl (x : AV) : wkA x x := .inl (wkD.refl x)
theorem wkA.v {x y : AV} (h : wkV x y) : wkA x y := .inl (.inl h)
theorem wkA.agg {cs cs' : List AV} (h : Wk cs cs') : wkA (.agg cs) (.agg cs') := .inr ⟨cs, cs', rfl, rfl, h⟩
def WkA : List AV → List AV → Prop
 | [], [] => True
 | x :: l, y :: l' => wkA x y ∧ WkA l l'
 | _, _ => False
theorem WkA.cons {x y : AV} {l l' : List AV} (h : wkA x y) (k : WkA l l') : WkA (x :: l) (y :: l') := ⟨h, k⟩
theorem WkA.r {x : AV} {l l' : List AV} (k : WkA l l') : WkA (x :: l) (x :: l') := WkA.cons (wkA.refl x) k
theorem WkA.nil : WkA [] [] := trivial
section
variable {μ : Nat → Nat × Nat} {Z : Nat → Nat → Prop} {w : World} {n : Nat}
theorem VR.weakA {x y : AV} {cv : Value} (h : VR μ Z w n y cv) (k : wkA x y) : VR μ Z w n x cv := by
 rcases k with k | ⟨cs, cs', rfl, rfl, k⟩
 ·exact h.weakD k
 ·obtain ⟨k1, k2⟩ := k.spec
  cases h with
  | agg _ vs hl f h1 h2 =>
   refine .agg cs vs (k1.trans hl) f (fun j v hj => ?_) (fun j v hj => ?_)
   ·obtain ⟨v', q1, _⟩ := k2 j v hj; exact h1 j v' q1
   ·obtain ⟨v', q1, q2⟩ := k2 j v hj; exact (h2 j v' q1).weak q2
theorem WkA.spec : ∀ {l l' : List AV}, WkA l l' → l.length = l'.length ∧ ∀ (j : Nat) (v : AV), l[j]? = some v → ∃ v', l'[j]? = some v' ∧ wkA v v'
 | [], [], _ => ⟨rfl, fun j v h => by simp at h⟩
 | x :: l, y :: l', h => by
  obtain ⟨h1, h2⟩ := h
  obtain ⟨k1, k2⟩ := WkA.spec h2
  refine ⟨by simp [k1], fun j v hj => ?_⟩
  cases j with
  | zero =>
   simp at hj ⊢
   subst hj
   exact h1
  | succ j => simpa using k2 j v (by simpa using hj)
 | [], _ :: _, h => h.elim
 | _ :: _, [], h => h.elim
theorem VRs.weakA {l l' : List AV} {vs : Array Value} (h : VRs μ Z w n l' vs) (k : WkA l l') : VRs μ Z w n l vs := by
 obtain ⟨k1, k2⟩ := k.spec
 refine ⟨k1.trans h.1, fun j v hj => ?_⟩
 obtain ⟨v', q1, q2⟩ := k2 j v hj
 obtain ⟨cv, q3, q4⟩ := h.2 j v' q1
 exact ⟨cv, q3, q4.weakA q2⟩
/-- Less may be said of a result. -/
def wkR (x y : AV) : Prop := wkA x y ∨ ∃ cs cs', x = .tup cs ∧ y = .tup cs' ∧ WkA cs cs'
theorem wkR.a {x y : AV} (h : wkA x y) : wkR x y := .inl h
theorem wkR.tup {cs cs' : List AV} (h : WkA cs cs') : wkR (.tup cs) (.tup cs') := .inr ⟨cs, cs', rfl, rfl, h⟩
theorem VR.weakR {x y : AV} {cv : Value} (h : VR μ Z w n y cv) (k : wkR x y) : VR μ Z w n x cv := by
 rcases k with k | ⟨cs, cs', rfl, rfl, k⟩
 ·exact h.weakA k
 ·obtain ⟨k1, k2⟩ := k.spec
  cases h with
  | tup _ vs hl f h1 h2 =>
   refine .tup cs vs (k1.trans hl) f (fun j v hj => ?_) (fun j v hj => ?_)
   ·obtain ⟨v', q1, _⟩ := k2 j v hj; exact h1 j v' q1
   ·obtain ⟨v', q1, q2⟩ := k2 j v hj; exact (h2 j v' q1).weakA q2
end
theorem ACall.wkA {P : Program} {B : Nat} {w0 : World} {f : FuncId} {args args' : List AV} {H : AHeap} {K : AV → AHeap → Prop} (h : ACall P B w0 f args H K) (hw : WkA args args') : ACall P B w0 f args' H K :=
 ⟨h.1, fun μ Z w cargs h1 h2 => h.2 μ Z w cargs h1 (h2.weakA hw)⟩
theorem ACall.wkR {P : Program} {B : Nat} {w0 : World} {f : FuncId} {args : List AV} {H : AHeap} {K : AV → AHeap → Prop} (h : ACall P B w0 f args H (fun v H' => ∃ v', wkR v' v ∧ K v' H')) : ACall P B w0 f args H K :=
 ⟨h.1, fun μ Z w cargs h1 h2 => (h.2 μ Z w cargs h1 h2).mono (by
  rintro e w' ⟨v, cv, μ', Z', H', q1, q2, q3, q4, v', q5, q6⟩
  exact ⟨v', cv, μ', Z', H', q1, q2, q3.weakR q5, q4, q6⟩)⟩
theorem wkD.one {sz : Nat} {x y : AV} {tl : Tail} (hx : x.cells.length = sz) (h : Wk x.cells y.cells) : wkD (.dl sz [x] tl) (.dl sz [y] tl) :=
 .inr ⟨sz, [x], [y], tl, rfl, rfl, rfl, by simpa using hx, by simpa [flat] using h⟩
end Go.Av
namespace Go.Av
section
variable (P : Program) (H : AHeap) (a : List AV) (x y z u : ResultVar)
theorem resA_two : resA P H a [x, y] = (resOne P H a x).bind fun p => (resOne P H a y).bind fun q => some (.tup [p, q]) := by
 simp only [resA, List.mapM_cons, List.mapM_nil]
 cases resOne P H a x <;> cases resOne P H a y <;> rfl
theorem resA_three : resA P H a [x, y, z] = (resOne P H a x).bind fun p => (resOne P H a y).bind fun q => (resOne P H a z).bind fun r => some (.tup [p, q, r]) := by
 simp only [resA, List.mapM_cons, List.mapM_nil]
 cases resOne P H a x <;> cases resOne P H a y <;> cases resOne P H a z <;> rfl
theorem resA_four : resA P H a [x, y, z, u] = (resOne P H a x).bind fun p => (resOne P H a y).bind fun q => (resOne P H a z).bind fun r => (resOne P H a u).bind fun t => some (.tup [p, q, r, t]) := by
 simp only [resA, List.mapM_cons, List.mapM_nil]
 cases resOne P H a x <;> cases resOne P H a y <;> cases resOne P H a z <;> cases resOne P H a u <;> rfl
end
end Go.Av
namespace Go.Av
open Go.RowKit
theorem resA_nil (P : Program) (H : AHeap) (a : List AV) : resA P H a [] = some (.tup []) := rfl

/-- What others hold, and keep. -/
def FrObj (H : AHeap) (fs : List (Nat × AObj)) : Prop := ∀ p, p ∈ fs → H[p.1]? = some p.2 ∧ p.2 ≠ .tok
def FrTl (H0 H : AHeap) (ts : List Tail) : Prop := ∀ t, t ∈ ts → Free H0 H t
def Nf (fs : List (Nat × AObj)) (id : Nat) : Prop := ∀ p, p ∈ fs → p.1 ≠ id
def Dt (t : Tail) (ts : List Tail) : Prop := ∀ t2, t2 ∈ ts → tlNe t t2
theorem FrObj.nil (H : AHeap) : FrObj H [] := fun _ h => by cases h
theorem FrObj.cons {H : AHeap} {fs : List (Nat × AObj)} {id : Nat} {o : AObj} (h : H[id]? = some o) (ho : o ≠ .tok) (k : FrObj H fs) : FrObj H ((id, o) :: fs) := fun p hp => by
 rcases List.mem_cons.1 hp with rfl | hp
 ·exact ⟨h, ho⟩
 ·exact k p hp
theorem FrObj.head {H : AHeap} {fs : List (Nat × AObj)} {id : Nat} {o : AObj} (h : FrObj H ((id, o) :: fs)) : H[id]? = some o := (h (id, o) (by simp)).1
theorem FrObj.tail {H : AHeap} {fs : List (Nat × AObj)} {x : Nat × AObj} (h : FrObj H (x :: fs)) : FrObj H fs := fun p hp => h p (List.mem_cons_of_mem _ hp)
theorem FrTl.nil (H0 H : AHeap) : FrTl H0 H [] := fun _ h => by cases h
theorem FrTl.cons {H0 H : AHeap} {ts : List Tail} {t : Tail} (h : Free H0 H t) (k : FrTl H0 H ts) : FrTl H0 H (t :: ts) := fun p hp => by
 rcases List.mem_cons.1 hp with rfl | hp
 ·exact h
 ·exact k p hp
theorem FrTl.head {H0 H : AHeap} {ts : List Tail} {t : Tail} (h : FrTl H0 H (t :: ts)) : Free H0 H t := h t (by simp)
theorem FrTl.tail {H0 H : AHeap} {ts : List Tail} {t : Tail} (h : FrTl H0 H (t :: ts)) : FrTl H0 H ts := fun p hp => h p (List.mem_cons_of_mem _ hp)
theorem Nf.nil (id : Nat) : Nf [] id := fun _ h => by cases h
theorem Nf.cons {fs : List (Nat × AObj)} {id i : Nat} {o : AObj} (h : i ≠ id) (k : Nf fs id) : Nf ((i, o) :: fs) id := fun p hp => by
 rcases List.mem_cons.1 hp with rfl | hp
 ·exact h
 ·exact k p hp
theorem Dt.nil (t : Tail) : Dt t [] := fun _ h => by cases h
theorem Dt.full (ts : List Tail) : Dt .full ts := fun t _ => tlNe.full t
theorem Dt.cons {t t2 : Tail} {ts : List Tail} (h : tlNe t t2) (k : Dt t ts) : Dt t (t2 :: ts) := fun p hp => by
 rcases List.mem_cons.1 hp with rfl | hp
 ·exact h
 ·exact k p hp
theorem Dt.head {t t2 : Tail} {ts : List Tail} (h : Dt t (t2 :: ts)) : tlNe t t2 := h t2 (by simp)
theorem Dt.tail {t t2 : Tail} {ts : List Tail} (h : Dt t (t2 :: ts)) : Dt t ts := fun p hp => h p (List.mem_cons_of_mem _ hp)
theorem FrObj.ext {H H' : AHeap} {fs : List (Nat × AObj)} (h : FrObj H fs) (x : Ext H H') : FrObj H' fs := fun p hp => ⟨x.2 _ _ (h p hp).1, (h p hp).2⟩
theorem FrTl.ext {H0 H H' : AHeap} {ts : List Tail} (h : FrTl H0 H ts) (x : Ext H H') : FrTl H0 H' ts := fun t ht => (h t ht).mono x
theorem FrObj.nf {H : AHeap} {fs : List (Nat × AObj)} {id : Nat} (h : FrObj H fs) (n : ∀ (i : Nat) (o : AObj), H[i]? = some o → i ≠ id) : Nf fs id := fun p hp => n _ _ (h p hp).1
theorem FrObj.keep {H H' : AHeap} {fs : List (Nat × AObj)} {id : Nat} (h : FrObj H fs) (nf : Nf fs id) (p : ∀ (i : Nat) (o : AObj), i ≠ id → H[i]? = some o → H'[i]? = some o) : FrObj H' fs := fun x hx => ⟨p _ _ (nf x hx) (h x hx).1, (h x hx).2⟩
theorem FrTl.keep {H0 H H' : AHeap} {ts : List Tail} {id : Nat} {cs : List AV} (h : FrTl H0 H ts) (hid : H[id]? = some (.cells cs)) (p : ∀ (i : Nat) (o : AObj), i ≠ id → H[i]? = some o → H'[i]? = some o) : FrTl H0 H' ts := fun t ht => (h t ht).keep hid p
/-- Heaps of which less is said. -/
def WkO (x y : AObj) : Prop := x = y ∨ ∃ cs cs', x = .cells cs ∧ y = .cells cs' ∧ Wk cs cs'
def WkH (H' H : AHeap) : Prop := H'.length = H.length ∧ ∀ (i : Nat) (o : AObj), H'[i]? = some o → ∃ o', H[i]? = some o' ∧ WkO o o'
theorem WkH.set {H : AHeap} {id : Nat} {cs cs' : List AV} (hid : H[id]? = some (.cells cs)) (hw : Wk cs' cs) : WkH (H.set id (.cells cs')) H := by
 refine ⟨by simp, fun i o hi => ?_⟩
 by_cases hii : id = i
 ·subst hii
  rw [List.getElem?_set_self (List.getElem?_eq_some_iff.1 hid).1] at hi
  cases hi
  exact ⟨_, hid, .inr ⟨_, _, rfl, rfl, hw⟩⟩
 ·rw [getElem?_set_ne hii] at hi; exact ⟨o, hi, .inl rfl⟩
theorem WkH.refl (H : AHeap) : WkH H H := ⟨rfl, fun _ o h => ⟨o, h, .inl rfl⟩⟩
section
variable {P : Program} {B : Nat} {w0 : World} {rd : Option Nat} {a : List AV} {H : AHeap} {μ μ' : Nat → Nat × Nat} {Z Z' : Nat → Nat → Prop} {w w' : World} {n n' : Nat} {E0 : Nat} {ca : Act}
theorem WkO.alive {x y : AObj} (h : WkO x y) : x.alive = y.alive := by
 rcases h with rfl | ⟨cs, cs', rfl, rfl, _⟩ <;> rfl
theorem R.wkH {H' : AHeap} (hR : R B w0 μ Z H w) (hw : WkH H' H) : R B w0 μ Z H' w ∧ Ev μ Z H w μ Z H' w := by
 obtain ⟨hl, h⟩ := hw
 refine ⟨⟨hR.below, hR.hB, hR.zlt, fun i o hi => ?_, fun i j oi oj hi hj hai haj he => ?_⟩, ?_⟩
 ·obtain ⟨o', h1, h2⟩ := h i o hi
  rw [hl]
  rcases h2 with rfl | ⟨cs, cs', rfl, rfl, hw⟩
  ·exact hR.obj i _ h1
  ·obtain ⟨g1, g2, ccs, e, fr, g3, g4, g5, g6⟩ := hR.obj i _ h1
   obtain ⟨k1, k2⟩ := hw.spec
   refine ⟨g1, g2, ccs, e, fr, g3, g4, by omega, fun j v hj => ?_⟩
   obtain ⟨v', q1, q2⟩ := k2 j v hj
   obtain ⟨u, p1, p2, p3⟩ := g6 j v' q1
   exact ⟨u, p1, p2, p3.weak q2⟩
 ·obtain ⟨o1, p1, p2⟩ := h i oi hi
  obtain ⟨o2, q1, q2⟩ := h j oj hj
  exact hR.inj i j o1 o2 p1 q1 (p2.alive ▸ hai) (q2.alive ▸ haj) he
 ·refine ⟨by omega, fun _ _ => rfl, fun _ _ h => h, fun _ _ _ => rfl, fun _ _ => rfl, Nat.le_refl _, fun _ _ _ => rfl, fun i o hi ha => ?_, fun _ _ h => .inl h⟩
  obtain ⟨o1, p1, p2⟩ := h i o hi
  exact .inr ⟨i, o1, p1, p2.alive ▸ ha, rfl⟩
theorem AWP.wkH {c : Code} {Q : Exit → List AV → AHeap → Prop} {H' : AHeap} (hw : WkH H' H) (h : AWP P B w0 rd c Q a H') : AWP P B w0 rd c Q a H := by
 intro E0 μ Z w ca hR hA h3
 obtain ⟨hR', hE⟩ := hR.wkH hw
 have := h E0 μ Z w ca hR' (hA.evolve hR hE) (fun l hl => by rw [hw.1]; exact h3 l hl)
 refine wpIn_mono this ?_
 rintro e' ca2 w2 ⟨μ2, Z2, a2, H2, p1, p2, p3, p4⟩
 exact ⟨μ2, Z2, a2, H2, p1, p2, hE.trans p3, p4⟩
theorem ACall.wkH {f : FuncId} {args : List AV} {K : AV → AHeap → Prop} {H' : AHeap} (hw : WkH H' H) (h : ACall P B w0 f args H' K) : ACall P B w0 f args H K :=
 ⟨h.1, fun μ Z w cargs hR hA => by
  obtain ⟨hR', hE⟩ := hR.wkH hw
  refine (h.2 μ Z w cargs hR' (by rw [hw.1]; exact hA)).mono ?_
  rintro e w' ⟨v, cv, μ', Z', H'', q1, q2, q3, q4, q5⟩
  exact ⟨v, cv, μ', Z', H'', q1, q2, q3, hE.trans q4, q5⟩⟩
/-- Less may be said of the heap that a call leaves. -/
theorem ACall.wkE {f : FuncId} {args : List AV} {K : AV → AHeap → Prop} (h : ACall P B w0 f args H (fun v H' => ∃ H'', WkH H'' H' ∧ K v H'')) : ACall P B w0 f args H K :=
 ⟨h.1, fun μ Z w cargs h1 h2 => (h.2 μ Z w cargs h1 h2).mono (by
  rintro e w' ⟨v, cv, μ', Z', H', q1, q2, q3, q4, H'', hw, q5⟩
  obtain ⟨r1, r2⟩ := q2.wkH hw
  exact ⟨v, cv, μ', Z', H'', q1, r1, by rw [hw.1]; exact q3, q4.trans r2, q5⟩)⟩
end
/-- An element, by its place. -/
def rdn {α : Type} [Inhabited α] (l : List α) (i : Nat) : α := l.getD i default
theorem rdn_map {α : Type} [Inhabited α] (f : α → AV) {l : List α} {i : Nat} (h : i < l.length) : (List.drop i (List.map f l)).head? = some (f (rdn l i)) := by
 simp [rdn, List.getD, h]
theorem rdn_map0 {α : Type} [Inhabited α] (f : α → AV) {l : List α} (h : 0 < l.length) : (List.map f l).head? = some (f (rdn l 0)) := by
 have := rdn_map f h; rwa [List.drop_zero] at this
end Go.Av
namespace Go.Av
end Go.Av
namespace Go.Av
theorem resA_one (P : Program) (H : AHeap) (a : List AV) (x : ResultVar) : resA P H a [x] = resOne P H a x := rfl
end Go.Av
namespace Go.Av
open Go.RowKit
end Go.Av
namespace Go.Av
open Go.RowKit
end Go.Av
namespace Go.Av
open Go.RowKit
end Go.Av
namespace Go.Av
open Go.RowKit
section
variable {P : Program} {B : Nat} {w0 : World} {H : AHeap} {μ : Nat → Nat × Nat} {Z : Nat → Nat → Prop} {w : World}
/-- A slice over a block of one's own becomes a value. -/
theorem R.frz (hR : R B w0 μ Z H w) {id len : Nat} {cs : List AV} {cv : Value} (hid : H[id]? = some (.cells cs)) (hl : len ≤ cs.length) (h1 : ∀ c, c ∈ cs → c.cells = [c]) (hv : VR μ Z w H.length (.sl 1 id 0 len) cv) :
  ∃ Z', R B w0 μ Z' (H.set id .dead) w ∧ Ev μ Z H w μ Z' (H.set id .dead) w ∧ VR μ Z' w (H.set id .dead).length (.dl 1 (cs.take len) .none) cv := by
 obtain ⟨g1, g2, ccs, e, fr, g3, g4, g5, g6⟩ := hR.obj id _ hid
 obtain ⟨r1, r2⟩ := hR.freeze hid (fun c o => Z c o ∨ (c = (μ id).1 ∧ (μ id).2 ≤ o ∧ o < (μ id).2 + len)) (fun _ _ h => .inl h) (fun c o h => h.imp (fun h => h) (·.1))
 refine ⟨_, r1, r2, ?_⟩
 have hfl : ∀ l : List AV, (∀ c, c ∈ l → c.cells = [c]) → flat l = l := by
  intro l
  induction l with
  | nil => intro _; rfl
  | cons x l ih => intro h; rw [flat_cons, h x (by simp), ih (fun c hc => h c (by simp [hc]))]; rfl
 have hft : flat (cs.take len) = cs.take len := hfl _ (fun c hc => h1 c (List.mem_of_mem_take hc))
 have hlen : (cs.take len).length = len := by rw [List.length_take]; omega
 have hcell : ∀ j, w.cell? ⟨(μ id).1, j, none⟩ = ccs[j]? := fun j => cell_of_row w _ _ ccs e fr g3
 cases hv with
 | sl _ _ _ _ cap q1 q2 q3 e' N q4 q5 =>
  have hF : ∀ j v, (cs.take len)[j]? = some v → ∃ u, w.cell? ⟨(μ id).1, (μ id).2 + 0 + j, none⟩ = some u ∧ u.oneCell' = true ∧ VR μ Z w H.length v u := by
   intro j v hj
   rw [List.getElem?_take] at hj
   split at hj
   ·obtain ⟨v', p1, p2, p3⟩ := g6 _ _ hj
    exact ⟨v', by rw [hcell, ← p1, Nat.add_zero], p2, p3⟩
   ·cases hj
  have key := VR.dl (μ := μ) (Z := fun c o => Z c o ∨ (c = (μ id).1 ∧ (μ id).2 ≤ o ∧ o < (μ id).2 + len)) (w := w) (n := (H.set id .dead).length) 1 (cs.take len) .none (μ id).1 ((μ id).2 + 0) cap
   (fun j => (w.cell? ⟨(μ id).1, (μ id).2 + 0 + j, none⟩).getD default) (fun x hx => by rw [h1 x (List.mem_of_mem_take hx)]; rfl) (by rw [hlen]; exact q2)
   (fun j v hj => by
    rw [hft] at hj
    obtain ⟨u, p1, _, _⟩ := hF j v hj
    simp only [p1, Option.getD_some])
   (fun j hj => by rw [hft, hlen] at hj; exact .inr ⟨rfl, by omega, by omega⟩)
   (fun j v hj => by
    rw [hft] at hj
    obtain ⟨u, p1, _, p3⟩ := hF j v hj
    simp only [p1, Option.getD_some]
    exact p3.mono (by simp) (fun _ _ => rfl) (fun _ _ h => .inl h) (fun _ _ _ => rfl) (fun _ _ => rfl))
   (fun j hj => by
    rw [hft] at hj
    obtain ⟨u, p1, p2, _⟩ := hF j _ (List.getElem?_eq_getElem hj)
    simp only [p1, Option.getD_some]; exact p2)
   trivial
  rw [hlen] at key
  exact key
theorem ACall.frz {f : FuncId} {args : List AV} {K : AV → AHeap → Prop} (h : ACall P B w0 f args H (fun v H' => (∃ v', Go.Av.wkR v' v ∧ K v' H') ∨ ∃ id len cs, v = .sl 1 id 0 len ∧ H'[id]? = some (.cells cs) ∧ len ≤ cs.length ∧ (∀ c, c ∈ cs → c.cells = [c]) ∧ K (.dl 1 (cs.take len) .none) (H'.set id .dead))) : ACall P B w0 f args H K :=
 ⟨h.1, fun μ Z w cargs h1 h2 => (h.2 μ Z w cargs h1 h2).mono (by
  rintro e w' ⟨v, cv, μ', Z', H', q1, q2, q3, q4, q5⟩
  rcases q5 with ⟨v', q5, q6⟩ | ⟨id, len, cs, rfl, m1, m2, m3, m4⟩
  ·exact ⟨v', cv, μ', Z', H', q1, q2, q3.weakR q5, q4, q6⟩
  ·obtain ⟨Z2, r1, r2, r3⟩ := q2.frz m1 m2 m3 q3
   exact ⟨_, cv, μ', Z2, _, q1, r1, r3, q4.trans r2, m4⟩)⟩
end
end Go.Av
namespace Go.Av
open Go.RowKit
section
variable {P : Program} {B : Nat} {w0 : World} {H : AHeap} {μ : Nat → Nat × Nat} {Z : Nat → Nat → Prop} {w : World}
/-- An empty slice over a block of one's own: the block becomes its spare room. -/
theorem R.rel (hR : R B w0 μ Z H w) {id sz : Nat} {cs : List AV} {cv : Value} (hid : H[id]? = some (.cells cs)) (hv : VR μ Z w H.length (.sl sz id 0 0) cv) :
  R B w0 μ Z (H.set id .tok) w ∧ Ev μ Z H w μ Z (H.set id .tok) w ∧ VR μ Z w (H.set id .tok).length (.dl sz [] (.tok id)) cv := by
 have hidl := (List.getElem?_eq_some_iff.1 hid).1
 have back : ∀ (i : Nat) (o : AObj), (H.set id .tok)[i]? = some o → o.alive = true → ∃ o' : AObj, H[i]? = some o' ∧ o'.alive = true := by
  intro i o hi ha
  by_cases hii : id = i
  ·subst hii; exact ⟨_, hid, rfl⟩
  ·rw [getElem?_set_ne hii] at hi; exact ⟨o, hi, ha⟩
 refine ⟨⟨hR.below, hR.hB, hR.zlt, fun i o hi => ?_, fun i j oi oj hi hj hai haj he => ?_⟩, ?_, ?_⟩
 ·rw [List.length_set]
  by_cases hii : id = i
  ·subst hii
   rw [List.getElem?_set_self hidl] at hi
   cases hi
   obtain ⟨g1, g2, ccs, e, fr, g3, g4, g5, g6⟩ := hR.obj id _ hid
   exact ⟨g1, fun o ho => absurd ho (g2 o), ccs, e, fr, g3, g4⟩
  ·rw [getElem?_set_ne hii] at hi; exact hR.obj i o hi
 ·obtain ⟨o1, p1, p2⟩ := back i oi hi hai
  obtain ⟨o2, q1, q2⟩ := back j oj hj haj
  exact hR.inj i j o1 o2 p1 q1 p2 q2 he
 ·refine ⟨by simp, fun _ _ => rfl, fun _ _ h => h, fun _ _ _ => rfl, fun _ _ => rfl, Nat.le_refl _, fun _ _ _ => rfl, fun i o hi ha => ?_, fun _ _ h => .inl h⟩
  obtain ⟨o1, p1, p2⟩ := back i o hi ha
  exact .inr ⟨i, o1, p1, p2, rfl⟩
 ·rw [List.length_set]
  cases hv with
  | sl _ _ _ _ cap q1 q2 q3 e N q4 q5 =>
   exact .dl sz [] (.tok id) (μ id).1 ((μ id).2 + 0) cap (fun _ => default) (by simp) q2 (by simp [flat]) (by simp [flat]) (by simp [flat]) (by simp [flat]) ⟨q1, by simp, q3, e, N, q4, by simpa using q5⟩
theorem ACall.rel {f : FuncId} {args : List AV} {K : AV → AHeap → Prop} (h : ACall P B w0 f args H (fun v H' => (∃ v', Go.Av.wkR v' v ∧ K v' H') ∨ ∃ sz id cs, v = .sl sz id 0 0 ∧ H'[id]? = some (.cells cs) ∧ K (.dl sz [] (.tok id)) (H'.set id .tok))) : ACall P B w0 f args H K :=
 ⟨h.1, fun μ Z w cargs h1 h2 => (h.2 μ Z w cargs h1 h2).mono (by
  rintro e w' ⟨v, cv, μ', Z', H', q1, q2, q3, q4, q5⟩
  rcases q5 with ⟨v', q5, q6⟩ | ⟨sz, id, cs, rfl, m1, m4⟩
  ·exact ⟨v', cv, μ', Z', H', q1, q2, q3.weakR q5, q4, q6⟩
  ·obtain ⟨r1, r2, r3⟩ := q2.rel m1 q3
   exact ⟨_, cv, μ', Z', _, q1, r1, r3, q4.trans r2, m4⟩)⟩
end
/-- append of as many zeros to nothing. -/
theorem AppE.zeros {P : Program} {t t2 : TypeId} {H : AHeap} {K : AV → AHeap → Prop} {ti te i2 : TyA} {e : TypeId} {z : AV} {sz : Nat} {k k2 : IntKind} {n : Int} (h1 : tyA P t = some ti) (h2 : ti.kind = .slice e) (h3 : tyA P e = some te) (h4 : te.zero = some z) (h5 : z.cells.length = te.size) (h5' : z.cells.all AV.one = true) (h6 : 0 < te.size) (h7 : tyA P t2 = some i2) (h7' : i2.kind = .int k)
  (hn : 0 < n) (h8 : n.toNat * te.bytes ≤ 140737488355328) (h9 : n.toNat ≤ 4611686018427387904) (hK : K (.sl te.size H.length 0 n.toNat) (H ++ [.cells (flat (List.replicate n.toNat z))])) : AppE P t t2 (.dl sz [] .full) (.int k2 n) H K :=
 ⟨_, wkD.refl _, .inr (.inr (.inl ⟨ti, e, te, z, i2, k, k2, n.toNat, sz, h1, h2, h3, h4, h5, h5', h6, h7, h7', rfl, by rw [Int.toNat_of_nonneg (by omega)], by omega, h8, h9, hK⟩))⟩
end Go.Av
namespace Go.Av
theorem wkD.elems {sz : Nat} {es es' : List AV} {tl : Tail} (hl : es.length = es'.length) (hs : ∀ e, e ∈ es → e.cells.length = sz) (h : Wk (flat es) (flat es')) : wkD (.dl sz es tl) (.dl sz es' tl) := .inr ⟨sz, es, es', tl, rfl, rfl, hl, hs, h⟩
end Go.Av
end

section
set_option linter.unusedSimpArgs false
set_option linter.unusedVariables false
namespace Go.Av
open Go.RowKit

/-- What is read in an argument that is a list of numbers. -/
def IsRow (k : IntKind) (w : World) (a : Option Addr) (len cap : Nat) (zs : List Int) : Prop :=
 (a = none ∧ len = 0 ∧ cap = 0 ∧ zs = []) ∨
 ∃ x, a = some x ∧ len ≤ cap ∧ cap ≤ maxLen ∧ zs.length = cap ∧ (∀ i, i < zs.length → w.cell? (x.add i) = some (.int k (zs.getD i 0))) ∧ ∀ n ∈ zs, (Lit.int k n).wf = true

theorem R.start (W : World) : R W.heap.size W (fun _ => (0, 0)) (fun c _ => c < W.heap.size) [] W :=
 ⟨Below.refl _ _, Nat.le_refl _, fun _ _ h => h, fun id o h => by simp at h, fun i j oi oj h => by simp at h⟩

theorem IsRow.vr {k : IntKind} {W : World} {a : Option Addr} {len cap : Nat} {zs : List Int} (h : IsRow k W a len cap zs) (μ : Nat → Nat × Nat) (n : Nat) :
  VR μ (fun c _ => c < W.heap.size) W n (.dl 1 (List.map (AV.int k) (zs.take len)) .none) (.slice a len cap) := by
 rcases h with ⟨rfl, rfl, rfl, rfl⟩ | ⟨x, rfl, h1, h2, h3, h4, h5⟩
 ·exact .dl0 _ _ _ _ (fun e => by cases e) (fun t e => by cases e)
 ·by_cases h0 : len = 0
  ·subst h0
   exact .dl0 _ _ _ _ (fun e => by cases e) (fun t e => by cases e)
  ·have hl : len ≤ zs.length := by omega
   have hfl : flat (List.map (AV.int k) (zs.take len)) = List.map (AV.int k) (zs.take len) := flat_ints k _
   have hlen : (List.map (AV.int k) (zs.take len)).length = len := by simp; omega
   have hcu : ∀ (y : Addr) (v : Value), W.cell? y = some v → y.block < W.heap.size ∧ y.spot = none := by
    intro y v hy
    unfold World.cell? at hy
    cases hx : W.heap[y.block]? with
    | none => rw [hx] at hy; cases hy
    | some ob =>
     have hlt : y.block < W.heap.size := (Array.getElem?_eq_some_iff.1 hx).1
     rw [hx] at hy
     cases ob with
     | cells c e fr =>
      simp only at hy
      split at hy
      ·cases hy
      ·rename_i hsp
       exact ⟨hlt, by simpa using hsp⟩
     | _ => cases hy
   obtain ⟨bl, off, sp⟩ := x
   have h40 := h4 0 (by omega)
   have hadd0 : (⟨bl, off, sp⟩ : Addr).add 0 = ⟨bl, off, sp⟩ := by unfold Addr.add; simp
   rw [hadd0] at h40
   obtain ⟨hblt, hspot⟩ := hcu _ _ h40
   simp only at hblt hspot
   subst hspot
   have hadd : ∀ i, (⟨bl, off, none⟩ : Addr).add i = ⟨bl, off + i, none⟩ := by
    intro i; unfold Addr.add
    split <;> simp_all
   have hcell : ∀ i, i < len → W.cell? ⟨bl, off + i, none⟩ = some (.int k (zs.getD i 0)) := by
    intro i hi
    have := h4 i (by omega)
    rwa [hadd] at this
   have key := VR.dl (μ := μ) (Z := fun c _ => c < W.heap.size) (w := W) (n := n) 1 (List.map (AV.int k) (zs.take len)) .none bl off cap (fun j => .int k (zs.getD j 0))
    (fun e he => by obtain ⟨y, _, rfl⟩ := List.mem_map.1 he; rfl) (by omega)
    (fun j v hj => by
     rw [hfl] at hj
     have hjl := (List.getElem?_eq_some_iff.1 hj).1
     exact hcell j (by omega))
    (fun j hj => hblt)
    (fun j v hj => by
     rw [hfl] at hj
     have hjl := (List.getElem?_eq_some_iff.1 hj).1
     rw [hlen] at hjl
     have hz : j < zs.length := by omega
     rw [List.getElem?_map, List.getElem?_take_of_lt hjl, List.getElem?_eq_getElem hz] at hj
     simp at hj
     subst hj
     have : zs.getD j 0 = zs[j] := by simp [List.getD, hz]
     rw [this]
     exact .int _ _)
    (fun j hj => rfl) trivial
   rw [hlen] at key
   exact key

/-- A law's call, out of what is known of it abstractly. -/
theorem ACall.law {P : Program} {W : World} {f : FuncId} {args : List AV} {cargs : Array Value} (h : ACall P W.heap.size W f args [] (fun v _ => v = .bool true)) (hargs : VRs (fun _ => (0, 0)) (fun c _ => c < W.heap.size) W 0 args cargs) :
  Calls P f cargs W fun e w' => e = .returned (.bool true) ∧ Below W.heap.size W w' := by
 have h1 := h.2 _ _ _ cargs (R.start W) hargs
 have h2 : CallsIn Fence.wide 0 P f cargs W fun e w' => e = .returned (.bool true) ∧ Below W.heap.size W w' := by
  refine CallsIn.mono (F := FW none) h1 ?_
  rintro e w' ⟨v, cv, μ', Z', H', rfl, q2, q3, _, rfl⟩
  cases q3
  exact ⟨rfl, q2.below⟩
 exact callsIn_wide.1 h2
theorem VRs.cons {μ : Nat → Nat × Nat} {Z : Nat → Nat → Prop} {w : World} {n : Nat} {v : AV} {cv : Value} {l : List AV} {vs : List Value} (h : VR μ Z w n v cv) (k : VRs μ Z w n l vs.toArray) : VRs μ Z w n (v :: l) (cv :: vs).toArray := by
 refine ⟨by simpa using k.1, fun j u hj => ?_⟩
 cases j with
 | zero => simp at hj; subst hj; exact ⟨cv, by simp, h⟩
 | succ j => obtain ⟨u', q1, q2⟩ := k.2 j u (by simpa using hj); exact ⟨u', by simpa using q1, q2⟩
theorem VRs.nil {μ : Nat → Nat × Nat} {Z : Nat → Nat → Prop} {w : World} {n : Nat} : VRs μ Z w n [] ([] : List Value).toArray := ⟨rfl, by simp⟩
end Go.Av
end

section
set_option linter.unusedSimpArgs false
set_option linter.unusedVariables false
namespace Go.Av
open Go.RowKit

/-- What a walk holds of the heap: an object · the end of a frozen slice · a list of its own. -/
inductive Item where
 | obj (id : Nat) (o : AObj)
 | tl (t : Tail)
 | own (sz : Nat) (v : AV) (cs : List AV)
 | many (ids : List Nat) (p : AHeap → Prop) (hp : ∀ H H' : AHeap, p H → (∀ i, i ∈ ids → H'[i]? = H[i]?) → p H') (hl : ∀ H : AHeap, p H → ∀ i, i ∈ ids → ∃ o, H[i]? = some o)
/-- the blocks of an item -/
def Item.has : Item → Nat → Prop
 | .obj id _, i => i = id
 | .tl (.tok t), i => i = t
 | .tl _, _ => False
 | .own _ (.sl _ id _ _) _, i => i = id
 | .own _ _ _, _ => False
 | .many ids _ _ _, i => i ∈ ids
def Item.at (H : AHeap) : Item → Prop
 | .obj id o => H[id]? = some o
 | .tl t => t = .full ∨ ∃ i, t = .tok i ∧ H[i]? = some .tok
 | .own sz v cs => (∃ s, v = .dl s [] .full ∧ cs = []) ∨ ∃ id len, v = .sl sz id 0 len ∧ cs.length = len * sz ∧ H[id]? = some (.cells cs)
 | .many _ p _ _ => p H
def apart (x y : Item) : Prop := ∀ i, x.has i → ¬ y.has i
theorem apart.symm {x y : Item} (h : apart x y) : apart y x := fun i h1 h2 => h i h2 h1
structure Hv (H : AHeap) (L : List Item) : Prop where
 each : ∀ x, x ∈ L → x.at H
 ap : L.Pairwise apart

theorem Item.get {H : AHeap} {x : Item} {i : Nat} (h : x.at H) (hi : x.has i) : ∃ o, H[i]? = some o := by
 cases x with
 | obj id o => cases hi; exact ⟨o, h⟩
 | tl t =>
  rcases h with rfl | ⟨j, rfl, h⟩
  ·cases hi
  ·cases hi; exact ⟨_, h⟩
 | own sz v cs =>
  rcases h with ⟨s, rfl, _⟩ | ⟨id, len, rfl, _, h⟩
  ·cases hi
  ·cases hi; exact ⟨_, h⟩
 | many ids p hp hl => exact hl H h i hi
theorem Item.lt {H : AHeap} {x : Item} {i : Nat} (h : x.at H) (hi : x.has i) : i < H.length := by
 obtain ⟨o, ho⟩ := Item.get h hi
 exact (List.getElem?_eq_some_iff.1 ho).1
theorem Item.keep {H H' : AHeap} {x : Item} (h : x.at H) (hk : ∀ i, x.has i → H'[i]? = H[i]?) : x.at H' := by
 cases x with
 | obj id o => exact (hk id rfl).trans h
 | tl t =>
  rcases h with rfl | ⟨j, rfl, h⟩
  ·exact .inl rfl
  ·exact .inr ⟨j, rfl, (hk j rfl).trans h⟩
 | own sz v cs =>
  rcases h with h | ⟨id, len, rfl, h1, h⟩
  ·exact .inl h
  ·exact .inr ⟨id, len, rfl, h1, (hk id rfl).trans h⟩
 | many ids p hp hl => exact hp H H' h hk

theorem Hv.nil (H : AHeap) : Hv H [] := ⟨fun _ h => (by cases h), .nil⟩
theorem Hv.keep {H H' : AHeap} {L : List Item} (h : Hv H L) (hk : ∀ i, i < H.length → H'[i]? = H[i]?) : Hv H' L :=
 ⟨fun x hx => Item.keep (h.each x hx) fun i hi => hk i (Item.lt (h.each x hx) hi), h.ap⟩
/-- a new block -/
theorem Hv.push {H : AHeap} {L : List Item} (h : Hv H L) (o : AObj) {x : Item} (hx : x.at (H ++ [o])) (hi : ∀ i, x.has i → i = H.length) : Hv (H ++ [o]) (x :: L) := by
 have hk : Hv (H ++ [o]) L := h.keep fun i hi => List.getElem?_append_left hi
 refine ⟨fun y hy => ?_, List.pairwise_cons.2 ⟨fun y hy i h1 h2 => ?_, h.ap⟩⟩
 ·rcases List.mem_cons.1 hy with rfl | hy
  ·exact hx
  ·exact hk.each y hy
 ·have := Item.lt (h.each y hy) h2
  have := hi i h1
  omega
theorem Hv.pushO {H : AHeap} {L : List Item} (h : Hv H L) (o : AObj) : Hv (H ++ [o]) (.obj H.length o :: L) :=
 h.push o (x := .obj H.length o) (show (H ++ [o])[H.length]? = some o from get_new H o) (fun i h => by cases h; rfl)
/-- a block that is held is set -/
theorem Hv.set {H : AHeap} {L : List Item} {x y : Item} {i : Nat} (h : Hv H (x :: L)) (hx : x.has i) (o : AObj) (hy : y.at (H.set i o)) (hyi : ∀ j, y.has j → j = i) : Hv (H.set i o) (y :: L) := by
 obtain ⟨h1, h2⟩ := h
 obtain ⟨h2, h3⟩ := List.pairwise_cons.1 h2
 refine ⟨fun z hz => ?_, List.pairwise_cons.2 ⟨fun z hz j hj hzj => ?_, h3⟩⟩
 ·rcases List.mem_cons.1 hz with rfl | hz
  ·exact hy
  ·refine Item.keep (h1 z (by simp [hz])) fun j hj => get_set_ne _ (fun e => ?_)
   subst e
   exact h2 z hz i hx hj
 ·have := hyi j hj
  subst this
  exact h2 z hz j hx hzj
theorem Hv.drop {H : AHeap} {L : List Item} {x : Item} (h : Hv H (x :: L)) : Hv H L := ⟨fun y hy => h.each y (by simp [hy]), (List.pairwise_cons.1 h.ap).2⟩
/-- an item without a block -/
theorem Hv.free {H : AHeap} {L : List Item} {x : Item} (h : Hv H L) (hx : x.at H) (hi : x.has = fun _ => False) : Hv H (x :: L) := by
 refine ⟨fun y hy => ?_, List.pairwise_cons.2 ⟨fun y hy i h1 => by rw [hi] at h1; exact h1.elim, h.ap⟩⟩
 rcases List.mem_cons.1 hy with rfl | hy
 ·exact hx
 ·exact h.each y hy
/-- the same block, said in another way -/
theorem Hv.as {H : AHeap} {L : List Item} {x y : Item} (h : Hv H (x :: L)) (hy : y.at H) (hi : ∀ i, y.has i → x.has i) : Hv H (y :: L) := by
 refine ⟨fun z hz => ?_, List.pairwise_cons.2 ⟨fun z hz i h1 h2 => (List.pairwise_cons.1 h.ap).1 z hz i (hi i h1) h2, (List.pairwise_cons.1 h.ap).2⟩⟩
 rcases List.mem_cons.1 hz with rfl | hz
 ·exact hy
 ·exact h.each z (by simp [hz])

inductive Pull : List Item → Item → List Item → Prop
 | here {x : Item} {l : List Item} : Pull (x :: l) x l
 | there {l l' : List Item} {x z : Item} (h : Pull l x l') : Pull (z :: l) x (z :: l')
theorem Pull.perm {l l' : List Item} {x : Item} (h : Pull l x l') : List.Perm l (x :: l') := by
 induction h with
 | here => exact .refl _
 | there _ ih => exact (ih.cons _).trans (.swap _ _ _)
theorem Hv.perm {H : AHeap} {L L' : List Item} (h : Hv H L) (p : List.Perm L L') : Hv H L' :=
 ⟨fun x hx => h.each x (p.mem_iff.2 hx), p.pairwise h.ap (@fun _ _ h => apart.symm h)⟩
theorem Hv.pull {H : AHeap} {L L' : List Item} {x : Item} (h : Hv H L) (p : Pull L x L') : Hv H (x :: L') := h.perm p.perm

theorem wkV.trans {x y z : AV} (h : wkV x y) (k : wkV y z) : wkV x z := by
 rcases h with rfl | rfl | ⟨s1, s2, es, t1, t2, rfl, rfl, h1, h2⟩
 ·exact .inl rfl
 ·exact k
 ·rcases k with k | rfl | ⟨s3, s4, es2, t3, t4, e, rfl, k1, k2⟩
  ·cases k
  ·exact .inr (.inr ⟨s1, s2, es, t1, t2, rfl, rfl, h1, h2⟩)
  ·cases e
   refine .inr (.inr ⟨s1, s4, es, t1, t4, rfl, rfl, ?_, ?_⟩)
   ·rcases h1 with rfl | rfl
    ·exact k1
    ·exact .inr rfl
   ·rcases h2 with rfl | h2
    ·rcases k2 with rfl | ⟨k2, k3⟩
     ·exact .inl rfl
     ·exact .inr ⟨k2, fun t e => by rcases h1 with rfl | rfl <;> first | exact k3 t e | cases e⟩
    ·exact .inr h2
theorem Wk.trans : ∀ {l1 l2 l3 : List AV}, Wk l1 l2 → Wk l2 l3 → Wk l1 l3
 | [], [], [], _, _ => trivial
 | _ :: _, _ :: _, _ :: _, h, k => ⟨wkV.trans h.1 k.1, Wk.trans h.2 k.2⟩
 | [], _ :: _, _, h, _ => h.elim
 | _ :: _, [], _, h, _ => h.elim
 | _, [], _ :: _, _, k => k.elim
 | _, _ :: _, [], _, k => k.elim
theorem WkO.trans {x y z : AObj} (h : WkO x y) (k : WkO y z) : WkO x z := by
 rcases h with rfl | ⟨c1, c2, rfl, rfl, h⟩
 ·exact k
 ·rcases k with rfl | ⟨c3, c4, e, rfl, k⟩
  ·exact .inr ⟨c1, c2, rfl, rfl, h⟩
  ·cases e; exact .inr ⟨c1, c4, rfl, rfl, h.trans k⟩
theorem WkH.trans {H1 H2 H3 : AHeap} (h : WkH H1 H2) (k : WkH H2 H3) : WkH H1 H3 :=
 ⟨h.1.trans k.1, fun i o hi => by
  obtain ⟨o2, h1, h2⟩ := h.2 i o hi
  obtain ⟨o3, h3, h4⟩ := k.2 i o2 h1
  exact ⟨o3, h3, h2.trans h4⟩⟩
/-- What is asked, out of what is held. -/
inductive Need : List Item → List Item → Prop
 | done {l : List Item} : Need l l
 | take {x : Item} {h h' n : List Item} (p : Pull h x h') (k : Need n h') : Need (x :: n) h
 | takew {id : Nat} {cs cs0 : List AV} {h h' n : List Item} (p : Pull h (.obj id (.cells cs)) h') (hw : Wk cs0 cs) (k : Need n h') : Need (.obj id (.cells cs0) :: n) h
 | drop {x : Item} {h n : List Item} (k : Need n h) : Need n (x :: h)
 | full {h n : List Item} (k : Need n h) : Need (.tl .full :: n) h
 | own {sz id len : Nat} {cs : List AV} {h h' n : List Item} (p : Pull h (.obj id (.cells cs)) h') (hl : cs.length = len * sz) (k : Need n h') : Need (.own sz (.sl sz id 0 len) cs :: n) h
 | own0 {sz s : Nat} {h n : List Item} (k : Need n h) : Need (.own sz (.dl s [] .full) [] :: n) h
def idsIn (n h : List Item) : Prop := ∀ y, y ∈ n → ∀ i, y.has i → ∃ z, z ∈ h ∧ z.has i
theorem Hv.cons {H : AHeap} {L L' : List Item} {x : Item} (h : Hv H (x :: L)) (k : Hv H L') (hs : idsIn L' L) : Hv H (x :: L') := by
 refine ⟨fun z hz => ?_, List.pairwise_cons.2 ⟨fun z hz i h1 h2 => ?_, k.ap⟩⟩
 ·rcases List.mem_cons.1 hz with rfl | hz
  ·exact h.each _ (by simp)
  ·exact k.each z hz
 ·obtain ⟨u, hu, hui⟩ := hs z hz i h2
  exact (List.pairwise_cons.1 h.ap).1 u hu i h1 hui
theorem idsIn.drop {n h : List Item} {x : Item} (k : idsIn n h) : idsIn n (x :: h) := fun y hy i hi => by obtain ⟨z, hz, hzi⟩ := k y hy i hi; exact ⟨z, by simp [hz], hzi⟩
theorem idsIn.cons {n h h' : List Item} {x y : Item} (p : Pull h x h') (hy : ∀ i, y.has i → x.has i) (k : idsIn n h') : idsIn (y :: n) h := fun z hz i hi => by
 rcases List.mem_cons.1 hz with rfl | hz
 ·exact ⟨x, p.perm.mem_iff.2 (by simp), hy i hi⟩
 ·obtain ⟨u, hu, hui⟩ := k z hz i hi
  exact ⟨u, p.perm.mem_iff.2 (by simp [hu]), hui⟩
theorem idsIn.none {n h : List Item} {y : Item} (hy : y.has = fun _ => False) (k : idsIn n h) : idsIn (y :: n) h := fun z hz i hi => by
 rcases List.mem_cons.1 hz with rfl | hz
 ·rw [hy] at hi; exact hi.elim
 ·exact k z hz i hi
def sameBut (h : List Item) (H H' : AHeap) : Prop := ∀ i, (∀ x, x ∈ h → ¬ x.has i) → H'[i]? = H[i]?
theorem sameBut.head {H H' : AHeap} {x : Item} {h h' : List Item} (hH : Hv H (x :: h')) (hx : x.at H) (k : sameBut h' H H') : x.at H' :=
 Item.keep hx fun i hi => k i fun y hy e => (List.pairwise_cons.1 hH.ap).1 y hy i hi e
theorem sameBut.pull {H H' : AHeap} {x : Item} {h h' : List Item} (p : Pull h x h') (k : sameBut h' H H') : sameBut h H H' := fun i hi => k i fun y hy => hi y (p.perm.mem_iff.2 (by simp [hy]))
theorem Hv.head {H H' : AHeap} {x : Item} {h' n : List Item} (hH : Hv H (x :: h')) (k : sameBut h' H H') (hn : Hv H' n) (hi : idsIn n h') : Hv H' (x :: n) := by
 have hx := sameBut.head (h := h') hH (hH.each x (by simp)) k
 refine ⟨fun z hz => ?_, List.pairwise_cons.2 ⟨fun z hz i h1 h2 => ?_, hn.ap⟩⟩
 ·rcases List.mem_cons.1 hz with rfl | hz
  ·exact hx
  ·exact hn.each z hz
 ·obtain ⟨u, hu, hui⟩ := hi z hz i h2
  exact (List.pairwise_cons.1 hH.ap).1 u hu i h1 hui
theorem Need.st {n h : List Item} (k : Need n h) : ∀ {H : AHeap}, Hv H h → ∃ H', WkH H' H ∧ Hv H' n ∧ idsIn n h ∧ sameBut h H H' := by
 induction k with
 | done => exact fun {H} hs => ⟨H, WkH.refl H, hs, fun y hy i hi => ⟨y, hy, hi⟩, fun _ _ => rfl⟩
 | take p k ih =>
  intro H hs
  have hp := hs.pull p
  obtain ⟨H', h1, h2, h3, h4⟩ := ih hp.drop
  exact ⟨H', h1, hp.head h4 h2 h3, h3.cons p (fun _ h => h), h4.pull p⟩
 | @takew id cs cs0 h h' n p hw k ih =>
  intro H hs
  have hp := hs.pull p
  have hf : H[id]? = some (.cells cs) := hp.each _ (List.mem_cons_self ..)
  have hp2 := hp.set (y := .obj id (.cells cs0)) rfl _ (get_set_self _ hf) (fun j h => by cases h; rfl)
  obtain ⟨H', h1, h2, h3, h4⟩ := ih hp2.drop
  refine ⟨H', h1.trans (WkH.set hf hw), hp2.head h4 h2 h3, h3.cons p (fun _ h => h), fun i hi => ?_⟩
  rw [(h4.pull p) i hi, get_set_ne]
  intro e
  subst e
  exact hi _ (p.perm.mem_iff.2 (List.mem_cons_self ..)) rfl
 | drop k ih =>
  intro H hs
  obtain ⟨H', h1, h2, h3, h4⟩ := ih hs.drop
  exact ⟨H', h1, h2, h3.drop, fun i hi => h4 i fun x hx => hi x (by simp [hx])⟩
 | full k ih =>
  intro H hs
  obtain ⟨H', h1, h2, h3, h4⟩ := ih hs
  exact ⟨H', h1, h2.free (.inl rfl) rfl, h3.none rfl, h4⟩
 | @own sz id len cs h h' n p hl k ih =>
  intro H hs
  have hp := hs.pull p
  have hp2 := hp.as (y := .own sz (.sl sz id 0 len) cs) (.inr ⟨_, _, rfl, hl, hp.each (.obj _ _) (List.mem_cons_self ..)⟩) (fun i hi => hi)
  obtain ⟨H', h1, h2, h3, h4⟩ := ih hp.drop
  exact ⟨H', h1, hp2.head h4 h2 h3, h3.cons p (fun _ h => h), h4.pull p⟩
 | own0 k ih =>
  intro H hs
  obtain ⟨H', h1, h2, h3, h4⟩ := ih hs
  exact ⟨H', h1, h2.free (.inl ⟨_, rfl, rfl⟩) rfl, h3.none rfl, h4⟩

/-- What is known of the heap, for the reckoning. -/
def Facts (H : AHeap) : List Item → Prop
 | .obj id o :: l => H[id]? = some o ∧ Facts H l
 | .tl _ :: l => Facts H l
 | .own _ v _ :: l => (AV.cells v = [v] ∧ isUndef v = false ∧ AV.one v = true) ∧ Facts H l
 | .many _ _ _ _ :: l => Facts H l
 | [] => True
theorem Hv.facts {H : AHeap} : ∀ {L : List Item}, Hv H L → Facts H L
 | [], _ => trivial
 | .obj id o :: l, h => ⟨h.each (.obj id o) (by simp), Hv.facts h.drop⟩
 | .tl t :: l, h => Hv.facts (L := l) h.drop
 | .own sz v cs :: l, h => ⟨by
   rcases h.each (.own sz v cs) (by simp) with ⟨_, rfl, _⟩ | ⟨_, _, rfl, _⟩ <;> exact ⟨rfl, rfl, rfl⟩, Hv.facts (L := l) h.drop⟩
 | .many _ _ _ _ :: l, h => Hv.facts (L := l) h.drop
theorem Facts_obj (H : AHeap) (id : Nat) (o : AObj) (l : List Item) : Facts H (.obj id o :: l) = (H[id]? = some o ∧ Facts H l) := Eq.trans rfl rfl
theorem Facts_tl (H : AHeap) (t : Tail) (l : List Item) : Facts H (.tl t :: l) = Facts H l := Eq.trans rfl rfl
theorem Facts_own (H : AHeap) (sz : Nat) (v : AV) (cs : List AV) (l : List Item) : Facts H (.own sz v cs :: l) = ((AV.cells v = [v] ∧ isUndef v = false ∧ AV.one v = true) ∧ Facts H l) := Eq.trans rfl rfl

/-! ### operations -/
section
variable {P : Program} {B : Nat} {w0 : World} {Y : Hand} {a : List AV} {H : AHeap} {K : AV → AHeap → Prop} {L L' : List Item}
theorem alloc_go {t : TypeId} {te : TyA} {z : AV} (h1 : tyA P t = some te) (h2 : te.zero = some z) (h3 : z.cells.all AV.one = true) (hS : Hv H L)
  (hK : ∀ (id : Nat) (H' : AHeap), Hv H' (.obj id (.cells z.cells) :: L) → K (.ptr id 0) H') : eop P B w0 Y a H (.alloc t) K := by
 refine ⟨.ptr H.length 0, H ++ [.cells z.cells], ?_, hK H.length _ (hS.pushO _)⟩
 simp only [effV, h1, h2, h3, if_true]
/-- a new variable that holds a value -/
def boxE (v : AV) (H : AHeap) (K : AV → AHeap → Prop) : Prop := someK2 (if okCells v then some (.ptr H.length 0, H ++ [.cells v.cells]) else none) K
theorem eop_boxE (t : TypeId) (x : Operand) : eop P B w0 Y a H (.box t x) K = boxE (ev a x) H K := Eq.trans rfl rfl
theorem box_go {v : AV} (h3 : okCells v = true) (hS : Hv H L) (hK : ∀ (id : Nat) (H' : AHeap), Hv H' (.obj id (.cells v.cells) :: L) → K (.ptr id 0) H') : boxE v H K := by
 refine ⟨.ptr H.length 0, H ++ [.cells v.cells], by simp [h3], hK H.length _ (hS.pushO _)⟩
theorem sto_goW {t : TypeId} {v y : AV} {te : TyA} {id off : Nat} {cs : List AV} (ht : tyA P t = some te) (hv : wkD v y) (hp : Pull L (.obj id (.cells cs)) L') (hS : Hv H L) (h3 : okCells v = true)
  (h4 : v.cells.length = te.size) (h5 : off + te.size ≤ cs.length)
  (hK : ∀ (H' : AHeap), Hv H' (.obj id (.cells (putA cs off v.cells)) :: L') → K .undef H') : StoE P t (.ptr id off) y H K := by
 obtain ⟨c1, c2⟩ := okCells_spec h3
 have hs := hS.pull hp
 have hf := hs.each _ (List.mem_cons_self ..)
 exact ⟨v, hv, id, off, cs, te, rfl, hf, ht, h4, h5, c1, c2, hK _ (hs.set (y := .obj _ _) rfl _ (get_set_self _ hf) (fun j h => by cases h; rfl))⟩
theorem sto_go {t : TypeId} {v : AV} {te : TyA} {id off : Nat} {cs : List AV} (ht : tyA P t = some te) (hp : Pull L (.obj id (.cells cs)) L') (hS : Hv H L) (h3 : okCells v = true)
  (h4 : v.cells.length = te.size) (h5 : off + te.size ≤ cs.length)
  (hK : ∀ (H' : AHeap), Hv H' (.obj id (.cells (putA cs off v.cells)) :: L') → K .undef H') : StoE P t (.ptr id off) v H K := sto_goW ht (wkD.refl _) hp hS h3 h4 h5 hK

/-- The types of an append: the size of the elements, and how many of them there may be. -/
def AppTy (P : Program) (t : TypeId) (sz n : Nat) : Prop := ∃ ti e te z, tyA P t = some ti ∧ ti.kind = .slice e ∧ tyA P e = some te ∧ te.zero = some z ∧ z.cells.length = te.size ∧ 0 < te.size ∧ te.size = sz ∧ n * te.bytes ≤ 140737488355328 ∧ 0 < te.bytes
/-- What is appended: as a list of encoded things; less may be said of it. -/
def AppSrc (P : Program) (t2 : TypeId) (sz : Nat) (y : AV) (ys : List AV) : Prop := ∃ y', wkD y' y ∧ srcA P sz t2 y' = some ys
theorem AppSrc.dl {t2 : TypeId} {sz : Nat} {ys : List AV} {tl : Tail} {ti : TyA} {e : TypeId} (h1 : tyA P t2 = some ti) (h2 : ti.kind = .slice e) : AppSrc P t2 sz (.dl sz ys tl) ys :=
 ⟨_, wkD.refl _, by simp [srcA, h1, h2]⟩
theorem AppSrc.str {t2 : TypeId} {b : List UInt8} {ti : TyA} (h1 : tyA P t2 = some ti) (h2 : ti.kind = .str) : AppSrc P t2 1 (.str b) (List.map (AV.int .u8) (bytesOf b)) :=
 ⟨_, wkD.refl _, by simp [srcA, h1, h2, bytesOf]⟩
theorem AppSrc.wk {t2 : TypeId} {sz : Nat} {x y : AV} {tl : Tail} {ti : TyA} {e : TypeId} (h1 : tyA P t2 = some ti) (h2 : ti.kind = .slice e) (hx : x.cells.length = sz) (h : Wk x.cells y.cells) : AppSrc P t2 sz (.dl sz [y] tl) [x] :=
 ⟨.dl sz [x] tl, wkD.one hx h, by simp [srcA, h1, h2]⟩

/-- the same, also out of a block of one's own -/
def AppSrcH (P : Program) (H : AHeap) (t2 : TypeId) (sz : Nat) (y : AV) (ys : List AV) : Prop := ∃ y', wkD y' y ∧ SrcP P H sz t2 y' ys
theorem AppSrc.h {t2 : TypeId} {sz : Nat} {y : AV} {ys : List AV} (h : AppSrc P t2 sz y ys) : AppSrcH P H t2 sz y ys := let ⟨y', h1, h2⟩ := h; ⟨y', h1, .inl h2⟩
theorem kill_tok (H : AHeap) (i : Nat) : kill H (.tok i) = H.set i .dead := rfl
/-- append to a frozen slice whose end is held -/
theorem app_rawH {t t2 : TypeId} {sz n : Nat} {es ys : List AV} {tl : Tail} {y : AV} (hT : AppTy P t sz n) (hy : AppSrcH P H t2 sz y ys) (hlen : es.length + ys.length ≤ n) (hS : Hv H (.tl tl :: L))
  {s : Nat} (hs : s = sz ∨ (es = [] ∧ tl = .full)) (hK : ∀ (tl' : Tail) (H' : AHeap), Hv H' (.tl tl' :: L) → K (.dl sz (es ++ ys) tl') H') : AppE P t t2 (.dl s es tl) y H K := by
 obtain ⟨ti, e, te, z, h1, h2, h3, h4, h5, h6, rfl, h9, h10⟩ := hT
 obtain ⟨y', hw, h7⟩ := hy
 have hb : (es.length + ys.length) * te.bytes ≤ 140737488355328 := Nat.le_trans (Nat.mul_le_mul_right _ hlen) h9
 refine ⟨y', hw, .inl ⟨ti, e, te, z, ys, s, es, tl, h1, h2, h3, h4, h5, h6, h7, rfl, hs, ?_, ?_⟩⟩
 ·rintro rfl
  have := hK tl H hS
  rwa [List.append_nil] at this
 ·intro _
  refine ⟨?_, hb, by have := Nat.le_trans (Nat.le_mul_of_pos_right (es.length + ys.length) h10) hb; omega, ?_⟩
  ·rcases hS.each _ (List.mem_cons_self ..) with rfl | ⟨i, rfl, h⟩
   ·trivial
   ·exact h
  ·refine hK _ _ ?_
   rcases hS.each _ (List.mem_cons_self ..) with rfl | ⟨i, rfl, h⟩
   ·exact hS.drop.push _ (.inr ⟨_, rfl, get_new _ _⟩) (fun i h => by cases h; rfl)
   ·have hl : (kill H (.tok i)).length = H.length := by simp [kill]
    have h1 : Hv (H.set i .dead) (.tl .full :: L) := hS.set rfl _ (.inl rfl) (fun j h => by cases h)
    have h2 := h1.drop.push .tok (x := .tl (.tok (H.set i AObj.dead).length)) (.inr ⟨_, rfl, get_new _ _⟩) (fun i h => by cases h; rfl)
    rw [kill_tok]
    simpa using h2
theorem app_raw {t t2 : TypeId} {sz n : Nat} {es ys : List AV} {tl : Tail} {y : AV} (hT : AppTy P t sz n) (hy : AppSrc P t2 sz y ys) (hlen : es.length + ys.length ≤ n) (hS : Hv H (.tl tl :: L))
  {s : Nat} (hs : s = sz ∨ (es = [] ∧ tl = .full)) (hK : ∀ (tl' : Tail) (H' : AHeap), Hv H' (.tl tl' :: L) → K (.dl sz (es ++ ys) tl') H') : AppE P t t2 (.dl s es tl) y H K := app_rawH hT hy.h hlen hS hs hK
/-- append to a block of one's own, or to nothing -/
theorem app_ownH {t t2 : TypeId} {sz n : Nat} {v : AV} {cs ys : List AV} {y : AV} (hT : AppTy P t sz n) (hy : AppSrcH P H t2 sz y ys) (hp : Pull L (.own sz v cs) L') (hS : Hv H L) (hlen : cs.length + ys.length * sz ≤ n * sz) (hys : ys ≠ [])
  (hK : ∀ (v' : AV) (H' : AHeap), Hv H' (.own sz v' (cs ++ flat ys) :: L') → K v' H') (hl : (flat ys).length = ys.length * sz) : AppE P t t2 v y H K := by
 obtain ⟨ti, e, te, z, h1, h2, h3, h4, h5, h6, rfl, h9, h10⟩ := hT
 obtain ⟨y', hw, h7⟩ := hy
 have hs := hS.pull hp
 rcases hs.each _ (List.mem_cons_self ..) with ⟨s, rfl, rfl⟩ | ⟨id, len, rfl, hc, hid⟩
 ·have hl2 : ys.length ≤ n := Nat.le_of_mul_le_mul_right (by simpa using hlen) h6
  have hb := Nat.le_trans (Nat.mul_le_mul_right te.bytes hl2) h9
  refine ⟨y', hw, .inr (.inl ⟨ti, e, te, z, ys, s, h1, h2, h3, h4, h5, h6, h7, rfl, hys, hb, by have := Nat.le_trans (Nat.le_mul_of_pos_right ys.length h10) hb; omega, hK _ _ ?_⟩)⟩
  rw [List.nil_append]
  exact hs.drop.push _ (.inr ⟨_, _, rfl, hl, get_new _ _⟩) (fun i h => by cases h; rfl)
 ·have hl2 : len + ys.length ≤ n := Nat.le_of_mul_le_mul_right (by rw [Nat.add_mul]; omega) h6
  have hb := Nat.le_trans (Nat.mul_le_mul_right te.bytes hl2) h9
  refine ⟨y', hw, .inr (.inr (.inr ⟨ti, e, te, z, ys, id, len, cs, h1, h2, h3, h4, h5, h6, h7, rfl, hid, hc, hb, by have := Nat.le_trans (Nat.le_mul_of_pos_right (len + ys.length) h10) hb; omega, hK _ _ ?_⟩))⟩
  have h1 : Hv (H.set id .dead) (.tl .full :: L') := hs.set rfl _ (.inl rfl) (fun j h => by cases h)
  have h2 := h1.drop.push (.cells (cs ++ flat ys)) (x := .own te.size (.sl te.size (H.set id AObj.dead).length 0 (len + ys.length)) (cs ++ flat ys)) (.inr ⟨_, _, rfl, by rw [List.length_append, hl, hc, Nat.add_mul], get_new _ _⟩) (fun i h => by cases h; rfl)
  simpa using h2
end
end Go.Av
end
